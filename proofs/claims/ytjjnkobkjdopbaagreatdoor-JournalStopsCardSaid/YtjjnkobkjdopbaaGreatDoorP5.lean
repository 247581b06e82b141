/- A part of the proofs: what stands below it, told in lemmas. No condition. -/
import Derived.Test.YtjjnkobkjdopbaaGreatDoorP4
import Derived.Test.YtjjnkobkjdopbaaGreatDoorP1
set_option linter.all false

/- Jm3 -/
namespace Go.Proofs.Gong
open Go Go.Sx Go.Proofs
set_option maxRecDepth 100000
abbrev FnV := Nat × List Value × List Value
abbrev funV (x : FnV) : Value := .func (.func x.1) x.2.1.toArray x.2.2.toArray
@[reducible] def cFn (x : FnV) : List Value := [funV x]
theorem CFn : Cod cFn 1 := ⟨fun _ => rfl, fun _ => rfl, by omega⟩
instance : CodC cFn 1 := ⟨CFn⟩
instance (x : FnV) : Nth (cFn x) 0 (funV x) := ⟨rfl⟩
def StepOK (w0 : World) (call : CallT) (v dv : Value) (L : List HP) (f : FnV) (a : JAct) (s : JS) : Prop :=
  ∀ (w : World) (K : Value → World → Prop), Sat w0 (JrP v s.1 dv :: DiskA dv s.2 :: L) w → (∀ w', Sat w0 (JrP v (a s).2.1 dv :: DiskA dv (a s).2.2 :: L) w' → K (.int .i64 (a s).1) w') → eCallV call (funV f) [] w K
def okSteps (w0 : World) (call : CallT) (v dv : Value) (L : List HP) : List (FnV × JAct) → JS → Prop
  | [], _ => True
  | (f, a) :: l, s => StepOK w0 call v dv L f a s ∧ ((a s).1 = 0 → okSteps w0 call v dv L l (a s).2)
attribute [local irreducible] fBuild fLook fZero eqv bEqv Cl MapH LsH SlH ld1 ldN st callP eBox eAlloc lenM lenL eMapSet eDelete eAppend eBuildSl eRange eNext
section
variable {w0 w : World} {L : List HP} {K : Value → World → Prop} {v dv : Value} {j : Jn} {d : Dk} {n : Nat}
theorem stepsLoop {q : Nat} {sv : Value} {fs : List (FnV × JAct)} (hl : fs.length ≤ 100) : ∀ (k i m : Nat) (s : JS) (w : World), i + k = fs.length → k < m →
    okSteps w0 (tabOf (T19 (Gn19 q) (Gn27 q) (Gn30 q) (Gn31 q))) v dv (LsH cFn 1 37 sv (fs.map Prod.fst) :: L) (fs.drop i) s →
    Sat w0 (JrP v s.1 dv :: DiskA dv s.2 :: LsH cFn 1 37 sv (fs.map Prod.fst) :: L) w →
    (∀ w', Sat w0 (JrP v (seqA ((fs.drop i).map Prod.snd) s).2.1 dv :: DiskA dv (seqA ((fs.drop i).map Prod.snd) s).2.2 :: LsH cFn 1 37 sv (fs.map Prod.fst) :: L) w' → K (.int .i64 (seqA ((fs.drop i).map Prod.snd) s).1) w') →
    F19_2L (Gn19 q) (Gn27 q) (Gn30 q) (Gn31 q) m sv (.int .i64 fs.length) (.int .i64 i) w K := by
  intro k
  induction k with
  | zero =>
    intro i m s w hi hm hok h hK
    obtain ⟨m, rfl⟩ : ∃ q, m = q + 1 := ⟨m - 1, by omega⟩
    rw [F19_2L]; unfold F19_2b F19_3 F19_3b
    have e : decide ((i : Int) < fs.length) = false := by simp; omega
    rw [List.drop_of_length_le (by omega)] at hK
    (repeat (first
 | (simp (disch := omega) only [evA, evB, evC, bAdd_i64, bSub_i64, e])
 | (with_reducible apply go_ld1 h)
 | ((with_reducible first | apply go_ldA h | apply go_rd h | apply go_rdN h | apply go_rlen h); rfl)
 | (with_reducible first | apply go_ldN h | apply go_lenL h)
 | ((with_reducible apply go_st h); intro _ h)
 | ((with_reducible apply go_stA h); rfl; rfl; (first | rfl | simp [OneV.o]); intro _ h)
 | ((with_reducible apply go_stN h); rfl; (first | rfl | simp [OneV.o]); intro _ h)
 | ((with_reducible apply go_box h); rfl; intro _ _ h)
 | ((with_reducible apply go_ix h); omega)
 | ((with_reducible first | apply go_elN h | apply go_f1 h | apply go_rf1 h | apply go_rel h); (case hi => omega); (try case hx => exact inferInstance); (try case hv => rfl))
 | ((with_reducible apply go_fa h); omega; omega)
))
    exact hK w h
  | succ k ih =>
    intro i m s w hi hm hok h hK
    obtain ⟨m, rfl⟩ : ∃ q, m = q + 1 := ⟨m - 1, by omega⟩
    rw [F19_2L]; unfold F19_2b
    have hlt : i < fs.length := by omega
    have hlt2 : i < (fs.map Prod.fst).length := by simpa using hlt
    have e1 : decide ((i : Int) < fs.length) = true := by simp; omega
    have hd : fs.drop i = fs[i] :: fs.drop (i + 1) := List.drop_eq_getElem_cons hlt
    rw [hd] at hok hK
    rw [List.map_cons] at hK
    (repeat (first
 | (simp (disch := omega) only [evA, evB, evC, bAdd_i64, bSub_i64, e1])
 | (with_reducible apply go_ld1 h)
 | ((with_reducible first | apply go_ldA h | apply go_rd h | apply go_rdN h); rfl)
 | (with_reducible first | apply go_ldN h | apply go_lenR h)
 | ((with_reducible apply go_st h); intro _ h)
 | ((with_reducible apply go_stA h); rfl; rfl; (first | rfl | simp [OneV.o]); intro _ h)
 | ((with_reducible apply go_stN h); rfl; (first | rfl | simp [OneV.o]); intro _ h)
 | ((with_reducible apply go_box h); rfl; intro _ _ h)
 | ((with_reducible apply go_ixR h); omega)
 | ((with_reducible first | apply go_elR h | apply go_f1R h | apply go_rf1R h | apply go_relR h | apply go_e1R h | apply go_re1R h); (case hc => exact inferInstance); (case hi => omega); (try case hx => exact inferInstance); (try case hv => rfl))
 | ((with_reducible apply go_fNR h); (case hc => exact inferInstance); (case hi => omega); (try case hp => exact inferInstance); (try case hv => rfl))
 | ((with_reducible apply go_faR h); (case hc => exact inferInstance); omega; omega)
 | ((with_reducible apply go_rlenR h); rfl)
))
    have hx : (fs.map Prod.fst)[i] = fs[i].1 := by simp
    rw [hx]
    generalize fs[i] = x at hok hK
    obtain ⟨f, a⟩ := x
    obtain ⟨h1, h2⟩ := hok
    unfold seqA at hK
    refine h1 w _ h fun w h => ?_
    by_cases g : (a s).1 = 0
    · simp only [if_pos g] at hK
      rw [g]
      (repeat (first
 | (simp (disch := omega) only [evA, evB, evC, bAdd_i64, bSub_i64])
 | (with_reducible apply go_ld1 h)
 | ((with_reducible first | apply go_ldA h | apply go_rd h | apply go_rdN h | apply go_rlen h); rfl)
 | (with_reducible first | apply go_ldN h | apply go_lenL h)
 | ((with_reducible apply go_st h); intro _ h)
 | ((with_reducible apply go_stA h); rfl; rfl; (first | rfl | simp [OneV.o]); intro _ h)
 | ((with_reducible apply go_stN h); rfl; (first | rfl | simp [OneV.o]); intro _ h)
 | ((with_reducible apply go_box h); rfl; intro _ _ h)
 | ((with_reducible apply go_ix h); omega)
 | ((with_reducible first | apply go_elN h | apply go_f1 h | apply go_rf1 h | apply go_rel h); (case hi => omega); (try case hx => exact inferInstance); (try case hv => rfl))
 | ((with_reducible apply go_fa h); omega; omega)
))
      rw [show (i : Int) + 1 = ((i + 1 : Nat) : Int) by omega]
      exact ih (i + 1) m _ w (by omega) (by omega) (h2 g) h hK
    · simp only [if_neg g] at hK
      have e3 : decide ((a s).1 = 0) = false := by simpa using g
      (repeat (first
 | (simp (disch := omega) only [evA, evB, evC, bAdd_i64, bSub_i64, e3])
 | (with_reducible apply go_ld1 h)
 | ((with_reducible first | apply go_ldA h | apply go_rd h | apply go_rdN h | apply go_rlen h); rfl)
 | (with_reducible first | apply go_ldN h | apply go_lenL h)
 | ((with_reducible apply go_st h); intro _ h)
 | ((with_reducible apply go_stA h); rfl; rfl; (first | rfl | simp [OneV.o]); intro _ h)
 | ((with_reducible apply go_stN h); rfl; (first | rfl | simp [OneV.o]); intro _ h)
 | ((with_reducible apply go_box h); rfl; intro _ _ h)
 | ((with_reducible apply go_ix h); omega)
 | ((with_reducible first | apply go_elN h | apply go_f1 h | apply go_rf1 h | apply go_rel h); (case hi => omega); (try case hx => exact inferInstance); (try case hv => rfl))
 | ((with_reducible apply go_fa h); omega; omega)
))
      exact hK w h
theorem steps_spec {q : Nat} {sv : Value} {fs : List (FnV × JAct)} {s : JS} (hl : fs.length ≤ 100)
    (hok : okSteps w0 (tabOf (T19 (Gn19 q) (Gn27 q) (Gn30 q) (Gn31 q))) v dv (LsH cFn 1 37 sv (fs.map Prod.fst) :: L) fs s)
    (h : Sat w0 (JrP v s.1 dv :: DiskA dv s.2 :: LsH cFn 1 37 sv (fs.map Prod.fst) :: L) w)
    (hK : ∀ w', Sat w0 (JrP v (seqA (fs.map Prod.snd) s).2.1 dv :: DiskA dv (seqA (fs.map Prod.snd) s).2.2 :: L) w' → K (.int .i64 (seqA (fs.map Prod.snd) s).1) w') : callP (Gn19 (q + 1)) [sv] w K := by
  refine cn19 q ?_
  unfold F19 F19_1 F19_1b
  have e : (fs.map Prod.fst).length = fs.length := by simp
  (repeat (first
 | (simp (disch := omega) only [evA, evB, evC, bAdd_i64, bSub_i64])
 | (with_reducible apply go_ld1 h)
 | ((with_reducible first | apply go_ldA h | apply go_rd h | apply go_rdN h | apply go_rlen h); rfl)
 | (with_reducible first | apply go_ldN h | apply go_lenL h)
 | ((with_reducible apply go_st h); intro _ h)
 | ((with_reducible apply go_stA h); rfl; rfl; (first | rfl | simp [OneV.o]); intro _ h)
 | ((with_reducible apply go_stN h); rfl; (first | rfl | simp [OneV.o]); intro _ h)
 | ((with_reducible apply go_box h); rfl; intro _ _ h)
 | ((with_reducible apply go_ix h); omega)
 | ((with_reducible first | apply go_elN h | apply go_f1 h | apply go_rf1 h | apply go_rel h); (case hi => omega); (try case hx => exact inferInstance); (try case hv => rfl))
 | ((with_reducible apply go_fa h); omega; omega)
))
  rw [e]
  unfold F19_2
  refine stepsLoop hl fs.length 0 fuel s w (by omega) (by unfold fuel; omega) hok h fun w h => ?_
  exact hK w (h.got)
theorem beginA_len {s : JS} : (beginA s).2.2.fs.length ≤ s.2.fs.length + 1 := by
  unfold beginA
  split
  · simp only; omega
  split
  · exact makeD_len
  · exact makeD_len
theorem syncA_len {s : JS} : (syncA s).2.2.fs.length ≤ s.2.fs.length + 1 := by
  unfold syncA
  split <;> exact syncD_len
theorem syncA_next {s : JS} : nextJ (syncA s).2.1 = nextJ s.1 := by
  unfold syncA
  split <;> rfl
theorem room_spec {q : Nat} (B : BruIs w0) (hc : d.fs.length ≤ 1000000000) (hb : nextJ j < 4294967296) (h : Sat w0 (JrP v j dv :: DiskA dv d :: L) w) (hK : ∀ w', Sat w0 (JrP v (roomA (j, d)).2.1 dv :: DiskA dv (roomA (j, d)).2.2 :: L) w' → K (.int .i64 (roomA (j, d)).1) w') : callP (Gn27 (q + 2)) [v] w K := by
  refine cn27 (q + 1) ?_
  unfold F27
  obtain ⟨p, rv, rfl, h2⟩ := jopen h
  clear h
  have h := h2
  clear h2
  (repeat (first
 | (simp (disch := omega) only [evA, evB, evC, bAdd_i64, bSub_i64])
 | (with_reducible apply go_ld1 h)
 | ((with_reducible first | apply go_ldA h | apply go_rd h | apply go_rdN h | apply go_rlen h); rfl)
 | (with_reducible first | apply go_ldN h | apply go_lenL h)
 | ((with_reducible apply go_st h); intro _ h)
 | ((with_reducible apply go_stA h); rfl; rfl; (first | rfl | simp [OneV.o]); intro _ h)
 | ((with_reducible apply go_stN h); rfl; (first | rfl | simp [OneV.o]); intro _ h)
 | ((with_reducible apply go_box h); rfl; intro _ _ h)
 | ((with_reducible apply go_ix h); omega)
 | ((with_reducible first | apply go_elN h | apply go_f1 h | apply go_rf1 h | apply go_rel h); (case hi => omega); (try case hx => exact inferInstance); (try case hv => rfl))
 | ((with_reducible apply go_fa h); omega; omega)
))
  refine dread_spec (L := JCl p j dv rv :: LsH cSt 1 9 rv j.recs :: L) (h.drew.got) fun w h => ?_
  have ex : (fGet j.active d.fs).elim [] (·.s) = datF j.active d := rfl
  rw [ex]
  unfold roomA at hK
  simp only at hK
  by_cases g : ((datF j.active d).length : Int) < j.long
  · rw [if_pos g] at hK
    have e : decide (((datF j.active d).length : Int) < j.long) = true := by simpa using g
    (repeat (first
 | (simp (disch := omega) only [evA, evB, evC, bAdd_i64, bSub_i64, e])
 | (with_reducible apply go_ld1 h)
 | ((with_reducible first | apply go_ldA h | apply go_rd h | apply go_rdN h | apply go_rlen h); rfl)
 | (with_reducible first | apply go_ldN h | apply go_lenL h)
 | ((with_reducible apply go_st h); intro _ h)
 | ((with_reducible apply go_stA h); rfl; rfl; (first | rfl | simp [OneV.o]); intro _ h)
 | ((with_reducible apply go_stN h); rfl; (first | rfl | simp [OneV.o]); intro _ h)
 | ((with_reducible apply go_box h); rfl; intro _ _ h)
 | ((with_reducible apply go_ix h); omega)
 | ((with_reducible first | apply go_elN h | apply go_f1 h | apply go_rf1 h | apply go_rel h); (case hi => omega); (try case hx => exact inferInstance); (try case hv => rfl))
 | ((with_reducible apply go_fa h); omega; omega)
))
    exact hK _ (jclose (h.got))
  · rw [if_neg g] at hK
    have e : decide (((datF j.active d).length : Int) < j.long) = false := by simpa using g
    (repeat (first
 | (simp (disch := omega) only [evA, evB, evC, bAdd_i64, bSub_i64, e])
 | (with_reducible apply go_ld1 h)
 | ((with_reducible first | apply go_ldA h | apply go_rd h | apply go_rdN h | apply go_rlen h); rfl)
 | (with_reducible first | apply go_ldN h | apply go_lenL h)
 | ((with_reducible apply go_st h); intro _ h)
 | ((with_reducible apply go_stA h); rfl; rfl; (first | rfl | simp [OneV.o]); intro _ h)
 | ((with_reducible apply go_stN h); rfl; (first | rfl | simp [OneV.o]); intro _ h)
 | ((with_reducible apply go_box h); rfl; intro _ _ h)
 | ((with_reducible apply go_ix h); omega)
 | ((with_reducible first | apply go_elN h | apply go_f1 h | apply go_rf1 h | apply go_rel h); (case hi => omega); (try case hx => exact inferInstance); (try case hv => rfl))
 | ((with_reducible apply go_fa h); omega; omega)
))
    have hb2 : fBuildSl Tryz.prog 37 2 [(0, funV (12, [ptr p], [])), (1, funV (32, [ptr p], []))] = some (([(12, [ptr p], []), (32, [ptr p], [])] : List FnV).flatMap cFn).toArray := by kernel_rfl
    refine ls_lit (m := [(12, [ptr p], []), (32, [ptr p], [])]) CFn h u60 hb2 rfl fun sv w h => ?_
    refine steps_spec (v := ptr p) (dv := dv) (s := (j, d)) (fs := [((12, [ptr p], []), syncA), ((32, [ptr p], []), beginA)]) (L := L) (by simp) ?_ ((jclose (L := LsH cFn 1 37 sv [(12, [ptr p], []), (32, [ptr p], [])] :: DiskA dv d :: L) (h.got)).got) fun w h => ?_
    · refine ⟨fun w K h hK => ?_, fun h0 => ⟨fun w K h hK => ?_, fun _ => trivial⟩⟩
      · show callP (tabOf (T19 _ _ _ _) 12) _ _ _
        exact jsync_spec (show nextJ j < 4611686018427387904 by omega) h hK
      · show callP (tabOf (T19 _ _ _ _) 32) _ _ _
        have h1 := syncA_len (s := (j, d))
        have h2 := syncA_next (s := (j, d))
        exact begin_spec B (by simp only at h1; omega) (by rw [h2]; exact hb) h hK
    · exact hK w h
theorem roomA_len {s : JS} : (roomA s).2.2.fs.length ≤ s.2.fs.length + 2 := by
  unfold roomA
  split
  · simp only; omega
  · unfold seqA
    have h1 := syncA_len (s := s)
    split
    · unfold seqA
      have h2 := beginA_len (s := (syncA s).2)
      split
      · unfold seqA; simp only; omega
      · omega
    · omega
theorem beginA_next {s : JS} : nextJ (beginA s).2.1 = nextJ s.1 := by
  unfold beginA
  split
  · rfl
  split <;> rfl
theorem beginA_recs {s : JS} : (beginA s).2.1.recs = s.1.recs ∧ (beginA s).2.1.number = s.1.number := by
  unfold beginA
  split
  · exact ⟨rfl, rfl⟩
  split <;> exact ⟨rfl, rfl⟩
theorem syncA_recs {s : JS} : (syncA s).2.1.recs = s.1.recs ∧ (syncA s).2.1.number = s.1.number := by
  unfold syncA
  split <;> exact ⟨rfl, rfl⟩
theorem roomA_recs {s : JS} : (roomA s).2.1.recs = s.1.recs ∧ (roomA s).2.1.number = s.1.number := by
  unfold roomA
  split
  · exact ⟨rfl, rfl⟩
  · unfold seqA
    have h1 := syncA_recs (s := s)
    split
    · unfold seqA
      have h2 := beginA_recs (s := (syncA s).2)
      split
      · unfold seqA; exact ⟨h2.1.trans h1.1, h2.2.trans h1.2⟩
      · exact ⟨h2.1.trans h1.1, h2.2.trans h1.2⟩
    · exact h1
theorem jptr (h : Sat w0 (JrP v j dv :: L) w) : ∃ p, v = ptr p := by
  obtain ⟨p, rv, hv, _⟩ := jopen h
  exact ⟨p, hv⟩
theorem append1_spec {p q q2 : Nat} {x : List UInt8} (hx : x.length ≤ 140737488355328) (hc : d.fs.length ≤ 1073741824) (h : Sat w0 (JrP (ptr p) j dv :: DiskA dv d :: Cl q #[ptr p] 29 :: Cl q2 #[.string (bs x)] 9 :: L) w)
    (hK : ∀ w', Sat w0 (JrP (ptr p) j dv :: DiskA dv (appD j.active x d).2 :: Cl q #[ptr p] 29 :: Cl q2 #[.string (bs x)] 9 :: L) w' → K (.int .i64 (appD j.active x d).1) w') : callP G28 [ptr q, ptr q2] w K := by
  refine c28 ?_
  unfold F28
  obtain ⟨p', rv, hp, h2⟩ := jopen h
  obtain rfl : p = p' := by simpa [ptr] using hp
  clear h
  have h := h2
  clear h2
  (repeat (first
 | (simp (disch := omega) only [evA, evB, evC, bAdd_i64, bSub_i64])
 | (with_reducible apply go_ld1 h)
 | ((with_reducible first | apply go_ldA h | apply go_rd h | apply go_rdN h | apply go_rlen h); rfl)
 | (with_reducible first | apply go_ldN h | apply go_lenL h)
 | ((with_reducible apply go_st h); intro _ h)
 | ((with_reducible apply go_stA h); rfl; rfl; (first | rfl | simp [OneV.o]); intro _ h)
 | ((with_reducible apply go_stN h); rfl; (first | rfl | simp [OneV.o]); intro _ h)
 | ((with_reducible apply go_box h); rfl; intro _ _ h)
 | ((with_reducible apply go_ix h); omega)
 | ((with_reducible first | apply go_elN h | apply go_f1 h | apply go_rf1 h | apply go_rel h); (case hi => omega); (try case hx => exact inferInstance); (try case hv => rfl))
 | ((with_reducible apply go_fa h); omega; omega)
))
  refine app_spec (L := JCl p j dv rv :: LsH cSt 1 9 rv j.recs :: Cl q #[ptr p] 29 :: Cl q2 #[.string (bs x)] 9 :: L) hc hx (h.drew.got) fun w h => ?_
  (repeat (first
 | (simp (disch := omega) only [evA, evB, evC, bAdd_i64, bSub_i64])
 | (with_reducible apply go_ld1 h)
 | ((with_reducible first | apply go_ldA h | apply go_rd h | apply go_rdN h | apply go_rlen h); rfl)
 | (with_reducible first | apply go_ldN h | apply go_lenL h)
 | ((with_reducible apply go_st h); intro _ h)
 | ((with_reducible apply go_stA h); rfl; rfl; (first | rfl | simp [OneV.o]); intro _ h)
 | ((with_reducible apply go_stN h); rfl; (first | rfl | simp [OneV.o]); intro _ h)
 | ((with_reducible apply go_box h); rfl; intro _ _ h)
 | ((with_reducible apply go_ix h); omega)
 | ((with_reducible first | apply go_elN h | apply go_f1 h | apply go_rf1 h | apply go_rel h); (case hi => omega); (try case hx => exact inferInstance); (try case hv => rfl))
 | ((with_reducible apply go_fa h); omega; omega)
))
  exact hK _ (jclose (h.got))
theorem append_spec {x : List UInt8} (W : JW w0) (hx : x.length ≤ 65536) (hc : d.fs.length ≤ 1000000000) (hb : nextJ j < 4294967295) (h : Sat w0 (JrP v j dv :: DiskA dv d :: L) w)
    (hK : ∀ w', Sat w0 (JrP v (appendA x (j, d)).2.1 dv :: DiskA dv (appendA x (j, d)).2.2 :: L) w' → K (.tuple #[.int .i64 (if (appendA x (j, d)).1 = 0 then ((nextJ (appendA x (j, d)).2.1 - 1 : Nat) : Int) else 0), .int .i64 (appendA x (j, d)).1]) w') :
    callP G10 [v, .string (bs x)] w K := by
  refine c10 ?_
  unfold F10
  obtain ⟨p, hp⟩ := jptr h
  subst hp
  refine go_box h rfl fun q _ h => ?_
  refine rput_spec W.half (by omega) h (fun g => by omega) fun _ w h => ?_
  (repeat (first
 | (simp (disch := omega) only [evA, evB, evC, bAdd_i64, bSub_i64])
 | (with_reducible apply go_ld1 h)
 | ((with_reducible first | apply go_ldA h | apply go_rd h | apply go_rdN h | apply go_rlen h); rfl)
 | (with_reducible first | apply go_ldN h | apply go_lenL h)
 | ((with_reducible apply go_st h); intro _ h)
 | ((with_reducible apply go_stA h); rfl; rfl; (first | rfl | simp [OneV.o]); intro _ h)
 | ((with_reducible apply go_stN h); rfl; (first | rfl | simp [OneV.o]); intro _ h)
 | ((with_reducible apply go_box h); rfl; intro _ _ h)
 | ((with_reducible apply go_ix h); omega)
 | ((with_reducible first | apply go_elN h | apply go_f1 h | apply go_rf1 h | apply go_rel h); (case hi => omega); (try case hx => exact inferInstance); (try case hv => rfl))
 | ((with_reducible apply go_fa h); omega; omega)
))
  refine go_alloc h z9 rfl fun q2 _ h => ?_
  (repeat (first
 | (simp (disch := omega) only [evA, evB, evC, bAdd_i64, bSub_i64])
 | (with_reducible apply go_ld1 h)
 | ((with_reducible first | apply go_ldA h | apply go_rd h | apply go_rdN h | apply go_rlen h); rfl)
 | (with_reducible first | apply go_ldN h | apply go_lenL h)
 | ((with_reducible apply go_st h); intro _ h)
 | ((with_reducible apply go_stA h); rfl; rfl; (first | rfl | simp [OneV.o]); intro _ h)
 | ((with_reducible apply go_stN h); rfl; (first | rfl | simp [OneV.o]); intro _ h)
 | ((with_reducible apply go_box h); rfl; intro _ _ h)
 | ((with_reducible apply go_ix h); omega)
 | ((with_reducible first | apply go_elN h | apply go_f1 h | apply go_rf1 h | apply go_rel h); (case hi => omega); (try case hx => exact inferInstance); (try case hv => rfl))
 | ((with_reducible apply go_fa h); omega; omega)
))
  have hb2 : fBuildSl Tryz.prog 37 2 [(0, funV (27, [ptr p], [])), (1, funV (28, [], [ptr q, ptr q2]))] = some (([(27, [ptr p], []), (28, [], [ptr q, ptr q2])] : List FnV).flatMap cFn).toArray := by kernel_rfl
  refine ls_lit (m := [(27, [ptr p], []), (28, [], [ptr q, ptr q2])]) CFn h u60 hb2 rfl fun sv w h => ?_
  refine cg19 (n := 3) ?_
  refine steps_spec (v := ptr p) (dv := dv) (s := (j, d)) (fs := [((27, [ptr p], []), roomA), ((28, [], [ptr q, ptr q2]), diskA fun j d => appD j.active (recL x) d)]) (L := Cl q #[ptr p] 29 :: Cl q2 #[.string (bs (recL x))] 9 :: L) (by simp) ?_ (h.got) fun w h => ?_
  · refine ⟨fun w K h hK => ?_, fun h0 => ⟨fun w K h hK => ?_, fun _ => trivial⟩⟩
    · show callP (tabOf (T19 _ _ _ _) 27) _ _ _
      exact room_spec (q := 0) W.bru hc (show nextJ j < 4294967296 by omega) h hK
    · show callP (tabOf (T19 _ _ _ _) 28) _ _ _
      have hl := roomA_len (s := (j, d))
      generalize roomA (j, d) = r at h hK hl
      obtain ⟨c, j2, d2⟩ := r
      simp only [diskA] at h hK hl ⊢
      have h3 : Sat w0 (JrP (ptr p) j2 dv :: DiskA dv d2 :: Cl q #[ptr p] 29 :: Cl q2 #[.string (bs (recL x))] 9 :: LsH cFn 1 37 sv [(27, [ptr p], []), (28, [], [ptr q, ptr q2])] :: L) w := h.got
      refine append1_spec (by
        have := recL_len x
        have := txtL_len hx
        omega) (by omega) h3 fun w h => ?_
      exact hK _ (h.got)
  · have hseq : (seqA ([((27, [ptr p], []), roomA), ((28, [], [ptr q, ptr q2]), diskA fun j d => appD j.active (recL x) d)].map Prod.snd) (j, d)) = seqA [roomA, diskA fun j d => appD j.active (recL x) d] (j, d) := rfl
    rw [hseq] at h ⊢
    have hr : (seqA [roomA, diskA fun j d => appD j.active (recL x) d] (j, d)).2.1.recs = j.recs ∧ (seqA [roomA, diskA fun j d => appD j.active (recL x) d] (j, d)).2.1.number = j.number := by
      have h1 := roomA_recs (s := (j, d))
      unfold seqA
      split
      · unfold seqA
        split
        · exact h1
        · exact h1
      · exact h1
    unfold appendA at hK
    simp only at hK
    generalize seqA [roomA, diskA fun j d => appD j.active (recL x) d] (j, d) = r at h hK hr
    obtain ⟨c, j2, d2⟩ := r
    simp only at h hK hr ⊢
    by_cases g : c = 0
    · subst g
      rw [if_pos rfl] at hK
      obtain ⟨p', rv, hp, h2⟩ := jopen h
      obtain rfl : p = p' := by simpa [ptr] using hp
      clear h
      have h := h2
      clear h2
      have hrl : j2.recs.length ≤ 4294967296 := by rw [hr.1]; unfold nextJ at hb; omega
      simp only [if_true] at hK
      (repeat (first
 | (simp (disch := omega) only [evA, evB, evC, bAdd_i64, bSub_i64])
 | (with_reducible apply go_ld1 h)
 | ((with_reducible first | apply go_ldA h | apply go_rd h | apply go_rdN h | apply go_rlen h); rfl)
 | (with_reducible first | apply go_ldN h | apply go_lenL h)
 | ((with_reducible apply go_st h); intro _ h)
 | ((with_reducible apply go_stA h); rfl; rfl; (first | rfl | simp [OneV.o]); intro _ h)
 | ((with_reducible apply go_stN h); rfl; (first | rfl | simp [OneV.o]); intro _ h)
 | ((with_reducible apply go_box h); rfl; intro _ _ h)
 | ((with_reducible apply go_ix h); omega)
 | ((with_reducible first | apply go_elN h | apply go_f1 h | apply go_rf1 h | apply go_rel h); (case hi => omega); (try case hx => exact inferInstance); (try case hv => rfl))
 | ((with_reducible apply go_fa h); omega; omega)
 | ((with_reducible first | apply go_lit0 CSt h u22 (by kernel_rfl) | apply go_lit1 CSt h u22 (fbS1 _) rfl); intro _ _ h)
 | ((with_reducible apply go_app h sl22 ss22); (case hm => repeat (first | exact .here | apply Fnt.there)); (case hb => first | omega | (simp; omega)); intro _ _ _ h)
))
      refine jnext_spec (j := { j2 with recs := j2.recs ++ [x] }) (L := DiskA dv d2 :: L) (jclose (h.got)) (by unfold nextJ at hb ⊢; simp only [List.length_append, List.length_singleton]; rw [hr.1, hr.2]; omega) fun w h => ?_
      have hn : 1 ≤ nextJ { j2 with recs := j2.recs ++ [x] } := by unfold nextJ; omega
      have e9 : ((nextJ { j2 with recs := j2.recs ++ [x] } - 1 : Nat) : Int) = (nextJ { j2 with recs := j2.recs ++ [x] } : Int) - 1 := by omega
      have hnb : nextJ { j2 with recs := j2.recs ++ [x] } ≤ 4294967296 := by
        unfold nextJ at hb ⊢; simp only [List.length_append, List.length_singleton]; rw [hr.1, hr.2]; omega
      rw [e9] at hK
      (repeat (first
 | (simp (disch := omega) only [evA, evB, evC, bAdd_i64, bSub_i64])
 | (with_reducible apply go_ld1 h)
 | ((with_reducible first | apply go_ldA h | apply go_rd h | apply go_rdN h | apply go_rlen h); rfl)
 | (with_reducible first | apply go_ldN h | apply go_lenL h)
 | ((with_reducible apply go_st h); intro _ h)
 | ((with_reducible apply go_stA h); rfl; rfl; (first | rfl | simp [OneV.o]); intro _ h)
 | ((with_reducible apply go_stN h); rfl; (first | rfl | simp [OneV.o]); intro _ h)
 | ((with_reducible apply go_box h); rfl; intro _ _ h)
 | ((with_reducible apply go_ix h); omega)
 | ((with_reducible first | apply go_elN h | apply go_f1 h | apply go_rf1 h | apply go_rel h); (case hi => omega); (try case hx => exact inferInstance); (try case hv => rfl))
 | ((with_reducible apply go_fa h); omega; omega)
))
      exact hK _ h
    · rw [if_neg g] at hK
      have e : decide (c = 0) = false := by simpa using g
      (repeat (first
 | (simp (disch := omega) only [evA, evB, evC, bAdd_i64, bSub_i64, e])
 | (with_reducible apply go_ld1 h)
 | ((with_reducible first | apply go_ldA h | apply go_rd h | apply go_rdN h | apply go_rlen h); rfl)
 | (with_reducible first | apply go_ldN h | apply go_lenL h)
 | ((with_reducible apply go_st h); intro _ h)
 | ((with_reducible apply go_stA h); rfl; rfl; (first | rfl | simp [OneV.o]); intro _ h)
 | ((with_reducible apply go_stN h); rfl; (first | rfl | simp [OneV.o]); intro _ h)
 | ((with_reducible apply go_box h); rfl; intro _ _ h)
 | ((with_reducible apply go_ix h); omega)
 | ((with_reducible first | apply go_elN h | apply go_f1 h | apply go_rf1 h | apply go_rel h); (case hi => omega); (try case hx => exact inferInstance); (try case hv => rfl))
 | ((with_reducible apply go_fa h); omega; omega)
))
      simp only [if_neg g] at hK
      exact hK w (h.got)
theorem dropA_len {n : List UInt8} {s : JS} : (dropA n s).2.2.fs.length ≤ s.2.fs.length + 1 := by
  unfold dropA
  split
  · exact remD_len
  · simp only; omega
theorem layA_len {x : List UInt8} {s : JS} : (layA x s).2.2.fs.length ≤ s.2.fs.length + 2 := by
  unfold layA
  split
  · have h1 := dropA_len (n := freshN) (s := (s.1, (appD freshN x s.2).2))
    have h2 := appD_len (d := s.2) (n := freshN) (x := x)
    simp only at h1 ⊢; omega
  · have h2 := appD_len (d := s.2) (n := freshN) (x := x)
    simp only [diskA]; omega
theorem dropA_j {n : List UInt8} {s : JS} : (dropA n s).2.1 = s.1 := by
  unfold dropA
  split <;> rfl
theorem layA_j {x : List UInt8} {s : JS} : (layA x s).2.1 = s.1 := by
  unfold layA
  split
  · exact dropA_j
  · rfl
theorem jbox {p q : Nat} (h : Sat w0 (JrP (ptr p) j dv :: DiskA dv d :: Cl q #[ptr p] 29 :: L) w) : ∃ rv, Sat w0 (JCl p j dv rv :: LsH cSt 1 9 rv j.recs :: DiskA dv d :: Cl q #[ptr p] 29 :: L) w := by
  obtain ⟨p', rv, hp, h2⟩ := jopen h
  obtain rfl : p = p' := by simpa [ptr] using hp
  exact ⟨rv, h2⟩
theorem shot2_spec {p q : Nat} (hc : d.fs.length ≤ 1073741824) (h : Sat w0 (JrP (ptr p) j dv :: DiskA dv d :: Cl q #[ptr p] 29 :: L) w)
    (hK : ∀ w', Sat w0 (JrP (ptr p) (dropA freshN (j, d)).2.1 dv :: DiskA dv (dropA freshN (j, d)).2.2 :: Cl q #[ptr p] 29 :: L) w' → K (.int .i64 (dropA freshN (j, d)).1) w') : callP G55 [ptr q] w K := by
  refine c55 ?_
  unfold F55
  have e0 : (ByteArray.mk #[115, 110, 97, 112, 46, 110, 101, 119] : ByteArray) = bs freshN := rfl
  rw [e0]
  (repeat (first
 | (simp (disch := omega) only [evA, evB, evC, bAdd_i64, bSub_i64])
 | (with_reducible apply go_ld1 h)
 | ((with_reducible first | apply go_ldA h | apply go_rd h | apply go_rdN h | apply go_rlen h); rfl)
 | (with_reducible first | apply go_ldN h | apply go_lenL h)
 | ((with_reducible apply go_st h); intro _ h)
 | ((with_reducible apply go_stA h); rfl; rfl; (first | rfl | simp [OneV.o]); intro _ h)
 | ((with_reducible apply go_stN h); rfl; (first | rfl | simp [OneV.o]); intro _ h)
 | ((with_reducible apply go_box h); rfl; intro _ _ h)
 | ((with_reducible apply go_ix h); omega)
 | ((with_reducible first | apply go_elN h | apply go_f1 h | apply go_rf1 h | apply go_rel h); (case hi => omega); (try case hx => exact inferInstance); (try case hv => rfl))
 | ((with_reducible apply go_fa h); omega; omega)
))
  exact drop_spec hc h fun w h => hK w h
theorem open1_spec {p q : Nat} (hc : d.fs.length ≤ 1073741824) (h : Sat w0 (JrP (ptr p) j dv :: DiskA dv d :: Cl q #[ptr p] 29 :: L) w)
    (hK : ∀ w', Sat w0 (JrP (ptr p) (dropA freshN (j, d)).2.1 dv :: DiskA dv (dropA freshN (j, d)).2.2 :: Cl q #[ptr p] 29 :: L) w' → K (.int .i64 (dropA freshN (j, d)).1) w') : callP G20 [ptr q] w K := by
  refine c20 ?_
  unfold F20
  have e0 : (ByteArray.mk #[115, 110, 97, 112, 46, 110, 101, 119] : ByteArray) = bs freshN := rfl
  rw [e0]
  (repeat (first
 | (simp (disch := omega) only [evA, evB, evC, bAdd_i64, bSub_i64])
 | (with_reducible apply go_ld1 h)
 | ((with_reducible first | apply go_ldA h | apply go_rd h | apply go_rdN h | apply go_rlen h); rfl)
 | (with_reducible first | apply go_ldN h | apply go_lenL h)
 | ((with_reducible apply go_st h); intro _ h)
 | ((with_reducible apply go_stA h); rfl; rfl; (first | rfl | simp [OneV.o]); intro _ h)
 | ((with_reducible apply go_stN h); rfl; (first | rfl | simp [OneV.o]); intro _ h)
 | ((with_reducible apply go_box h); rfl; intro _ _ h)
 | ((with_reducible apply go_ix h); omega)
 | ((with_reducible first | apply go_elN h | apply go_f1 h | apply go_rf1 h | apply go_rel h); (case hi => omega); (try case hx => exact inferInstance); (try case hv => rfl))
 | ((with_reducible apply go_fa h); omega; omega)
))
  exact drop_spec hc h fun w h => hK w h
theorem shot3_spec {p q : Nat} (h : Sat w0 (JrP (ptr p) j dv :: DiskA dv d :: Cl q #[ptr p] 29 :: L) w)
    (hK : ∀ w', Sat w0 (JrP (ptr p) j dv :: DiskA dv (makeD freshN d).2 :: Cl q #[ptr p] 29 :: L) w' → K (.int .i64 (makeD freshN d).1) w') : callP G56 [ptr q] w K := by
  refine c56 ?_
  unfold F56
  have e0 : (ByteArray.mk #[115, 110, 97, 112, 46, 110, 101, 119] : ByteArray) = bs freshN := rfl
  rw [e0]
  obtain ⟨rv, h2⟩ := jbox h
  clear h
  have h := h2
  clear h2
  (repeat (first
 | (simp (disch := omega) only [evA, evB, evC, bAdd_i64, bSub_i64])
 | (with_reducible apply go_ld1 h)
 | ((with_reducible first | apply go_ldA h | apply go_rd h | apply go_rdN h | apply go_rlen h); rfl)
 | (with_reducible first | apply go_ldN h | apply go_lenL h)
 | ((with_reducible apply go_st h); intro _ h)
 | ((with_reducible apply go_stA h); rfl; rfl; (first | rfl | simp [OneV.o]); intro _ h)
 | ((with_reducible apply go_stN h); rfl; (first | rfl | simp [OneV.o]); intro _ h)
 | ((with_reducible apply go_box h); rfl; intro _ _ h)
 | ((with_reducible apply go_ix h); omega)
 | ((with_reducible first | apply go_elN h | apply go_f1 h | apply go_rf1 h | apply go_rel h); (case hi => omega); (try case hx => exact inferInstance); (try case hv => rfl))
 | ((with_reducible apply go_fa h); omega; omega)
))
  refine dmake_spec (L := JCl p j dv rv :: LsH cSt 1 9 rv j.recs :: Cl q #[ptr p] 29 :: L) (h.got) fun w h => ?_
  exact hK _ (jclose (h.got))
theorem shot4_spec {p q : Nat} (h : Sat w0 (JrP (ptr p) j dv :: DiskA dv d :: Cl q #[ptr p] 29 :: L) w)
    (hK : ∀ w', Sat w0 (JrP (ptr p) j dv :: DiskA dv (syncD freshN d).2 :: Cl q #[ptr p] 29 :: L) w' → K (.int .i64 (syncD freshN d).1) w') : callP G58 [ptr q] w K := by
  refine c58 ?_
  unfold F58
  have e0 : (ByteArray.mk #[115, 110, 97, 112, 46, 110, 101, 119] : ByteArray) = bs freshN := rfl
  rw [e0]
  obtain ⟨rv, h2⟩ := jbox h
  clear h
  have h := h2
  clear h2
  (repeat (first
 | (simp (disch := omega) only [evA, evB, evC, bAdd_i64, bSub_i64])
 | (with_reducible apply go_ld1 h)
 | ((with_reducible first | apply go_ldA h | apply go_rd h | apply go_rdN h | apply go_rlen h); rfl)
 | (with_reducible first | apply go_ldN h | apply go_lenL h)
 | ((with_reducible apply go_st h); intro _ h)
 | ((with_reducible apply go_stA h); rfl; rfl; (first | rfl | simp [OneV.o]); intro _ h)
 | ((with_reducible apply go_stN h); rfl; (first | rfl | simp [OneV.o]); intro _ h)
 | ((with_reducible apply go_box h); rfl; intro _ _ h)
 | ((with_reducible apply go_ix h); omega)
 | ((with_reducible first | apply go_elN h | apply go_f1 h | apply go_rf1 h | apply go_rel h); (case hi => omega); (try case hx => exact inferInstance); (try case hv => rfl))
 | ((with_reducible apply go_fa h); omega; omega)
))
  refine dsync_spec (L := JCl p j dv rv :: LsH cSt 1 9 rv j.recs :: Cl q #[ptr p] 29 :: L) (h.got) fun w h => ?_
  exact hK _ (jclose (h.got))
theorem shot5_spec {p q : Nat} (h : Sat w0 (JrP (ptr p) j dv :: DiskA dv d :: Cl q #[ptr p] 29 :: L) w)
    (hK : ∀ w', Sat w0 (JrP (ptr p) j dv :: DiskA dv (renD freshN snapN d).2 :: Cl q #[ptr p] 29 :: L) w' → K (.int .i64 (renD freshN snapN d).1) w') : callP G59 [ptr q] w K := by
  refine c59 ?_
  unfold F59
  have e0 : (ByteArray.mk #[115, 110, 97, 112, 46, 110, 101, 119] : ByteArray) = bs freshN := rfl
  have e1 : (ByteArray.mk #[115, 110, 97, 112] : ByteArray) = bs snapN := rfl
  rw [e0, e1]
  obtain ⟨rv, h2⟩ := jbox h
  clear h
  have h := h2
  clear h2
  (repeat (first
 | (simp (disch := omega) only [evA, evB, evC, bAdd_i64, bSub_i64])
 | (with_reducible apply go_ld1 h)
 | ((with_reducible first | apply go_ldA h | apply go_rd h | apply go_rdN h | apply go_rlen h); rfl)
 | (with_reducible first | apply go_ldN h | apply go_lenL h)
 | ((with_reducible apply go_st h); intro _ h)
 | ((with_reducible apply go_stA h); rfl; rfl; (first | rfl | simp [OneV.o]); intro _ h)
 | ((with_reducible apply go_stN h); rfl; (first | rfl | simp [OneV.o]); intro _ h)
 | ((with_reducible apply go_box h); rfl; intro _ _ h)
 | ((with_reducible apply go_ix h); omega)
 | ((with_reducible first | apply go_elN h | apply go_f1 h | apply go_rf1 h | apply go_rel h); (case hi => omega); (try case hx => exact inferInstance); (try case hv => rfl))
 | ((with_reducible apply go_fa h); omega; omega)
))
  refine dren_spec (L := JCl p j dv rv :: LsH cSt 1 9 rv j.recs :: Cl q #[ptr p] 29 :: L) (h.got) fun w h => ?_
  exact hK _ (jclose (h.got))
theorem shot1_spec {p q q2 : Nat} {x : List UInt8} (hx : x.length ≤ 140737488355328) (hc : d.fs.length ≤ 1000000000) (h : Sat w0 (JrP (ptr p) j dv :: DiskA dv d :: Cl q #[ptr p] 29 :: Cl q2 #[.string (bs x)] 9 :: L) w)
    (hK : ∀ w', Sat w0 (JrP (ptr p) (layA x (j, d)).2.1 dv :: DiskA dv (layA x (j, d)).2.2 :: Cl q #[ptr p] 29 :: Cl q2 #[.string (bs x)] 9 :: L) w' → K (.int .i64 (layA x (j, d)).1) w') : callP G54 [ptr q, ptr q2] w K := by
  refine c54 ?_
  unfold F54 F54_1 F54_1b
  have e0 : (ByteArray.mk #[115, 110, 97, 112, 46, 110, 101, 119] : ByteArray) = bs freshN := rfl
  rw [e0]
  obtain ⟨rv, h2⟩ := jbox h
  clear h
  have h := h2
  clear h2
  (repeat (first
 | (simp (disch := omega) only [evA, evB, evC, bAdd_i64, bSub_i64])
 | (with_reducible apply go_ld1 h)
 | ((with_reducible first | apply go_ldA h | apply go_rd h | apply go_rdN h | apply go_rlen h); rfl)
 | (with_reducible first | apply go_ldN h | apply go_lenL h)
 | ((with_reducible apply go_st h); intro _ h)
 | ((with_reducible apply go_stA h); rfl; rfl; (first | rfl | simp [OneV.o]); intro _ h)
 | ((with_reducible apply go_stN h); rfl; (first | rfl | simp [OneV.o]); intro _ h)
 | ((with_reducible apply go_box h); rfl; intro _ _ h)
 | ((with_reducible apply go_ix h); omega)
 | ((with_reducible first | apply go_elN h | apply go_f1 h | apply go_rf1 h | apply go_rel h); (case hi => omega); (try case hx => exact inferInstance); (try case hv => rfl))
 | ((with_reducible apply go_fa h); omega; omega)
))
  refine app_spec (d := d) (L := JCl p j dv rv :: LsH cSt 1 9 rv j.recs :: Cl q #[ptr p] 29 :: Cl q2 #[.string (bs x)] 9 :: L) (by omega) hx (h.drew.got) fun w h => ?_
  have hl := appD_len (d := d) (n := freshN) (x := x)
  unfold layA at hK
  simp only at hK
  unfold F54_2 F54_2b
  by_cases g : (appD freshN x d).1 = 250
  · rw [if_pos g] at hK
    rw [g]
    (repeat (first
 | (simp (disch := omega) only [evA, evB, evC, bAdd_i64, bSub_i64])
 | (with_reducible apply go_ld1 h)
 | ((with_reducible first | apply go_ldA h | apply go_rd h | apply go_rdN h | apply go_rlen h); rfl)
 | (with_reducible first | apply go_ldN h | apply go_lenL h)
 | ((with_reducible apply go_st h); intro _ h)
 | ((with_reducible apply go_stA h); rfl; rfl; (first | rfl | simp [OneV.o]); intro _ h)
 | ((with_reducible apply go_stN h); rfl; (first | rfl | simp [OneV.o]); intro _ h)
 | ((with_reducible apply go_box h); rfl; intro _ _ h)
 | ((with_reducible apply go_ix h); omega)
 | ((with_reducible first | apply go_elN h | apply go_f1 h | apply go_rf1 h | apply go_rel h); (case hi => omega); (try case hx => exact inferInstance); (try case hv => rfl))
 | ((with_reducible apply go_fa h); omega; omega)
))
    refine drop_spec (n := freshN) (d := (appD freshN x d).2) (j := j) (L := Cl q #[ptr p] 29 :: Cl q2 #[.string (bs x)] 9 :: L) (by omega) (jclose (h.got)) fun w h => ?_
    exact hK _ h
  · rw [if_neg g] at hK
    have e : decide ((appD freshN x d).1 = 250) = false := by simpa using g
    (repeat (first
 | (simp (disch := omega) only [evA, evB, evC, bAdd_i64, bSub_i64, e])
 | (with_reducible apply go_ld1 h)
 | ((with_reducible first | apply go_ldA h | apply go_rd h | apply go_rdN h | apply go_rlen h); rfl)
 | (with_reducible first | apply go_ldN h | apply go_lenL h)
 | ((with_reducible apply go_st h); intro _ h)
 | ((with_reducible apply go_stA h); rfl; rfl; (first | rfl | simp [OneV.o]); intro _ h)
 | ((with_reducible apply go_stN h); rfl; (first | rfl | simp [OneV.o]); intro _ h)
 | ((with_reducible apply go_box h); rfl; intro _ _ h)
 | ((with_reducible apply go_ix h); omega)
 | ((with_reducible first | apply go_elN h | apply go_f1 h | apply go_rf1 h | apply go_rel h); (case hi => omega); (try case hx => exact inferInstance); (try case hv => rfl))
 | ((with_reducible apply go_fa h); omega; omega)
))
    exact hK _ (jclose (h.got))
theorem shot_spec {q : Nat} {st : List UInt8} (W : JW w0) (hst : st.length ≤ 65528) (hc : d.fs.length ≤ 100000000) (hb : nextJ j < 4294967296) (h : Sat w0 (JrP v j dv :: DiskA dv d :: L) w)
    (hK : ∀ w', Sat w0 (JrP v (shotA st (j, d)).2.1 dv :: DiskA dv (shotA st (j, d)).2.2 :: L) w' → K (.int .i64 (shotA st (j, d)).1) w') : callP (Gn31 (q + 2)) [v, .string (bs st)] w K := by
  refine cn31 (q + 1) ?_
  unfold F31 F31_1 F31_1b
  obtain ⟨p, hp⟩ := jptr h
  subst hp
  refine go_box h rfl fun q0 _ h => ?_
  (repeat (first
 | (simp (disch := omega) only [evA, evB, evC, bAdd_i64, bSub_i64])
 | (with_reducible apply go_ld1 h)
 | ((with_reducible first | apply go_ldA h | apply go_rd h | apply go_rdN h | apply go_rlen h); rfl)
 | (with_reducible first | apply go_ldN h | apply go_lenL h)
 | ((with_reducible apply go_st h); intro _ h)
 | ((with_reducible apply go_stA h); rfl; rfl; (first | rfl | simp [OneV.o]); intro _ h)
 | ((with_reducible apply go_stN h); rfl; (first | rfl | simp [OneV.o]); intro _ h)
 | ((with_reducible apply go_box h); rfl; intro _ _ h)
 | ((with_reducible apply go_ix h); omega)
 | ((with_reducible first | apply go_elN h | apply go_f1 h | apply go_rf1 h | apply go_rel h); (case hi => omega); (try case hx => exact inferInstance); (try case hv => rfl))
 | ((with_reducible apply go_fa h); omega; omega)
))
  refine jnext_spec (L := DiskA dv d :: Cl q0 #[ptr p] 29 :: L) (h.got) (by omega) fun w h => ?_
  have hn1 : 1 ≤ nextJ j := by unfold nextJ; omega
  have e1 : bSub (.int .i64 (nextJ j : Int)) (.int .i64 1) = some (.int .i64 ((nextJ j - 1 : Nat))) := by
    rw [bSub_int, show (nextJ j : Int) - 1 = ((nextJ j - 1 : Nat) : Int) by omega, wrap_id (by omega)]
  rw [e1]
  (repeat (first
 | (simp (disch := omega) only [evA, evB, evC, bAdd_i64, bSub_i64])
 | (with_reducible apply go_ld1 h)
 | ((with_reducible first | apply go_ldA h | apply go_rd h | apply go_rdN h | apply go_rlen h); rfl)
 | (with_reducible first | apply go_ldN h | apply go_lenL h)
 | ((with_reducible apply go_st h); intro _ h)
 | ((with_reducible apply go_stA h); rfl; rfl; (first | rfl | simp [OneV.o]); intro _ h)
 | ((with_reducible apply go_stN h); rfl; (first | rfl | simp [OneV.o]); intro _ h)
 | ((with_reducible apply go_box h); rfl; intro _ _ h)
 | ((with_reducible apply go_ix h); omega)
 | ((with_reducible first | apply go_elN h | apply go_f1 h | apply go_rf1 h | apply go_rel h); (case hi => omega); (try case hx => exact inferInstance); (try case hv => rfl))
 | ((with_reducible apply go_fa h); omega; omega)
))
  refine wide_spec (n := nextJ j - 1) (k := 8) h (by omega) (by
    have : (256 : Nat) ^ 8 = 18446744073709551616 := by decide
    omega) (by omega) fun w h => ?_
  have hpl := padL_len 8 (nextJ j - 1)
  have e2 : bAdd (.string (bs (padL 8 (nextJ j - 1)))) (.string (bs st)) = some (.string (bs (padL 8 (nextJ j - 1) ++ st))) := add_txt (by omega)
  (repeat (first
 | (simp (disch := omega) only [evA, evB, evC, bAdd_i64, bSub_i64])
 | (with_reducible apply go_ld1 h)
 | ((with_reducible first | apply go_ldA h | apply go_rd h | apply go_rdN h | apply go_rlen h); rfl)
 | (with_reducible first | apply go_ldN h | apply go_lenL h)
 | ((with_reducible apply go_st h); intro _ h)
 | ((with_reducible apply go_stA h); rfl; rfl; (first | rfl | simp [OneV.o]); intro _ h)
 | ((with_reducible apply go_stN h); rfl; (first | rfl | simp [OneV.o]); intro _ h)
 | ((with_reducible apply go_box h); rfl; intro _ _ h)
 | ((with_reducible apply go_ix h); omega)
 | ((with_reducible first | apply go_elN h | apply go_f1 h | apply go_rf1 h | apply go_rel h); (case hi => omega); (try case hx => exact inferInstance); (try case hv => rfl))
 | ((with_reducible apply go_fa h); omega; omega)
))
  rw [e2]
  (repeat (first
 | (simp (disch := omega) only [evA, evB, evC, bAdd_i64, bSub_i64])
 | (with_reducible apply go_ld1 h)
 | ((with_reducible first | apply go_ldA h | apply go_rd h | apply go_rdN h | apply go_rlen h); rfl)
 | (with_reducible first | apply go_ldN h | apply go_lenL h)
 | ((with_reducible apply go_st h); intro _ h)
 | ((with_reducible apply go_stA h); rfl; rfl; (first | rfl | simp [OneV.o]); intro _ h)
 | ((with_reducible apply go_stN h); rfl; (first | rfl | simp [OneV.o]); intro _ h)
 | ((with_reducible apply go_box h); rfl; intro _ _ h)
 | ((with_reducible apply go_ix h); omega)
 | ((with_reducible first | apply go_elN h | apply go_f1 h | apply go_rf1 h | apply go_rel h); (case hi => omega); (try case hx => exact inferInstance); (try case hv => rfl))
 | ((with_reducible apply go_fa h); omega; omega)
))
  have hpay : (padL 8 (nextJ j - 1) ++ st).length ≤ 65536 := by rw [List.length_append]; omega
  refine rput_spec W.half (by omega) h (fun g => by omega) fun _ w h => ?_
  (repeat (first
 | (simp (disch := omega) only [evA, evB, evC, bAdd_i64, bSub_i64])
 | (with_reducible apply go_ld1 h)
 | ((with_reducible first | apply go_ldA h | apply go_rd h | apply go_rdN h | apply go_rlen h); rfl)
 | (with_reducible first | apply go_ldN h | apply go_lenL h)
 | ((with_reducible apply go_st h); intro _ h)
 | ((with_reducible apply go_stA h); rfl; rfl; (first | rfl | simp [OneV.o]); intro _ h)
 | ((with_reducible apply go_stN h); rfl; (first | rfl | simp [OneV.o]); intro _ h)
 | ((with_reducible apply go_box h); rfl; intro _ _ h)
 | ((with_reducible apply go_ix h); omega)
 | ((with_reducible first | apply go_elN h | apply go_f1 h | apply go_rf1 h | apply go_rel h); (case hi => omega); (try case hx => exact inferInstance); (try case hv => rfl))
 | ((with_reducible apply go_fa h); omega; omega)
))
  refine go_alloc h z9 rfl fun q2 _ h => ?_
  (repeat (first
 | (simp (disch := omega) only [evA, evB, evC, bAdd_i64, bSub_i64])
 | (with_reducible apply go_ld1 h)
 | ((with_reducible first | apply go_ldA h | apply go_rd h | apply go_rdN h | apply go_rlen h); rfl)
 | (with_reducible first | apply go_ldN h | apply go_lenL h)
 | ((with_reducible apply go_st h); intro _ h)
 | ((with_reducible apply go_stA h); rfl; rfl; (first | rfl | simp [OneV.o]); intro _ h)
 | ((with_reducible apply go_stN h); rfl; (first | rfl | simp [OneV.o]); intro _ h)
 | ((with_reducible apply go_box h); rfl; intro _ _ h)
 | ((with_reducible apply go_ix h); omega)
 | ((with_reducible first | apply go_elN h | apply go_f1 h | apply go_rf1 h | apply go_rel h); (case hi => omega); (try case hx => exact inferInstance); (try case hv => rfl))
 | ((with_reducible apply go_fa h); omega; omega)
))
  have hfn : fBuildSl Tryz.prog 37 5 [(0, funV (55, [], [ptr q0])), (1, funV (56, [], [ptr q0])), (2, funV (54, [], [ptr q0, ptr q2])), (3, funV (58, [], [ptr q0])), (4, funV (59, [], [ptr q0]))] = some (([(55, [], [ptr q0]), (56, [], [ptr q0]), (54, [], [ptr q0, ptr q2]), (58, [], [ptr q0]), (59, [], [ptr q0])] : List FnV).flatMap cFn).toArray := by kernel_rfl
  refine ls_lit (m := [(55, [], [ptr q0]), (56, [], [ptr q0]), (54, [], [ptr q0, ptr q2]), (58, [], [ptr q0]), (59, [], [ptr q0])]) CFn h u60 hfn rfl fun sv w h => ?_
  have hreclen : (recL (padL 8 (nextJ j - 1) ++ st)).length ≤ 140737488355328 := by
    have := recL_len (padL 8 (nextJ j - 1) ++ st)
    have := txtL_len hpay
    omega
  unfold shotA at hK
  simp only at hK
  generalize recL (padL 8 (nextJ j - 1) ++ st) = x at h hreclen hK
  refine steps_spec (v := ptr p) (dv := dv) (s := (j, d)) (fs := [((55, [], [ptr q0]), dropA freshN), ((56, [], [ptr q0]), diskA fun _ d => makeD freshN d), ((54, [], [ptr q0, ptr q2]), layA x), ((58, [], [ptr q0]), diskA fun _ d => syncD freshN d), ((59, [], [ptr q0]), diskA fun _ d => renD freshN snapN d)]) (L := Cl q0 #[ptr p] 29 :: Cl q2 #[.string (bs x)] 9 :: L) (by simp) ?_ (h.got) fun w h => ?_
  · have re : ∀ {j : Jn} {d : Dk} {w : World}, Sat w0 (JrP (ptr p) j dv :: DiskA dv d :: LsH cFn 1 37 sv [(55, [], [ptr q0]), (56, [], [ptr q0]), (54, [], [ptr q0, ptr q2]), (58, [], [ptr q0]), (59, [], [ptr q0])] :: Cl q0 #[ptr p] 29 :: Cl q2 #[.string (bs x)] 9 :: L) w → Sat w0 (JrP (ptr p) j dv :: DiskA dv d :: Cl q0 #[ptr p] 29 :: Cl q2 #[.string (bs x)] 9 :: LsH cFn 1 37 sv [(55, [], [ptr q0]), (56, [], [ptr q0]), (54, [], [ptr q0, ptr q2]), (58, [], [ptr q0]), (59, [], [ptr q0])] :: L) w := fun h => h.got
    have er : ∀ {j : Jn} {d : Dk} {w : World}, Sat w0 (JrP (ptr p) j dv :: DiskA dv d :: Cl q0 #[ptr p] 29 :: Cl q2 #[.string (bs x)] 9 :: LsH cFn 1 37 sv [(55, [], [ptr q0]), (56, [], [ptr q0]), (54, [], [ptr q0, ptr q2]), (58, [], [ptr q0]), (59, [], [ptr q0])] :: L) w → Sat w0 (JrP (ptr p) j dv :: DiskA dv d :: LsH cFn 1 37 sv [(55, [], [ptr q0]), (56, [], [ptr q0]), (54, [], [ptr q0, ptr q2]), (58, [], [ptr q0]), (59, [], [ptr q0])] :: Cl q0 #[ptr p] 29 :: Cl q2 #[.string (bs x)] 9 :: L) w := fun h => h.got
    have l1 := dropA_len (n := freshN) (s := (j, d))
    refine ⟨fun w K h hK => ?_, fun _ => ⟨fun w K h hK => ?_, fun _ => ⟨fun w K h hK => ?_, fun _ => ⟨fun w K h hK => ?_, fun _ => ⟨fun w K h hK => ?_, fun _ => trivial⟩⟩⟩⟩⟩
    · show callP (tabOf (T19 _ _ _ _) 55) _ _ _
      exact shot2_spec (show d.fs.length ≤ 1073741824 by omega) (re h) fun w h => hK w (er h)
    · show callP (tabOf (T19 _ _ _ _) 56) _ _ _
      exact shot3_spec (re h) fun w h => hK w (er h)
    · show callP (tabOf (T19 _ _ _ _) 54) _ _ _
      refine shot1_spec hreclen ?_ (re h) fun w h => hK w (er h)
      have l2 := makeD_len (d := (dropA freshN (j, d)).2.2) (n := freshN)
      have l3 : (j, d).2.fs.length = d.fs.length := rfl
      show (makeD freshN (dropA freshN (j, d)).2.2).2.fs.length ≤ 1000000000
      omega
    · show callP (tabOf (T19 _ _ _ _) 58) _ _ _
      exact shot4_spec (re h) fun w h => hK w (er h)
    · show callP (tabOf (T19 _ _ _ _) 59) _ _ _
      exact shot5_spec (re h) fun w h => hK w (er h)
  · have hseq : (seqA (([((55, [], [ptr q0]), dropA freshN), ((56, [], [ptr q0]), diskA fun _ d => makeD freshN d), ((54, [], [ptr q0, ptr q2]), layA x), ((58, [], [ptr q0]), diskA fun _ d => syncD freshN d), ((59, [], [ptr q0]), diskA fun _ d => renD freshN snapN d)] : List (FnV × JAct)).map Prod.snd) (j, d)) = seqA [dropA freshN, diskA fun _ d => makeD freshN d, layA x, diskA fun _ d => syncD freshN d, diskA fun _ d => renD freshN snapN d] (j, d) := rfl
    rw [hseq] at h ⊢
    generalize seqA [dropA freshN, diskA fun _ d => makeD freshN d, layA x, diskA fun _ d => syncD freshN d, diskA fun _ d => renD freshN snapN d] (j, d) = r at h hK
    obtain ⟨c, j2, d2⟩ := r
    simp only at h hK ⊢
    unfold F31_2 F31_2b
    by_cases g : c = 0
    · subst g
      rw [if_pos rfl] at hK
      obtain ⟨p', rv, hp, h2⟩ := jopen h
      obtain rfl : p = p' := by simpa [ptr] using hp
      clear h
      have h := h2
      clear h2
      (repeat (first
 | (simp (disch := omega) only [evA, evB, evC, bAdd_i64, bSub_i64])
 | (with_reducible apply go_ld1 h)
 | ((with_reducible first | apply go_ldA h | apply go_rd h | apply go_rdN h | apply go_rlen h); rfl)
 | (with_reducible first | apply go_ldN h | apply go_lenL h)
 | ((with_reducible apply go_st h); intro _ h)
 | ((with_reducible apply go_stA h); rfl; rfl; (first | rfl | simp [OneV.o]); intro _ h)
 | ((with_reducible apply go_stN h); rfl; (first | rfl | simp [OneV.o]); intro _ h)
 | ((with_reducible apply go_box h); rfl; intro _ _ h)
 | ((with_reducible apply go_ix h); omega)
 | ((with_reducible first | apply go_elN h | apply go_f1 h | apply go_rf1 h | apply go_rel h); (case hi => omega); (try case hx => exact inferInstance); (try case hv => rfl))
 | ((with_reducible apply go_fa h); omega; omega)
))
      have h3 : Sat w0 (LsH cSt 1 9 (.slice none 0 0) [] :: JCl p { j2 with number := nextJ j - 1, state := st, recs := [] } dv (.slice none 0 0) :: DiskA dv d2 :: L) _ := Sat.nilLs cSt 1 9 (h.got)
      exact hK _ (jclose (j := { j2 with number := nextJ j - 1, state := st, recs := [] }) (h3.got))
    · rw [if_neg g] at hK
      have e : decide (c = 0) = false := by simpa using g
      (repeat (first
 | (simp (disch := omega) only [evA, evB, evC, bAdd_i64, bSub_i64, e])
 | (with_reducible apply go_ld1 h)
 | ((with_reducible first | apply go_ldA h | apply go_rd h | apply go_rdN h | apply go_rlen h); rfl)
 | (with_reducible first | apply go_ldN h | apply go_lenL h)
 | ((with_reducible apply go_st h); intro _ h)
 | ((with_reducible apply go_stA h); rfl; rfl; (first | rfl | simp [OneV.o]); intro _ h)
 | ((with_reducible apply go_stN h); rfl; (first | rfl | simp [OneV.o]); intro _ h)
 | ((with_reducible apply go_box h); rfl; intro _ _ h)
 | ((with_reducible apply go_ix h); omega)
 | ((with_reducible first | apply go_elN h | apply go_f1 h | apply go_rf1 h | apply go_rel h); (case hi => omega); (try case hx => exact inferInstance); (try case hv => rfl))
 | ((with_reducible apply go_fa h); omega; omega)
))
      exact hK w (h.got)
end
end Go.Proofs.Gong

/- Jm4 -/
namespace Go.Proofs.Gong
open Go Go.Sx Go.Proofs
set_option maxRecDepth 100000
def NamesJ (d : Dk) : Prop := ∀ f ∈ d.fs, NameJ f.name
theorem useD_fs {d e : Dk} (h : useD d = some e) : e.fs = d.fs := (useD_some h).2.2.1
theorem turnD_names {d : Dk} {f : Fil} (h : NamesJ d) (hf : NameJ f.name) : NamesJ (turnD d f).2 := by
  unfold turnD
  cases hu : useD d with
  | none => exact h
  | some e =>
    intro g hg
    have hg : g ∈ fPut f e.fs := hg
    rcases kPut_mem.1 hg with rfl | ⟨hg, _⟩
    · exact hf
    · rw [useD_fs hu] at hg; exact h g hg
theorem makeD_names {d : Dk} {n : List UInt8} (h : NamesJ d) (hn : NameJ n) : NamesJ (makeD n d).2 := by
  unfold makeD
  split
  · exact h
  split
  · exact h
  · exact turnD_names h hn
theorem appD_names {d : Dk} {n x : List UInt8} (h : NamesJ d) : NamesJ (appD n x d).2 := by
  unfold appD
  split
  · exact h
  · rename_i f hf
    split
    · exact h
    · exact turnD_names h (h f (kGet_mem hf).1)
theorem syncD_names {d : Dk} {n : List UInt8} (h : NamesJ d) : NamesJ (syncD n d).2 := by
  unfold syncD
  split
  · exact h
  · rename_i f hf
    exact turnD_names h (h f (kGet_mem hf).1)
theorem cutD_names {d : Dk} {n : List UInt8} {k : Int} (h : NamesJ d) : NamesJ (cutD n k d).2 := by
  unfold cutD
  split
  · exact h
  · rename_i f hf
    split
    · exact h
    · exact turnD_names h (h f (kGet_mem hf).1)
theorem remD_names {d : Dk} {n : List UInt8} (h : NamesJ d) : NamesJ (remD n d).2 := by
  unfold remD
  split
  · exact h
  split
  · exact h
  · rename_i e hu
    intro g hg
    have := kDel_sub g hg
    rw [useD_fs hu] at this
    exact h g this
theorem renD_names {d : Dk} {a b : List UInt8} (h : NamesJ d) (hb : NameJ b) : NamesJ (renD a b d).2 := by
  unfold renD
  split
  · exact h
  split
  · exact h
  split
  · exact h
  · rename_i e hu
    intro g hg
    rcases kPut_mem.1 hg with rfl | ⟨hg, _⟩
    · exact hb
    · have := kDel_sub g hg
      rw [useD_fs hu] at this
      exact h g this
theorem nameJ_snap : NameJ snapN := .inr ⟨[110, 97, 112], by simp, rfl⟩
theorem nameJ_fresh : NameJ freshN := .inr ⟨[110, 97, 112, 46, 110, 101, 119], by simp, rfl⟩
theorem nameJ_seg {n : Nat} (h : 1 ≤ n ∧ n < 4294967296) : NameJ (nameL n) := .inl ⟨n, h.1, h.2, rfl⟩
theorem dropA_names {n : List UInt8} {s : JS} (h : NamesJ s.2) : NamesJ (dropA n s).2.2 := by
  unfold dropA
  split
  · exact remD_names h
  · exact h
theorem syncA_names {s : JS} (h : NamesJ s.2) : NamesJ (syncA s).2.2 := by
  unfold syncA
  split <;> exact syncD_names h
theorem next_pos {j : Jn} : 1 ≤ nextJ j := by unfold nextJ; omega
theorem beginA_names {s : JS} (h : NamesJ s.2) (hb : nextJ s.1 < 4294967296) : NamesJ (beginA s).2.2 := by
  unfold beginA
  split
  · exact h
  split <;> exact makeD_names h (nameJ_seg ⟨next_pos, hb⟩)
theorem layA_names {x : List UInt8} {s : JS} (h : NamesJ s.2) : NamesJ (layA x s).2.2 := by
  unfold layA
  split
  · exact dropA_names (appD_names h)
  · exact appD_names h
theorem seqA_ind {P : JS → Prop} : ∀ {l : List JAct} {s : JS}, (∀ a ∈ l, ∀ s, P s → P (a s).2) → P s → P (seqA l s).2
  | [], _, _, h => h
  | a :: l, s, ha, h => by
    unfold seqA
    have h1 := ha a (by simp) s h
    split
    · exact seqA_ind (fun b hb => ha b (List.mem_cons_of_mem _ hb)) h1
    · exact h1
theorem shotA_names {st : List UInt8} {s : JS} (h : NamesJ s.2) : NamesJ (shotA st s).2.2 := by
  have key : NamesJ (seqA [dropA freshN, diskA fun _ d => makeD freshN d, layA (recL (padL 8 (nextJ s.1 - 1) ++ st)), diskA fun _ d => syncD freshN d, diskA fun _ d => renD freshN snapN d] s).2.2 := by
    refine seqA_ind (P := fun s => NamesJ s.2) (fun a ha s h => ?_) h
    simp only [List.mem_cons, List.mem_nil_iff, or_false] at ha
    rcases ha with rfl | rfl | rfl | rfl | rfl
    · exact dropA_names h
    · exact makeD_names h nameJ_fresh
    · exact layA_names h
    · exact syncD_names h
    · exact renD_names h nameJ_snap
  unfold shotA
  simp only
  split <;> exact key
theorem seqA_len : ∀ {l : List JAct} {k : Nat} {s : JS}, (∀ a ∈ l, ∀ s, (a s).2.2.fs.length ≤ s.2.fs.length + k) → (seqA l s).2.2.fs.length ≤ s.2.fs.length + l.length * k
  | [], k, s, _ => by simp [seqA]
  | a :: l, k, s, ha => by
    unfold seqA
    have h1 := ha a (by simp) s
    rw [List.length_cons, Nat.succ_mul]
    split
    · have := seqA_len (l := l) (k := k) (s := (a s).2) (fun b hb => ha b (List.mem_cons_of_mem _ hb))
      omega
    · omega
theorem shotA_len {st : List UInt8} {s : JS} : (shotA st s).2.2.fs.length ≤ s.2.fs.length + 10 := by
  have key : (seqA [dropA freshN, diskA fun _ d => makeD freshN d, layA (recL (padL 8 (nextJ s.1 - 1) ++ st)), diskA fun _ d => syncD freshN d, diskA fun _ d => renD freshN snapN d] s).2.2.fs.length ≤ s.2.fs.length + 10 := by
    refine seqA_len (k := 2) fun a ha s => ?_
    simp only [List.mem_cons, List.mem_nil_iff, or_false] at ha
    rcases ha with rfl | rfl | rfl | rfl | rfl
    · have := dropA_len (n := freshN) (s := s); omega
    · have := makeD_len (d := s.2) (n := freshN); simp only [diskA]; omega
    · exact layA_len
    · have := syncD_len (d := s.2) (n := freshN); simp only [diskA]; omega
    · have := renD_len (d := s.2) (a := freshN) (b := snapN); simp only [diskA]; omega
  unfold shotA
  simp only
  split <;> exact key
theorem shotA_next {st : List UInt8} {s : JS} : nextJ (shotA st s).2.1 = nextJ s.1 := by
  have key : (seqA [dropA freshN, diskA fun _ d => makeD freshN d, layA (recL (padL 8 (nextJ s.1 - 1) ++ st)), diskA fun _ d => syncD freshN d, diskA fun _ d => renD freshN snapN d] s).2.1 = s.1 := by
    refine seqA_ind (P := fun r => r.1 = s.1) (fun a ha r h => ?_) rfl
    simp only [List.mem_cons, List.mem_nil_iff, or_false] at ha
    rcases ha with rfl | rfl | rfl | rfl | rfl
    · rw [dropA_j]; exact h
    · exact h
    · rw [layA_j]; exact h
    · exact h
    · exact h
  unfold shotA
  simp only
  split
  · unfold nextJ; simp
  · rw [key]
theorem readSegA_names {n : Nat} {e : Bool} {s : JS} (h : NamesJ s.2) : NamesJ (readSegA n e s).2.2.2 := by
  unfold readSegA
  simp only
  split
  · exact remD_names h
  · have hc : NamesJ (if (scanL ((datF (nameL n) s.2).length + 1) (datF (nameL n) s.2)).2 < (datF (nameL n) s.2).length then cutD (nameL n) (scanL ((datF (nameL n) s.2).length + 1) (datF (nameL n) s.2)).2 s.2 else (0, s.2)).2 := by
      split
      · exact cutD_names h
      · exact h
    have key : ∀ (c : Int × Dk) (B : Bool) (J1 J2 : Jn), NamesJ c.2 → NamesJ (if c.1 ≠ 0 then (false, c.1, J1, c.2) else (B, (syncD (nameL n) c.2).1, J2, (syncD (nameL n) c.2).2) : Bool × Int × JS).2.2.2 := by
      intro c B J1 J2 hc
      split
      · exact hc
      · exact syncD_names hc
    exact key _ _ _ _ hc
theorem readSegA_len {n : Nat} {e : Bool} {s : JS} : (readSegA n e s).2.2.2.fs.length ≤ s.2.fs.length + 2 := by
  unfold readSegA
  simp only
  split
  · have := remD_len (d := s.2) (n := nameL n)
    simp only; omega
  · have hc : (if (scanL ((datF (nameL n) s.2).length + 1) (datF (nameL n) s.2)).2 < (datF (nameL n) s.2).length then cutD (nameL n) (scanL ((datF (nameL n) s.2).length + 1) (datF (nameL n) s.2)).2 s.2 else (0, s.2)).2.fs.length ≤ s.2.fs.length + 1 := by
      split
      · exact cutD_len
      · simp only; omega
    have key : ∀ (c : Int × Dk) (B : Bool) (J1 J2 : Jn), c.2.fs.length ≤ s.2.fs.length + 1 → (if c.1 ≠ 0 then (false, c.1, J1, c.2) else (B, (syncD (nameL n) c.2).1, J2, (syncD (nameL n) c.2).2) : Bool × Int × JS).2.2.2.fs.length ≤ s.2.fs.length + 2 := by
      intro c B J1 J2 hc
      split
      · simp only; omega
      · simp only
        refine Nat.le_trans syncD_len ?_
        omega
    exact key _ _ _ _ hc
theorem readL_names : ∀ {l : List Nat} {e : Bool} {s : JS}, NamesJ s.2 → NamesJ (readL l e s).2.2
  | [], _, _, h => h
  | n :: l, e, s, h => by
    unfold readL
    have h1 := readSegA_names (n := n) (e := e) h
    split
    · exact readL_names h1
    · exact h1
theorem readL_len : ∀ {l : List Nat} {e : Bool} {s : JS}, (readL l e s).2.2.fs.length ≤ s.2.fs.length + 2 * l.length
  | [], _, _ => by simp [readL]
  | n :: l, e, s => by
    unfold readL
    have h1 := readSegA_len (n := n) (e := e) (s := s)
    rw [List.length_cons]
    split
    · have := readL_len (l := l) (e := e || !(readSegA n e s).1) (s := (readSegA n e s).2.2)
      omega
    · omega
theorem segsOf_len {d : Dk} : (segsOf d).length ≤ d.fs.length := by
  unfold segsOf
  rw [List.length_map]
  have h1 : (srtI (segL d.fs)).length = (segL d.fs).length := List.length_mergeSort _
  have h2 : (segL d.fs).length ≤ (d.fs.map (·.name)).length := List.length_filterMap_le _ _
  rw [List.length_map] at h2
  omega
theorem readSnapA_d {s : JS} : (readSnapA s).2.2 = s.2 := by
  unfold readSnapA
  split <;> rfl
theorem settleA_names {s : JS} (h : NamesJ s.2) (hb : nextJ s.1 < 4294967296) : NamesJ (settleA s).2.2 := by
  unfold settleA
  split
  · exact h
  · exact beginA_names h hb
theorem settleA_len {s : JS} : (settleA s).2.2.fs.length ≤ s.2.fs.length + 1 := by
  unfold settleA
  split
  · simp only; omega
  · exact beginA_len
theorem settleA_next {s : JS} : nextJ (settleA s).2.1 = nextJ s.1 := by
  unfold settleA
  split
  · rfl
  · exact beginA_next
theorem cleanL_j : ∀ {l : List Nat} {s : JS}, (cleanL l s).2.1 = s.1
  | [], _ => rfl
  | n :: l, s => by
    unfold cleanL
    simp only
    split
    · exact cleanL_j
    split
    · exact (cleanL_j (l := l) (s := (s.1, (remD (nameL n) s.2).2)))
    · rfl
attribute [local irreducible] fBuild fLook fZero eqv bEqv Cl MapH LsH SlH ld1 ldN st callP eBox eAlloc lenM lenL eMapSet eDelete eAppend eBuildSl eRange eNext
section
variable {w0 w : World} {L : List HP} {K : Value → World → Prop} {v dv : Value} {j : Jn} {d : Dk} {n : Nat}
theorem compact_spec {st : List UInt8} (W : JW w0) (hst : st.length ≤ 65528) (hc : d.fs.length ≤ 10000000) (hn : NamesJ d) (hb : nextJ j < 4294967296) (h : Sat w0 (JrP v j dv :: DiskA dv d :: L) w)
    (hK : ∀ w', Sat w0 (JrP v (compactA st (j, d)).2.1 dv :: DiskA dv (compactA st (j, d)).2.2 :: L) w' → K (.int .i64 (compactA st (j, d)).1) w') : callP G11 [v, .string (bs st)] w K := by
  refine c11 ?_
  unfold F11
  obtain ⟨p, hp⟩ := jptr h
  subst hp
  refine go_box h rfl fun q _ h => ?_
  refine go_box h rfl fun q2 _ h => ?_
  have e : decide ((st.length : Int) > 65528) = false := by simp; omega
  (repeat (first
 | (simp (disch := omega) only [evA, evB, evC, bAdd_i64, bSub_i64, e])
 | (with_reducible apply go_ld1 h)
 | ((with_reducible first | apply go_ldA h | apply go_rd h | apply go_rdN h | apply go_rlen h); rfl)
 | (with_reducible first | apply go_ldN h | apply go_lenL h)
 | ((with_reducible apply go_st h); intro _ h)
 | ((with_reducible apply go_stA h); rfl; rfl; (first | rfl | simp [OneV.o]); intro _ h)
 | ((with_reducible apply go_stN h); rfl; (first | rfl | simp [OneV.o]); intro _ h)
 | ((with_reducible apply go_box h); rfl; intro _ _ h)
 | ((with_reducible apply go_ix h); omega)
 | ((with_reducible first | apply go_elN h | apply go_f1 h | apply go_rf1 h | apply go_rel h); (case hi => omega); (try case hx => exact inferInstance); (try case hv => rfl))
 | ((with_reducible apply go_fa h); omega; omega)
))
  have hfn : fBuildSl Tryz.prog 37 4 [(0, funV (12, [ptr p], [])), (1, funV (30, [], [ptr q, ptr q2])), (2, funV (32, [ptr p], [])), (3, funV (25, [ptr p], []))] = some (([(12, [ptr p], []), (30, [], [ptr q, ptr q2]), (32, [ptr p], []), (25, [ptr p], [])] : List FnV).flatMap cFn).toArray := by kernel_rfl
  refine ls_lit (m := [(12, [ptr p], []), (30, [], [ptr q, ptr q2]), (32, [ptr p], []), (25, [ptr p], [])]) CFn h u60 hfn rfl fun sv w h => ?_
  refine cg19 (n := 4) ?_
  refine steps_spec (v := ptr p) (dv := dv) (s := (j, d)) (fs := [((12, [ptr p], []), syncA), ((30, [], [ptr q, ptr q2]), shotA st), ((32, [ptr p], []), beginA), ((25, [ptr p], []), cleanA)]) (L := Cl q #[ptr p] 29 :: Cl q2 #[.string (bs st)] 9 :: L) (by simp) ?_ (h.got) fun w h => ?_
  · have l1 := syncA_len (s := (j, d))
    have l2 := shotA_len (st := st) (s := (syncA (j, d)).2)
    have l3 := beginA_len (s := (shotA st (syncA (j, d)).2).2)
    have l0 : (j, d).2.fs.length = d.fs.length := rfl
    have n1 := syncA_next (s := (j, d))
    have n2 := shotA_next (st := st) (s := (syncA (j, d)).2)
    have n3 := beginA_next (s := (shotA st (syncA (j, d)).2).2)
    have n0 : nextJ (j, d).1 = nextJ j := rfl
    have m1 : NamesJ (syncA (j, d)).2.2 := syncA_names hn
    have m2 : NamesJ (shotA st (syncA (j, d)).2).2.2 := shotA_names m1
    have m3 : NamesJ (beginA (shotA st (syncA (j, d)).2).2).2.2 := beginA_names m2 (by omega)
    refine ⟨fun w K h hK => ?_, fun _ => ⟨fun w K h hK => ?_, fun _ => ⟨fun w K h hK => ?_, fun _ => ⟨fun w K h hK => ?_, fun _ => trivial⟩⟩⟩⟩
    · show callP (tabOf (T19 _ _ _ _) 12) _ _ _
      exact jsync_spec (show nextJ j < 4611686018427387904 by omega) h hK
    · show callP (tabOf (T19 _ _ _ _) 30) _ _ _
      refine cn30 2 ?_
      unfold F30
      (repeat (first
 | (simp (disch := omega) only [evA, evB, evC, bAdd_i64, bSub_i64])
 | (with_reducible apply go_ld1 h)
 | ((with_reducible first | apply go_ldA h | apply go_rd h | apply go_rdN h | apply go_rlen h); rfl)
 | (with_reducible first | apply go_ldN h | apply go_lenL h)
 | ((with_reducible apply go_st h); intro _ h)
 | ((with_reducible apply go_stA h); rfl; rfl; (first | rfl | simp [OneV.o]); intro _ h)
 | ((with_reducible apply go_stN h); rfl; (first | rfl | simp [OneV.o]); intro _ h)
 | ((with_reducible apply go_box h); rfl; intro _ _ h)
 | ((with_reducible apply go_ix h); omega)
 | ((with_reducible first | apply go_elN h | apply go_f1 h | apply go_rf1 h | apply go_rel h); (case hi => omega); (try case hx => exact inferInstance); (try case hv => rfl))
 | ((with_reducible apply go_fa h); omega; omega)
))
      exact shot_spec (q := 0) W hst (by omega) (by omega) h hK
    · show callP (tabOf (T19 _ _ _ _) 32) _ _ _
      exact begin_spec W.bru (by omega) (by omega) h hK
    · show callP (tabOf (T19 _ _ _ _) 25) _ _ _
      exact clean_spec W (by omega) m3 (by omega) h hK
  · exact hK w (h.got)
theorem open_spec' {pd : Nat} {long : Int} (W : JW w0) (hlong : 1 ≤ long ∧ long ≤ 1073741824) (hc : d.fs.length ≤ 10000000) (hn : NamesJ d)
    (hr : okRead (segsOf (dropA freshN (freshJ long, d)).2.2) false (readSnapA (dropA freshN (freshJ long, d)).2).2) (hx : nextJ (readA (readSnapA (dropA freshN (freshJ long, d)).2).2).2.1 < 4294967296) (h : Sat w0 (DiskA (ptr pd) d :: L) w)
    (hK0 : (openA long d).1 ≠ 0 → ∀ w', Sat w0 (DiskA (ptr pd) (openA long d).2.2 :: L) w' → K (.tuple #[.pointer none, .int .i64 (openA long d).1]) w')
    (hK1 : (openA long d).1 = 0 → ∀ p w', Sat w0 (JrP (ptr p) (openA long d).2.1 (ptr pd) :: DiskA (ptr pd) (openA long d).2.2 :: L) w' → K (.tuple #[ptr p, .int .i64 0]) w') : callP G7 [ptr pd, .int .i64 long] w K := by
  refine c7 ?_
  unfold F7
  have b1 : decide (long < 1) = false := by simp; omega
  have b2 : decide (long > 1073741824) = false := by simp; omega
  rw [show ptr pd = .pointer (some ⟨pd, 0, none⟩) from rfl, bEq_nilp up25]
  (repeat (first
 | (simp (disch := omega) only [evA, evB, evC, bAdd_i64, bSub_i64, b1, b2])
 | (with_reducible apply go_ld1 h)
 | ((with_reducible first | apply go_ldA h | apply go_rd h | apply go_rdN h | apply go_rlen h); rfl)
 | (with_reducible first | apply go_ldN h | apply go_lenL h)
 | ((with_reducible apply go_st h); intro _ h)
 | ((with_reducible apply go_stA h); rfl; rfl; (first | rfl | simp [OneV.o]); intro _ h)
 | ((with_reducible apply go_stN h); rfl; (first | rfl | simp [OneV.o]); intro _ h)
 | ((with_reducible apply go_box h); rfl; intro _ _ h)
 | ((with_reducible apply go_ix h); omega)
 | ((with_reducible first | apply go_elN h | apply go_f1 h | apply go_rf1 h | apply go_rel h); (case hi => omega); (try case hx => exact inferInstance); (try case hv => rfl))
 | ((with_reducible apply go_fa h); omega; omega)
))
  have hfb : fBuild Tryz.prog 52 [(0, .pointer (some ⟨pd, 0, none⟩)), (1, .int .i64 long)] = some (.agg #[ptr pd, .int .i64 long, .int .i64 0, .string (bs []), .slice none 0 0, .int .i64 0, .string (bs [])]) := by kernel_rfl
  rw [hfb]
  simp only [bindP_some]
  refine go_box h rfl fun p _ h => ?_
  have h0 : Sat w0 (JCl p (freshJ long) (ptr pd) (.slice none 0 0) :: LsH cSt 1 9 (.slice none 0 0) (freshJ long).recs :: DiskA (ptr pd) d :: L) _ := (Sat.nilLs cSt 1 9 h).f1
  have h := jclose h0
  refine go_alloc h z29 rfl fun q _ h => ?_
  (repeat (first
 | (simp (disch := omega) only [evA, evB, evC, bAdd_i64, bSub_i64])
 | (with_reducible apply go_ld1 h)
 | ((with_reducible first | apply go_ldA h | apply go_rd h | apply go_rdN h | apply go_rlen h); rfl)
 | (with_reducible first | apply go_ldN h | apply go_lenL h)
 | ((with_reducible apply go_st h); intro _ h)
 | ((with_reducible apply go_stA h); rfl; rfl; (first | rfl | simp [OneV.o]); intro _ h)
 | ((with_reducible apply go_stN h); rfl; (first | rfl | simp [OneV.o]); intro _ h)
 | ((with_reducible apply go_box h); rfl; intro _ _ h)
 | ((with_reducible apply go_ix h); omega)
 | ((with_reducible first | apply go_elN h | apply go_f1 h | apply go_rf1 h | apply go_rel h); (case hi => omega); (try case hx => exact inferInstance); (try case hv => rfl))
 | ((with_reducible apply go_fa h); omega; omega)
))
  have hfn : fBuildSl Tryz.prog 37 5 [(0, funV (20, [], [ptr q])), (1, funV (22, [ptr p], [])), (2, funV (23, [ptr p], [])), (3, funV (24, [ptr p], [])), (4, funV (25, [ptr p], []))] = some (([(20, [], [ptr q]), (22, [ptr p], []), (23, [ptr p], []), (24, [ptr p], []), (25, [ptr p], [])] : List FnV).flatMap cFn).toArray := by kernel_rfl
  refine ls_lit (m := [(20, [], [ptr q]), (22, [ptr p], []), (23, [ptr p], []), (24, [ptr p], []), (25, [ptr p], [])]) CFn h u60 hfn rfl fun sv w h => ?_
  refine cg19 (n := 1) ?_
  refine steps_spec (v := ptr p) (dv := ptr pd) (s := (freshJ long, d)) (fs := [((20, [], [ptr q]), dropA freshN), ((22, [ptr p], []), readSnapA), ((23, [ptr p], []), readA), ((24, [ptr p], []), settleA), ((25, [ptr p], []), cleanA)]) (L := Cl q #[ptr p] 29 :: L) (by simp) ?_ (h.got) fun w h => ?_
  · have l0 : (freshJ long, d).2.fs.length = d.fs.length := rfl
    have l1 := dropA_len (n := freshN) (s := (freshJ long, d))
    have m1 : NamesJ (dropA freshN (freshJ long, d)).2.2 := dropA_names hn
    have hd2 : (readSnapA (dropA freshN (freshJ long, d)).2).2.2 = (dropA freshN (freshJ long, d)).2.2 := readSnapA_d
    have l2 : (readSnapA (dropA freshN (freshJ long, d)).2).2.2.fs.length = (dropA freshN (freshJ long, d)).2.2.fs.length := by rw [hd2]
    have m2 : NamesJ (readSnapA (dropA freshN (freshJ long, d)).2).2.2 := by rw [hd2]; exact m1
    rw [← hd2] at hr
    have l3 : (readA (readSnapA (dropA freshN (freshJ long, d)).2).2).2.2.fs.length ≤ (readSnapA (dropA freshN (freshJ long, d)).2).2.2.fs.length + 2 * (segsOf (readSnapA (dropA freshN (freshJ long, d)).2).2.2).length := readL_len
    have l4 := segsOf_len (d := (readSnapA (dropA freshN (freshJ long, d)).2).2.2)
    have m3 : NamesJ (readA (readSnapA (dropA freshN (freshJ long, d)).2).2).2.2 := readL_names m2
    have l5 := settleA_len (s := (readA (readSnapA (dropA freshN (freshJ long, d)).2).2).2)
    have m4 : NamesJ (settleA (readA (readSnapA (dropA freshN (freshJ long, d)).2).2).2).2.2 := settleA_names m3 hx
    have n4 := settleA_next (s := (readA (readSnapA (dropA freshN (freshJ long, d)).2).2).2)
    refine ⟨fun w K h hK => ?_, fun _ => ⟨fun w K h hK => ?_, fun _ => ⟨fun w K h hK => ?_, fun _ => ⟨fun w K h hK => ?_, fun _ => ⟨fun w K h hK => ?_, fun _ => trivial⟩⟩⟩⟩⟩
    · show callP (tabOf (T19 _ _ _ _) 20) _ _ _
      have h3 : Sat w0 (JrP (ptr p) (freshJ long) (ptr pd) :: DiskA (ptr pd) d :: Cl q #[ptr p] 29 :: LsH cFn 1 37 sv [(20, [], [ptr q]), (22, [ptr p], []), (23, [ptr p], []), (24, [ptr p], []), (25, [ptr p], [])] :: L) w := h.got
      exact open1_spec (by omega) h3 fun w h => hK w (h.got)
    · show callP (tabOf (T19 _ _ _ _) 22) _ _ _
      exact readsnap_spec W.half h hK
    · show callP (tabOf (T19 _ _ _ _) 23) _ _ _
      exact readsegs_spec W (by omega) m2 hr h hK
    · show callP (tabOf (T19 _ _ _ _) 24) _ _ _
      exact settle_spec W.bru (by omega) hx h hK
    · show callP (tabOf (T19 _ _ _ _) 25) _ _ _
      exact clean_spec W (by omega) m4 (by omega) h hK
  · have hseq : (seqA (([((20, [], [ptr q]), dropA freshN), ((22, [ptr p], []), readSnapA), ((23, [ptr p], []), readA), ((24, [ptr p], []), settleA), ((25, [ptr p], []), cleanA)] : List (FnV × JAct)).map Prod.snd) (freshJ long, d)) = openL' (freshJ long, d) := rfl
    rw [hseq] at h ⊢
    have hnx : (openL' (freshJ long, d)).1 = 0 → nextJ (openL' (freshJ long, d)).2.1 < 4294967296 := by
      unfold openL'
      simp only [seqA]
      split
      · split
        · split
          · split
            · split
              · intro _
                rw [show ∀ s, (cleanA s).2.1 = s.1 from fun s => cleanL_j, settleA_next]
                exact hx
              · intro h0; exact absurd h0 (by assumption)
            · intro h0; exact absurd h0 (by assumption)
          · intro h0; exact absurd h0 (by assumption)
        · intro h0; exact absurd h0 (by assumption)
      · intro h0; exact absurd h0 (by assumption)
    unfold openA at hK0 hK1
    simp only at hK0 hK1
    generalize openL' (freshJ long, d) = r at h hK0 hK1 hnx
    obtain ⟨c, j2, d2⟩ := r
    simp only at h hK0 hK1 hnx ⊢
    by_cases g : c = 0
    · subst g
      rw [if_pos rfl] at hK1
      have hnx := hnx rfl
      (repeat (first
 | (simp (disch := omega) only [evA, evB, evC, bAdd_i64, bSub_i64])
 | (with_reducible apply go_ld1 h)
 | ((with_reducible first | apply go_ldA h | apply go_rd h | apply go_rdN h | apply go_rlen h); rfl)
 | (with_reducible first | apply go_ldN h | apply go_lenL h)
 | ((with_reducible apply go_st h); intro _ h)
 | ((with_reducible apply go_stA h); rfl; rfl; (first | rfl | simp [OneV.o]); intro _ h)
 | ((with_reducible apply go_stN h); rfl; (first | rfl | simp [OneV.o]); intro _ h)
 | ((with_reducible apply go_box h); rfl; intro _ _ h)
 | ((with_reducible apply go_ix h); omega)
 | ((with_reducible first | apply go_elN h | apply go_f1 h | apply go_rf1 h | apply go_rel h); (case hi => omega); (try case hx => exact inferInstance); (try case hv => rfl))
 | ((with_reducible apply go_fa h); omega; omega)
))
      refine jnext_spec (L := DiskA (ptr pd) d2 :: Cl q #[ptr p] 29 :: L) (h.drew.got) (by omega) fun w h => ?_
      obtain ⟨p', rv, hp, h2⟩ := jopen h
      obtain rfl : p = p' := by simpa [ptr] using hp
      clear h
      have h := h2
      clear h2
      have hn1 : 1 ≤ nextJ j2 := next_pos
      have e9 : ((nextJ j2 - 1 : Nat) : Int) = (nextJ j2 : Int) - 1 := by omega
      (repeat (first
 | (simp (disch := omega) only [evA, evB, evC, bAdd_i64, bSub_i64])
 | (with_reducible apply go_ld1 h)
 | ((with_reducible first | apply go_ldA h | apply go_rd h | apply go_rdN h | apply go_rlen h); rfl)
 | (with_reducible first | apply go_ldN h | apply go_lenL h)
 | ((with_reducible apply go_st h); intro _ h)
 | ((with_reducible apply go_stA h); rfl; rfl; (first | rfl | simp [OneV.o]); intro _ h)
 | ((with_reducible apply go_stN h); rfl; (first | rfl | simp [OneV.o]); intro _ h)
 | ((with_reducible apply go_box h); rfl; intro _ _ h)
 | ((with_reducible apply go_ix h); omega)
 | ((with_reducible first | apply go_elN h | apply go_f1 h | apply go_rf1 h | apply go_rel h); (case hi => omega); (try case hx => exact inferInstance); (try case hv => rfl))
 | ((with_reducible apply go_fa h); omega; omega)
))
      rw [← e9] at h
      exact hK1 rfl p _ (jclose (j := { j2 with safe := nextJ j2 - 1 }) (h.got))
    · rw [if_neg g] at hK0
      have e : decide (c = 0) = false := by simpa using g
      (repeat (first
 | (simp (disch := omega) only [evA, evB, evC, bAdd_i64, bSub_i64, e])
 | (with_reducible apply go_ld1 h)
 | ((with_reducible first | apply go_ldA h | apply go_rd h | apply go_rdN h | apply go_rlen h); rfl)
 | (with_reducible first | apply go_ldN h | apply go_lenL h)
 | ((with_reducible apply go_st h); intro _ h)
 | ((with_reducible apply go_stA h); rfl; rfl; (first | rfl | simp [OneV.o]); intro _ h)
 | ((with_reducible apply go_stN h); rfl; (first | rfl | simp [OneV.o]); intro _ h)
 | ((with_reducible apply go_box h); rfl; intro _ _ h)
 | ((with_reducible apply go_ix h); omega)
 | ((with_reducible first | apply go_elN h | apply go_f1 h | apply go_rf1 h | apply go_rel h); (case hi => omega); (try case hx => exact inferInstance); (try case hv => rfl))
 | ((with_reducible apply go_fa h); omega; omega)
))
      exact hK0 g w (h.got)
end
end Go.Proofs.Gong

/- Jp0 -/
namespace Go.Proofs.Gong
open Go Go.Sx Go.Proofs
set_option maxRecDepth 100000
theorem lex_append : ∀ {x y : List UInt8} (u v : List UInt8), x.length = y.length → x < y → x ++ u < y ++ v
  | [], [], _, _, _, h => absurd h (List.lt_irrefl _)
  | [], _ :: _, _, _, h, _ => by simp at h
  | _ :: _, [], _, _, h, _ => by simp at h
  | a :: x, b :: y, u, v, hl, h => by
    rw [List.cons_append, List.cons_append]
    rcases List.cons_lt_cons_iff.1 h with h | ⟨h1, h2⟩
    · exact List.cons_lt_cons_iff.2 (.inl h)
    · exact List.cons_lt_cons_iff.2 (.inr ⟨h1, lex_append u v (by simpa using hl) h2⟩)
theorem lex_same : ∀ (p : List UInt8) {x y : List UInt8}, x < y → p ++ x < p ++ y
  | [], _, _, h => h
  | a :: p, _, _, h => List.cons_lt_cons_iff.2 (.inr ⟨rfl, lex_same p h⟩)
theorem hx_lt {a b : Nat} (h : a < b) (hb : b < 16) : hx a < hx b := by
  have e : ∀ x : Fin 16, ∀ y : Fin 16, x.val < y.val → hx x.val < hx y.val := by decide
  exact e ⟨a, by omega⟩ ⟨b, hb⟩ h
theorem digs_order : ∀ (k a b : Nat), a < b → b < 16 ^ k → (digs k a).map hx < (digs k b).map hx
  | 0, a, b, h, hb => by simp at hb; omega
  | k + 1, a, b, h, hb => by
    rw [digs, digs, List.map_append, List.map_append]
    rw [Nat.pow_succ] at hb
    by_cases g : a / 16 < b / 16
    · exact lex_append _ _ (by simp [digs_len]) (digs_order k _ _ g (by omega))
    · have e : a / 16 = b / 16 := by omega
      rw [e]
      refine lex_same _ (List.cons_lt_cons_iff.2 (.inl (hx_lt (by omega) (by omega))))
theorem nameL_lt {a b : Nat} (h : a < b) (hb : b < 4294967296) : ltS (nameL a) (nameL b) = true := by
  simp only [ltS, decide_eq_true_eq]
  exact lex_same preL (digs_order 8 a b h (by omega))
theorem nameL_lt_s (a : Nat) (t : List UInt8) : ltS (nameL a) (115 :: t) = true := by
  have h : nameL a < 115 :: t := by
    simp only [nameL, preL, List.cons_append]
    exact List.cons_lt_cons_iff.2 (.inl (show (108 : UInt8) < 115 by decide))
  simpa [ltS] using h
theorem snap_lt_fresh : ltS snapN freshN = true := by decide
structure Sg where
  n : Nat
  rs : List (List UInt8)
  q : Nat
def sgFil (g : Sg) : Fil := ⟨nameL g.n, g.rs.flatMap recL, ((g.rs.take g.q).flatMap recL).length⟩
def snFil (x : Nat × List UInt8) : Fil := ⟨snapN, recL (padL 8 x.1 ++ x.2), (recL (padL 8 x.1 ++ x.2)).length⟩
def fsOf (segs : List Sg) (sn : Option (Nat × List UInt8)) (fr : Option (List UInt8 × Nat)) : List Fil := segs.map sgFil ++ (sn.map snFil).toList ++ (fr.map fun x => ⟨freshN, x.1, x.2⟩).toList
def AscS (segs : List Sg) : Prop := segs.Pairwise (fun a b => a.n < b.n) ∧ ∀ g ∈ segs, 1 ≤ g.n ∧ g.n < 4294967296
theorem fsOf_asc {segs : List Sg} {sn : Option (Nat × List UInt8)} {fr : Option (List UInt8 × Nat)} (h : AscS segs) : KAsc ltS fKey (fsOf segs sn fr) := by
  unfold KAsc fsOf
  rw [List.append_assoc, List.pairwise_append]
  refine ⟨?_, ?_, ?_⟩
  · rw [List.pairwise_map]
    refine List.Pairwise.imp_of_mem (fun {a b} ha hb hab => ?_) h.1
    exact nameL_lt hab (h.2 b hb).2
  · cases sn with
    | none => cases fr <;> simp
    | some x =>
      cases fr with
      | none => simp
      | some y =>
        simp only [Option.map_some, Option.toList_some, List.singleton_append, List.pairwise_cons, List.mem_singleton, List.Pairwise.nil, and_true, forall_eq, List.not_mem_nil, false_implies, implies_true]
        exact snap_lt_fresh
  · intro a ha b hb
    obtain ⟨g, _, rfl⟩ := List.mem_map.1 ha
    have : ∃ t, b.name = 115 :: t := by
      cases sn <;> cases fr <;> simp at hb
      · subst hb; exact ⟨_, rfl⟩
      · subst hb; exact ⟨_, rfl⟩
      · rcases hb with rfl | rfl <;> exact ⟨_, rfl⟩
    obtain ⟨t, ht⟩ := this
    show ltS (nameL g.n) b.name = true
    rw [ht]; exact nameL_lt_s _ _
section
variable {segs : List Sg} {sn : Option (Nat × List UInt8)} {fr : Option (List UInt8 × Nat)}
theorem nameL_s (n : Nat) (t : List UInt8) : nameL n ≠ 115 :: t := by
  intro h; simp [nameL, preL] at h
theorem mem_fsOf {f : Fil} : f ∈ fsOf segs sn fr ↔ (∃ g ∈ segs, f = sgFil g) ∨ (∃ x, sn = some x ∧ f = snFil x) ∨ (∃ x, fr = some x ∧ f = ⟨freshN, x.1, x.2⟩) := by
  unfold fsOf
  simp only [List.mem_append, List.mem_map, Option.mem_toList]
  constructor
  · rintro ((⟨g, h1, rfl⟩ | h) | h)
    · exact .inl ⟨g, h1, rfl⟩
    · cases sn with
      | none => simp at h
      | some x => simp at h; exact .inr (.inl ⟨x, rfl, h.symm⟩)
    · cases fr with
      | none => simp at h
      | some x => simp at h; exact .inr (.inr ⟨x, rfl, h.symm⟩)
  · rintro (⟨g, h1, rfl⟩ | ⟨x, rfl, rfl⟩ | ⟨x, rfl, rfl⟩)
    · exact .inl (.inl ⟨g, h1, rfl⟩)
    · exact .inl (.inr (by simp))
    · exact .inr (by simp)
theorem get_seg (h : AscS segs) {g : Sg} (hg : g ∈ segs) : fGet (nameL g.n) (fsOf segs sn fr) = some (sgFil g) :=
  kGet_of (key := fKey) STO.txt (fsOf_asc h) (x := sgFil g) (mem_fsOf.2 (.inl ⟨g, hg, rfl⟩))
theorem get_noseg (h : AscS segs) {n : Nat} (hn : n < 4294967296) (hg : ∀ g ∈ segs, g.n ≠ n) : fGet (nameL n) (fsOf segs sn fr) = none := by
  refine kGet_none.2 fun f hf e => ?_
  have e : f.name = nameL n := e
  rcases mem_fsOf.1 hf with ⟨g, h1, rfl⟩ | ⟨x, rfl, rfl⟩ | ⟨x, rfl, rfl⟩
  · exact hg g h1 (nameL_inj (h.2 g h1).2 hn e)
  · exact nameL_s n _ e.symm
  · exact nameL_s n _ e.symm
theorem get_snap (h : AscS segs) : fGet snapN (fsOf segs sn fr) = sn.map snFil := by
  cases sn with
  | none =>
    refine kGet_none.2 fun f hf e => ?_
    have e : f.name = snapN := e
    rcases mem_fsOf.1 hf with ⟨g, h1, rfl⟩ | ⟨x, hx, rfl⟩ | ⟨x, rfl, rfl⟩
    · exact nameL_s g.n _ e
    · cases hx
    · simp [freshN, snapN] at e
  | some x => exact kGet_of (key := fKey) STO.txt (fsOf_asc h) (x := snFil x) (mem_fsOf.2 (.inr (.inl ⟨x, rfl, rfl⟩)))
theorem get_fresh (h : AscS segs) : fGet freshN (fsOf segs sn fr) = fr.map fun x => ⟨freshN, x.1, x.2⟩ := by
  cases fr with
  | none =>
    refine kGet_none.2 fun f hf e => ?_
    have e : f.name = freshN := e
    rcases mem_fsOf.1 hf with ⟨g, h1, rfl⟩ | ⟨x, rfl, rfl⟩ | ⟨x, hx, rfl⟩
    · exact nameL_s g.n _ e
    · simp [snFil, freshN, snapN] at e
    · cases hx
  | some x => exact kGet_of (key := fKey) STO.txt (fsOf_asc h) (x := ⟨freshN, x.1, x.2⟩) (mem_fsOf.2 (.inr (.inr ⟨x, rfl, rfl⟩)))
theorem has_of {n : List UInt8} {d : Dk} : hasF n d = (fGet n d.fs).isSome := by
  unfold hasF
  cases h : fGet n d.fs with
  | none =>
    have := kGet_none.1 h
    simp only [Option.isSome_none, decide_eq_false_iff_not, List.mem_map]
    rintro ⟨f, hf, e⟩
    exact this f hf e
  | some f =>
    obtain ⟨h1, h2⟩ := kGet_mem h
    simp only [Option.isSome_some, decide_eq_true_eq, List.mem_map]
    exact ⟨f, h1, h2⟩
end
end Go.Proofs.Gong

/- Jp1 -/
namespace Go.Proofs.Gong
open Go Go.Sx Go.Proofs
set_option maxRecDepth 100000
section
variable {segs a b : List Sg} {g g' : Sg} {sn : Option (Nat × List UInt8)} {fr : Option (List UInt8 × Nat)}
theorem fsOf_mid : fsOf (a ++ g :: b) sn fr = a.map sgFil ++ sgFil g :: (b.map sgFil ++ (sn.map snFil).toList ++ (fr.map fun x => ⟨freshN, x.1, x.2⟩).toList) := by
  unfold fsOf; simp
theorem asc_ne (h : AscS (a ++ g :: b)) : (∀ x ∈ a, x.n ≠ g.n) ∧ (∀ x ∈ b, x.n ≠ g.n) := by
  have h1 := h.1
  rw [List.pairwise_append] at h1
  refine ⟨fun x hx e => ?_, fun x hx e => ?_⟩
  · have := h1.2.2 x hx g (by simp); omega
  · have := (List.pairwise_cons.1 h1.2.1).1 x hx; omega
theorem mid_ne (h : AscS (a ++ g :: b)) : (∀ f ∈ a.map sgFil, fKey f ≠ nameL g.n) ∧ (∀ f ∈ b.map sgFil ++ (sn.map snFil).toList ++ (fr.map fun x => (⟨freshN, x.1, x.2⟩ : Fil)).toList, fKey f ≠ nameL g.n) := by
  obtain ⟨h1, h2⟩ := asc_ne h
  have hlt := (h.2 g (by simp)).2
  refine ⟨fun f hf e => ?_, fun f hf e => ?_⟩
  · obtain ⟨x, hx, rfl⟩ := List.mem_map.1 hf
    exact h1 x hx (nameL_inj (h.2 x (by simp [hx])).2 hlt e)
  · have hf : f ∈ fsOf b sn fr := hf
    rcases mem_fsOf.1 hf with ⟨x, hx, rfl⟩ | ⟨x, _, rfl⟩ | ⟨x, _, rfl⟩
    · exact h2 x hx (nameL_inj (h.2 x (by simp [hx])).2 hlt e)
    · exact nameL_s g.n _ e.symm
    · exact nameL_s g.n _ e.symm
theorem put_mid (h : AscS (a ++ g :: b)) (e : g'.n = g.n) : fPut (sgFil g') (fsOf (a ++ g :: b) sn fr) = fsOf (a ++ g' :: b) sn fr := by
  obtain ⟨h1, h2⟩ := mid_ne (sn := sn) (fr := fr) h
  have hk : fKey (sgFil g) = fKey (sgFil g') := by show nameL g.n = nameL g'.n; rw [e]
  have he : fKey (sgFil g') = nameL g.n := by show nameL g'.n = nameL g.n; rw [e]
  unfold fPut
  rw [kPut_rep (key := fKey) STO.txt (fsOf_asc h) (b := sgFil g) (mem_fsOf.2 (.inl ⟨g, by simp, rfl⟩)) hk, fsOf_mid, kRep_split (key := fKey) hk (fun d hd => by rw [he]; exact h1 d hd) (fun d hd => by rw [he]; exact h2 d hd), fsOf_mid]
theorem del_mid (h : AscS (a ++ g :: b)) : fDel (nameL g.n) (fsOf (a ++ g :: b) sn fr) = fsOf (a ++ b) sn fr := by
  obtain ⟨h1, h2⟩ := mid_ne (sn := sn) (fr := fr) h
  have := kDel_split (key := fKey) (x := sgFil g) h1 h2
  rw [fsOf_mid]
  refine this.trans ?_
  unfold fsOf; simp
theorem asc_snoc (h : AscS segs) (hg : 1 ≤ g.n ∧ g.n < 4294967296) (hl : ∀ x ∈ segs, x.n < g.n) : AscS (segs ++ [g]) := by
  refine ⟨?_, fun x hx => ?_⟩
  · rw [List.pairwise_append]
    exact ⟨h.1, by simp, fun x hx y hy => by simp at hy; subst hy; exact hl x hx⟩
  · rcases List.mem_append.1 hx with hx | hx
    · exact h.2 x hx
    · simp at hx; subst hx; exact hg
theorem put_snoc (h : AscS segs) (hg : 1 ≤ g.n ∧ g.n < 4294967296) (hl : ∀ x ∈ segs, x.n < g.n) : fPut (sgFil g) (fsOf segs sn fr) = fsOf (segs ++ [g]) sn fr := by
  refine kasc_unique STO.txt (kPut_asc STO.txt (fsOf_asc h)) (fsOf_asc (asc_snoc h hg hl)) ?_
  refine (kPut_perm (lt := ltS) (key := fKey) _ _).trans ?_
  have e : kDel fKey (fKey (sgFil g)) (fsOf segs sn fr) = fsOf segs sn fr := by
    refine kDel_id fun f hf e => ?_
    have : fGet (nameL g.n) (fsOf segs sn fr) = none := get_noseg h hg.2 fun x hx e => by have := hl x hx; omega
    exact kGet_none.1 this f hf e
  rw [e]
  unfold fsOf
  simp only [List.map_append, List.map_cons, List.map_nil, List.append_assoc, List.singleton_append]
  exact List.perm_middle.symm
theorem del_fresh : fDel freshN (fsOf segs sn fr) = fsOf segs sn none := by
  unfold fsOf fDel kDel
  rw [List.filter_append, List.filter_append]
  have e1 : (segs.map sgFil).filter (fun x => decide (fKey x ≠ freshN)) = segs.map sgFil := by
    refine List.filter_eq_self.2 fun f hf => ?_
    obtain ⟨x, _, rfl⟩ := List.mem_map.1 hf
    exact decide_eq_true fun e => nameL_s x.n _ e
  have e2 : ((sn.map snFil).toList).filter (fun x => decide (fKey x ≠ freshN)) = (sn.map snFil).toList := by
    cases sn with
    | none => rfl
    | some x =>
      have : snapN ≠ freshN := by decide
      simp [snFil, this]
  rw [e1, e2]
  cases fr <;> simp
theorem del_snap : fDel snapN (fsOf segs sn fr) = fsOf segs none fr := by
  unfold fsOf fDel kDel
  rw [List.filter_append, List.filter_append]
  have e1 : (segs.map sgFil).filter (fun x => decide (fKey x ≠ snapN)) = segs.map sgFil := by
    refine List.filter_eq_self.2 fun f hf => ?_
    obtain ⟨x, _, rfl⟩ := List.mem_map.1 hf
    exact decide_eq_true fun e => nameL_s x.n _ e
  rw [e1]
  have hne : freshN ≠ snapN := by decide
  cases sn <;> cases fr <;> simp [snFil, hne]
theorem put_fresh (h : AscS segs) (x : List UInt8) (s : Nat) : fPut ⟨freshN, x, s⟩ (fsOf segs sn fr) = fsOf segs sn (some (x, s)) := by
  refine kasc_unique STO.txt (kPut_asc STO.txt (fsOf_asc h)) (fsOf_asc h) ?_
  refine (kPut_perm (lt := ltS) (key := fKey) _ _).trans ?_
  have e : kDel fKey (fKey ⟨freshN, x, s⟩) (fsOf segs sn fr) = fsOf segs sn none := del_fresh
  rw [e]
  unfold fsOf
  simp only [Option.map_none, Option.toList_none, List.append_nil, Option.map_some, Option.toList_some]
  exact (List.perm_append_comm (l₁ := [_])).trans (List.Perm.refl _)
theorem put_snap (h : AscS segs) (x : Nat × List UInt8) : fPut (snFil x) (fsOf segs sn none) = fsOf segs (some x) none := by
  refine kasc_unique STO.txt (kPut_asc STO.txt (fsOf_asc h)) (fsOf_asc h) ?_
  refine (kPut_perm (lt := ltS) (key := fKey) _ _).trans ?_
  have e : kDel fKey (fKey (snFil x)) (fsOf segs sn none) = fsOf segs none none := del_snap
  rw [e]
  unfold fsOf
  simp only [Option.map_none, Option.toList_none, List.append_nil, Option.map_some, Option.toList_some]
  exact (List.perm_append_comm (l₁ := [_])).trans (List.Perm.refl _)
end
theorem datF_seg {segs : List Sg} {sn : Option (Nat × List UInt8)} {fr : Option (List UInt8 × Nat)} {d : Dk} {g : Sg} (hd : d.fs = fsOf segs sn fr) (h : AscS segs) (hg : g ∈ segs) : datF (nameL g.n) d = g.rs.flatMap recL := by
  unfold datF
  rw [hd, get_seg h hg]; rfl
theorem filterMap_all {α β : Type} {f : α → Option β} {g : α → β} : ∀ {l : List α}, (∀ x ∈ l, f x = some (g x)) → l.filterMap f = l.map g
  | [], _ => rfl
  | x :: l, h => by
    rw [List.filterMap_cons, h x (by simp), filterMap_all fun y hy => h y (List.mem_cons_of_mem _ hy)]; rfl
theorem srtI_sorted {l : List Int} (h : l.Pairwise (· < ·)) : srtI l = l := by
  unfold srtI
  refine List.mergeSort_of_pairwise (h.imp fun h => by simp; omega)
theorem segsOf_fs {segs : List Sg} {sn : Option (Nat × List UInt8)} {fr : Option (List UInt8 × Nat)} {d : Dk} (hd : d.fs = fsOf segs sn fr) (h : AscS segs) : segsOf d = segs.map (·.n) := by
  have e1 : ∀ t : List UInt8, (if 0 < firstN (115 :: t) then some (firstN (115 :: t) : Int) else none) = none := fun t => by rw [firstN_bad]; simp
  have e : segL d.fs = segs.map fun g => (g.n : Int) := by
    unfold segL
    rw [hd]
    unfold fsOf
    rw [List.map_append, List.map_append, List.filterMap_append, List.filterMap_append]
    have h1 : ((segs.map sgFil).map (·.name)).filterMap (fun f => if 0 < firstN f then some (firstN f : Int) else none) = segs.map fun g => (g.n : Int) := by
      rw [List.map_map, List.filterMap_map]
      refine filterMap_all fun g hg => ?_
      have := h.2 g hg
      show (if 0 < firstN (nameL g.n) then some (firstN (nameL g.n) : Int) else none) = some (g.n : Int)
      rw [firstN_seg this, if_pos (by omega)]
    have h2 : (((sn.map snFil).toList).map (·.name)).filterMap (fun f => if 0 < firstN f then some (firstN f : Int) else none) = [] := by
      cases sn with
      | none => rfl
      | some x =>
        have : (snFil x).name = 115 :: [110, 97, 112] := rfl
        simp only [Option.map_some, Option.toList_some, List.map_cons, List.map_nil, this, List.filterMap_cons, e1, List.filterMap_nil]
    have h3 : ∀ fr : Option (List UInt8 × Nat), (((fr.map fun x => (⟨freshN, x.1, x.2⟩ : Fil)).toList).map (·.name)).filterMap (fun f => if 0 < firstN f then some (firstN f : Int) else none) = [] := by
      intro fr
      cases fr with
      | none => rfl
      | some x =>
        have : freshN = 115 :: [110, 97, 112, 46, 110, 101, 119] := rfl
        simp only [Option.map_some, Option.toList_some, List.map_cons, List.map_nil, this, List.filterMap_cons, e1, List.filterMap_nil]
    rw [h1, h2, h3]; simp
  unfold segsOf
  rw [e, srtI_sorted (by
    rw [List.pairwise_map]
    exact h.1.imp fun h => by omega), List.map_map]
  refine List.map_congr_left fun g _ => ?_
  simp
end Go.Proofs.Gong

/- Jp2 -/
namespace Go.Proofs.Gong
open Go Go.Sx Go.Proofs
set_option maxRecDepth 100000
def Adv (d e : Dk) : Prop := e.stop = d.stop ∧ e.room = d.room
theorem Adv.refl (d : Dk) : Adv d d := ⟨rfl, rfl⟩
theorem Adv.trans {a b c : Dk} (h1 : Adv a b) (h2 : Adv b c) : Adv a c := ⟨h2.1.trans h1.1, h2.2.trans h1.2⟩
def Done (d : Dk) (r : Int × Dk) (fs : List Fil) : Prop := (r = (251, d) ∧ d.stop = true) ∨ (r.1 = 0 ∧ r.2.fs = fs ∧ Adv d r.2)
theorem use_cases (d : Dk) : (useD d = none ∧ d.stop = true) ∨ ∃ e, useD d = some e ∧ e.fs = d.fs ∧ Adv d e := by
  cases h : useD d with
  | none =>
    refine .inl ⟨rfl, ?_⟩
    unfold useD at h
    split at h
    · assumption
    · cases h
  | some e =>
    obtain ⟨h1, h2, h3, _⟩ := useD_some h
    exact .inr ⟨e, rfl, h3, h2, h1⟩
theorem turn_done (d : Dk) (f : Fil) : Done d (turnD d f) (fPut f d.fs) := by
  unfold turnD
  rcases use_cases d with ⟨h1, h2⟩ | ⟨e, h1, h2, h3⟩
  · rw [h1]; exact .inl ⟨rfl, h2⟩
  · rw [h1]; exact .inr ⟨rfl, by rw [← h2], h3⟩
section
variable {segs a b : List Sg} {g g' : Sg} {sn : Option (Nat × List UInt8)} {fr : Option (List UInt8 × Nat)} {d : Dk}
def Sg.full (g : Sg) : Sg := { g with q := g.rs.length }
theorem sg_full (g : Sg) : sgFil g.full = { sgFil g with safe := (sgFil g).s.length } := by
  unfold sgFil Sg.full
  simp
theorem sync_seg (hd : d.fs = fsOf (a ++ g :: b) sn fr) (h : AscS (a ++ g :: b)) : Done d (syncD (nameL g.n) d) (fsOf (a ++ g.full :: b) sn fr) := by
  unfold syncD
  rw [hd, get_seg h (by simp)]
  simp only
  have := turn_done d (sgFil g.full)
  rw [hd, put_mid (g' := g.full) h rfl] at this
  rw [sg_full] at this
  exact this
theorem rem_seg (hd : d.fs = fsOf (a ++ g :: b) sn fr) (h : AscS (a ++ g :: b)) : Done d (remD (nameL g.n) d) (fsOf (a ++ b) sn fr) := by
  unfold remD
  rw [hd, get_seg h (by simp)]
  simp only
  rcases use_cases d with ⟨h1, h2⟩ | ⟨e, h1, h2, h3⟩
  · rw [h1]; exact .inl ⟨rfl, h2⟩
  · rw [h1]
    refine .inr ⟨rfl, ?_, h3⟩
    show fDel (nameL g.n) e.fs = _
    rw [h2, hd, del_mid h]
theorem name_ok (n : Nat) : nameOk (nameL n) = true := by
  unfold nameOk
  rw [nameL_len]; rfl
theorem make_seg {n : Nat} (hd : d.fs = fsOf segs sn fr) (h : AscS segs) (hn : 1 ≤ n ∧ n < 4294967296) (hl : ∀ x ∈ segs, x.n < n) : Done d (makeD (nameL n) d) (fsOf (segs ++ [⟨n, [], 0⟩]) sn fr) := by
  unfold makeD
  rw [name_ok, hd, get_noseg h hn.2 (fun x hx e => by have := hl x hx; omega)]
  simp only [Bool.true_eq_false, if_false, Option.isSome_none, Bool.false_eq_true]
  have := turn_done d ⟨nameL n, [], 0⟩
  have e : (⟨nameL n, [], 0⟩ : Fil) = sgFil ⟨n, [], 0⟩ := rfl
  rw [e, hd, put_snoc h hn hl] at this
  exact this
theorem app_seg {p : List UInt8} (hd : d.fs = fsOf (a ++ g :: b) sn fr) (h : AscS (a ++ g :: b)) (hq : g.q ≤ g.rs.length) (hr : (usedF d.fs : Int) + (recL p).length ≤ d.room) : Done d (appD (nameL g.n) (recL p) d) (fsOf (a ++ { g with rs := g.rs ++ [p] } :: b) sn fr) := by
  unfold appD
  have e0 : fGet (nameL g.n) d.fs = some (sgFil g) := by rw [hd]; exact get_seg h (by simp)
  rw [e0]
  simp only
  rw [if_neg (by omega)]
  have := turn_done d { sgFil g with s := (sgFil g).s ++ recL p }
  have e : { sgFil g with s := (sgFil g).s ++ recL p } = sgFil { g with rs := g.rs ++ [p] } := by
    unfold sgFil
    simp only [List.flatMap_append, List.flatMap_cons, List.flatMap_nil, List.append_nil, List.take_append_of_le_length hq]
  rw [e, hd, put_mid (g' := { g with rs := g.rs ++ [p] }) h rfl] at this
  rw [← e] at this
  exact this
theorem drop_fresh {j : Jn} (hd : d.fs = fsOf segs sn fr) (h : AscS segs) : ((dropA freshN (j, d)) = (251, j, d) ∧ d.stop = true) ∨ ((dropA freshN (j, d)).1 = 0 ∧ (dropA freshN (j, d)).2.1 = j ∧ (dropA freshN (j, d)).2.2.fs = fsOf segs sn none ∧ Adv d (dropA freshN (j, d)).2.2) := by
  unfold dropA
  rw [has_of]
  have e0 : fGet freshN d.fs = fr.map fun x => ⟨freshN, x.1, x.2⟩ := by rw [hd]; exact get_fresh h
  simp only
  rw [e0]
  cases fr with
  | none =>
    simp only [Option.map_none, Option.isSome_none, Bool.false_eq_true, if_false]
    exact .inr ⟨trivial, trivial, hd, Adv.refl d⟩
  | some x =>
    simp only [Option.map_some, Option.isSome_some, if_true, diskA]
    unfold remD
    rw [e0]
    simp only [Option.map_some]
    rcases use_cases d with ⟨h1, h2⟩ | ⟨e, h1, h2, h3⟩
    · rw [h1]; exact .inl ⟨rfl, h2⟩
    · rw [h1]
      refine .inr ⟨by first | rfl | trivial, by first | rfl | trivial, ?_, h3⟩
      show fDel freshN e.fs = _
      rw [h2, hd, del_fresh]
theorem make_fresh (hd : d.fs = fsOf segs sn none) (h : AscS segs) : Done d (makeD freshN d) (fsOf segs sn (some ([], 0))) := by
  unfold makeD
  have e0 : fGet freshN d.fs = none := by rw [hd]; exact get_fresh h
  rw [show nameOk freshN = true by decide, e0]
  simp only [Bool.true_eq_false, if_false, Option.isSome_none, Bool.false_eq_true]
  have := turn_done d ⟨freshN, [], 0⟩
  rw [hd, put_fresh h] at this
  exact this
theorem app_fresh {x y : List UInt8} {s : Nat} (hd : d.fs = fsOf segs sn (some (y, s))) (h : AscS segs) (hr : (usedF d.fs : Int) + x.length ≤ d.room) : Done d (appD freshN x d) (fsOf segs sn (some (y ++ x, s))) := by
  unfold appD
  have e0 : fGet freshN d.fs = some ⟨freshN, y, s⟩ := by rw [hd]; exact get_fresh h
  rw [e0]
  simp only
  rw [if_neg (by omega)]
  have := turn_done d ⟨freshN, y ++ x, s⟩
  rw [hd, put_fresh h] at this
  exact this
theorem sync_fresh {y : List UInt8} {s : Nat} (hd : d.fs = fsOf segs sn (some (y, s))) (h : AscS segs) : Done d (syncD freshN d) (fsOf segs sn (some (y, y.length))) := by
  unfold syncD
  have e0 : fGet freshN d.fs = some ⟨freshN, y, s⟩ := by rw [hd]; exact get_fresh h
  rw [e0]
  simp only
  have := turn_done d ⟨freshN, y, y.length⟩
  rw [hd, put_fresh h] at this
  exact this
theorem ren_fresh {x : Nat × List UInt8} (hd : d.fs = fsOf segs sn (some (recL (padL 8 x.1 ++ x.2), (recL (padL 8 x.1 ++ x.2)).length))) (h : AscS segs) : Done d (renD freshN snapN d) (fsOf segs (some x) none) := by
  unfold renD
  have e0 : fGet freshN d.fs = some ⟨freshN, recL (padL 8 x.1 ++ x.2), (recL (padL 8 x.1 ++ x.2)).length⟩ := by rw [hd]; exact get_fresh h
  rw [e0]
  simp only
  rw [show nameOk snapN = true by decide]
  simp only [Bool.true_eq_false, if_false]
  rcases use_cases d with ⟨h1, h2⟩ | ⟨e, h1, h2, h3⟩
  · rw [h1]; exact .inl ⟨rfl, h2⟩
  · rw [h1]
    refine .inr ⟨rfl, ?_, h3⟩
    show fPut (snFil x) (fDel freshN e.fs) = _
    rw [h2, hd, del_fresh, put_snap h]
end
end Go.Proofs.Gong

/- Jp3 -/
namespace Go.Proofs.Gong
open Go Go.Sx Go.Proofs
set_option maxRecDepth 100000
def Cons : Nat → List Sg → Nat → Prop
  | a, [], b => a = b
  | a, g :: l, b => g.n = a ∧ Cons (a + g.rs.length) l b
def Small (segs : List Sg) : Prop := ∀ g ∈ segs, ∀ p ∈ g.rs, p.length ≤ 65536
theorem cons_le : ∀ {a : Nat} {l : List Sg} {b : Nat}, Cons a l b → a + (l.flatMap (·.rs)).length = b
  | a, [], b, h => by
    have h : a = b := h
    simpa using h
  | a, g :: l, b, h => by
    have := cons_le h.2
    simp only [List.flatMap_cons, List.length_append]
    omega
theorem seg_read {a b : List Sg} {g : Sg} {sn : Option (Nat × List UInt8)} {j : Jn} {d : Dk} (hs : d.stop = false) (hd : d.fs = fsOf (a ++ g :: b) sn none) (h : AscS (a ++ g :: b)) (hm : Small [g]) (hn : g.n ≤ nextJ j) :
    ∃ d', readSegA g.n false (j, d) = (true, 0, (if nextJ j - g.n ≤ g.rs.length then { j with recs := j.recs ++ g.rs.drop (nextJ j - g.n), active := nameL g.n } else j), d') ∧ d'.fs = fsOf (a ++ g.full :: b) sn none ∧ Adv d d' := by
  have hx : datF (nameL g.n) d = g.rs.flatMap recL := datF_seg hd h (by simp)
  have hsc : scanL ((g.rs.flatMap recL).length + 1) (g.rs.flatMap recL) = (g.rs, (g.rs.flatMap recL).length) := scanL_recs (fun p hp => hm g (by simp) p hp) (by omega)
  have hsy := sync_seg hd h
  rcases hsy with ⟨_, h2⟩ | ⟨h1, h2, h3⟩
  · rw [hs] at h2; cases h2
  refine ⟨(syncD (nameL g.n) d).2, ?_, h2, h3⟩
  unfold readSegA
  simp only
  rw [hx, hsc]
  simp only
  rw [if_neg (by simp; omega)]
  simp only [Nat.lt_irrefl, if_false, ne_eq, not_true_eq_false, h1, decide_true]
theorem readL_ok {sn : Option (Nat × List UInt8)} {T : Nat} (hT : T < 4294967296) : ∀ (b a : List Sg) (j : Jn) (d : Dk) (st : Nat), d.stop = false → d.fs = fsOf (a ++ b) sn none → AscS (a ++ b) → Small b → Cons st b T → nextJ j = max (j.number + 1) st → j.number + 1 ≤ T →
    ∃ j' d', readL (b.map (·.n)) false (j, d) = (0, j', d') ∧ okRead (b.map (·.n)) false (j, d) ∧ j'.number = j.number ∧ j'.state = j.state ∧ j'.long = j.long ∧ j'.recs = j.recs ++ (b.flatMap (·.rs)).drop (nextJ j - st) ∧ d'.fs = fsOf (a ++ b.map Sg.full) sn none ∧ Adv d d' ∧
      (b ≠ [] → j'.active ≠ []) ∧ nextJ j' = max (j.number + 1) T := by
  intro b
  induction b with
  | nil =>
    intro a j d st hs hd h hm hc hn hN
    refine ⟨j, d, rfl, trivial, rfl, rfl, rfl, by simp, by simpa using hd, Adv.refl d, by simp, ?_⟩
    have : st = T := hc
    rw [hn, this]
  | cons g b ih =>
    intro a j d st hs hd h hm hc hn hN
    obtain ⟨hc1, hc2⟩ := hc
    have hle := cons_le hc2
    obtain ⟨d1, hr, hd1, ha1⟩ := seg_read hs hd h (fun x hx p hp => hm x (by simp at hx; subst hx; simp) p hp) (j := j) (by omega)
    have hlt := (h.2 g (by simp)).2
    have hnx : nextJ j < 4294967296 := by omega
    have hfull : AscS ((a ++ [g.full]) ++ b) := by
      have e : (a ++ [g.full]) ++ b = a ++ g.full :: b := by simp
      rw [e]
      refine ⟨?_, fun x hx => ?_⟩
      · have h1 := h.1
        rw [List.pairwise_append] at h1 ⊢
        refine ⟨h1.1, ?_, fun x hx y hy => ?_⟩
        · rw [List.pairwise_cons] at h1 ⊢
          exact ⟨h1.2.1.1, h1.2.1.2⟩
        · rcases List.mem_cons.1 hy with rfl | hy
          · exact h1.2.2 x hx g (by simp)
          · exact h1.2.2 x hx y (by simp [hy])
      · rcases List.mem_append.1 hx with hx | hx
        · exact h.2 x (by simp [hx])
        · rcases List.mem_cons.1 hx with rfl | hx
          · exact h.2 g (by simp)
          · exact h.2 x (by simp [hx])
    have hfs : d1.fs = fsOf ((a ++ [g.full]) ++ b) sn none := by rw [hd1]; simp
    have hs1 : d1.stop = false := by rw [ha1.1, hs]
    by_cases hk : nextJ j - g.n ≤ g.rs.length
    · rw [if_pos hk] at hr
      obtain ⟨j', d', e1, e2, e3, e4, e5, e6, e7, e8, e9, e10⟩ := ih (a ++ [g.full]) { j with recs := j.recs ++ g.rs.drop (nextJ j - g.n), active := nameL g.n } d1 (st + g.rs.length) hs1 hfs hfull (fun x hx p hp => hm x (by simp [hx]) p hp) hc2 (by
        have e : nextJ { j with recs := j.recs ++ g.rs.drop (nextJ j - g.n), active := nameL g.n } = nextJ j + (g.rs.length - (nextJ j - g.n)) := by
          unfold nextJ; simp; omega
        rw [e]
        show _ = max (j.number + 1) (st + g.rs.length)
        omega) hN
      refine ⟨j', d', ?_, ?_, e3, e4, e5, ?_, by rw [e7]; simp, ha1.trans e8, fun _ => ?_, e10⟩
      · simp only [List.map_cons, readL, hr, if_true, Bool.not_true, Bool.or_false]
        exact e1
      · rw [List.map_cons]
        refine ⟨hlt, hnx, fun _ => ?_⟩
        simp only [hr, Bool.not_true, Bool.or_false]
        exact e2
      · rw [e6]
        have e : nextJ { j with recs := j.recs ++ g.rs.drop (nextJ j - g.n), active := nameL g.n } = nextJ j + (g.rs.length - (nextJ j - g.n)) := by
          unfold nextJ; simp; omega
        rw [e, show nextJ j + (g.rs.length - (nextJ j - g.n)) - (st + g.rs.length) = 0 by omega, List.drop_zero, List.flatMap_cons, List.drop_append_of_le_length (by omega), hc1]
        simp
      · cases b with
        | nil =>
          have := e1
          rw [List.map_nil, readL] at this
          have := congrArg (fun x => x.2.1.active) this
          simp only at this
          rw [← this]
          intro hh
          have := congrArg List.length hh
          rw [nameL_len] at this; cases this
        | cons x b => exact e9 (by simp)
    · rw [if_neg hk] at hr
      obtain ⟨j', d', e1, e2, e3, e4, e5, e6, e7, e8, e9, e10⟩ := ih (a ++ [g.full]) j d1 (st + g.rs.length) hs1 hfs hfull (fun x hx p hp => hm x (by simp [hx]) p hp) hc2 (by omega) hN
      refine ⟨j', d', ?_, ?_, e3, e4, e5, ?_, by rw [e7]; simp, ha1.trans e8, fun _ => ?_, e10⟩
      · simp only [List.map_cons, readL, hr, if_true, Bool.not_true, Bool.or_false]
        exact e1
      · rw [List.map_cons]
        refine ⟨hlt, hnx, fun _ => ?_⟩
        simp only [hr, Bool.not_true, Bool.or_false]
        exact e2
      · have eA : g.rs.drop (nextJ j - st) = [] := List.drop_of_length_le (by omega)
        rw [e6, List.flatMap_cons, List.drop_append, eA, List.nil_append]
        congr 2; omega
      · cases b with
        | nil =>
          have : st + g.rs.length = T := hc2
          omega
        | cons x b => exact e9 (by simp)
theorem snapR_ok {x : Nat × List UInt8} (h1 : x.1 < 9223372036854775808) (h2 : x.2.length ≤ 65528) : snapR (recL (padL 8 x.1 ++ x.2)) = (x.1, x.2, true) := by
  have hl : (padL 8 x.1 ++ x.2).length ≤ 65536 := by rw [List.length_append, padL_len]; omega
  have hn : nextL (recL (padL 8 x.1 ++ x.2)) = some (padL 8 x.1 ++ x.2, []) := by
    have := nextL_rec (t := []) hl
    rwa [List.append_nil] at this
  have h8 : (256 : Nat) ^ 8 = 18446744073709551616 := by decide
  have hw : rWide 8 (0, padL 8 x.1 ++ x.2) = (x.1, 0, x.2) := by
    have e : ((padL 8 x.1 ++ x.2).take 8) = padL 8 x.1 := by rw [List.take_append_of_le_length (by simp [padL_len])]; exact List.take_of_length_le (by simp [padL_len])
    have e2 : ((padL 8 x.1 ++ x.2).drop 8) = x.2 := by rw [List.drop_append_of_le_length (by simp [padL_len]), List.drop_of_length_le (by simp [padL_len])]; rfl
    have e3 : numL (padL 8 x.1) = x.1 := numL_pad 8 x.1 (by omega)
    have el : (padL 8 x.1 ++ x.2).length = 8 + x.2.length := by rw [List.length_append, padL_len]
    unfold rWide
    simp only [ne_eq, not_true_eq_false, if_false]
    rw [if_neg (by omega), if_neg (by rw [el]; omega)]
    simp only [show (8 : Int).toNat = 8 from rfl, e, e2, e3]
    rw [if_neg (by omega)]
  have hb : rBytes (x.2.length : Int) (0, x.2) = (x.2, 0, []) := by
    unfold rBytes
    simp only [ne_eq, not_true_eq_false, if_false]
    rw [if_neg (by omega), if_neg (by omega)]
    simp
  unfold snapR
  rw [hn]
  simp only [hw, hb]
  rfl
theorem cleanL_ok : ∀ (l : List Nat) (j : Jn) (d : Dk) (fs : List Fil), d.stop = false → d.fs = fs → l.Nodup → (∀ n ∈ l, n < 4294967296) → (∀ n ∈ l, nameL n ∈ fs.map (·.name)) → (cleanL l (j, d)).1 = 0
  | [], _, _, _, _, _, _, _, _ => rfl
  | n :: l, j, d, fs, hs, hd, hnd, hlt, hin => by
    obtain ⟨hn1, hn2⟩ := List.nodup_cons.1 hnd
    unfold cleanL
    simp only
    split
    · exact cleanL_ok l j d fs hs hd hn2 (fun m hm => hlt m (by simp [hm])) fun m hm => hin m (by simp [hm])
    · have hf : (fGet (nameL n) d.fs).isSome = true := by
        rw [← has_of]
        unfold hasF
        rw [hd]
        exact decide_eq_true (hin n (by simp))
      have hr : (remD (nameL n) d).1 = 0 ∧ (remD (nameL n) d).2.fs = fDel (nameL n) d.fs ∧ (remD (nameL n) d).2.stop = false := by
        unfold remD
        cases hg : fGet (nameL n) d.fs with
        | none => rw [hg] at hf; cases hf
        | some f =>
          simp only
          rcases use_cases d with ⟨_, h2⟩ | ⟨e, h1, h2, h3⟩
          · rw [hs] at h2; cases h2
          · rw [h1]
            refine ⟨rfl, ?_, ?_⟩
            · show fDel (nameL n) e.fs = _
              rw [h2]
            · show e.stop = false
              rw [h3.1, hs]
      rw [if_pos hr.1]
      refine cleanL_ok l j _ _ hr.2.2 rfl hn2 (fun m hm => hlt m (by simp [hm])) fun m hm => ?_
      rw [hr.2.1, hd]
      obtain ⟨f, hf1, hf2⟩ := List.mem_map.1 (hin m (by simp [hm]))
      refine List.mem_map.2 ⟨f, List.mem_filter.2 ⟨hf1, ?_⟩, hf2⟩
      refine decide_eq_true fun e => ?_
      have e : f.name = nameL n := e
      rw [hf2] at e
      have := nameL_inj (hlt m (by simp [hm])) (hlt n (by simp)) e
      subst this
      exact hn1 hm
end Go.Proofs.Gong

/- Jp4 -/
namespace Go.Proofs.Gong
open Go Go.Sx Go.Proofs
set_option maxRecDepth 100000
theorem cons_app : ∀ {l m : List Sg} {a b : Nat}, Cons a (l ++ m) b ↔ ∃ c, Cons a l c ∧ Cons c m b
  | [], m, a, b => ⟨fun h => ⟨a, rfl, h⟩, fun ⟨c, h1, h2⟩ => by have h1 : a = c := h1; subst h1; exact h2⟩
  | g :: l, m, a, b => by
    show (g.n = a ∧ Cons (a + g.rs.length) (l ++ m) b) ↔ ∃ c, (g.n = a ∧ Cons (a + g.rs.length) l c) ∧ Cons c m b
    rw [cons_app]
    exact ⟨fun ⟨h, c, h1, h2⟩ => ⟨c, ⟨h, h1⟩, h2⟩, fun ⟨c, ⟨h, h1⟩, h2⟩ => ⟨h, c, h1, h2⟩⟩
theorem usedF_app {a b : List Fil} : usedF (a ++ b) = usedF a + usedF b := by simp [usedF]
theorem used_segs : ∀ {segs : List Sg}, usedF (segs.map sgFil) = ((segs.flatMap (·.rs)).flatMap recL).length
  | [] => rfl
  | g :: l => by
    rw [List.map_cons, usedF_cons, used_segs, List.flatMap_cons, List.flatMap_append, List.length_append]; rfl
def snLen (sn : Option (Nat × List UInt8)) : Nat := sn.elim 0 fun x => (recL (padL 8 x.1 ++ x.2)).length
theorem used_fs {segs : List Sg} {sn : Option (Nat × List UInt8)} {fr : Option (List UInt8 × Nat)} : usedF (fsOf segs sn fr) = ((segs.flatMap (·.rs)).flatMap recL).length + snLen sn + fr.elim 0 (·.1.length) := by
  unfold fsOf
  rw [usedF_app, usedF_app, used_segs]
  cases sn <;> cases fr <;> simp [usedF, snLen, snFil]
theorem names_fs {d : Dk} {segs : List Sg} {sn : Option (Nat × List UInt8)} {fr : Option (List UInt8 × Nat)} (hd : d.fs = fsOf segs sn fr) (h : AscS segs) : NamesJ d := by
  intro f hf
  rw [hd] at hf
  rcases mem_fsOf.1 hf with ⟨g, h1, rfl⟩ | ⟨x, _, rfl⟩ | ⟨x, _, rfl⟩
  · exact .inl ⟨g.n, (h.2 g h1).1, (h.2 g h1).2, rfl⟩
  · exact .inr ⟨[110, 97, 112], by simp, rfl⟩
  · exact .inr ⟨[110, 97, 112, 46, 110, 101, 119], by simp, rfl⟩
theorem asc_full {segs : List Sg} (h : AscS segs) : AscS (segs.map Sg.full) := by
  refine ⟨?_, fun g hg => ?_⟩
  · rw [List.pairwise_map]; exact h.1
  · obtain ⟨x, hx, rfl⟩ := List.mem_map.1 hg
    exact h.2 x hx
theorem asc_nodup {segs : List Sg} (h : AscS segs) : (segs.map (·.n)).Nodup := by
  rw [List.nodup_iff_pairwise_ne, List.pairwise_map]
  exact h.1.imp fun h => by omega
theorem cleanA_ok {j : Jn} {d : Dk} {segs : List Sg} {sn : Option (Nat × List UInt8)} {fr : Option (List UInt8 × Nat)} (hs : d.stop = false) (hd : d.fs = fsOf segs sn fr) (h : AscS segs) : (cleanA (j, d)).1 = 0 := by
  unfold cleanA
  rw [show segsOf (j, d).2 = segs.map (·.n) from segsOf_fs hd h]
  refine cleanL_ok _ j d _ hs rfl (asc_nodup h) (fun n hn => ?_) fun n hn => ?_
  · obtain ⟨g, hg, rfl⟩ := List.mem_map.1 hn
    exact (h.2 g hg).2
  · obtain ⟨g, hg, rfl⟩ := List.mem_map.1 hn
    rw [hd]
    exact List.mem_map.2 ⟨sgFil g, mem_fsOf.2 (.inl ⟨g, hg, rfl⟩), rfl⟩
theorem cleanA_j {s : JS} : (cleanA s).2.1 = s.1 := by
  unfold cleanA
  generalize segsOf s.2 = l
  induction l generalizing s with
  | nil => rfl
  | cons n l ih =>
    unfold cleanL
    simp only
    split
    · exact ih
    · split
      · exact ih
      · rfl
theorem open_fs {d : Dk} {segs : List Sg} {sn : Option (Nat × List UInt8)} {fr : Option (List UInt8 × Nat)} {a T N : Nat} {long : Int} (hs : d.stop = false) (hd : d.fs = fsOf segs sn fr) (h : AscS segs) (hm : Small segs) (hc : Cons a segs T) (hne : segs ≠ []) (hN : sn.elim 0 (·.1) = N) (ha : a ≤ N + 1) (hNT : N + 1 ≤ T) (hT : T < 4294967296) (hsn : ∀ x, sn = some x → x.2.length ≤ 65528) :
    ∃ j' d', openA long d = (0, j', d') ∧ j'.number = N ∧ j'.state = sn.elim [] (·.2) ∧ j'.recs = (segs.flatMap (·.rs)).drop (N + 1 - a) ∧ nextJ j' = T ∧ j'.safe = T - 1 ∧ j'.long = long ∧
      okRead (segsOf (dropA freshN (freshJ long, d)).2.2) false (readSnapA (dropA freshN (freshJ long, d)).2).2 ∧ nextJ (readA (readSnapA (dropA freshN (freshJ long, d)).2).2).2.1 < 4294967296 := by
  rcases drop_fresh (j := freshJ long) hd h with ⟨_, h2⟩ | ⟨h1, h2, h3, h4⟩
  · rw [hs] at h2; cases h2
  generalize hr0 : dropA freshN (freshJ long, d) = r0 at *
  obtain ⟨c0, j0, d0⟩ := r0
  simp only at h1 h2 h3 h4
  subst h1 h2
  have hs0 : d0.stop = false := by rw [h4.1, hs]
  have h1r : readSnapA (freshJ long, d0) = (0, { freshJ long with number := N, state := sn.elim [] (·.2) }, d0) := by
    unfold readSnapA
    rw [show (freshJ long, d0).2.fs = fsOf segs sn none from h3, get_snap h]
    cases sn with
    | none =>
      have : N = 0 := hN.symm
      subst this; rfl
    | some x =>
      have e : N = x.1 := hN.symm
      have := snapR_ok (x := x) (by omega) (hsn x rfl)
      simp only [Option.map_some]
      rw [show (snFil x).s = recL (padL 8 x.1 ++ x.2) from rfl, this, e]
      simp
  generalize hj1 : ({ freshJ long with number := N, state := sn.elim [] (·.2) } : Jn) = j1 at h1r
  have n1 : j1.number = N := by rw [← hj1]
  have s1 : j1.state = sn.elim [] (·.2) := by rw [← hj1]
  have l1 : j1.long = long := by rw [← hj1]; rfl
  have r1 : j1.recs = [] := by rw [← hj1]; rfl
  have x1 : nextJ j1 = N + 1 := by unfold nextJ; rw [n1, r1]; rfl
  have hsg : segsOf d0 = segs.map (·.n) := segsOf_fs h3 h
  obtain ⟨j2, d2, e1, e2, e3, e4, e5, e6, e7, e8, e9, e10⟩ := readL_ok hT segs [] j1 d0 a hs0 (by simpa using h3) (by simpa using h) hm hc (by rw [x1, n1]; omega) (by rw [n1]; exact hNT)
  have hrd : readA (j1, d0) = (0, j2, d2) := by
    unfold readA
    rw [show segsOf (j1, d0).2 = segs.map (·.n) from hsg]; exact e1
  have hact : settleA (j2, d2) = (0, (j2, d2)) := by
    unfold settleA
    rw [if_pos (e9 hne)]
  have hs2 : d2.stop = false := by rw [e8.1, hs0]
  have hfs2 : d2.fs = fsOf (segs.map Sg.full) sn none := by simpa using e7
  have hcl : (cleanA (j2, d2)).1 = 0 := cleanA_ok hs2 hfs2 (asc_full h)
  have hcj : (cleanA (j2, d2)).2.1 = j2 := cleanA_j
  have hx2 : nextJ j2 = T := by rw [e10, n1]; omega
  refine ⟨{ j2 with safe := nextJ j2 - 1 }, (cleanA (j2, d2)).2.2, ?_, by rw [← n1, ← e3], by rw [← s1, ← e4], ?_, ?_, ?_, ?_, ?_, ?_⟩
  · unfold openA openL'
    simp only [seqA, hr0, if_true, h1r, hrd, hact, hcl, hcj]
  · show j2.recs = _
    rw [e6, r1, x1]; rfl
  · show nextJ j2 = T
    exact hx2
  · show nextJ j2 - 1 = T - 1
    rw [hx2]
  · show j2.long = long
    rw [e5, l1]
  · simp only [h1r]
    rw [hsg]
    exact e2
  · simp only [h1r, hrd]
    rw [hx2]; exact hT
structure Rep (j : Jn) (d : Dk) (pre : List Sg) (g : Sg) (sn : Option (Nat × List UInt8)) : Prop where
  fs : d.fs = fsOf (pre ++ [g]) sn none
  asc : AscS (pre ++ [g])
  small : Small (pre ++ [g])
  cons : Cons (j.number + 1) (pre ++ [g]) (nextJ j)
  act : j.active = nameL g.n
  full : ∀ s ∈ pre, s.q = s.rs.length
  qle : g.q ≤ g.rs.length
  recs : (pre ++ [g]).flatMap (·.rs) = j.recs
  num : sn.elim 0 (·.1) = j.number
  st : sn.elim [] (·.2) = j.state
section
variable {j : Jn} {d : Dk} {pre : List Sg} {g : Sg} {sn : Option (Nat × List UInt8)}
theorem Rep.last (R : Rep j d pre g sn) : g.n + g.rs.length = nextJ j := by
  obtain ⟨c, _, h1, h2⟩ := cons_app.1 R.cons
  have h2 : c + g.rs.length = nextJ j := h2
  omega
theorem Rep.used (R : Rep j d pre g sn) : usedF d.fs = (j.recs.flatMap recL).length + snLen sn := by
  rw [R.fs, used_fs, R.recs]; rfl
theorem Rep.dat (R : Rep j d pre g sn) : datF j.active d = g.rs.flatMap recL := by
  rw [R.act]; exact datF_seg R.fs R.asc (by simp)
theorem open_new {long : Int} {room : Int} : ∃ j' d', openA long (newD room) = (0, j', d') ∧ Rep j' d' [] ⟨1, [], 0⟩ none ∧ d'.stop = false ∧ d'.room = room ∧ j'.long = long ∧ j'.recs = [] ∧ j'.number = 0 ∧ j'.state = [] ∧
      okRead (segsOf (dropA freshN (freshJ long, newD room)).2.2) false (readSnapA (dropA freshN (freshJ long, newD room)).2).2 ∧ nextJ (readA (readSnapA (dropA freshN (freshJ long, newD room)).2).2).2.1 < 4294967296 := by
  have hd : (newD room).fs = fsOf [] none none := rfl
  have h0 : AscS ([] : List Sg) := ⟨.nil, by simp⟩
  have e0 : dropA freshN (freshJ long, newD room) = (0, freshJ long, newD room) := rfl
  have e1 : readSnapA (freshJ long, newD room) = (0, freshJ long, newD room) := rfl
  have hsg : segsOf (newD room) = [] := segsOf_fs hd h0
  have e2 : readA (freshJ long, newD room) = (0, freshJ long, newD room) := by
    unfold readA
    rw [show segsOf (freshJ long, newD room).2 = [] from hsg]; rfl
  have hx : nextJ (freshJ long) = 1 := rfl
  have hm := make_seg (n := 1) (d := newD room) hd h0 (by omega) (by simp)
  rcases hm with ⟨_, h2⟩ | ⟨h1, h2, h3⟩
  · cases h2
  have e3 : settleA (freshJ long, newD room) = (0, { freshJ long with active := nameL 1 }, (makeD (nameL 1) (newD room)).2) := by
    unfold settleA beginA
    rw [if_neg (by simp [freshJ]), if_neg (by simp [hasF, newD]), hx]
    rw [if_pos h1]
  generalize (makeD (nameL 1) (newD room)).2 = d1 at *
  have hd1 : d1.fs = fsOf [⟨1, [], 0⟩] none none := h2
  have hA : AscS [⟨1, [], 0⟩] := ⟨by simp, by simp⟩
  have hsg1 : segsOf d1 = [1] := segsOf_fs hd1 hA
  have e4 : cleanA ({ freshJ long with active := nameL 1 }, d1) = (0, { freshJ long with active := nameL 1 }, d1) := by
    unfold cleanA
    rw [show segsOf (({ freshJ long with active := nameL 1 } : Jn), d1).2 = [1] from hsg1]
    unfold cleanL
    simp only [true_or, if_true]
    rfl
  refine ⟨{ freshJ long with active := nameL 1, safe := 0 }, d1, ?_, ⟨hd1, hA, by simp [Small], ⟨rfl, rfl⟩, rfl, by simp, by simp, rfl, rfl, rfl⟩, h3.1, h3.2, rfl, rfl, rfl, rfl, ?_, ?_⟩
  · unfold openA openL'
    simp only [seqA, e0, if_true, e1, e2, e3, e4]
    rfl
  · simp only [e0, e1, hsg]; trivial
  · simp only [e0, e1, e2, hx]; omega
theorem small_snoc {p : List UInt8} (h : Small (pre ++ [g])) (hp : p.length ≤ 65536) : Small (pre ++ [{ g with rs := g.rs ++ [p] }]) := by
  intro x hx y hy
  rcases List.mem_append.1 hx with hx | hx
  · exact h x (by simp [hx]) y hy
  · simp at hx; subst hx
    rcases List.mem_append.1 hy with hy | hy
    · exact h g (by simp) y hy
    · simp at hy; subst hy; exact hp
theorem asc_same {g' : Sg} (e : g'.n = g.n) (h : AscS (pre ++ [g])) : AscS (pre ++ [g']) := by
  refine ⟨?_, fun x hx => ?_⟩
  · have h1 := h.1
    rw [List.pairwise_append] at h1 ⊢
    refine ⟨h1.1, by simp, fun x hx y hy => ?_⟩
    simp at hy; subst hy
    rw [e]; exact h1.2.2 x hx g (by simp)
  · rcases List.mem_append.1 hx with hx | hx
    · exact h.2 x (by simp [hx])
    · simp at hx; subst hx
      rw [e]; exact h.2 g (by simp)
theorem app_in {p : List UInt8} (R : Rep j d pre g sn) (hs : d.stop = false) (hp : p.length ≤ 65536) (hr : (usedF d.fs : Int) + (recL p).length ≤ d.room) (hl : ((g.rs.flatMap recL).length : Int) < j.long) :
    ∃ d', appendA p (j, d) = (0, { j with recs := j.recs ++ [p] }, d') ∧ Rep { j with recs := j.recs ++ [p] } d' pre { g with rs := g.rs ++ [p] } sn ∧ Adv d d' := by
  have hap := app_seg (b := []) R.fs R.asc R.qle hr
  rcases hap with ⟨_, h2⟩ | ⟨h1, h2, h3⟩
  · rw [hs] at h2; cases h2
  refine ⟨(appD (nameL g.n) (recL p) d).2, ?_, ⟨h2, asc_same (g := g) rfl R.asc, small_snoc R.small hp, ?_, R.act, R.full, ?_, ?_, R.num, R.st⟩, h3⟩
  · unfold appendA
    have e1 : roomA (j, d) = (0, (j, d)) := by
      unfold roomA
      rw [show datF (j, d).1.active (j, d).2 = g.rs.flatMap recL from R.dat, if_pos hl]
    simp only [seqA, e1, if_true, diskA, R.act, h1]
  · obtain ⟨c, hc, hc1, hc2⟩ := cons_app.1 R.cons
    refine cons_app.2 ⟨c, hc, hc1, ?_⟩
    have hc2 : c + g.rs.length = nextJ j := hc2
    show c + (g.rs ++ [p]).length = nextJ { j with recs := j.recs ++ [p] }
    rw [List.length_append]
    unfold nextJ at hc2 ⊢
    simp; omega
  · have := R.qle
    show g.q ≤ (g.rs ++ [p]).length
    rw [List.length_append]; omega
  · have := R.recs
    show (pre ++ [({ g with rs := g.rs ++ [p] } : Sg)]).flatMap Sg.rs = j.recs ++ [p]
    rw [← this]; simp
theorem sync_rep (R : Rep j d pre g sn) (hs : d.stop = false) : ∃ d', syncA (j, d) = (0, { j with safe := nextJ j - 1 }, d') ∧ Rep { j with safe := nextJ j - 1 } d' pre g.full sn ∧ Adv d d' := by
  have hsy := sync_seg (b := []) R.fs R.asc
  rcases hsy with ⟨_, h2⟩ | ⟨h1, h2, h3⟩
  · rw [hs] at h2; cases h2
  refine ⟨(syncD (nameL g.n) d).2, ?_, ⟨h2, asc_same (g := g) rfl R.asc, ?_, ?_, R.act, R.full, Nat.le_refl _, ?_, R.num, R.st⟩, h3⟩
  · unfold syncA
    simp only [R.act, h1, if_true]
  · intro x hx y hy
    rcases List.mem_append.1 hx with hx | hx
    · exact R.small x (by simp [hx]) y hy
    · simp at hx; subst hx
      exact R.small g (by simp) y hy
  · obtain ⟨c, hc, hc1, hc2⟩ := cons_app.1 R.cons
    exact cons_app.2 ⟨c, hc, hc1, hc2⟩
  · have := R.recs
    show (pre ++ [g.full]).flatMap Sg.rs = j.recs
    rw [← this]; simp [Sg.full]
theorem begin_rep (R : Rep j d pre g sn) (hs : d.stop = false) (hg : g.q = g.rs.length) (hne : g.rs ≠ []) (hx : nextJ j < 4294967296) :
    ∃ d', beginA (j, d) = (0, { j with active := nameL (nextJ j) }, d') ∧ Rep { j with active := nameL (nextJ j) } d' (pre ++ [g]) ⟨nextJ j, [], 0⟩ sn ∧ Adv d d' := by
  have hlast := R.last
  have hpos : 1 ≤ g.rs.length := List.length_pos_iff.2 hne
  have hlt : ∀ x ∈ pre ++ [g], x.n < nextJ j := by
    intro x hx
    rcases List.mem_append.1 hx with hx | hx
    · have := R.asc.1
      rw [List.pairwise_append] at this
      have := this.2.2 x hx g (by simp)
      omega
    · simp at hx; subst hx; omega
  have hn : hasF (nameL (nextJ j)) d = false := by
    rw [has_of, R.fs, get_noseg R.asc hx (fun x hx e => by have := hlt x hx; omega)]; rfl
  have h1x : 1 ≤ nextJ j := by unfold nextJ; omega
  have hm := make_seg (n := nextJ j) R.fs R.asc ⟨h1x, hx⟩ hlt
  rcases hm with ⟨_, h2⟩ | ⟨h1, h2, h3⟩
  · rw [hs] at h2; cases h2
  refine ⟨(makeD (nameL (nextJ j)) d).2, ?_, ⟨h2, asc_snoc R.asc ⟨h1x, hx⟩ hlt, ?_, ?_, rfl, ?_, by simp, ?_, R.num, R.st⟩, h3⟩
  · unfold beginA
    simp only [hn, Bool.false_eq_true, if_false, h1, if_true]
  · intro x hx y hy
    rcases List.mem_append.1 hx with hx | hx
    · exact R.small x hx y hy
    · simp at hx; subst hx; simp at hy
  · exact cons_app.2 ⟨nextJ j, R.cons, rfl, rfl⟩
  · intro x hx
    rcases List.mem_append.1 hx with hx | hx
    · exact R.full x hx
    · simp at hx; subst hx; exact hg
  · have := R.recs
    show ((pre ++ [g]) ++ [(⟨nextJ j, [], 0⟩ : Sg)]).flatMap Sg.rs = j.recs
    rw [← this]; simp
theorem app_rep {p : List UInt8} (R : Rep j d pre g sn) (hs : d.stop = false) (hlong : 1 ≤ j.long) (hp : p.length ≤ 65536) (hr : (usedF d.fs : Int) + (recL p).length ≤ d.room) (hx : nextJ j < 4294967296) :
    ∃ j' d' pre' g', appendA p (j, d) = (0, j', d') ∧ Rep j' d' pre' g' sn ∧ j'.recs = j.recs ++ [p] ∧ j'.number = j.number ∧ j'.state = j.state ∧ j'.long = j.long ∧ Adv d d' := by
  by_cases hl : ((g.rs.flatMap recL).length : Int) < j.long
  · obtain ⟨d', h1, h2, h3⟩ := app_in R hs hp hr hl
    exact ⟨_, d', _, _, h1, h2, rfl, rfl, rfl, rfl, h3⟩
  · obtain ⟨d1, e1, R1, a1⟩ := sync_rep R hs
    have hne : g.rs ≠ [] := by
      intro e
      rw [e] at hl
      simp at hl; omega
    have hx1 : nextJ { j with safe := nextJ j - 1 } = nextJ j := rfl
    obtain ⟨d2, e2, R2, a2⟩ := begin_rep R1 (by rw [a1.1, hs]) rfl hne hx
    have hu : usedF d2.fs = usedF d.fs := by rw [R2.used, R.used]
    obtain ⟨d3, e3, R3, a3⟩ := app_in (p := p) R2 (by rw [a2.1, a1.1, hs]) hp (by rw [hu, a2.2, a1.2]; exact hr) (by
      show (((([] : List (List UInt8)).flatMap recL).length : Nat) : Int) < j.long
      simp; omega)
    refine ⟨_, d3, _, _, ?_, R3, rfl, rfl, rfl, rfl, (a1.trans a2).trans a3⟩
    have er : roomA (j, d) = (0, ({ j with safe := nextJ j - 1, active := nameL (nextJ j) } : Jn), d2) := by
      unfold roomA
      rw [show datF (j, d).1.active (j, d).2 = g.rs.flatMap recL from R.dat, if_neg hl]
      simp only [seqA, e1, if_true]
      rw [e2]
      rfl
    have e4 : roomA (({ j with safe := nextJ j - 1, active := nameL (nextJ j) } : Jn), d2) = (0, (({ j with safe := nextJ j - 1, active := nameL (nextJ j) } : Jn), d2)) := by
      unfold roomA
      rw [show datF ((({ j with safe := nextJ j - 1, active := nameL (nextJ j) } : Jn), d2) : JS).1.active _ = _ from R2.dat, if_pos]
      show (((([] : List (List UInt8)).flatMap recL).length : Nat) : Int) < j.long
      simp; omega
    unfold appendA at e3 ⊢
    simp only [seqA, er, if_true]
    simp only [seqA] at e3
    simp only [show nextJ ({ j with safe := nextJ j - 1 } : Jn) = nextJ j from rfl, e4, if_true] at e3
    exact e3
end
end Go.Proofs.Gong

/- Jp5 -/
namespace Go.Proofs.Gong
open Go Go.Sx Go.Proofs
set_option maxRecDepth 100000
abbrev nw (n : Nat) : Sg := ⟨n, [], 0⟩
theorem crF_app : ∀ {l m : List Fil} {keep : List Int} {i : Nat}, crF keep i (l ++ m) = crF keep i l ++ crF keep (i + l.length) m
  | [], m, keep, i => rfl
  | f :: l, m, keep, i => by
    show crFil keep i f :: crF keep (i + 1) (l ++ m) = crFil keep i f :: (crF keep (i + 1) l ++ crF keep (i + (l.length + 1)) m)
    rw [crF_app, show i + 1 + l.length = i + (l.length + 1) by omega]
theorem crFil_all {keep : List Int} {i : Nat} {f : Fil} (h : f.safe = f.s.length) : crFil keep i f = f := by
  have e : crLong keep i f = f.s.length := by
    unfold crLong
    cases keep[i]? with
    | none => exact h
    | some k =>
      simp only
      rw [h]; simp [keptN]
  unfold crFil
  rw [e, List.take_length]
  cases f; simp only at h ⊢; rw [h]
theorem crF_all : ∀ {l : List Fil} {keep : List Int} {i : Nat}, (∀ f ∈ l, f.safe = f.s.length) → crF keep i l = l
  | [], _, _, _ => rfl
  | f :: l, keep, i, h => by
    show crFil keep i f :: crF keep (i + 1) l = f :: l
    rw [crFil_all (h f (by simp)), crF_all fun g hg => h g (by simp [hg])]
def FullS (segs : List Sg) : Prop := ∀ g ∈ segs, g.q = g.rs.length
theorem sgFil_all {g : Sg} (h : g.q = g.rs.length) : (sgFil g).safe = (sgFil g).s.length := by
  unfold sgFil
  simp only
  rw [h, List.take_length]
theorem crF_fs {segs : List Sg} {sn : Option (Nat × List UInt8)} {fr : Option (List UInt8 × Nat)} {keep : List Int} (h : FullS segs) : ∃ fr', crF keep 0 (fsOf segs sn fr) = fsOf segs sn fr' := by
  unfold fsOf
  rw [crF_app, crF_all]
  · cases fr with
    | none => exact ⟨none, rfl⟩
    | some x =>
      exact ⟨some (x.1.take (crLong keep (0 + (segs.map sgFil ++ (sn.map snFil).toList).length) ⟨freshN, x.1, x.2⟩), crLong keep (0 + (segs.map sgFil ++ (sn.map snFil).toList).length) ⟨freshN, x.1, x.2⟩), rfl⟩
  · intro f hf
    rcases List.mem_append.1 hf with hf | hf
    · obtain ⟨g, hg, rfl⟩ := List.mem_map.1 hf
      exact sgFil_all (h g hg)
    · cases sn with
      | none => simp at hf
      | some x => simp at hf; subst hf; rfl
theorem clean_down {M : Nat} {sn : Option (Nat × List UInt8)} {j : Jn} (hact : j.active = nameL M) (hN : j.number + 1 = M) (hM : M < 4294967296) : ∀ (l : List Sg) (d : Dk), d.fs = fsOf (l ++ [nw M]) sn none → AscS (l ++ [nw M]) →
    ((cleanL ((l ++ [nw M]).map Sg.n) (j, d)).2.1 = j) ∧ Adv d (cleanL ((l ++ [nw M]).map Sg.n) (j, d)).2.2 ∧ ((((cleanL ((l ++ [nw M]).map Sg.n) (j, d)).1 = 0) ∧ (cleanL ((l ++ [nw M]).map Sg.n) (j, d)).2.2.fs = fsOf [nw M] sn none) ∨
      (((cleanL ((l ++ [nw M]).map Sg.n) (j, d)).1 = 251) ∧ d.stop = true ∧ ∃ a l', l = a ++ l' ∧ (cleanL ((l ++ [nw M]).map Sg.n) (j, d)).2.2.fs = fsOf (l' ++ [nw M]) sn none)) := by
  intro l
  induction l with
  | nil =>
    intro d hd h
    have e : cleanL (([] ++ [nw M]).map Sg.n) (j, d) = (0, j, d) := by
      show cleanL [M] (j, d) = _
      unfold cleanL
      simp only [hact, true_or, if_true]
      rfl
    rw [e]
    exact ⟨rfl, Adv.refl d, .inl ⟨rfl, hd⟩⟩
  | cons g l ih =>
    intro d hd h
    have hgM : g.n < M := by
      have := (List.pairwise_cons.1 h.1).1 (nw M) (by simp)
      exact this
    have hne : nameL g.n ≠ j.active := by
      rw [hact]
      intro e
      have := nameL_inj (by omega) hM e
      omega
    have hhd : ((l ++ [nw M]).map Sg.n).head?.getD (nextJ j) ≤ M := by
      cases l with
      | nil => simp
      | cons x l =>
        simp only [List.cons_append, List.map_cons, List.head?_cons, Option.getD_some]
        have := (List.pairwise_cons.1 (List.pairwise_cons.1 h.1).2).1 (nw M) (by simp)
        have this : x.n < M := this
        omega
    have hA : AscS (l ++ [nw M]) := ⟨(List.pairwise_cons.1 h.1).2, fun x hx => h.2 x (List.mem_cons_of_mem _ hx)⟩
    have e : cleanL ((g :: l ++ [nw M]).map Sg.n) (j, d) = if (remD (nameL g.n) d).1 = 0 then cleanL ((l ++ [nw M]).map Sg.n) (j, (remD (nameL g.n) d).2) else ((remD (nameL g.n) d).1, j, (remD (nameL g.n) d).2) := by
      show cleanL (g.n :: (l ++ [nw M]).map Sg.n) (j, d) = _
      rw [cleanL]
      simp only
      rw [if_neg]
      rintro (e | e)
      · exact hne e
      · omega
    have hrem := rem_seg (a := []) (g := g) (b := l ++ [nw M]) hd h
    rcases hrem with ⟨h1, h2⟩ | ⟨h1, h2, h3⟩
    · rw [e, h1, if_neg (by omega)]
      exact ⟨rfl, Adv.refl d, .inr ⟨rfl, h2, [], g :: l, rfl, hd⟩⟩
    · rw [e, if_pos h1]
      obtain ⟨i1, i2, i3⟩ := ih (remD (nameL g.n) d).2 h2 hA
      refine ⟨i1, h3.trans i2, ?_⟩
      rcases i3 with i3 | ⟨i3, i4, a, l', rfl, i5⟩
      · exact .inl i3
      · exact .inr ⟨i3, by rw [← h3.1, i4], g :: a, l', rfl, i5⟩
theorem cons_tail {a b : Nat} {x y : List Sg} (h : Cons a (x ++ y) b) : ∃ c, a ≤ c ∧ Cons c y b := by
  obtain ⟨c, h1, h2⟩ := cons_app.1 h
  exact ⟨c, by have := cons_le h1; omega, h2⟩
inductive Half (j : Jn) (pre : List Sg) (g : Sg) (st : List UInt8) (sn : Option (Nat × List UInt8)) (d : Dk) : Prop
  | ahead (g' : Sg) (fr : Option (List UInt8 × Nat)) (hg : g' = g ∨ g' = g.full) (h : d.fs = fsOf (pre ++ [g']) sn fr)
  | behind (segs : List Sg) (a : Nat) (h : d.fs = fsOf segs (some (nextJ j - 1, st)) none) (hne : segs ≠ []) (hA : AscS segs) (hm : Small segs) (ha : a ≤ nextJ j) (hc : Cons a segs (nextJ j)) (hf : FullS segs)
theorem asc_tail {a b : List Sg} (h : AscS (a ++ b)) : AscS b :=
  ⟨(List.pairwise_append.1 h.1).2.1, fun x hx => h.2 x (by simp [hx])⟩
section
variable {j : Jn} {d : Dk} {pre : List Sg} {g : Sg} {sn : Option (Nat × List UInt8)} {st : List UInt8}
theorem seqA_ok {a : JAct} {l : List JAct} {s : JS} (h : (a s).1 = 0) : seqA (a :: l) s = seqA l (a s).2 := by
  show (if (a s).1 = 0 then seqA l (a s).2 else a s) = _
  rw [if_pos h]
theorem seqA_no {a : JAct} {l : List JAct} {s : JS} (h : (a s).1 ≠ 0) : seqA (a :: l) s = a s := by
  show (if (a s).1 = 0 then seqA l (a s).2 else a s) = _
  rw [if_neg h]
theorem lay_cases {j : Jn} {d : Dk} {segs : List Sg} {sn : Option (Nat × List UInt8)} {y : Nat × List UInt8} {x : List UInt8} (hy : x = recL (padL 8 y.1 ++ y.2)) (hd : d.fs = fsOf segs sn none) (hA : AscS segs) (hr : (usedF d.fs : Int) + x.length ≤ d.room) :
    ((seqA [dropA freshN, diskA fun _ d => makeD freshN d, layA x, diskA fun _ d => syncD freshN d, diskA fun _ d => renD freshN snapN d] (j, d)).1 ≠ 0 ∧ d.stop = true ∧ Adv d (seqA [dropA freshN, diskA fun _ d => makeD freshN d, layA x, diskA fun _ d => syncD freshN d, diskA fun _ d => renD freshN snapN d] (j, d)).2.2 ∧ ∃ fr, (seqA [dropA freshN, diskA fun _ d => makeD freshN d, layA x, diskA fun _ d => syncD freshN d, diskA fun _ d => renD freshN snapN d] (j, d)).2.2.fs = fsOf segs sn fr) ∨
    (∃ d', seqA [dropA freshN, diskA fun _ d => makeD freshN d, layA x, diskA fun _ d => syncD freshN d, diskA fun _ d => renD freshN snapN d] (j, d) = (0, j, d') ∧ d'.fs = fsOf segs (some y) none ∧ Adv d d') := by
  rcases drop_fresh (j := j) hd hA with ⟨h1, h2⟩ | ⟨h1, h2, h3, h4⟩
  · rw [seqA_no (by rw [h1]; simp), h1]
    exact .inl ⟨by simp, h2, Adv.refl d, none, hd⟩
  rw [seqA_ok h1]
  obtain ⟨d0, hd0⟩ : ∃ d0, d0 = (dropA freshN (j, d)).2.2 := ⟨_, rfl⟩
  have e0 : (dropA freshN (j, d)).2 = (j, d0) := by rw [hd0]; exact Prod.ext h2 rfl
  rw [← hd0] at h3 h4
  rw [e0]
  have hu0 : usedF d0.fs = usedF d.fs := by rw [h3, hd]
  rcases make_fresh h3 hA with ⟨m1, m2⟩ | ⟨m1, m2, m3⟩
  · have e : (diskA fun _ d => makeD freshN d) (j, d0) = (251, j, d0) := by simp only [diskA, m1]
    rw [seqA_no (by rw [e]; simp), e]
    exact .inl ⟨by simp, by rw [← h4.1, m2], h4, none, h3⟩
  have e : (diskA fun _ d => makeD freshN d) (j, d0) = (0, j, (makeD freshN d0).2) := by simp only [diskA, m1]
  rw [seqA_ok (by rw [e]), e]
  clear e
  generalize (makeD freshN d0).2 = d1 at *
  have hu1 : usedF d1.fs = usedF d0.fs := by rw [m2, h3, used_fs, used_fs]; rfl
  have a1 : Adv d d1 := h4.trans m3
  rcases app_fresh (x := x) m2 hA (by rw [hu1, hu0, a1.2]; exact hr) with ⟨p1, p2⟩ | ⟨p1, p2, p3⟩
  · have el : layA x (j, d1) = (251, j, d1) := by
      unfold layA
      simp only [p1, diskA]
      rw [if_neg (by simp)]
    rw [seqA_no (by rw [el]; simp), el]
    exact .inl ⟨by simp, by rw [← a1.1, p2], a1, _, m2⟩
  have el : layA x (j, d1) = (0, j, (appD freshN x d1).2) := by
    unfold layA
    simp only [p1, diskA]
    rw [if_neg (by simp)]
  rw [seqA_ok (by rw [el]), el]
  clear el
  generalize (appD freshN x d1).2 = d2 at *
  have a2 : Adv d d2 := a1.trans p3
  rcases sync_fresh p2 hA with ⟨q1, q2⟩ | ⟨q1, q2, q3⟩
  · have e : (diskA fun _ d => syncD freshN d) (j, d2) = (251, j, d2) := by simp only [diskA, q1]
    rw [seqA_no (by rw [e]; simp), e]
    exact .inl ⟨by simp, by rw [← a2.1, q2], a2, _, p2⟩
  have e : (diskA fun _ d => syncD freshN d) (j, d2) = (0, j, (syncD freshN d2).2) := by simp only [diskA, q1]
  rw [seqA_ok (by rw [e]), e]
  clear e
  generalize (syncD freshN d2).2 = d3 at *
  have a3 : Adv d d3 := a2.trans q3
  have q2 : d3.fs = fsOf segs sn (some (recL (padL 8 y.1 ++ y.2), (recL (padL 8 y.1 ++ y.2)).length)) := by
    rw [q2, ← hy]; simp
  rcases ren_fresh q2 hA with ⟨r1, r2⟩ | ⟨r1, r2, r3⟩
  · have e : (diskA fun _ d => renD freshN snapN d) (j, d3) = (251, j, d3) := by simp only [diskA, r1]
    rw [seqA_no (by rw [e]; simp), e]
    exact .inl ⟨by simp, by rw [← a3.1, r2], a3, _, q2⟩
  have e : (diskA fun _ d => renD freshN snapN d) (j, d3) = (0, j, (renD freshN snapN d3).2) := by simp only [diskA, r1]
  rw [seqA_ok (by rw [e]), e]
  exact .inr ⟨_, rfl, r2, a3.trans r3⟩
theorem shot_cases {j : Jn} {d : Dk} {segs : List Sg} {sn : Option (Nat × List UInt8)} {st : List UInt8} (hd : d.fs = fsOf segs sn none) (hA : AscS segs) (hr : (usedF d.fs : Int) + (recL (padL 8 (nextJ j - 1) ++ st)).length ≤ d.room) :
    ((shotA st (j, d)).1 ≠ 0 ∧ d.stop = true ∧ Adv d (shotA st (j, d)).2.2 ∧ ∃ fr, (shotA st (j, d)).2.2.fs = fsOf segs sn fr) ∨ (∃ d', shotA st (j, d) = (0, { j with number := nextJ j - 1, state := st, recs := [] }, d') ∧ d'.fs = fsOf segs (some (nextJ j - 1, st)) none ∧ Adv d d') := by
  unfold shotA
  simp only
  rcases lay_cases (j := j) (y := (nextJ j - 1, st)) rfl hd hA hr with ⟨h1, h2⟩ | ⟨d', h1, h2, h3⟩
  · rw [if_neg h1]
    exact .inl ⟨h1, h2⟩
  · rw [h1]
    exact .inr ⟨d', rfl, h2, h3⟩
theorem compact_fam (R : Rep j d pre g sn) (hst : st.length ≤ 65528) (hr : (usedF d.fs : Int) + (recL (padL 8 (nextJ j - 1) ++ st)).length ≤ d.room) (hx : nextJ j < 4294967296) :
    ((compactA st (j, d)).1 ≠ 0 ∧ d.stop = true ∧ Adv d (compactA st (j, d)).2.2 ∧ Half j pre g st sn (compactA st (j, d)).2.2) ∨
    (∃ j' d', compactA st (j, d) = (0, j', d') ∧ Rep j' d' [] (nw (nextJ j)) (some (nextJ j - 1, st)) ∧ j'.recs = [] ∧ j'.number = nextJ j - 1 ∧ j'.state = st ∧ j'.long = j.long ∧ Adv d d') := by
  have h1x : 1 ≤ nextJ j := by unfold nextJ; omega
  unfold compactA
  rcases sync_seg (b := []) R.fs R.asc with ⟨h1, h2⟩ | ⟨h1, h2, h3⟩
  · have e : syncA (j, d) = (251, j, d) := by
      unfold syncA
      rw [show (j, d).1.active = nameL g.n from R.act, h1, if_neg (by simp)]
    rw [seqA_no (by rw [e]; simp), e]
    exact .inl ⟨by simp, h2, Adv.refl d, .ahead g none (.inl rfl) R.fs⟩
  have e : syncA (j, d) = (0, { j with safe := nextJ j - 1 }, (syncD (nameL g.n) d).2) := by
    unfold syncA
    simp only [R.act, h1, if_true]
  rw [seqA_ok (by rw [e]), e]
  simp only
  generalize (syncD (nameL g.n) d).2 = d1 at *
  have hA1 : AscS (pre ++ [g.full]) := asc_same (g := g) rfl R.asc
  have hu1 : usedF d1.fs = usedF d.fs := by
    rw [h2, R.fs, used_fs, used_fs]; simp [Sg.full]
  generalize hj1 : ({ j with safe := nextJ j - 1 } : Jn) = j1
  have n1 : nextJ j1 = nextJ j := by rw [← hj1]; rfl
  have l1 : j1.long = j.long := by rw [← hj1]
  have t1 : j1.active = nameL g.n := by rw [← hj1]; exact R.act
  rcases shot_cases (j := j1) h2 hA1 (by rw [n1, hu1, h3.2]; exact hr) with ⟨s1, s2, s3, fr, s4⟩ | ⟨d2, s1, s2, s3⟩
  · rw [seqA_no s1]
    exact .inl ⟨s1, by rw [← h3.1, s2], h3.trans s3, .ahead g.full fr (.inr rfl) s4⟩
  rw [n1] at s1 s2
  rw [seqA_ok (by rw [s1]), s1]
  simp only
  have a2 : Adv d d2 := h3.trans s3
  generalize hj2 : ({ j1 with number := nextJ j - 1, state := st, recs := [] } : Jn) = j2
  have n2 : nextJ j2 = nextJ j := by rw [← hj2]; unfold nextJ; simp
  have hlast := R.last
  have hsm : Small (pre ++ [g.full]) := by
    intro x hx y hy
    rcases List.mem_append.1 hx with hx | hx
    · exact R.small x (by simp [hx]) y hy
    · simp at hx; subst hx
      exact R.small g (by simp) y hy
  have hcons : Cons (j.number + 1) (pre ++ [g.full]) (nextJ j) := by
    obtain ⟨c, hc, hc1, hc2⟩ := cons_app.1 R.cons
    exact cons_app.2 ⟨c, hc, hc1, hc2⟩
  have hfull : FullS (pre ++ [g.full]) := by
    intro x hx
    rcases List.mem_append.1 hx with hx | hx
    · exact R.full x hx
    · simp at hx; subst hx; rfl
  have hnum : j.number + 1 ≤ nextJ j := by unfold nextJ; omega
  have hbeg : (beginA (j2, d2) = (251, j2, d2) ∧ d2.stop = true) ∨ ∃ l d3, beginA (j2, d2) = (0, { j2 with active := nameL (nextJ j) }, d3) ∧ d3.fs = fsOf (l ++ [nw (nextJ j)]) (some (nextJ j - 1, st)) none ∧ AscS (l ++ [nw (nextJ j)]) ∧ Adv d2 d3 ∧ Small (l ++ [nw (nextJ j)]) ∧ Cons (j.number + 1) (l ++ [nw (nextJ j)]) (nextJ j) ∧ FullS (l ++ [nw (nextJ j)]) := by
    by_cases hne : g.rs = []
    · have hgn : g.n = nextJ j := by rw [← hlast, hne]; simp
      have hfe : g.full = nw (nextJ j) := by
        unfold Sg.full
        rw [← hgn, hne]; cases g; simp at hne; subst hne; rfl
      refine .inr ⟨pre, d2, ?_, by rw [s2, hfe], by rw [← hfe]; exact hA1, Adv.refl _, by rw [← hfe]; exact hsm, by rw [← hfe]; exact hcons, by rw [← hfe]; exact hfull⟩
      unfold beginA
      rw [n2, if_pos]
      show hasF (nameL (nextJ j)) d2 = true
      have := get_seg (sn := some (nextJ j - 1, st)) (fr := none) hA1 (g := g.full) (by simp)
      have e : (g.full).n = nextJ j := hgn
      rw [e] at this
      rw [has_of, s2, this]; rfl
    · have hpos : 1 ≤ g.rs.length := List.length_pos_iff.2 hne
      have hlt : ∀ x ∈ pre ++ [g.full], x.n < nextJ j := by
        intro x hx
        rcases List.mem_append.1 hx with hx | hx
        · have := R.asc.1
          rw [List.pairwise_append] at this
          have := this.2.2 x hx g (by simp)
          omega
        · simp at hx; subst hx
          show g.n < nextJ j
          omega
      have hno : hasF (nameL (nextJ j)) d2 = false := by
        rw [has_of, s2, get_noseg hA1 hx (fun x hx e => by have := hlt x hx; omega)]; rfl
      rcases make_seg (n := nextJ j) s2 hA1 ⟨h1x, hx⟩ hlt with ⟨k1, k2⟩ | ⟨k1, k2, k3⟩
      · refine .inl ⟨?_, k2⟩
        unfold beginA
        simp only [n2, hno, Bool.false_eq_true, if_false, k1]
        rw [if_neg (by simp)]
      · refine .inr ⟨pre ++ [g.full], (makeD (nameL (nextJ j)) d2).2, ?_, k2, asc_snoc hA1 ⟨h1x, hx⟩ hlt, k3, ?_, cons_app.2 ⟨nextJ j, hcons, rfl, rfl⟩, ?_⟩
        · unfold beginA
          simp only [n2, hno, Bool.false_eq_true, if_false, k1, if_true]
        · intro x hx y hy
          rcases List.mem_append.1 hx with hx | hx
          · exact hsm x hx y hy
          · simp at hx; subst hx; simp at hy
        · intro x hx
          rcases List.mem_append.1 hx with hx | hx
          · exact hfull x hx
          · simp at hx; subst hx; rfl
  rcases hbeg with ⟨b1, b2⟩ | ⟨l, d3, b1, b2, b3, b4, b5, b6, b7⟩
  · rw [seqA_no (by rw [b1]; simp), b1]
    exact .inl ⟨by simp, by rw [← a2.1, b2], a2, .behind (pre ++ [g.full]) (j.number + 1) s2 (by simp) hA1 hsm hnum hcons hfull⟩
  rw [seqA_ok (by rw [b1]), b1]
  simp only
  have a3 : Adv d d3 := a2.trans b4
  generalize hj3 : ({ j2 with active := nameL (nextJ j) } : Jn) = j3
  have n3 : j3.number + 1 = nextJ j := by rw [← hj3, ← hj2]; show nextJ j - 1 + 1 = nextJ j; omega
  have t3 : j3.active = nameL (nextJ j) := by rw [← hj3]
  obtain ⟨c1, c2, c3⟩ := clean_down (M := nextJ j) (sn := some (nextJ j - 1, st)) t3 n3 hx l d3 b2 b3
  have hcl : cleanA (j3, d3) = cleanL ((l ++ [nw (nextJ j)]).map Sg.n) (j3, d3) := by
    unfold cleanA
    rw [show segsOf (j3, d3).2 = _ from segsOf_fs b2 b3]
  rw [← hcl] at c1 c2 c3
  rcases c3 with ⟨c3, c4⟩ | ⟨c3, c4, a, l', rfl, c5⟩
  · rw [seqA_ok c3, seqA]
    refine .inr ⟨(cleanA (j3, d3)).2.1, (cleanA (j3, d3)).2.2, rfl, ?_, ?_, ?_, ?_, ?_, a3.trans c2⟩
    · rw [c1]
      refine ⟨c4, ?_, ?_, ?_, t3, by simp, by simp, ?_, ?_, ?_⟩
      · exact ⟨by simp, by simp; omega⟩
      · simp [Small]
      · refine ⟨n3.symm, ?_⟩
        show j3.number + 1 + 0 = nextJ j3
        rw [← hj3, ← hj2]; rfl
      · rw [← hj3, ← hj2]; rfl
      · rw [← hj3, ← hj2]; rfl
      · rw [← hj3, ← hj2]; rfl
    · rw [c1, ← hj3, ← hj2]
    · rw [c1, ← hj3, ← hj2]
    · rw [c1, ← hj3, ← hj2]
    · rw [c1, ← hj3, ← hj2]; exact l1
  · rw [seqA_no (by rw [c3]; simp)]
    rw [List.append_assoc] at b3 b5 b6 b7
    obtain ⟨c, hc1, hc2⟩ := cons_tail b6
    have hle := cons_le hc2
    exact .inl ⟨by rw [c3]; simp, by rw [← a3.1, c4], a3.trans c2, .behind (l' ++ [nw (nextJ j)]) c c5 (by simp) (asc_tail b3) (fun x hx => b5 x (by
      rcases List.mem_append.1 hx with hx | hx
      · simp [hx]
      · simp only [List.mem_append]; exact .inr (.inr hx))) (by omega) hc2 (fun x hx => b7 x (by
      rcases List.mem_append.1 hx with hx | hx
      · simp [hx]
      · simp only [List.mem_append]; exact .inr (.inr hx)))⟩
end
end Go.Proofs.Gong

/- Js0 -/
namespace Go.Proofs.Gong
open Go Go.Sx Go.Proofs
set_option maxRecDepth 100000
theorem cons_len : ∀ {a : Nat} {l : List Sg} {b : Nat}, Cons a l b → AscS l → a + l.length ≤ b + 1
  | a, [], b, h, _ => by have h : a = b := h; simp; omega
  | a, [g], b, h, _ => by
    have := cons_le h.2
    simp at this ⊢; omega
  | a, g :: x :: l, b, h, hA => by
    have hx : g.n < x.n := (List.pairwise_cons.1 hA.1).1 x (by simp)
    have h2 : Cons (a + g.rs.length) (x :: l) b := h.2
    have h1 : g.n = a := h.1
    have h3 : x.n = a + g.rs.length := h2.1
    have ih := cons_len h2 ⟨(List.pairwise_cons.1 hA.1).2, fun y hy => hA.2 y (List.mem_cons_of_mem _ hy)⟩
    simp only [List.length_cons] at ih ⊢
    omega
theorem fsOf_len {segs : List Sg} {sn : Option (Nat × List UInt8)} {fr : Option (List UInt8 × Nat)} : (fsOf segs sn fr).length ≤ segs.length + 2 := by
  unfold fsOf
  cases sn <;> cases fr <;> simp
theorem recs_len {B : Nat} (hB : B ≤ 65536) : ∀ {l : List (List UInt8)}, (∀ p ∈ l, p.length ≤ B) → (l.flatMap recL).length ≤ l.length * (B + 7)
  | [], _ => by simp
  | p :: l, h => by
    have h1 := h p (by simp)
    have h2 := recL_len p
    have h3 := txtL_len (p := p) (by omega)
    have ih := recs_len hB fun x hx => h x (List.mem_cons_of_mem _ hx)
    rw [List.flatMap_cons, List.length_append, List.length_cons, Nat.add_mul]
    omega
theorem rec_le {p : List UInt8} (h : p.length ≤ 65536) : (recL p).length ≤ p.length + 7 := by
  have h2 := recL_len p
  have h3 := txtL_len h
  omega
section
variable {j : Jn} {d : Dk} {pre : List Sg} {g : Sg} {sn : Option (Nat × List UInt8)}
theorem Rep.segs (R : Rep j d pre g sn) : d.fs.length ≤ j.recs.length + 3 := by
  have h1 := cons_len R.cons R.asc
  have h2 := fsOf_len (segs := pre ++ [g]) (sn := sn) (fr := none)
  have h3 : nextJ j = j.number + j.recs.length + 1 := rfl
  rw [R.fs]; omega
theorem Rep.names (R : Rep j d pre g sn) : NamesJ d := names_fs R.fs R.asc
end
theorem crFil_nil {g : Sg} {i : Nat} (hq : g.q ≤ g.rs.length) : crFil [] i (sgFil g) = sgFil { g with rs := g.rs.take g.q } := by
  have e : crLong [] i (sgFil g) = ((g.rs.take g.q).flatMap recL).length := rfl
  have e2 : (g.rs.flatMap recL).take ((g.rs.take g.q).flatMap recL).length = (g.rs.take g.q).flatMap recL := by
    have : g.rs.flatMap recL = (g.rs.take g.q).flatMap recL ++ (g.rs.drop g.q).flatMap recL := by rw [← List.flatMap_append, List.take_append_drop]
    rw [this, List.take_left]
  unfold crFil
  rw [e]
  unfold sgFil
  simp only [e2, List.take_take, Nat.min_self]
attribute [local irreducible] fBuild fLook fZero eqv bEqv Cl MapH LsH SlH ld1 ldN st callP eBox eAlloc lenM lenL eMapSet eDelete eAppend eBuildSl eRange eNext
section
variable {w0 w : World} {L : List HP} {K : Value → World → Prop} {v dv a b : Value} {j : Jn} {d : Dk} {pre : List Sg} {g : Sg} {sn : Option (Nat × List UInt8)} {p : List UInt8} {l : List (List UInt8)}
theorem append_ok (W : JW w0) (R : Rep j d pre g sn) (hs : d.stop = false) (hlong : 1 ≤ j.long) (hp : p.length ≤ 65536) (hr : (usedF d.fs : Int) + (recL p).length ≤ d.room) (hl : j.recs.length ≤ 1000000) (hx : nextJ j < 4294967295) (h : Sat w0 (JrP v j dv :: DiskA dv d :: L) w)
    (hK : ∀ j' d' pre' g' w', Rep j' d' pre' g' sn → j'.recs = j.recs ++ [p] → j'.number = j.number → j'.state = j.state → j'.long = j.long → Adv d d' → Sat w0 (JrP v j' dv :: DiskA dv d' :: L) w' → K (.tuple #[.int .i64 (nextJ j : Nat), .int .i64 0]) w') : callP G10 [v, .string (bs p)] w K := by
  obtain ⟨j', d', pre', g', e, R', h1, h2, h3, h4, h5⟩ := app_rep R hs hlong hp hr (by omega)
  have hsg := R.segs
  refine append_spec W hp (by omega) hx h fun w h => ?_
  rw [e] at h ⊢
  have en : nextJ j' - 1 = nextJ j := by unfold nextJ; rw [h1, h2]; simp; omega
  simp only [if_true, en]
  exact hK j' d' pre' g' w R' h1 h2 h3 h4 h5 h
theorem append_in (W : JW w0) (R : Rep j d pre g sn) (hs : d.stop = false) (hp : p.length ≤ 65536) (hr : (usedF d.fs : Int) + (recL p).length ≤ d.room) (hlg : ((g.rs.flatMap recL).length : Int) < j.long) (hl : j.recs.length ≤ 1000000) (hx : nextJ j < 4294967295) (h : Sat w0 (JrP v j dv :: DiskA dv d :: L) w)
    (hK : ∀ j' d' w', Rep j' d' pre { g with rs := g.rs ++ [p] } sn → j'.recs = j.recs ++ [p] → j'.number = j.number → j'.long = j.long → Adv d d' → Sat w0 (JrP v j' dv :: DiskA dv d' :: L) w' → K (.tuple #[.int .i64 (nextJ j : Nat), .int .i64 0]) w') : callP G10 [v, .string (bs p)] w K := by
  obtain ⟨d', e, R', h5⟩ := app_in R hs hp hr hlg
  have hsg := R.segs
  refine append_spec W hp (by omega) hx h fun w h => ?_
  rw [e] at h ⊢
  have en : nextJ ({ j with recs := j.recs ++ [p] } : Jn) - 1 = nextJ j := by unfold nextJ; simp; omega
  simp only [if_true, en]
  exact hK _ d' w R' rfl rfl rfl h5 h
theorem sync_ok (R : Rep j d pre g sn) (hs : d.stop = false) (hx : nextJ j < 4294967295) (h : Sat w0 (JrP v j dv :: DiskA dv d :: L) w)
    (hK : ∀ j' d' w', Rep j' d' pre g.full sn → j'.recs = j.recs → j'.number = j.number → j'.state = j.state → j'.long = j.long → Adv d d' → Sat w0 (JrP v j' dv :: DiskA dv d' :: L) w' → K (.int .i64 0) w') : callP G12 [v] w K := by
  obtain ⟨d', e, R', h5⟩ := sync_rep R hs
  refine jsync_spec (by omega) h fun w h => ?_
  rw [e] at h ⊢
  exact hK _ d' w R' rfl rfl rfl rfl h5 h
theorem open_ok {pd : Nat} {segs : List Sg} {fr : Option (List UInt8 × Nat)} {A T N : Nat} {long : Int} (W : JW w0) (hlong : 1 ≤ long ∧ long ≤ 1073741824) (hs : d.stop = false) (hd : d.fs = fsOf segs sn fr) (hA : AscS segs) (hm : Small segs) (hc : Cons A segs T) (hne : segs ≠ []) (hN : sn.elim 0 (·.1) = N) (ha : A ≤ N + 1) (hNT : N + 1 ≤ T) (hT : T < 1000000) (hsn : ∀ x, sn = some x → x.2.length ≤ 65528) (h : Sat w0 (DiskA (ptr pd) d :: L) w)
    (hK : ∀ q j' d' w', j'.number = N → j'.state = sn.elim [] (·.2) → j'.recs = (segs.flatMap (·.rs)).drop (N + 1 - A) → nextJ j' = T → Sat w0 (JrP (ptr q) j' (ptr pd) :: DiskA (ptr pd) d' :: L) w' → K (.tuple #[ptr q, .int .i64 0]) w') : callP G7 [ptr pd, .int .i64 long] w K := by
  obtain ⟨j', d', e, h1, h2, h3, h4, _, _, h5, h6⟩ := open_fs (long := long) hs hd hA hm hc hne hN ha hNT (by omega) hsn
  have hl := cons_len hc hA
  have hl2 := fsOf_len (segs := segs) (sn := sn) (fr := fr)
  refine open_spec' W hlong (by rw [hd]; omega) (names_fs hd hA) h5 h6 h (fun hb => by rw [e] at hb; exact absurd rfl hb) fun _ q w h => ?_
  rw [e] at h
  exact hK q j' d' w h1 h2 h3 h4 h
theorem open0_ok {pd : Nat} {room long : Int} (W : JW w0) (hlong : 1 ≤ long ∧ long ≤ 1073741824) (h : Sat w0 (DiskA (ptr pd) (newD room) :: L) w)
    (hK : ∀ q j' d' w', Rep j' d' [] ⟨1, [], 0⟩ none → d'.stop = false → d'.room = room → j'.long = long → j'.recs = [] → j'.number = 0 → j'.state = [] → Sat w0 (JrP (ptr q) j' (ptr pd) :: DiskA (ptr pd) d' :: L) w' → K (.tuple #[ptr q, .int .i64 0]) w') : callP G7 [ptr pd, .int .i64 long] w K := by
  obtain ⟨j', d', e, R, h1, h2, h3, h4, h5, h7, h8, h9⟩ := open_new (long := long) (room := room)
  refine open_spec' W hlong (by simp [newD]) (by simp [NamesJ, newD]) h8 h9 h (fun hb => by rw [e] at hb; exact absurd rfl hb) fun _ q w h => ?_
  rw [e] at h
  exact hK q j' d' w R h1 h2 h3 h4 h5 h7 h
theorem sameT_loop [ra : RdIn w0 L a (List UInt8) cSt 1 l] [rb : RdIn w0 L b (List UInt8) cSt 1 l] (hl : l.length ≤ 1073741824) (hK : ∀ w', Sat w0 L w' → K (.bool true) w') : ∀ (k i : Nat) (w : World), l.length - i < k → i ≤ l.length → Sat w0 L w → F15_2L k a b (.bool true) (.int .i64 i) w K := by
  intro k
  induction k with
  | zero => intro i w hd; omega
  | succ k ih =>
    intro i w hd hi h
    rw [F15_2L]
    unfold F15_2b
    by_cases g : i < l.length
    · have g' : decide ((i : Int) < (l.length : Int)) = true := by simpa using g
      (repeat (first
 | (simp (disch := omega) only [evA, evB, evC, bAdd_i64, bSub_i64, g'])
 | (with_reducible apply go_ld1 h)
 | ((with_reducible first | apply go_ldA h | apply go_rd h | apply go_rdN h); rfl)
 | (with_reducible first | apply go_ldN h | apply go_lenR h)
 | ((with_reducible apply go_st h); intro _ h)
 | ((with_reducible apply go_stA h); rfl; rfl; (first | rfl | simp [OneV.o]); intro _ h)
 | ((with_reducible apply go_stN h); rfl; (first | rfl | simp [OneV.o]); intro _ h)
 | ((with_reducible apply go_box h); rfl; intro _ _ h)
 | ((with_reducible apply go_ixR h); omega)
 | ((with_reducible first | apply go_elR h | apply go_f1R h | apply go_rf1R h | apply go_relR h | apply go_e1R h | apply go_re1R h); (case hc => exact inferInstance); (case hi => omega); (try case hx => exact inferInstance); (try case hv => rfl))
 | ((with_reducible apply go_fNR h); (case hc => exact inferInstance); (case hi => omega); (try case hp => exact inferInstance); (try case hv => rfl))
 | ((with_reducible apply go_faR h); (case hc => exact inferInstance); omega; omega)
 | ((with_reducible apply go_rlenR h); rfl)
))
      exact ih (i + 1) _ (by omega) (by omega) h.drew
    · have g' : decide ((i : Int) < (l.length : Int)) = false := by simpa using g
      (repeat (first
 | (simp (disch := omega) only [evA, evB, evC, bAdd_i64, bSub_i64, g'])
 | (with_reducible apply go_ld1 h)
 | ((with_reducible first | apply go_ldA h | apply go_rd h | apply go_rdN h); rfl)
 | (with_reducible first | apply go_ldN h | apply go_lenR h)
 | ((with_reducible apply go_st h); intro _ h)
 | ((with_reducible apply go_stA h); rfl; rfl; (first | rfl | simp [OneV.o]); intro _ h)
 | ((with_reducible apply go_stN h); rfl; (first | rfl | simp [OneV.o]); intro _ h)
 | ((with_reducible apply go_box h); rfl; intro _ _ h)
 | ((with_reducible apply go_ixR h); omega)
 | ((with_reducible first | apply go_elR h | apply go_f1R h | apply go_rf1R h | apply go_relR h | apply go_e1R h | apply go_re1R h); (case hc => exact inferInstance); (case hi => omega); (try case hx => exact inferInstance); (try case hv => rfl))
 | ((with_reducible apply go_fNR h); (case hc => exact inferInstance); (case hi => omega); (try case hp => exact inferInstance); (try case hv => rfl))
 | ((with_reducible apply go_faR h); (case hc => exact inferInstance); omega; omega)
 | ((with_reducible apply go_rlenR h); rfl)
))
      unfold F15_3 F15_3b
      exact hK _ h
theorem sameT_spec [ra : RdIn w0 L a (List UInt8) cSt 1 l] [rb : RdIn w0 L b (List UInt8) cSt 1 l] (hl : l.length ≤ 1073741824) (h : Sat w0 L w) (hK : ∀ w', Sat w0 L w' → K (.bool true) w') : callP G15 [a, b] w K := by
  refine c15 ?_
  unfold F15 F15_1 F15_1b F15_2
  (repeat (first
 | (simp (disch := omega) only [evA, evB, evC, bAdd_i64, bSub_i64])
 | (with_reducible apply go_ld1 h)
 | ((with_reducible first | apply go_ldA h | apply go_rd h | apply go_rdN h); rfl)
 | (with_reducible first | apply go_ldN h | apply go_lenR h)
 | ((with_reducible apply go_st h); intro _ h)
 | ((with_reducible apply go_stA h); rfl; rfl; (first | rfl | simp [OneV.o]); intro _ h)
 | ((with_reducible apply go_stN h); rfl; (first | rfl | simp [OneV.o]); intro _ h)
 | ((with_reducible apply go_box h); rfl; intro _ _ h)
 | ((with_reducible apply go_ixR h); omega)
 | ((with_reducible first | apply go_elR h | apply go_f1R h | apply go_rf1R h | apply go_relR h | apply go_e1R h | apply go_re1R h); (case hc => exact inferInstance); (case hi => omega); (try case hx => exact inferInstance); (try case hv => rfl))
 | ((with_reducible apply go_fNR h); (case hc => exact inferInstance); (case hi => omega); (try case hp => exact inferInstance); (try case hv => rfl))
 | ((with_reducible apply go_faR h); (case hc => exact inferInstance); omega; omega)
 | ((with_reducible apply go_rlenR h); rfl)
))
  exact sameT_loop hl hK fuel 0 _ (by unfold fuel; omega) (by omega) h
theorem cut_spec {x : List UInt8} {B : Nat} (hK : K (.string (bs (x.take B))) w) : callP G9 [.string (bs x), .int .i64 B] w K := by
  refine c9 ?_
  unfold F9
  by_cases g : x.length > B
  · have g' : decide ((x.length : Int) > B) = true := by simp; omega
    (repeat (first
 | (simp (disch := omega) only [evA, evB, evC, bAdd_i64, bSub_i64, g'])
 | (with_reducible apply go_ld1 h)
 | ((with_reducible first | apply go_ldA h | apply go_rd h | apply go_rdN h | apply go_rlen h); rfl)
 | (with_reducible first | apply go_ldN h | apply go_lenL h)
 | ((with_reducible apply go_st h); intro _ h)
 | ((with_reducible apply go_stA h); rfl; rfl; (first | rfl | simp [OneV.o]); intro _ h)
 | ((with_reducible apply go_stN h); rfl; (first | rfl | simp [OneV.o]); intro _ h)
 | ((with_reducible apply go_box h); rfl; intro _ _ h)
 | ((with_reducible apply go_ix h); omega)
 | ((with_reducible first | apply go_elN h | apply go_f1 h | apply go_rf1 h | apply go_rel h); (case hi => omega); (try case hx => exact inferInstance); (try case hv => rfl))
 | ((with_reducible apply go_fa h); omega; omega)
))
    refine go_some (sub_to (i := B) (by omega)) ?_
    exact hK
  · have g' : decide ((x.length : Int) > B) = false := by simp; omega
    (repeat (first
 | (simp (disch := omega) only [evA, evB, evC, bAdd_i64, bSub_i64, g'])
 | (with_reducible apply go_ld1 h)
 | ((with_reducible first | apply go_ldA h | apply go_rd h | apply go_rdN h | apply go_rlen h); rfl)
 | (with_reducible first | apply go_ldN h | apply go_lenL h)
 | ((with_reducible apply go_st h); intro _ h)
 | ((with_reducible apply go_stA h); rfl; rfl; (first | rfl | simp [OneV.o]); intro _ h)
 | ((with_reducible apply go_stN h); rfl; (first | rfl | simp [OneV.o]); intro _ h)
 | ((with_reducible apply go_box h); rfl; intro _ _ h)
 | ((with_reducible apply go_ix h); omega)
 | ((with_reducible first | apply go_elN h | apply go_f1 h | apply go_rf1 h | apply go_rel h); (case hi => omega); (try case hx => exact inferInstance); (try case hv => rfl))
 | ((with_reducible apply go_fa h); omega; omega)
))
    rw [List.take_of_length_le (by omega)] at hK
    exact hK
theorem works27_spec (W : JW w0) (h : Sat w0 L w) (hK : ∀ w', Sat w0 L w' → K (.bool true) w') : callP G5 [] w K := by
  refine c5 ?_
  unfold F5
  refine dnew_spec h (fun hb => by omega) fun _ _ p w h => ?_
  (repeat (first
 | (simp (disch := omega) only [evA, evB, evC, bAdd_i64, bSub_i64])
 | (with_reducible apply go_ld1 h)
 | ((with_reducible first | apply go_ldA h | apply go_rd h | apply go_rdN h | apply go_rlen h); rfl)
 | (with_reducible first | apply go_ldN h | apply go_lenL h)
 | ((with_reducible apply go_st h); intro _ h)
 | ((with_reducible apply go_stA h); rfl; rfl; (first | rfl | simp [OneV.o]); intro _ h)
 | ((with_reducible apply go_stN h); rfl; (first | rfl | simp [OneV.o]); intro _ h)
 | ((with_reducible apply go_box h); rfl; intro _ _ h)
 | ((with_reducible apply go_ix h); omega)
 | ((with_reducible first | apply go_elN h | apply go_f1 h | apply go_rf1 h | apply go_rel h); (case hi => omega); (try case hx => exact inferInstance); (try case hv => rfl))
 | ((with_reducible apply go_fa h); omega; omega)
))
  refine open0_ok (long := 100) W (by omega) h fun q j d w R s0 m0 l0 r0 n0 t0 h => ?_
  (repeat (first
 | (simp (disch := omega) only [evA, evB, evC, bAdd_i64, bSub_i64])
 | (refine go_some (bEq_nilp up25   ..) ?_)
 | (refine go_some (bEq_nilp up29   ..) ?_)
 | (with_reducible apply go_ld1 h)
 | ((with_reducible first | apply go_ldA h | apply go_rd h | apply go_rdN h | apply go_rlen h); rfl)
 | (with_reducible first | apply go_ldN h | apply go_lenL h)
 | ((with_reducible apply go_st h); intro _ h)
 | ((with_reducible apply go_stA h); rfl; rfl; (first | rfl | simp [OneV.o]); intro _ h)
 | ((with_reducible apply go_stN h); rfl; (first | rfl | simp [OneV.o]); intro _ h)
 | ((with_reducible apply go_box h); rfl; intro _ _ h)
 | ((with_reducible apply go_ix h); omega)
 | ((with_reducible first | apply go_elN h | apply go_f1 h | apply go_rf1 h | apply go_rel h); (case hi => omega); (try case hx => exact inferInstance); (try case hv => rfl))
 | ((with_reducible apply go_fa h); omega; omega)
))
  have u0 : usedF d.fs = 0 := by rw [R.used, r0]; rfl
  have x0 : nextJ j = 1 := by unfold nextJ; rw [r0, n0]; rfl
  have sm : ∀ l : List (List UInt8), (∀ p ∈ l, p.length ≤ 1) → l.length ≤ 3 → (l.flatMap recL).length ≤ 24 := fun l h1 h2 => by have := recs_len (by omega) h1; omega
  have s1 : ∀ (c : UInt8), (recL [c]).length ≤ 8 := fun c => by have := rec_le (p := [c]) (by simp); simpa using this
  refine append_in (p := [97]) W R s0 (by simp) (by have := s1 97; rw [u0, m0]; omega) (by rw [l0]; simp) (by rw [r0]; simp) (by omega) h fun j1 d1 w R1 r1 n1 l1 a1 h => ?_
  rw [x0, show ((1 : Nat) : Int) = 1 from rfl]
  rw [r0] at r1
  rw [l0] at l1
  have s1a : d1.stop = false := by rw [a1.1, s0]
  have m1 : d1.room = 1048576 := by rw [a1.2, m0]
  have u1 : usedF d1.fs ≤ 24 := by rw [R1.used, r1]; exact sm [[97]] (by simp) (by simp)
  have x1 : nextJ j1 = 2 := by unfold nextJ; rw [r1, n1, n0]; rfl
  (repeat (first
 | (simp (disch := omega) only [evA, evB, evC, bAdd_i64, bSub_i64])
 | (with_reducible apply go_ld1 h)
 | ((with_reducible first | apply go_ldA h | apply go_rd h | apply go_rdN h | apply go_rlen h); rfl)
 | (with_reducible first | apply go_ldN h | apply go_lenL h)
 | ((with_reducible apply go_st h); intro _ h)
 | ((with_reducible apply go_stA h); rfl; rfl; (first | rfl | simp [OneV.o]); intro _ h)
 | ((with_reducible apply go_stN h); rfl; (first | rfl | simp [OneV.o]); intro _ h)
 | ((with_reducible apply go_box h); rfl; intro _ _ h)
 | ((with_reducible apply go_ix h); omega)
 | ((with_reducible first | apply go_elN h | apply go_f1 h | apply go_rf1 h | apply go_rel h); (case hi => omega); (try case hx => exact inferInstance); (try case hv => rfl))
 | ((with_reducible apply go_fa h); omega; omega)
))
  refine append_in (p := [98]) W R1 s1a (by simp) (by have := s1 98; rw [m1]; omega) (by have := sm [[97]] (by simp) (by simp); rw [l1]; simp at this ⊢; omega) (by rw [r1]; simp) (by omega) h fun j2 d2 w R2 r2 n2 l2 a2 h => ?_
  rw [x1, show ((2 : Nat) : Int) = 2 from rfl]
  rw [r1] at r2
  have s2 : d2.stop = false := by rw [a2.1, s1a]
  have m2 : d2.room = 1048576 := by rw [a2.2, m1]
  have x2 : nextJ j2 = 3 := by unfold nextJ; rw [r2, n2, n1, n0]; rfl
  (repeat (first
 | (simp (disch := omega) only [evA, evB, evC, bAdd_i64, bSub_i64])
 | (with_reducible apply go_ld1 h)
 | ((with_reducible first | apply go_ldA h | apply go_rd h | apply go_rdN h | apply go_rlen h); rfl)
 | (with_reducible first | apply go_ldN h | apply go_lenL h)
 | ((with_reducible apply go_st h); intro _ h)
 | ((with_reducible apply go_stA h); rfl; rfl; (first | rfl | simp [OneV.o]); intro _ h)
 | ((with_reducible apply go_stN h); rfl; (first | rfl | simp [OneV.o]); intro _ h)
 | ((with_reducible apply go_box h); rfl; intro _ _ h)
 | ((with_reducible apply go_ix h); omega)
 | ((with_reducible first | apply go_elN h | apply go_f1 h | apply go_rf1 h | apply go_rel h); (case hi => omega); (try case hx => exact inferInstance); (try case hv => rfl))
 | ((with_reducible apply go_fa h); omega; omega)
))
  refine sync_ok R2 s2 (by omega) h fun j3 d3 w R3 r3 n3 t3 l3 a3 h => ?_
  rw [r2] at r3
  have s3 : d3.stop = false := by rw [a3.1, s2]
  have m3 : d3.room = 1048576 := by rw [a3.2, m2]
  have u3 : usedF d3.fs ≤ 24 := by rw [R3.used, r3]; exact sm [[97], [98]] (by simp) (by simp)
  have x3 : nextJ j3 = 3 := by unfold nextJ; rw [r3, n3, n2, n1, n0]; rfl
  (repeat (first
 | (simp (disch := omega) only [evA, evB, evC, bAdd_i64, bSub_i64])
 | (with_reducible apply go_ld1 h)
 | ((with_reducible first | apply go_ldA h | apply go_rd h | apply go_rdN h | apply go_rlen h); rfl)
 | (with_reducible first | apply go_ldN h | apply go_lenL h)
 | ((with_reducible apply go_st h); intro _ h)
 | ((with_reducible apply go_stA h); rfl; rfl; (first | rfl | simp [OneV.o]); intro _ h)
 | ((with_reducible apply go_stN h); rfl; (first | rfl | simp [OneV.o]); intro _ h)
 | ((with_reducible apply go_box h); rfl; intro _ _ h)
 | ((with_reducible apply go_ix h); omega)
 | ((with_reducible first | apply go_elN h | apply go_f1 h | apply go_rf1 h | apply go_rel h); (case hi => omega); (try case hx => exact inferInstance); (try case hv => rfl))
 | ((with_reducible apply go_fa h); omega; omega)
))
  refine append_in (p := [99]) W R3 s3 (by simp) (by have := s1 99; rw [m3]; omega) (by have := sm [[97], [98]] (by simp) (by simp); rw [l3, l2, l1]; simp [Sg.full] at this ⊢; omega) (by rw [r3]; simp) (by omega) h fun j4 d4 w R4 r4 n4 l4 a4 h => ?_
  rw [x3, show ((3 : Nat) : Int) = 3 from rfl]
  have hf4 : d4.fs = [sgFil ⟨1, [[97], [98], [99]], 2⟩] := R4.fs
  have hc4 : (crashD [] d4).fs = fsOf [⟨1, [[97], [98]], 2⟩] none none := by
    unfold crashD
    simp only [hf4]
    show [crFil [] 0 (sgFil ⟨1, [[97], [98], [99]], 2⟩)] = _
    rw [crFil_nil (by simp)]
    rfl
  have hsl := R4.segs
  (repeat (first
 | (simp (disch := omega) only [evA, evB, evC, bAdd_i64, bSub_i64])
 | (with_reducible apply go_ld1 h)
 | ((with_reducible first | apply go_ldA h | apply go_rd h | apply go_rdN h | apply go_rlen h); rfl)
 | (with_reducible first | apply go_ldN h | apply go_lenL h)
 | ((with_reducible apply go_st h); intro _ h)
 | ((with_reducible apply go_stA h); rfl; rfl; (first | rfl | simp [OneV.o]); intro _ h)
 | ((with_reducible apply go_stN h); rfl; (first | rfl | simp [OneV.o]); intro _ h)
 | ((with_reducible apply go_box h); rfl; intro _ _ h)
 | ((with_reducible apply go_ix h); omega)
 | ((with_reducible first | apply go_elN h | apply go_f1 h | apply go_rf1 h | apply go_rel h); (case hi => omega); (try case hx => exact inferInstance); (try case hv => rfl))
 | ((with_reducible apply go_fa h); omega; omega)
))
  refine dcrash_spec (keep := []) (L := LsH cI 1 0 (.slice none 0 0) ([] : List Int) :: JrP (ptr q) j4 (ptr p) :: L) (by rw [hf4]; simp) ((Sat.nilLs cI 1 0 h).got) fun w h => ?_
  (repeat (first
 | (simp (disch := omega) only [evA, evB, evC, bAdd_i64, bSub_i64])
 | (with_reducible apply go_ld1 h)
 | ((with_reducible first | apply go_ldA h | apply go_rd h | apply go_rdN h | apply go_rlen h); rfl)
 | (with_reducible first | apply go_ldN h | apply go_lenL h)
 | ((with_reducible apply go_st h); intro _ h)
 | ((with_reducible apply go_stA h); rfl; rfl; (first | rfl | simp [OneV.o]); intro _ h)
 | ((with_reducible apply go_stN h); rfl; (first | rfl | simp [OneV.o]); intro _ h)
 | ((with_reducible apply go_box h); rfl; intro _ _ h)
 | ((with_reducible apply go_ix h); omega)
 | ((with_reducible first | apply go_elN h | apply go_f1 h | apply go_rf1 h | apply go_rel h); (case hi => omega); (try case hx => exact inferInstance); (try case hv => rfl))
 | ((with_reducible apply go_fa h); omega; omega)
))
  refine open_ok (long := 100) (pd := p) (segs := [⟨1, [[97], [98]], 2⟩]) (sn := none) (fr := none) (A := 1) (T := 3) (N := 0) W (by omega) rfl hc4 ⟨by simp, by simp⟩ (by simp [Small]) ⟨rfl, rfl⟩ (by simp) rfl (by omega) (by omega) (by omega) (by simp) h fun q2 j5 d5 w n5 t5 r5 x5 h => ?_
  have r5 : j5.recs = [[97], [98]] := r5
  (repeat (first
 | (simp (disch := omega) only [evA, evB, evC, bAdd_i64, bSub_i64, Int.reduceEq])
 | (refine go_some (bNe_nilp up29   ..) ?_)
 | (with_reducible apply go_ld1 h)
 | ((with_reducible first | apply go_ldA h | apply go_rd h | apply go_rdN h | apply go_rlen h); rfl)
 | (with_reducible first | apply go_ldN h | apply go_lenL h)
 | ((with_reducible apply go_st h); intro _ h)
 | ((with_reducible apply go_stA h); rfl; rfl; (first | rfl | simp [OneV.o]); intro _ h)
 | ((with_reducible apply go_stN h); rfl; (first | rfl | simp [OneV.o]); intro _ h)
 | ((with_reducible apply go_box h); rfl; intro _ _ h)
 | ((with_reducible apply go_ix h); omega)
 | ((with_reducible first | apply go_elN h | apply go_f1 h | apply go_rf1 h | apply go_rel h); (case hi => omega); (try case hx => exact inferInstance); (try case hv => rfl))
 | ((with_reducible apply go_fa h); omega; omega)
))
  refine records_spec (by rw [r5]; simp) h fun s w h => ?_
  rw [r5] at h
  have hb : fBuildSl Tryz.prog 9 2 [(0, .string (bs [97])), (1, .string (bs [98]))] = some #[kSt [97], kSt [98]] := by kernel_rfl
  (repeat (first
 | (simp (disch := omega) only [evA, evB, evC, bAdd_i64, bSub_i64])
 | (with_reducible apply go_ld1 h)
 | ((with_reducible first | apply go_ldA h | apply go_rd h | apply go_rdN h | apply go_rlen h); rfl)
 | (with_reducible first | apply go_ldN h | apply go_lenL h)
 | ((with_reducible apply go_st h); intro _ h)
 | ((with_reducible apply go_stA h); rfl; rfl; (first | rfl | simp [OneV.o]); intro _ h)
 | ((with_reducible apply go_stN h); rfl; (first | rfl | simp [OneV.o]); intro _ h)
 | ((with_reducible apply go_box h); rfl; intro _ _ h)
 | ((with_reducible apply go_ix h); omega)
 | ((with_reducible first | apply go_elN h | apply go_f1 h | apply go_rf1 h | apply go_rel h); (case hi => omega); (try case hx => exact inferInstance); (try case hv => rfl))
 | ((with_reducible apply go_fa h); omega; omega)
))
  refine ls_lit (m := [[97], [98]]) (f := cSt) (es := 1) (c := #[kSt [97], kSt [98]]) CodC.cod h u22 hb rfl fun s' w h => ?_
  (repeat (first
 | (simp (disch := omega) only [evA, evB, evC, bAdd_i64, bSub_i64])
 | (with_reducible apply go_ld1 h)
 | ((with_reducible first | apply go_ldA h | apply go_rd h | apply go_rdN h | apply go_rlen h); rfl)
 | (with_reducible first | apply go_ldN h | apply go_lenL h)
 | ((with_reducible apply go_st h); intro _ h)
 | ((with_reducible apply go_stA h); rfl; rfl; (first | rfl | simp [OneV.o]); intro _ h)
 | ((with_reducible apply go_stN h); rfl; (first | rfl | simp [OneV.o]); intro _ h)
 | ((with_reducible apply go_box h); rfl; intro _ _ h)
 | ((with_reducible apply go_ix h); omega)
 | ((with_reducible first | apply go_elN h | apply go_f1 h | apply go_rf1 h | apply go_rel h); (case hi => omega); (try case hx => exact inferInstance); (try case hv => rfl))
 | ((with_reducible apply go_fa h); omega; omega)
))
  refine sameT_spec (l := [[97], [98]]) (by simp) h fun w h => ?_
  (repeat (first
 | (simp (disch := omega) only [evA, evB, evC, bAdd_i64, bSub_i64])
 | (with_reducible apply go_ld1 h)
 | ((with_reducible first | apply go_ldA h | apply go_rd h | apply go_rdN h | apply go_rlen h); rfl)
 | (with_reducible first | apply go_ldN h | apply go_lenL h)
 | ((with_reducible apply go_st h); intro _ h)
 | ((with_reducible apply go_stA h); rfl; rfl; (first | rfl | simp [OneV.o]); intro _ h)
 | ((with_reducible apply go_stN h); rfl; (first | rfl | simp [OneV.o]); intro _ h)
 | ((with_reducible apply go_box h); rfl; intro _ _ h)
 | ((with_reducible apply go_ix h); omega)
 | ((with_reducible first | apply go_elN h | apply go_f1 h | apply go_rf1 h | apply go_rel h); (case hi => omega); (try case hx => exact inferInstance); (try case hv => rfl))
 | ((with_reducible apply go_fa h); omega; omega)
))
  refine jnext_spec (j := j5) (dv := ptr p) (L := DiskA (ptr p) d5 :: L) (h.got) (by omega) fun w h => ?_
  rw [x5, show ((3 : Nat) : Int) = 3 from rfl]
  (repeat (first
 | (simp (disch := omega) only [evA, evB, evC, bAdd_i64, bSub_i64, Int.reduceEq])
 | (with_reducible apply go_ld1 h)
 | ((with_reducible first | apply go_ldA h | apply go_rd h | apply go_rdN h | apply go_rlen h); rfl)
 | (with_reducible first | apply go_ldN h | apply go_lenL h)
 | ((with_reducible apply go_st h); intro _ h)
 | ((with_reducible apply go_stA h); rfl; rfl; (first | rfl | simp [OneV.o]); intro _ h)
 | ((with_reducible apply go_stN h); rfl; (first | rfl | simp [OneV.o]); intro _ h)
 | ((with_reducible apply go_box h); rfl; intro _ _ h)
 | ((with_reducible apply go_ix h); omega)
 | ((with_reducible first | apply go_elN h | apply go_f1 h | apply go_rf1 h | apply go_rel h); (case hi => omega); (try case hx => exact inferInstance); (try case hv => rfl))
 | ((with_reducible apply go_fa h); omega; omega)
))
  exact hK _ (h.got)
end
end Go.Proofs.Gong

/- Js1 -/
namespace Go.Proofs.Gong
open Go Go.Sx Go.Proofs
set_option maxRecDepth 100000
def stB : List UInt8 := [115, 116, 97, 116, 101]
structure BI (m : List (List UInt8)) (i k : Nat) (j : Jn) (d : Dk) (pre : List Sg) (g : Sg) (sn : Option (Nat × List UInt8)) : Prop where
  rep : Rep j d pre g sn
  stop : d.stop = false
  room : d.room = 16777216
  long : 1 ≤ j.long
  le : i ≤ m.length
  few : m.length ≤ 40
  small : ∀ p ∈ m.take i, p.length ≤ 300
  cs : (1 ≤ k ∧ k ≤ i ∧ sn = some (k, stB) ∧ j.recs = (m.take i).drop k) ∨ (¬ (1 ≤ k ∧ k ≤ i) ∧ sn = none ∧ j.recs = m.take i)
section
variable {m : List (List UInt8)} {i k : Nat} {j : Jn} {d : Dk} {pre : List Sg} {g : Sg} {sn : Option (Nat × List UInt8)}
theorem BI.recs (H : BI m i k j d pre g sn) : j.recs.length ≤ 40 ∧ ∀ p ∈ j.recs, p.length ≤ 300 := by
  have := H.few
  rcases H.cs with ⟨_, _, _, h⟩ | ⟨_, _, h⟩
  · rw [h]
    refine ⟨by simp; omega, fun p hp => H.small p (List.mem_of_mem_drop hp)⟩
  · rw [h]
    exact ⟨by simp; omega, H.small⟩
theorem BI.num (H : BI m i k j d pre g sn) : nextJ j = i + 1 := by
  have h1 := H.rep.num
  have h2 := H.le
  unfold nextJ
  rcases H.cs with ⟨a, b, c, h⟩ | ⟨a, c, h⟩
  · subst c
    have h1 : k = j.number := h1
    rw [h, List.length_drop, List.length_take]; omega
  · subst c
    have h1 : 0 = j.number := h1
    rw [h, List.length_take]; omega
theorem snLen_st {k : Nat} : snLen (some (k, stB)) ≤ 20 := by
  have := rec_le (p := padL 8 k ++ stB) (by rw [List.length_append, padL_len]; simp [stB])
  rw [List.length_append, padL_len] at this
  simp [snLen, stB] at this ⊢; omega
theorem BI.used (H : BI m i k j d pre g sn) : usedF d.fs ≤ 13000 := by
  obtain ⟨h1, h2⟩ := H.recs
  have h3 := recs_len (by omega) h2
  rw [H.rep.used]
  have : snLen sn ≤ 20 := by
    rcases H.cs with ⟨_, _, c, _⟩ | ⟨_, c, _⟩
    · rw [c]; exact snLen_st
    · rw [c]; simp [snLen]
  have : j.recs.length * (300 + 7) ≤ 40 * 307 := Nat.mul_le_mul_right _ h1
  omega
end
theorem take_setS {α : Type} {m : List α} {i : Nat} (hi : i < m.length) (x : α) : (m.set i x).take (i + 1) = m.take i ++ [x] := by
  rw [List.take_succ_eq_append_getElem (by simpa using hi), List.getElem_set_self, List.take_set_of_le (Nat.le_refl _)]
attribute [local irreducible] fBuild fLook fZero eqv bEqv Cl MapH LsH SlH ld1 ldN st callP eBox eAlloc lenM lenL eMapSet eDelete eAppend eBuildSl eRange eNext
section
variable {w0 w : World} {L : List HP} {K : Value → World → Prop} {m : List (List UInt8)} {j : Jn} {d : Dk} {pre : List Sg} {g : Sg} {sn : Option (Nat × List UInt8)} {lv : Value} {bx p q k : Nat} {l1 l2 : Int}
theorem rd_subTo {v : Value} {i : Nat} {l : List (List UInt8)} {kk : Value → Prop} (hr : Rd w0 1 v l.length (l.flatMap cSt)) (hi : i ≤ l.length) (hk : ∀ v', Rd w0 1 v' (l.take i).length ((l.take i).flatMap cSt) → kk v') : bindP (pSliceL 1 v none (some (.int .i64 i)) none) kk := by
  obtain ⟨v', e, _⟩ := hr.sub (L := none) (H := some (.int .i64 i)) (M := none) (lo := 0) (hi := i) .none (.some _ _) (.none _) (Nat.zero_le _) hi
  have := rd_sub (f := cSt) (es := 1) CodC.cod hr e (lo := 0) (hi := i) .none (.some _ _) (.none _) (Nat.zero_le _) hi
  rw [List.drop_zero] at this
  exact go_some e (hk v' this)
end
theorem fit_strJ {W : World} {B : Nat} {c : List Value} (h : FitL2 W B [.str] c) : ∃ n : List UInt8, c = cSt n ∧ n.length ≤ B := by
  obtain ⟨n, vs, rfl, h1, h2⟩ := fitL2_str h
  rw [fitL2_nil h2]; exact ⟨n, rfl, h1⟩
end Go.Proofs.Gong

/- Js2 -/
namespace Go.Proofs.Gong
open Go Go.Sx Go.Proofs
set_option maxRecDepth 100000
def stN : List UInt8 := [110, 101, 119, 32, 115, 116, 97, 116, 101]
structure SI (m : List (List UInt8)) (i : Nat) (j : Jn) (d : Dk) (pre : List Sg) (g : Sg) : Prop where
  rep : Rep j d pre g none
  stop : d.stop = false
  room : d.room = 16777216
  long : 1 ≤ j.long
  le : i ≤ m.length
  few : m.length ≤ 10
  small : ∀ p ∈ m.take i, p.length ≤ 100
  recs : j.recs = m.take i
section
variable {m : List (List UInt8)} {i : Nat} {j : Jn} {d : Dk} {pre : List Sg} {g : Sg}
theorem SI.num0 (H : SI m i j d pre g) : j.number = 0 := H.rep.num.symm
theorem SI.num (H : SI m i j d pre g) : nextJ j = i + 1 := by
  have h1 := H.num0
  have h2 := H.le
  unfold nextJ
  rw [h1, H.recs, List.length_take]; omega
theorem SI.used (H : SI m i j d pre g) : usedF d.fs ≤ 2000 := by
  have h1 : j.recs.length ≤ 10 := by rw [H.recs, List.length_take]; have := H.few; omega
  have h3 := recs_len (B := 100) (by omega) (l := j.recs) (fun p hp => H.small p (by rw [H.recs] at hp; exact hp))
  rw [H.rep.used]
  simp only [snLen, Option.elim_none]
  have : j.recs.length * (100 + 7) ≤ 10 * 107 := Nat.mul_le_mul_right _ h1
  omega
end
attribute [local irreducible] fBuild fLook fZero eqv bEqv Cl MapH LsH SlH ld1 ldN st callP eBox eAlloc lenM lenL eMapSet eDelete eAppend eBuildSl eRange eNext
section
variable {w0 w : World} {L : List HP} {K : Value → World → Prop} {m : List (List UInt8)} {j : Jn} {d : Dk} {pre : List Sg} {g : Sg} {lv s2 : Value} {p q : Nat} {stop : Int} {keep : List Int}
theorem half_open {pd : Nat} (W : JW w0) (R : Rep j d pre g none) (hf : FullS (pre ++ [g])) (hN : j.number = 0) (hl : j.recs.length ≤ 10) {e : Dk} (he : Half j pre g stN none e ∨ e.fs = fsOf [nw (nextJ j)] (some (nextJ j - 1, stN)) none) (h : Sat w0 (DiskA (ptr pd) (crashD keep e) :: L) w)
    (hK : ∀ q j' d' w', nextJ j' = nextJ j → (j'.number = nextJ j - 1 ∧ j'.state = stN ∧ j'.recs = [] ∨ (e.fs ≠ fsOf [nw (nextJ j)] (some (nextJ j - 1, stN)) none ∧ j'.number = 0 ∧ j'.state = [] ∧ j'.recs = j.recs)) → Sat w0 (JrP (ptr q) j' (ptr pd) :: DiskA (ptr pd) d' :: L) w' → K (.tuple #[ptr q, .int .i64 0]) w') : callP G7 [ptr pd, .int .i64 50] w K := by
  have hx : nextJ j = j.recs.length + 1 := by unfold nextJ; omega
  have behind : ∀ (segs : List Sg) (a : Nat), e.fs = fsOf segs (some (nextJ j - 1, stN)) none → segs ≠ [] → AscS segs → Small segs → a ≤ nextJ j → Cons a segs (nextJ j) → FullS segs → callP G7 [ptr pd, .int .i64 50] w K := by
    intro segs a h1 h2 h3 h4 h5 h6 h7
    obtain ⟨fr, hfr⟩ := crF_fs (sn := some (nextJ j - 1, stN)) (fr := none) (keep := keep) h7
    have hd : (crashD keep e).fs = fsOf segs (some (nextJ j - 1, stN)) fr := by
      unfold crashD
      rw [h1]; exact hfr
    refine open_ok (long := 50) (d := crashD keep e) (A := a) (T := nextJ j) (N := nextJ j - 1) W (by omega) rfl hd h3 h4 h6 h2 rfl (by omega) (by omega) (by omega) (fun x hx => by cases hx; simp [stN]) h fun q j' d' w n1 t1 r1 x1 h => ?_
    refine hK q j' d' w x1 (.inl ⟨n1, t1, ?_⟩) h
    have := cons_le h6
    rw [r1, List.drop_of_length_le (by omega)]
  rcases he with (⟨g', fr, hg', hfs⟩ | ⟨segs, a, h1, h2, h3, h4, h5, h6, h7⟩) | he
  · have hgg : g' = g := by
      rcases hg' with rfl | rfl
      · rfl
      · have := hf g (by simp)
        unfold Sg.full
        rw [← this]
    subst hgg
    obtain ⟨fr', hfr⟩ := crF_fs (sn := none) (fr := fr) (keep := keep) hf
    have hd : (crashD keep e).fs = fsOf (pre ++ [g']) none fr' := by
      unfold crashD
      rw [hfs]; exact hfr
    have hne : e.fs ≠ fsOf [nw (nextJ j)] (some (nextJ j - 1, stN)) none := by
      intro hh
      rw [hfs] at hh
      have h1 := get_snap (sn := none) (fr := fr) R.asc
      have h2 := get_snap (segs := [nw (nextJ j)]) (sn := some (nextJ j - 1, stN)) (fr := none) ⟨by simp, by simp; omega⟩
      rw [hh, h2] at h1
      cases h1
    refine open_ok (long := 50) (d := crashD keep e) (A := j.number + 1) (T := nextJ j) (N := 0) W (by omega) rfl hd R.asc R.small R.cons (by simp) rfl (by omega) (by omega) (by omega) (fun x hx => by cases hx) h fun q j' d' w n1 t1 r1 x1 h => ?_
    refine hK q j' d' w x1 (.inr ⟨hne, n1, t1, ?_⟩) h
    rw [r1, R.recs, hN]; rfl
  · exact behind segs a h1 h2 h3 h4 h5 h6 h7
  · exact behind [nw (nextJ j)] (nextJ j) he (by simp) ⟨by simp, by simp; omega⟩ (by simp [Small]) (Nat.le_refl _) ⟨rfl, rfl⟩ (by intro x hx; simp at hx; subst hx; rfl)
theorem Rep.of_fs {e : Dk} {sn : Option (Nat × List UInt8)} (R : Rep j d pre g sn) (h : e.fs = d.fs) : Rep j e pre g sn := ⟨by rw [h]; exact R.fs, R.asc, R.small, R.cons, R.act, R.full, R.qle, R.recs, R.num, R.st⟩
theorem stops_end (W : JW w0) (H : SI m m.length j d pre g) (hk : Rd w0 1 s2 keep.length (keep.flatMap cI)) (h : Sat w0 (JrP (ptr q) j (ptr p) :: DiskA (ptr p) d :: LsH cSt 1 9 lv m :: L) w) (hK : ∀ w', Sat w0 L w' → K (.bool true) w') :
    F4_3 lv (.int .i64 stop) s2 (ptr p) (ptr q) w K := by
  unfold F4_3 F4_3b
  have hx := H.num
  have hfew := H.few
  have hu := H.used
  have hlen : lenL lv = some (.int .i64 (m.length : Nat)) := ls_len (h.frt (A := LsH cSt 1 9 lv m))
  refine sync_ok H.rep H.stop (by omega) h fun j3 d3 w R3 r3 n3 t3 l3 a3 h => ?_
  (repeat (first
 | (simp (disch := omega) only [evA, evB, evC, bAdd_i64, bSub_i64])
 | (with_reducible apply go_ld1 h)
 | ((with_reducible first | apply go_ldA h | apply go_rd h | apply go_rdN h | apply go_rlen h); rfl)
 | (with_reducible first | apply go_ldN h | apply go_lenL h)
 | ((with_reducible apply go_st h); intro _ h)
 | ((with_reducible apply go_stA h); rfl; rfl; (first | rfl | simp [OneV.o]); intro _ h)
 | ((with_reducible apply go_stN h); rfl; (first | rfl | simp [OneV.o]); intro _ h)
 | ((with_reducible apply go_box h); rfl; intro _ _ h)
 | ((with_reducible apply go_ix h); omega)
 | ((with_reducible first | apply go_elN h | apply go_f1 h | apply go_rf1 h | apply go_rel h); (case hi => omega); (try case hx => exact inferInstance); (try case hv => rfl))
 | ((with_reducible apply go_fa h); omega; omega)
))
  refine Below_spec (n := 15) (by decide) (by decide) fun r hb1 hb2 _ => ?_
  (repeat (first
 | (simp (disch := omega) only [evA, evB, evC, bAdd_i64, bSub_i64])
 | (with_reducible apply go_ld1 h)
 | ((with_reducible first | apply go_ldA h | apply go_rd h | apply go_rdN h | apply go_rlen h); rfl)
 | (with_reducible first | apply go_ldN h | apply go_lenL h)
 | ((with_reducible apply go_st h); intro _ h)
 | ((with_reducible apply go_stA h); rfl; rfl; (first | rfl | simp [OneV.o]); intro _ h)
 | ((with_reducible apply go_stN h); rfl; (first | rfl | simp [OneV.o]); intro _ h)
 | ((with_reducible apply go_box h); rfl; intro _ _ h)
 | ((with_reducible apply go_ix h); omega)
 | ((with_reducible first | apply go_elN h | apply go_f1 h | apply go_rf1 h | apply go_rel h); (case hi => omega); (try case hx => exact inferInstance); (try case hv => rfl))
 | ((with_reducible apply go_fa h); omega; omega)
))
  refine dstop_spec (v := ptr p) (d := d3) (k := r) (L := JrP (ptr q) j3 (ptr p) :: LsH cSt 1 9 lv m :: L) (by omega) (h.got) fun w h => ?_
  have hst : stopD r d3 = (0, { d3 with stop := true, left := r }) := by unfold stopD; rw [if_neg (by omega)]
  rw [hst] at h ⊢
  (repeat (first
 | (simp (disch := omega) only [evA, evB, evC, bAdd_i64, bSub_i64])
 | (with_reducible apply go_ld1 h)
 | ((with_reducible first | apply go_ldA h | apply go_rd h | apply go_rdN h | apply go_rlen h); rfl)
 | (with_reducible first | apply go_ldN h | apply go_lenL h)
 | ((with_reducible apply go_st h); intro _ h)
 | ((with_reducible apply go_stA h); rfl; rfl; (first | rfl | simp [OneV.o]); intro _ h)
 | ((with_reducible apply go_stN h); rfl; (first | rfl | simp [OneV.o]); intro _ h)
 | ((with_reducible apply go_box h); rfl; intro _ _ h)
 | ((with_reducible apply go_ix h); omega)
 | ((with_reducible first | apply go_elN h | apply go_f1 h | apply go_rf1 h | apply go_rel h); (case hi => omega); (try case hx => exact inferInstance); (try case hv => rfl))
 | ((with_reducible apply go_fa h); omega; omega)
))
  have R4 : Rep j3 { d3 with stop := true, left := r } pre g.full none := R3.of_fs rfl
  have x3 : nextJ j3 = m.length + 1 := by unfold nextJ; rw [r3, n3]; exact hx
  have num3 : j3.number = 0 := by rw [n3]; exact H.num0
  have rec3 : j3.recs = m := by rw [r3, H.recs, List.take_length]
  have u3 : usedF ({ d3 with stop := true, left := r } : Dk).fs ≤ 2000 := by
    rw [R4.used, r3, ← H.rep.used]; exact hu
  have m3 : ({ d3 with stop := true, left := r } : Dk).room = 16777216 := by rw [← H.room, ← a3.2]
  generalize ({ d3 with stop := true, left := r } : Dk) = d4 at *
  have hrec := rec_le (p := padL 8 (nextJ j3 - 1) ++ stN) (by rw [List.length_append, padL_len]; simp [stN])
  rw [List.length_append, padL_len] at hrec
  have hsl : stN.length = 9 := rfl
  have hseg := R4.segs
  rw [rec3] at hseg
  refine compact_spec (v := ptr q) (dv := ptr p) (j := j3) (d := d4) (st := stN) (L := LsH cSt 1 9 lv m :: L) W (by omega) (by omega) R4.names (by omega) (h.got) fun w h => ?_
  have hfam := compact_fam (st := stN) R4 (by omega) (by omega) (by omega)
  generalize compactA stN (j3, d4) = res at *
  obtain ⟨code, j5, e⟩ := res
  simp only at hfam h ⊢
  have hf4 : FullS (pre ++ [g.full]) := fun x hx => by
    rcases List.mem_append.1 hx with hx | hx
    · exact R4.full x hx
    · simp at hx; subst hx; rfl
  have he : Half j3 pre g.full stN none e ∨ e.fs = fsOf [nw (nextJ j3)] (some (nextJ j3 - 1, stN)) none := by
    rcases hfam with ⟨_, _, _, h⟩ | ⟨j', d', h1, h2, _⟩
    · exact .inl h
    · cases h1
      exact .inr h2.fs
  have hcode : e.fs ≠ fsOf [nw (nextJ j3)] (some (nextJ j3 - 1, stN)) none → code ≠ 0 := by
    intro hh
    rcases hfam with ⟨h, _⟩ | ⟨j', d', h1, h2, _⟩
    · exact h
    · cases h1
      exact absurd h2.fs hh
  have elen : e.fs.length ≤ 20 := by
    have hc2 := cons_len R4.cons R4.asc
    rcases he with (⟨g', fr, hg', hfs⟩ | ⟨segs, a, h1, h2, h3', h4, h5, h6, h7⟩) | he
    · have := fsOf_len (segs := pre ++ [g']) (sn := none) (fr := fr)
      rw [hfs]
      simp only [List.length_append, List.length_cons, List.length_nil] at this hc2 ⊢
      omega
    · have := fsOf_len (segs := segs) (sn := some (nextJ j3 - 1, stN)) (fr := none)
      have hc3 := cons_len h6 h3'
      have := cons_le h6
      rw [h1]
      omega
    · have := fsOf_len (segs := [nw (nextJ j3)]) (sn := some (nextJ j3 - 1, stN)) (fr := none)
      rw [he]
      simp only [List.length_cons, List.length_nil] at this
      omega
  (repeat (first
 | (simp (disch := omega) only [evA, evB, evC, bAdd_i64, bSub_i64])
 | (with_reducible apply go_ld1 h)
 | ((with_reducible first | apply go_ldA h | apply go_rd h | apply go_rdN h | apply go_rlen h); rfl)
 | (with_reducible first | apply go_ldN h | apply go_lenL h)
 | ((with_reducible apply go_st h); intro _ h)
 | ((with_reducible apply go_stA h); rfl; rfl; (first | rfl | simp [OneV.o]); intro _ h)
 | ((with_reducible apply go_stN h); rfl; (first | rfl | simp [OneV.o]); intro _ h)
 | ((with_reducible apply go_box h); rfl; intro _ _ h)
 | ((with_reducible apply go_ix h); omega)
 | ((with_reducible first | apply go_elN h | apply go_f1 h | apply go_rf1 h | apply go_rel h); (case hi => omega); (try case hx => exact inferInstance); (try case hv => rfl))
 | ((with_reducible apply go_fa h); omega; omega)
))
  have : RdIn w0 (JrP (ptr q) j5 (ptr p) :: LsH cSt 1 9 lv m :: L) s2 Int cI 1 keep := RdIn.arg hk
  refine dcrash_spec (v := ptr p) (d := e) (keep := keep) (L := JrP (ptr q) j5 (ptr p) :: LsH cSt 1 9 lv m :: L) (by omega) (h.got) fun w h => ?_
  (repeat (first
 | (simp (disch := omega) only [evA, evB, evC, bAdd_i64, bSub_i64])
 | (with_reducible apply go_ld1 h)
 | ((with_reducible first | apply go_ldA h | apply go_rd h | apply go_rdN h | apply go_rlen h); rfl)
 | (with_reducible first | apply go_ldN h | apply go_lenL h)
 | ((with_reducible apply go_st h); intro _ h)
 | ((with_reducible apply go_stA h); rfl; rfl; (first | rfl | simp [OneV.o]); intro _ h)
 | ((with_reducible apply go_stN h); rfl; (first | rfl | simp [OneV.o]); intro _ h)
 | ((with_reducible apply go_box h); rfl; intro _ _ h)
 | ((with_reducible apply go_ix h); omega)
 | ((with_reducible first | apply go_elN h | apply go_f1 h | apply go_rf1 h | apply go_rel h); (case hi => omega); (try case hx => exact inferInstance); (try case hv => rfl))
 | ((with_reducible apply go_fa h); omega; omega)
))
  refine half_open (L := JrP (ptr q) j5 (ptr p) :: LsH cSt 1 9 lv m :: L) (j := j3) (pre := pre) (g := g.full) (e := e) W R4 hf4 num3 (by rw [rec3]; omega) he h fun q2 j6 d6 w x6 hc6 h => ?_
  (repeat (first
 | (simp (disch := omega) only [evA, evB, evC, bAdd_i64, bSub_i64])
 | (refine go_some (bEq_nilp up29   ..) ?_)
 | (with_reducible apply go_ld1 h)
 | ((with_reducible first | apply go_ldA h | apply go_rd h | apply go_rdN h | apply go_rlen h); rfl)
 | (with_reducible first | apply go_ldN h | apply go_lenL h)
 | ((with_reducible apply go_st h); intro _ h)
 | ((with_reducible apply go_stA h); rfl; rfl; (first | rfl | simp [OneV.o]); intro _ h)
 | ((with_reducible apply go_stN h); rfl; (first | rfl | simp [OneV.o]); intro _ h)
 | ((with_reducible apply go_box h); rfl; intro _ _ h)
 | ((with_reducible apply go_ix h); omega)
 | ((with_reducible first | apply go_elN h | apply go_f1 h | apply go_rf1 h | apply go_rel h); (case hi => omega); (try case hx => exact inferInstance); (try case hv => rfl))
 | ((with_reducible apply go_fa h); omega; omega)
))
  refine jnext_spec (j := j6) (dv := ptr p) (L := DiskA (ptr p) d6 :: LsH cSt 1 9 lv m :: L) (h.got) (by omega) fun w h => ?_
  have e5 : ((nextJ j6 : Nat) : Int) = (m.length : Int) + 1 := by omega
  rw [e5]
  (repeat (first
 | (simp (disch := omega) only [evA, evB, evC, bAdd_i64, bSub_i64, hlen])
 | (with_reducible apply go_ld1 h)
 | ((with_reducible first | apply go_ldA h | apply go_rd h | apply go_rdN h | apply go_rlen h); rfl)
 | (with_reducible first | apply go_ldN h | apply go_lenL h)
 | ((with_reducible apply go_st h); intro _ h)
 | ((with_reducible apply go_stA h); rfl; rfl; (first | rfl | simp [OneV.o]); intro _ h)
 | ((with_reducible apply go_stN h); rfl; (first | rfl | simp [OneV.o]); intro _ h)
 | ((with_reducible apply go_box h); rfl; intro _ _ h)
 | ((with_reducible apply go_ix h); omega)
 | ((with_reducible first | apply go_elN h | apply go_f1 h | apply go_rf1 h | apply go_rel h); (case hi => omega); (try case hx => exact inferInstance); (try case hv => rfl))
 | ((with_reducible apply go_fa h); omega; omega)
))
  refine snapshot_spec h fun w h => ?_
  rcases hc6 with ⟨n6, t6, r6⟩ | ⟨hne, n6, t6, r6⟩
  · have n6' : j6.number = m.length := by omega
    rw [n6', t6]
    (repeat (first
 | (simp (disch := omega) only [evA, evB, evC, bAdd_i64, bSub_i64, hlen, stN])
 | (with_reducible apply go_ld1 h)
 | ((with_reducible first | apply go_ldA h | apply go_rd h | apply go_rdN h | apply go_rlen h); rfl)
 | (with_reducible first | apply go_ldN h | apply go_lenL h)
 | ((with_reducible apply go_st h); intro _ h)
 | ((with_reducible apply go_stA h); rfl; rfl; (first | rfl | simp [OneV.o]); intro _ h)
 | ((with_reducible apply go_stN h); rfl; (first | rfl | simp [OneV.o]); intro _ h)
 | ((with_reducible apply go_box h); rfl; intro _ _ h)
 | ((with_reducible apply go_ix h); omega)
 | ((with_reducible first | apply go_elN h | apply go_f1 h | apply go_rf1 h | apply go_rel h); (case hi => omega); (try case hx => exact inferInstance); (try case hv => rfl))
 | ((with_reducible apply go_fa h); omega; omega)
))
    refine records_spec (by rw [r6]; simp) h fun s w h => ?_
    rw [r6] at h
    (repeat (first
 | (simp (disch := omega) only [evA, evB, evC, bAdd_i64, bSub_i64])
 | (with_reducible apply go_ld1 h)
 | ((with_reducible first | apply go_ldA h | apply go_rd h | apply go_rdN h | apply go_rlen h); rfl)
 | (with_reducible first | apply go_ldN h | apply go_lenL h)
 | ((with_reducible apply go_st h); intro _ h)
 | ((with_reducible apply go_stA h); rfl; rfl; (first | rfl | simp [OneV.o]); intro _ h)
 | ((with_reducible apply go_stN h); rfl; (first | rfl | simp [OneV.o]); intro _ h)
 | ((with_reducible apply go_box h); rfl; intro _ _ h)
 | ((with_reducible apply go_ix h); omega)
 | ((with_reducible first | apply go_elN h | apply go_f1 h | apply go_rf1 h | apply go_rel h); (case hi => omega); (try case hx => exact inferInstance); (try case hv => rfl))
 | ((with_reducible apply go_fa h); omega; omega)
))
    exact hK _ (h.got)
  · have hc0 := hcode hne
    have hc0' : decide (code = 0) = false := by simpa using hc0
    rw [n6, t6, show ((0 : Nat) : Int) = 0 from rfl]
    have r6 : j6.recs = m := by rw [r6, rec3]
    have hs : (bs [] == bs stN) = false := by decide
    by_cases g0 : m.length = 0
    · have g0' : decide ((0 : Int) = (m.length : Int)) = true := by simp; omega
      (repeat (first
 | (simp (disch := omega) only [evA, evB, evC, bAdd_i64, bSub_i64, hlen, g0', hc0'])
 | (with_reducible apply go_ld1 h)
 | ((with_reducible first | apply go_ldA h | apply go_rd h | apply go_rdN h | apply go_rlen h); rfl)
 | (with_reducible first | apply go_ldN h | apply go_lenL h)
 | ((with_reducible apply go_st h); intro _ h)
 | ((with_reducible apply go_stA h); rfl; rfl; (first | rfl | simp [OneV.o]); intro _ h)
 | ((with_reducible apply go_stN h); rfl; (first | rfl | simp [OneV.o]); intro _ h)
 | ((with_reducible apply go_box h); rfl; intro _ _ h)
 | ((with_reducible apply go_ix h); omega)
 | ((with_reducible first | apply go_elN h | apply go_f1 h | apply go_rf1 h | apply go_rel h); (case hi => omega); (try case hx => exact inferInstance); (try case hv => rfl))
 | ((with_reducible apply go_fa h); omega; omega)
))
      refine records_spec (by rw [r6]; omega) h fun s w h => ?_
      rw [r6] at h
      (repeat (first
 | (simp (disch := omega) only [evA, evB, evC, bAdd_i64, bSub_i64])
 | (with_reducible apply go_ld1 h)
 | ((with_reducible first | apply go_ldA h | apply go_rd h | apply go_rdN h | apply go_rlen h); rfl)
 | (with_reducible first | apply go_ldN h | apply go_lenL h)
 | ((with_reducible apply go_st h); intro _ h)
 | ((with_reducible apply go_stA h); rfl; rfl; (first | rfl | simp [OneV.o]); intro _ h)
 | ((with_reducible apply go_stN h); rfl; (first | rfl | simp [OneV.o]); intro _ h)
 | ((with_reducible apply go_box h); rfl; intro _ _ h)
 | ((with_reducible apply go_ix h); omega)
 | ((with_reducible first | apply go_elN h | apply go_f1 h | apply go_rf1 h | apply go_rel h); (case hi => omega); (try case hx => exact inferInstance); (try case hv => rfl))
 | ((with_reducible apply go_fa h); omega; omega)
))
      refine sameT_spec (l := m) (by omega) (h.got) fun w h => ?_
      (repeat (first
 | (simp (disch := omega) only [evA, evB, evC, bAdd_i64, bSub_i64])
 | (with_reducible apply go_ld1 h)
 | ((with_reducible first | apply go_ldA h | apply go_rd h | apply go_rdN h | apply go_rlen h); rfl)
 | (with_reducible first | apply go_ldN h | apply go_lenL h)
 | ((with_reducible apply go_st h); intro _ h)
 | ((with_reducible apply go_stA h); rfl; rfl; (first | rfl | simp [OneV.o]); intro _ h)
 | ((with_reducible apply go_stN h); rfl; (first | rfl | simp [OneV.o]); intro _ h)
 | ((with_reducible apply go_box h); rfl; intro _ _ h)
 | ((with_reducible apply go_ix h); omega)
 | ((with_reducible first | apply go_elN h | apply go_f1 h | apply go_rf1 h | apply go_rel h); (case hi => omega); (try case hx => exact inferInstance); (try case hv => rfl))
 | ((with_reducible apply go_fa h); omega; omega)
))
      exact hK _ (h.got)
    · have g0' : decide ((0 : Int) = (m.length : Int)) = false := by simp; omega
      (repeat (first
 | (simp (disch := omega) only [evA, evB, evC, bAdd_i64, bSub_i64, hlen, g0', hc0'])
 | (with_reducible apply go_ld1 h)
 | ((with_reducible first | apply go_ldA h | apply go_rd h | apply go_rdN h | apply go_rlen h); rfl)
 | (with_reducible first | apply go_ldN h | apply go_lenL h)
 | ((with_reducible apply go_st h); intro _ h)
 | ((with_reducible apply go_stA h); rfl; rfl; (first | rfl | simp [OneV.o]); intro _ h)
 | ((with_reducible apply go_stN h); rfl; (first | rfl | simp [OneV.o]); intro _ h)
 | ((with_reducible apply go_box h); rfl; intro _ _ h)
 | ((with_reducible apply go_ix h); omega)
 | ((with_reducible first | apply go_elN h | apply go_f1 h | apply go_rf1 h | apply go_rel h); (case hi => omega); (try case hx => exact inferInstance); (try case hv => rfl))
 | ((with_reducible apply go_fa h); omega; omega)
))
      refine records_spec (by rw [r6]; omega) h fun s w h => ?_
      rw [r6] at h
      (repeat (first
 | (simp (disch := omega) only [evA, evB, evC, bAdd_i64, bSub_i64])
 | (with_reducible apply go_ld1 h)
 | ((with_reducible first | apply go_ldA h | apply go_rd h | apply go_rdN h | apply go_rlen h); rfl)
 | (with_reducible first | apply go_ldN h | apply go_lenL h)
 | ((with_reducible apply go_st h); intro _ h)
 | ((with_reducible apply go_stA h); rfl; rfl; (first | rfl | simp [OneV.o]); intro _ h)
 | ((with_reducible apply go_stN h); rfl; (first | rfl | simp [OneV.o]); intro _ h)
 | ((with_reducible apply go_box h); rfl; intro _ _ h)
 | ((with_reducible apply go_ix h); omega)
 | ((with_reducible first | apply go_elN h | apply go_f1 h | apply go_rf1 h | apply go_rel h); (case hi => omega); (try case hx => exact inferInstance); (try case hv => rfl))
 | ((with_reducible apply go_fa h); omega; omega)
))
      refine sameT_spec (l := m) (by omega) (h.got) fun w h => ?_
      (repeat (first
 | (simp (disch := omega) only [evA, evB, evC, bAdd_i64, bSub_i64])
 | (with_reducible apply go_ld1 h)
 | ((with_reducible first | apply go_ldA h | apply go_rd h | apply go_rdN h | apply go_rlen h); rfl)
 | (with_reducible first | apply go_ldN h | apply go_lenL h)
 | ((with_reducible apply go_st h); intro _ h)
 | ((with_reducible apply go_stA h); rfl; rfl; (first | rfl | simp [OneV.o]); intro _ h)
 | ((with_reducible apply go_stN h); rfl; (first | rfl | simp [OneV.o]); intro _ h)
 | ((with_reducible apply go_box h); rfl; intro _ _ h)
 | ((with_reducible apply go_ix h); omega)
 | ((with_reducible first | apply go_elN h | apply go_f1 h | apply go_rf1 h | apply go_rel h); (case hi => omega); (try case hx => exact inferInstance); (try case hv => rfl))
 | ((with_reducible apply go_fa h); omega; omega)
))
      exact hK _ (h.got)
theorem stops_loop (W : JW w0) (hk : Rd w0 1 s2 keep.length (keep.flatMap cI)) (hK : ∀ w', Sat w0 L w' → K (.bool true) w') : ∀ (n i : Nat) (m : List (List UInt8)) (j : Jn) (d : Dk) (pre : List Sg) (g : Sg) (w : World), m.length - i < n → SI m i j d pre g →
    Sat w0 (JrP (ptr q) j (ptr p) :: DiskA (ptr p) d :: LsH cSt 1 9 lv m :: L) w →
    F4_2L n lv (.int .i64 stop) s2 (ptr p) (ptr q) (.int .i64 (m.length : Nat)) (.int .i64 (i : Nat)) w K := by
  intro n
  induction n with
  | zero => intro i _ _ _ _ _ _ hd; omega
  | succ n ih =>
    intro i m j d pre g w hd H h
    rw [F4_2L]
    unfold F4_2b
    have hfew := H.few
    by_cases hi : i < m.length
    · have g' : decide ((i : Int) < (m.length : Int)) = true := by simpa using hi
      (repeat (first
 | (simp (disch := omega) only [evA, evB, evC, bAdd_i64, bSub_i64, g'])
 | (with_reducible apply go_ld1 h)
 | ((with_reducible first | apply go_ldA h | apply go_rd h | apply go_rdN h); rfl)
 | (with_reducible first | apply go_ldN h | apply go_lenR h)
 | ((with_reducible apply go_st h); intro _ h)
 | ((with_reducible apply go_stA h); rfl; rfl; (first | rfl | simp [OneV.o]); intro _ h)
 | ((with_reducible apply go_stN h); rfl; (first | rfl | simp [OneV.o]); intro _ h)
 | ((with_reducible apply go_box h); rfl; intro _ _ h)
 | ((with_reducible apply go_ixR h); omega)
 | ((with_reducible first | apply go_elR h | apply go_f1R h | apply go_rf1R h | apply go_relR h | apply go_e1R h | apply go_re1R h); (case hc => exact inferInstance); (case hi => omega); (try case hx => exact inferInstance); (try case hv => rfl))
 | ((with_reducible apply go_fNR h); (case hc => exact inferInstance); (case hi => omega); (try case hp => exact inferInstance); (try case hv => rfl))
 | ((with_reducible apply go_faR h); (case hc => exact inferInstance); omega; omega)
 | ((with_reducible apply go_rlenR h); rfl)
))
      refine cut_spec (x := m[i]) (B := 100) ?_
      (repeat (first
 | (simp (disch := omega) only [evA, evB, evC, bAdd_i64, bSub_i64])
 | (with_reducible apply go_ld1 h)
 | ((with_reducible first | apply go_ldA h | apply go_rd h | apply go_rdN h); rfl)
 | (with_reducible first | apply go_ldN h | apply go_lenR h)
 | ((with_reducible apply go_st h); intro _ h)
 | ((with_reducible apply go_stA h); rfl; rfl; (first | rfl | simp [OneV.o]); intro _ h)
 | ((with_reducible apply go_stN h); rfl; (first | rfl | simp [OneV.o]); intro _ h)
 | ((with_reducible apply go_box h); rfl; intro _ _ h)
 | ((with_reducible apply go_ixR h); omega)
 | ((with_reducible first | apply go_elR h | apply go_f1R h | apply go_rf1R h | apply go_relR h | apply go_e1R h | apply go_re1R h); (case hc => exact inferInstance); (case hi => omega); (try case hx => exact inferInstance); (try case hv => rfl))
 | ((with_reducible apply go_fNR h); (case hc => exact inferInstance); (case hi => omega); (try case hp => exact inferInstance); (try case hv => rfl))
 | ((with_reducible apply go_faR h); (case hc => exact inferInstance); omega; omega)
 | ((with_reducible apply go_rlenR h); rfl)
))
      refine ls_st (f := cSt) (es := 1) CodC.cod (h.frt (A := LsH cSt 1 9 lv m)) hi (m[i].take 100) (y := .string (bs (m[i].take 100))) rfl fun w h => ?_
      have hi2 : i < (m.set i (m[i].take 100)).length := by simpa using hi
      (repeat (first
 | (simp (disch := omega) only [evA, evB, evC, bAdd_i64, bSub_i64])
 | (with_reducible apply go_ld1 h)
 | ((with_reducible first | apply go_ldA h | apply go_rd h | apply go_rdN h); rfl)
 | (with_reducible first | apply go_ldN h | apply go_lenR h)
 | ((with_reducible apply go_st h); intro _ h)
 | ((with_reducible apply go_stA h); rfl; rfl; (first | rfl | simp [OneV.o]); intro _ h)
 | ((with_reducible apply go_stN h); rfl; (first | rfl | simp [OneV.o]); intro _ h)
 | ((with_reducible apply go_box h); rfl; intro _ _ h)
 | ((with_reducible apply go_ixR h); omega)
 | ((with_reducible first | apply go_elR h | apply go_f1R h | apply go_rf1R h | apply go_relR h | apply go_e1R h | apply go_re1R h); (case hc => exact inferInstance); (case hi => omega); (try case hx => exact inferInstance); (try case hv => rfl))
 | ((with_reducible apply go_fNR h); (case hc => exact inferInstance); (case hi => omega); (try case hp => exact inferInstance); (try case hv => rfl))
 | ((with_reducible apply go_faR h); (case hc => exact inferInstance); omega; omega)
 | ((with_reducible apply go_rlenR h); rfl)
))
      have hx : (m[i].take 100).length ≤ 100 := by rw [List.length_take]; omega
      have hu := H.used
      have hn := H.num
      have hr1 : j.recs.length ≤ 10 := by rw [H.recs, List.length_take]; omega
      have hrec := rec_le (p := m[i].take 100) (by omega)
      rw [List.getElem_set_self]
      refine append_ok (L := LsH cSt 1 9 lv (m.set i (m[i].take 100)) :: L) (p := m[i].take 100) (v := ptr q) (dv := ptr p) (j := j) (d := d) W H.rep H.stop H.long (by omega) (by rw [H.room]; omega) (by omega) (by omega) (h.got) fun j1 d1 pre1 g1 w R1 r1 n1 t1 lo1 a1 h => ?_
      have hT : (m.set i (m[i].take 100)).take (i + 1) = m.take i ++ [m[i].take 100] := take_setS hi _
      have hsm : ∀ p ∈ (m.set i (m[i].take 100)).take (i + 1), p.length ≤ 100 := by
        intro p hp
        rw [hT] at hp
        rcases List.mem_append.1 hp with hp | hp
        · exact H.small p hp
        · simp at hp; subst hp; rw [List.length_take]; omega
      (repeat (first
 | (simp (disch := omega) only [evA, evB, evC, bAdd_i64, bSub_i64])
 | (with_reducible apply go_ld1 h)
 | ((with_reducible first | apply go_ldA h | apply go_rd h | apply go_rdN h | apply go_rlen h); rfl)
 | (with_reducible first | apply go_ldN h | apply go_lenL h)
 | ((with_reducible apply go_st h); intro _ h)
 | ((with_reducible apply go_stA h); rfl; rfl; (first | rfl | simp [OneV.o]); intro _ h)
 | ((with_reducible apply go_stN h); rfl; (first | rfl | simp [OneV.o]); intro _ h)
 | ((with_reducible apply go_box h); rfl; intro _ _ h)
 | ((with_reducible apply go_ix h); omega)
 | ((with_reducible first | apply go_elN h | apply go_f1 h | apply go_rf1 h | apply go_rel h); (case hi => omega); (try case hx => exact inferInstance); (try case hv => rfl))
 | ((with_reducible apply go_fa h); omega; omega)
))
      have hll : (m.set i (m[i].take 100)).length = m.length := List.length_set
      have := ih (i + 1) _ j1 d1 pre1 g1 w (by rw [hll]; omega) ⟨R1, by rw [a1.1, H.stop], by rw [a1.2, H.room], by rw [lo1]; exact H.long, by rw [hll]; omega, by rw [hll]; exact hfew, hsm, by rw [r1, H.recs, hT]⟩ (h.got)
      rw [List.length_set] at this
      exact this
    · have g' : decide ((i : Int) < (m.length : Int)) = false := by simpa using hi
      have him : i = m.length := by have := H.le; omega
      subst him
      (repeat (first
 | (simp (disch := omega) only [evA, evB, evC, bAdd_i64, bSub_i64, g'])
 | (with_reducible apply go_ld1 h)
 | ((with_reducible first | apply go_ldA h | apply go_rd h | apply go_rdN h | apply go_rlen h); rfl)
 | (with_reducible first | apply go_ldN h | apply go_lenL h)
 | ((with_reducible apply go_st h); intro _ h)
 | ((with_reducible apply go_stA h); rfl; rfl; (first | rfl | simp [OneV.o]); intro _ h)
 | ((with_reducible apply go_stN h); rfl; (first | rfl | simp [OneV.o]); intro _ h)
 | ((with_reducible apply go_box h); rfl; intro _ _ h)
 | ((with_reducible apply go_ix h); omega)
 | ((with_reducible first | apply go_elN h | apply go_f1 h | apply go_rf1 h | apply go_rel h); (case hi => omega); (try case hx => exact inferInstance); (try case hv => rfl))
 | ((with_reducible apply go_fa h); omega; omega)
))
      exact stops_end W H hk h hK
theorem stops_spec {s0 : Value} {l : List (List UInt8)} (W : JW w0) (hrd : Rd w0 1 s0 l.length (l.flatMap cSt)) (hk : Rd w0 1 s2 keep.length (keep.flatMap cI)) (h : Sat w0 L w) (hK : ∀ w', Sat w0 L w' → K (.bool true) w') :
    callP G4 [s0, .int .i64 stop, s2] w K := by
  refine c4 ?_
  unfold F4 F4_1 F4_1b
  refine works27_spec W h fun w h => ?_
  (repeat (first
 | (simp (disch := omega) only [evA, evB, evC, bAdd_i64, bSub_i64])
 | (with_reducible apply go_ld1 h)
 | ((with_reducible first | apply go_ldA h | apply go_rd h | apply go_rdN h | apply go_rlen h); rfl)
 | (with_reducible first | apply go_ldN h | apply go_lenL h)
 | ((with_reducible apply go_st h); intro _ h)
 | ((with_reducible apply go_stA h); rfl; rfl; (first | rfl | simp [OneV.o]); intro _ h)
 | ((with_reducible apply go_stN h); rfl; (first | rfl | simp [OneV.o]); intro _ h)
 | ((with_reducible apply go_box h); rfl; intro _ _ h)
 | ((with_reducible apply go_ix h); omega)
 | ((with_reducible first | apply go_elN h | apply go_f1 h | apply go_rf1 h | apply go_rel h); (case hi => omega); (try case hx => exact inferInstance); (try case hv => rfl))
 | ((with_reducible apply go_fa h); omega; omega)
))
  refine dnew_spec h (fun hb => by omega) fun _ _ p w h => ?_
  (repeat (first
 | (simp (disch := omega) only [evA, evB, evC, bAdd_i64, bSub_i64])
 | (with_reducible apply go_ld1 h)
 | ((with_reducible first | apply go_ldA h | apply go_rd h | apply go_rdN h | apply go_rlen h); rfl)
 | (with_reducible first | apply go_ldN h | apply go_lenL h)
 | ((with_reducible apply go_st h); intro _ h)
 | ((with_reducible apply go_stA h); rfl; rfl; (first | rfl | simp [OneV.o]); intro _ h)
 | ((with_reducible apply go_stN h); rfl; (first | rfl | simp [OneV.o]); intro _ h)
 | ((with_reducible apply go_box h); rfl; intro _ _ h)
 | ((with_reducible apply go_ix h); omega)
 | ((with_reducible first | apply go_elN h | apply go_f1 h | apply go_rf1 h | apply go_rel h); (case hi => omega); (try case hx => exact inferInstance); (try case hv => rfl))
 | ((with_reducible apply go_fa h); omega; omega)
))
  refine open0_ok (long := 50) W (by omega) h fun q j d w R s1 m1 lo1 r1 n1 t1 h => ?_
  (repeat (first
 | (simp (disch := omega) only [evA, evB, evC, bAdd_i64, bSub_i64])
 | (refine go_some (bEq_nilp up25   ..) ?_)
 | (refine go_some (bEq_nilp up29   ..) ?_)
 | (with_reducible apply go_ld1 h)
 | ((with_reducible first | apply go_ldA h | apply go_rd h | apply go_rdN h | apply go_rlen h); rfl)
 | (with_reducible first | apply go_ldN h | apply go_lenL h)
 | ((with_reducible apply go_st h); intro _ h)
 | ((with_reducible apply go_stA h); rfl; rfl; (first | rfl | simp [OneV.o]); intro _ h)
 | ((with_reducible apply go_stN h); rfl; (first | rfl | simp [OneV.o]); intro _ h)
 | ((with_reducible apply go_box h); rfl; intro _ _ h)
 | ((with_reducible apply go_ix h); omega)
 | ((with_reducible first | apply go_elN h | apply go_f1 h | apply go_rf1 h | apply go_rel h); (case hi => omega); (try case hx => exact inferInstance); (try case hv => rfl))
 | ((with_reducible apply go_fa h); omega; omega)
))
  refine go_lit0 (f := cSt) (es := 1) CodC.cod h u22 (by kernel_rfl) fun lv w h => ?_
  have hlen := hrd.len
  (repeat (first
 | (simp (disch := omega) only [evA, evB, evC, bAdd_i64, bSub_i64, hlen])
 | (with_reducible apply go_ld1 h)
 | ((with_reducible first | apply go_ldA h | apply go_rd h | apply go_rdN h | apply go_rlen h); rfl)
 | (with_reducible first | apply go_ldN h | apply go_lenL h)
 | ((with_reducible apply go_st h); intro _ h)
 | ((with_reducible apply go_stA h); rfl; rfl; (first | rfl | simp [OneV.o]); intro _ h)
 | ((with_reducible apply go_stN h); rfl; (first | rfl | simp [OneV.o]); intro _ h)
 | ((with_reducible apply go_box h); rfl; intro _ _ h)
 | ((with_reducible apply go_ix h); omega)
 | ((with_reducible first | apply go_elN h | apply go_f1 h | apply go_rf1 h | apply go_rel h); (case hi => omega); (try case hx => exact inferInstance); (try case hv => rfl))
 | ((with_reducible apply go_fa h); omega; omega)
))
  have hmin : (min (l.length : Int) 10) = ((min l.length 10 : Nat) : Int) := by omega
  rw [hmin]
  refine rd_subTo hrd (by omega) fun v1 r1' => ?_
  have : RdIn w0 (LsH cSt 1 9 lv [] :: JrP (ptr q) j (ptr p) :: DiskA (ptr p) d :: L) v1 (List UInt8) cSt 1 (l.take (min l.length 10)) := RdIn.arg r1'
  refine go_appR (f := cSt) (es := 1) (bytes := 16) (l := []) h sl22 (by kernel_rfl) (by repeat (first | exact .here | apply Fnt.there)) (by rw [List.length_take]; simp; omega) fun lv w _ h => ?_
  rw [List.nil_append] at h
  have hml : (l.take (min l.length 10)).length ≤ 10 := by rw [List.length_take]; omega
  generalize l.take (min l.length 10) = m at *
  (repeat (first
 | (simp (disch := omega) only [evA, evB, evC, bAdd_i64, bSub_i64])
 | (with_reducible apply go_ld1 h)
 | ((with_reducible first | apply go_ldA h | apply go_rd h | apply go_rdN h | apply go_rlen h); rfl)
 | (with_reducible first | apply go_ldN h | apply go_lenL h)
 | ((with_reducible apply go_st h); intro _ h)
 | ((with_reducible apply go_stA h); rfl; rfl; (first | rfl | simp [OneV.o]); intro _ h)
 | ((with_reducible apply go_stN h); rfl; (first | rfl | simp [OneV.o]); intro _ h)
 | ((with_reducible apply go_box h); rfl; intro _ _ h)
 | ((with_reducible apply go_ix h); omega)
 | ((with_reducible first | apply go_elN h | apply go_f1 h | apply go_rf1 h | apply go_rel h); (case hi => omega); (try case hx => exact inferInstance); (try case hv => rfl))
 | ((with_reducible apply go_fa h); omega; omega)
))
  unfold F4_2
  exact stops_loop W hk (fun w' h => hK w' h) fuel 0 m j d [] ⟨1, [], 0⟩ w (by unfold fuel; omega) ⟨R, s1, m1, by rw [lo1]; omega, by omega, hml, by simp, by rw [r1]; simp⟩ (h.got)
end
theorem fit_intJ {W : World} {B : Nat} {c : List Value} (h : FitL2 W B [.int .i64] c) : ∃ n : Int, c = cI n ∧ True := by
  obtain ⟨n, vs, rfl, _, h2⟩ := fitL2_int h
  rw [fitL2_nil h2]; exact ⟨n, rfl, trivial⟩
theorem lawJournalStops {W : World} (J : JW W) {v : Value} {n : Nat} {cs : List Value} (rd : Rd W 1 v n cs) (hn : n ≤ 140737488351232) (ft : ∀ i, i < n → FitL2 W 140737488351232 [.str] ((cs.drop (i * 1)).take 1)) (x : Int) {pp : Prop} (_ : pp)
    {v2 : Value} {n2 : Nat} {cs2 : List Value} (rd2 : Rd W 1 v2 n2 cs2) (hn2 : n2 ≤ 140737488351232) (ft2 : ∀ i, i < n2 → FitL2 W 140737488351232 [.int .i64] ((cs2.drop (i * 1)).take 1)) :
    callP G4 [v, .int .i64 x, v2] W fun v w' => v = .bool true ∧ Sat W [] w' := by
  obtain ⟨l, rfl, rfl, _⟩ := fit_list2 (fun c h => fit_strJ h) n cs rd.length ft
  obtain ⟨l2, rfl, rfl, _⟩ := fit_list2 (fun c h => fit_intJ h) n2 cs2 rd2.length ft2
  exact stops_spec J rd rd2 (Sat.start W) fun w' h => ⟨rfl, h⟩
end Go.Proofs.Gong
