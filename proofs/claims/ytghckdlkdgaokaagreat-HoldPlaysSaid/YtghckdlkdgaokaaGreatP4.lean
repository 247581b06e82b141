/- A part of the proofs: what stands below it, told in lemmas. No condition. -/
import Derived.Test.YtghckdlkdgaokaaGreatP3
import Derived.Test.YtghckdlkdgaokaaGreatP1
set_option linter.all false

/- Hs0 -/
namespace Go.Proofs.Gong
open Go Go.Sx Go.Proofs
set_option maxRecDepth 100000
attribute [local irreducible] fBuild fLook fZero eqv bEqv Cl MapH LsH SlH ld1 ldN st callP eBox eAlloc lenM lenL eMapSet eDelete eAppend eBuildSl eRange eNext
abbrev TM := List (SV × List Int)
def tmP (x : SV × List Int) : HP := LsH cI 1 3 (svV x.1) x.2
def Pool (T : TM) : HP := HS (T.map tmP)
def InT (T : TM) (x : Ctx × Value) : Prop := ∃ sv : SV, x.2 = svV sv ∧ (sv, x.1.times) ∈ T
theorem aSet_mem' {κ ν : Type} [DecidableEq κ] {k : κ} {y : ν} : ∀ {m : List (κ × ν)} {x : κ × ν}, x ∈ aSet k y m → x = (k, y) ∨ x ∈ m
  | [], x, h => by simp [aSet] at h; exact .inl h
  | z :: r, x, h => by
    unfold aSet at h
    split at h
    · rcases List.mem_cons.1 h with h | h
      · exact .inl h
      · exact .inr (List.mem_cons_of_mem _ h)
    · rcases List.mem_cons.1 h with h | h
      · exact .inr (by rw [h]; simp)
      · rcases aSet_mem' h with h | h
        · exact .inl h
        · exact .inr (List.mem_cons_of_mem _ h)
theorem aDel_mem' {κ ν : Type} [DecidableEq κ] {k : κ} : ∀ {m : List (κ × ν)} {x : κ × ν}, x ∈ aDel k m → x ∈ m
  | [], x, h => by simp [aDel] at h
  | z :: r, x, h => by
    unfold aDel at h
    split at h
    · first | exact List.mem_cons_of_mem _ h | exact List.mem_cons_of_mem _ (aDel_mem' h)
    · rcases List.mem_cons.1 h with h | h
      · rw [h]; simp
      · exact List.mem_cons_of_mem _ (aDel_mem' h)
section
variable {w0 w : World} {L M' : List HP} {K : Value → World → Prop} {v : Value} {n next hn : Int} {m : Held} {I : List (Sgn × Int)} {M : List It} {cs : List Ctx} {c : Ctx} {tv : Value} {T T' : TM}
theorem InT.mono {x : Ctx × Value} (h : InT T x) (hT : ∀ y ∈ T, y ∈ T') : InT T' x := by
  obtain ⟨sv, e, hy⟩ := h
  exact ⟨sv, e, hT _ hy⟩
theorem pool_iff : Sat w0 (Pool T :: L) w ↔ Sat w0 (T.map tmP ++ L) w := Sat.hs_iff
theorem pool_add {sv : SV} {l : List Int} (h : Sat w0 (LsH cI 1 3 (svV sv) l :: Pool T :: L) w) : Sat w0 (Pool (T ++ [(sv, l)]) :: L) w := by
  have h1 := pool_iff.1 h.f1
  have h2 : Sat w0 (tmP (sv, l) :: (T.map tmP ++ L)) w := h1.perm List.perm_middle
  refine pool_iff.2 ?_
  rw [List.map_append]
  refine h2.perm ?_
  rw [List.append_assoc]
  exact List.perm_middle.symm
theorem pool_rd {y : SV × List Int} (hy : y ∈ T) (g : Fnt (Pool T) L M') : RdL w0 L cI 1 (svV y.1) y.2 := fun w hs => by
  have h1 := pool_iff.1 (hs.front g)
  obtain ⟨a, b, rfl⟩ := List.append_of_mem hy
  rw [List.map_append, List.map_cons, List.append_assoc, List.cons_append] at h1
  have h2 : Sat w0 (tmP y :: (a.map tmP ++ (b.map tmP ++ M'))) w := h1.perm List.perm_middle
  exact ls_rd h2
theorem pool_rdv {x : Ctx × Value} (hx : InT T x) (g : Fnt (Pool T) L M') : RdL w0 L cI 1 x.2 x.1.times := by
  obtain ⟨sv, e, hy⟩ := hx
  rw [e]
  exact pool_rd hy g
def HoldB (v : Value) (n next : Int) (cs : List Ctx) (T : TM) : HP := HEx fun hn => HEx fun m => HEx fun I => HEx fun M => HEx fun p => HEx fun dp => HEx fun ml => HEx fun mi =>
  HPr ((HInv n next hn m I M cs ∧ 1 ≤ next ∧ next ≤ 4611686018427387904 ∧ ∀ x ∈ m, InT T x.2) ∧ v = ptr p) (HS [Cl p #[dp, .int .i64 n, .int .i64 next, ml, mi] 71, HeapH dp hn M, MapH kH ctxE ml m, MapH sgnV kH mi I])
theorem holdB_open (h : Sat w0 (HoldB v n next cs T :: L) w) : ∃ hn m I M p dp ml mi, HInv n next hn m I M cs ∧ 1 ≤ next ∧ next ≤ 4611686018427387904 ∧ (∀ x ∈ m, InT T x.2) ∧ v = ptr p ∧
    Sat w0 (Cl p #[dp, .int .i64 n, .int .i64 next, ml, mi] 71 :: HeapH dp hn M :: MapH kH ctxE ml m :: MapH sgnV kH mi I :: L) w := by
  simp only [HoldB, Sat.ex_iff, Sat.pr_iff, Sat.hs_iff, List.cons_append, List.nil_append] at h
  obtain ⟨hn, m, I, M, p, dp, ml, mi, ⟨⟨h1, h2, h3, h4⟩, h5⟩, h⟩ := h
  exact ⟨hn, m, I, M, p, dp, ml, mi, h1, h2, h3, h4, h5, h⟩
theorem holdB_mk {p : Nat} {dp ml mi : Value} (H : HInv n next hn m I M cs) (h1 : 1 ≤ next) (h2 : next ≤ 4611686018427387904) (hT : ∀ x ∈ m, InT T x.2)
    (h : Sat w0 (Cl p #[dp, .int .i64 n, .int .i64 next, ml, mi] 71 :: HeapH dp hn M :: MapH kH ctxE ml m :: MapH sgnV kH mi I :: L) w) : Sat w0 (HoldB (ptr p) n next cs T :: L) w := by
  simp only [HoldB, Sat.ex_iff, Sat.pr_iff, Sat.hs_iff, List.cons_append, List.nil_append]
  exact ⟨hn, m, I, M, p, dp, ml, mi, ⟨⟨H, h1, h2, hT⟩, rfl⟩, h⟩
theorem holdB_mono (hT : ∀ y ∈ T, y ∈ T') (h : Sat w0 (HoldB v n next cs T :: L) w) : Sat w0 (HoldB v n next cs T' :: L) w := by
  replace h := holdB_open h
  obtain ⟨hn, m, I, M, p, dp, ml, mi, H, h1, h2, h3, rfl, h⟩ := h
  exact holdB_mk H h1 h2 (fun x hx => (h3 x hx).mono hT) h
theorem holdB_inv (h : Sat w0 (HoldB v n next cs T :: L) w) : ∃ hn m I M, HInv n next hn m I M cs ∧ 1 ≤ next ∧ next ≤ 4611686018427387904 := by
  obtain ⟨hn, m, I, M, p, dp, ml, mi, H, h1, h2, _⟩ := holdB_open h
  exact ⟨hn, m, I, M, H, h1, h2⟩
theorem inT_set {k : Int} {sv : SV} (h : ∀ x ∈ m, InT T x.2) : ∀ x ∈ aSet k (c, svV sv) m, InT (T ++ [(sv, c.times)]) x.2 := by
  intro x hx
  rcases aSet_mem' hx with rfl | hx
  · exact ⟨sv, rfl, by simp⟩
  · exact (h x hx).mono fun y hy => List.mem_append_left _ hy
theorem bput_spec {p : Nat} {dp ml mi : Value} (hl : c.times.length ≤ 1073741824) (hr : RdL w0 (Pool T :: L) cI 1 tv c.times) (h : Sat w0 (Cl p #[dp, .int .i64 n, .int .i64 next, ml, mi] 71 :: HeapH dp hn M :: MapH kH ctxE ml m :: MapH sgnV kH mi I :: Pool T :: L) w)
    (hK : ∀ sv w', Sat w0 (Cl p #[dp, .int .i64 n, .int .i64 next, ml, mi] 71 :: HeapH dp hn (setR hn c.id c.at' M).2 :: MapH kH ctxE ml (aSet c.id (c, svV sv) m) :: MapH sgnV kH mi (aSet (sgnOf c) c.id I) :: Pool (T ++ [(sv, c.times)]) :: L) w' → K (.tuple #[]) w') : callP G35 [ptr p, ctxV c tv] w K := by
  refine c35 ?_
  unfold F35
  have := map_one (h.frt (A := MapH kH ctxE ml m))
  have := map_one (h.frt (A := MapH sgnV kH mi I))
  (repeat (first
 | (simp (disch := omega) only [evA, evB, evC, bAdd_i64, bSub_i64])
 | (with_reducible apply go_ld1 h)
 | ((with_reducible first | apply go_ldA h | apply go_rd h | apply go_rdN h | apply go_rlen h); rfl)
 | (with_reducible first | apply go_ldN h | apply go_lenL h)
 | ((with_reducible apply go_st h); intro _ h)
 | ((with_reducible apply go_stA h); rfl; rfl; (first | rfl | simp [OneV.o]); intro _ h)
 | ((with_reducible apply go_stN h); rfl; (first | rfl | simp [OneV.o]); intro _ h)
 | ((with_reducible apply go_box h); rfl; intro _ _ h)
 | ((with_reducible apply go_ix h); omega)
 | ((with_reducible first | apply go_elN h | apply go_f1 h | apply go_rf1 h | apply go_rel h); (case hi => omega); (try case hx => exact inferInstance); (try case hv => rfl))
 | ((with_reducible apply go_fa h); omega; omega)
))
  refine own_spec (c := c) hl (hr.got) h.drew fun s w h => ?_
  obtain ⟨a1, c1, rfl, _⟩ := (ls_rd h).cap
  (repeat (first
 | (simp (disch := omega) only [evA, evB, evC, bAdd_i64, bSub_i64])
 | (with_reducible apply go_ld1 h)
 | ((with_reducible first | apply go_ldA h | apply go_rd h | apply go_rdN h | apply go_rlen h); rfl)
 | (with_reducible first | apply go_ldN h | apply go_lenL h)
 | ((with_reducible apply go_st h); intro _ h)
 | ((with_reducible apply go_stA h); rfl; rfl; (first | rfl | simp [OneV.o]); intro _ h)
 | ((with_reducible apply go_stN h); rfl; (first | rfl | simp [OneV.o]); intro _ h)
 | ((with_reducible apply go_box h); rfl; intro _ _ h)
 | ((with_reducible apply go_ix h); omega)
 | ((with_reducible first | apply go_elN h | apply go_f1 h | apply go_rf1 h | apply go_rel h); (case hi => omega); (try case hx => exact inferInstance); (try case hv => rfl))
 | ((with_reducible apply go_fa h); omega; omega)
))
  refine eMapSet_sat (h.frt) KIh um68 c.id (c, svV (a1, c.times.length, c1)) fun w h => ?_
  (repeat (first
 | (simp (disch := omega) only [evA, evB, evC, bAdd_i64, bSub_i64])
 | (with_reducible apply go_ld1 h)
 | ((with_reducible first | apply go_ldA h | apply go_rd h | apply go_rdN h | apply go_rlen h); rfl)
 | (with_reducible first | apply go_ldN h | apply go_lenL h)
 | ((with_reducible apply go_st h); intro _ h)
 | ((with_reducible apply go_stA h); rfl; rfl; (first | rfl | simp [OneV.o]); intro _ h)
 | ((with_reducible apply go_stN h); rfl; (first | rfl | simp [OneV.o]); intro _ h)
 | ((with_reducible apply go_box h); rfl; intro _ _ h)
 | ((with_reducible apply go_ix h); omega)
 | ((with_reducible first | apply go_elN h | apply go_f1 h | apply go_rf1 h | apply go_rel h); (case hi => omega); (try case hx => exact inferInstance); (try case hv => rfl))
 | ((with_reducible apply go_fa h); omega; omega)
))
  refine hof_spec (a := c) h.drew fun w h => ?_
  (repeat (first
 | (simp (disch := omega) only [evA, evB, evC, bAdd_i64, bSub_i64])
 | (with_reducible apply go_ld1 h)
 | ((with_reducible first | apply go_ldA h | apply go_rd h | apply go_rdN h | apply go_rlen h); rfl)
 | (with_reducible first | apply go_ldN h | apply go_lenL h)
 | ((with_reducible apply go_st h); intro _ h)
 | ((with_reducible apply go_stA h); rfl; rfl; (first | rfl | simp [OneV.o]); intro _ h)
 | ((with_reducible apply go_stN h); rfl; (first | rfl | simp [OneV.o]); intro _ h)
 | ((with_reducible apply go_box h); rfl; intro _ _ h)
 | ((with_reducible apply go_ix h); omega)
 | ((with_reducible first | apply go_elN h | apply go_f1 h | apply go_rf1 h | apply go_rel h); (case hi => omega); (try case hx => exact inferInstance); (try case hv => rfl))
 | ((with_reducible apply go_fa h); omega; omega)
))
  refine eMapSet_sat (h.frt) KSgn um69 (sgnOf c) c.id fun w h => ?_
  (repeat (first
 | (simp (disch := omega) only [evA, evB, evC, bAdd_i64, bSub_i64])
 | (with_reducible apply go_ld1 h)
 | ((with_reducible first | apply go_ldA h | apply go_rd h | apply go_rdN h | apply go_rlen h); rfl)
 | (with_reducible first | apply go_ldN h | apply go_lenL h)
 | ((with_reducible apply go_st h); intro _ h)
 | ((with_reducible apply go_stA h); rfl; rfl; (first | rfl | simp [OneV.o]); intro _ h)
 | ((with_reducible apply go_stN h); rfl; (first | rfl | simp [OneV.o]); intro _ h)
 | ((with_reducible apply go_box h); rfl; intro _ _ h)
 | ((with_reducible apply go_ix h); omega)
 | ((with_reducible first | apply go_elN h | apply go_f1 h | apply go_rf1 h | apply go_rel h); (case hi => omega); (try case hx => exact inferInstance); (try case hv => rfl))
 | ((with_reducible apply go_fa h); omega; omega)
))
  refine until_spec (c := c) (M := M) (hn := hn) (h.drew.frt) fun w h => ?_
  (repeat (first
 | (simp (disch := omega) only [evA, evB, evC, bAdd_i64, bSub_i64])
 | (with_reducible apply go_ld1 h)
 | ((with_reducible first | apply go_ldA h | apply go_rd h | apply go_rdN h | apply go_rlen h); rfl)
 | (with_reducible first | apply go_ldN h | apply go_lenL h)
 | ((with_reducible apply go_st h); intro _ h)
 | ((with_reducible apply go_stA h); rfl; rfl; (first | rfl | simp [OneV.o]); intro _ h)
 | ((with_reducible apply go_stN h); rfl; (first | rfl | simp [OneV.o]); intro _ h)
 | ((with_reducible apply go_box h); rfl; intro _ _ h)
 | ((with_reducible apply go_ix h); omega)
 | ((with_reducible first | apply go_elN h | apply go_f1 h | apply go_rf1 h | apply go_rel h); (case hi => omega); (try case hx => exact inferInstance); (try case hv => rfl))
 | ((with_reducible apply go_fa h); omega; omega)
))
  refine hK (a1, c.times.length, c1) _ ?_
  have h2 : Sat w0 (LsH cI 1 3 (svV (a1, c.times.length, c1)) c.times :: Pool T :: Cl p #[dp, .int .i64 n, .int .i64 next, ml, mi] 71 :: HeapH dp hn (setR hn c.id c.at' M).2 :: MapH kH ctxE ml (aSet c.id (c, svV (a1, c.times.length, c1)) m) :: MapH sgnV kH mi (aSet (sgnOf c) c.id I) :: L) _ := h.got
  exact (pool_add h2).got
theorem badd_spec (hf : c.fits) (hnx : next + 1 ≤ 4611686018427387904) (hr : RdL w0 (Pool T :: L) cI 1 tv c.times) (h : Sat w0 (HoldB v n next cs T :: Pool T :: L) w)
    (hK0 : addA n cs c ≠ 0 → ∀ w', Sat w0 (HoldB v n next cs T :: Pool T :: L) w' → K (.tuple #[.int .i64 0, .int .i64 (addA n cs c)]) w')
    (hK1 : addA n cs c = 0 → ∀ T' w', (∀ y ∈ T, y ∈ T') → Sat w0 (HoldB v n (next + 1) (cs ++ [{ c with id := next }]) T' :: Pool T' :: L) w' → K (.tuple #[.int .i64 next, .int .i64 0]) w') : callP G11 [v, ctxV c tv] w K := by
  replace h := holdB_open h
  obtain ⟨hn, m, I, M, p, dp, ml, mi, H, hn1, hn2, hT, rfl, h⟩ := h
  have e : addC n m I c = addA n cs c := by
    unfold addC addA
    rw [H.find, H.len, Option.isSome_map]
  rw [← e] at hK0 hK1
  refine c11 ?_
  unfold F11
  have close : ∀ {w : World} {L' : List HP}, Sat w0 L' w → Get L' (Cl p #[dp, .int .i64 n, .int .i64 next, ml, mi] 71 :: HeapH dp hn M :: MapH kH ctxE ml m :: MapH sgnV kH mi I :: Pool T :: L) → Sat w0 (HoldB (ptr p) n next cs T :: Pool T :: L) w := fun h g => holdB_mk H hn1 hn2 hT (h.get g)
  have := map_one (h.frt (A := MapH kH ctxE ml m))
  have := map_one (h.frt (A := MapH sgnV kH mi I))
  (repeat (first
 | (simp (disch := omega) only [evA, evB, evC, bAdd_i64, bSub_i64])
 | (with_reducible apply go_ld1 h)
 | ((with_reducible first | apply go_ldA h | apply go_rd h | apply go_rdN h | apply go_rlen h); rfl)
 | (with_reducible first | apply go_ldN h | apply go_lenL h)
 | ((with_reducible apply go_st h); intro _ h)
 | ((with_reducible apply go_stA h); rfl; rfl; (first | rfl | simp [OneV.o]); intro _ h)
 | ((with_reducible apply go_stN h); rfl; (first | rfl | simp [OneV.o]); intro _ h)
 | ((with_reducible apply go_box h); rfl; intro _ _ h)
 | ((with_reducible apply go_ix h); omega)
 | ((with_reducible first | apply go_elN h | apply go_f1 h | apply go_rf1 h | apply go_rel h); (case hi => omega); (try case hx => exact inferInstance); (try case hv => rfl))
 | ((with_reducible apply go_fa h); omega; omega)
))
  refine hof_spec (a := c) h.drew fun w h => ?_
  (repeat (first
 | (simp (disch := omega) only [evA, evB, evC, bAdd_i64, bSub_i64])
 | (with_reducible apply go_ld1 h)
 | ((with_reducible first | apply go_ldA h | apply go_rd h | apply go_rdN h | apply go_rlen h); rfl)
 | (with_reducible first | apply go_ldN h | apply go_lenL h)
 | ((with_reducible apply go_st h); intro _ h)
 | ((with_reducible apply go_stA h); rfl; rfl; (first | rfl | simp [OneV.o]); intro _ h)
 | ((with_reducible apply go_stN h); rfl; (first | rfl | simp [OneV.o]); intro _ h)
 | ((with_reducible apply go_box h); rfl; intro _ _ h)
 | ((with_reducible apply go_ix h); omega)
 | ((with_reducible first | apply go_elN h | apply go_f1 h | apply go_rf1 h | apply go_rel h); (case hi => omega); (try case hx => exact inferInstance); (try case hv => rfl))
 | ((with_reducible apply go_fa h); omega; omega)
))
  refine go_look2 h (by repeat (first | exact .here | apply Fnt.there)) KSgn um69 z3 (sgnOf c) ?_
  (repeat (first
 | (simp (disch := omega) only [evA, evB, evC, bAdd_i64, bSub_i64])
 | (with_reducible apply go_ld1 h)
 | ((with_reducible first | apply go_ldA h | apply go_rd h | apply go_rdN h | apply go_rlen h); rfl)
 | (with_reducible first | apply go_ldN h | apply go_lenL h)
 | ((with_reducible apply go_st h); intro _ h)
 | ((with_reducible apply go_stA h); rfl; rfl; (first | rfl | simp [OneV.o]); intro _ h)
 | ((with_reducible apply go_stN h); rfl; (first | rfl | simp [OneV.o]); intro _ h)
 | ((with_reducible apply go_box h); rfl; intro _ _ h)
 | ((with_reducible apply go_ix h); omega)
 | ((with_reducible first | apply go_elN h | apply go_f1 h | apply go_rf1 h | apply go_rel h); (case hi => omega); (try case hx => exact inferInstance); (try case hv => rfl))
 | ((with_reducible apply go_fa h); omega; omega)
))
  refine hcheck_spec (c := c) hf (hr.got) h fun w h => ?_
  unfold chkC
  have hadd : addC n m I c = 0 → okC c = true ∧ (∀ d ∈ cs, sgnOf d ≠ sgnOf c) ∧ (cs.length : Int) < n := by
    intro he
    rw [e] at he
    unfold addA at he
    split at he
    · cases he
    · rename_i h1
      split at he
      · cases he
      · rename_i h2
        split at he
        · cases he
        · rename_i h3
          refine ⟨by simpa using h1, fun d hd e => ?_, by omega⟩
          have : (cs.find? fun d => decide (sgnOf d = sgnOf c)).isSome = true := List.find?_isSome.2 ⟨d, hd, by simpa using e⟩
          exact h2 this
  unfold addC at hK0 hK1 hadd
  cases g1 : okC c
  · rw [g1] at hK0
    have d4 : decide ((4 : Int) = 0) = false := by decide
    (repeat (first
 | (simp (disch := omega) only [evA, evB, evC, bAdd_i64, bSub_i64, Bool.false_eq_true, if_false, d4])
 | (with_reducible apply go_ld1 h)
 | ((with_reducible first | apply go_ldA h | apply go_rd h | apply go_rdN h | apply go_rlen h); rfl)
 | (with_reducible first | apply go_ldN h | apply go_lenL h)
 | ((with_reducible apply go_st h); intro _ h)
 | ((with_reducible apply go_stA h); rfl; rfl; (first | rfl | simp [OneV.o]); intro _ h)
 | ((with_reducible apply go_stN h); rfl; (first | rfl | simp [OneV.o]); intro _ h)
 | ((with_reducible apply go_box h); rfl; intro _ _ h)
 | ((with_reducible apply go_ix h); omega)
 | ((with_reducible first | apply go_elN h | apply go_f1 h | apply go_rf1 h | apply go_rel h); (case hi => omega); (try case hx => exact inferInstance); (try case hv => rfl))
 | ((with_reducible apply go_fa h); omega; omega)
))
    exact hK0 (by simp) _ (close h (by (repeat (first | exact .done | (refine .pick (by repeat (first | exact .here | apply Fnt.there)) ?_) | refine .skip ?_))))
  rw [g1] at hK0 hK1 hadd
  (repeat (first
 | (simp (disch := omega) only [evA, evB, evC, bAdd_i64, bSub_i64, if_true])
 | (with_reducible apply go_ld1 h)
 | ((with_reducible first | apply go_ldA h | apply go_rd h | apply go_rdN h | apply go_rlen h); rfl)
 | (with_reducible first | apply go_ldN h | apply go_lenL h)
 | ((with_reducible apply go_st h); intro _ h)
 | ((with_reducible apply go_stA h); rfl; rfl; (first | rfl | simp [OneV.o]); intro _ h)
 | ((with_reducible apply go_stN h); rfl; (first | rfl | simp [OneV.o]); intro _ h)
 | ((with_reducible apply go_box h); rfl; intro _ _ h)
 | ((with_reducible apply go_ix h); omega)
 | ((with_reducible first | apply go_elN h | apply go_f1 h | apply go_rf1 h | apply go_rel h); (case hi => omega); (try case hx => exact inferInstance); (try case hv => rfl))
 | ((with_reducible apply go_fa h); omega; omega)
))
  cases g2 : (aGet (sgnOf c) I).isSome
  · rw [g2] at hK0 hK1 hadd
    simp only [Bool.true_eq_false, Bool.false_eq_true, if_false] at hK0 hK1 hadd
    (repeat (first
 | (simp (disch := omega) only [evA, evB, evC, bAdd_i64, bSub_i64])
 | (with_reducible apply go_ld1 h)
 | ((with_reducible first | apply go_ldA h | apply go_rd h | apply go_rdN h | apply go_rlen h); rfl)
 | (with_reducible first | apply go_ldN h | apply go_lenL h)
 | ((with_reducible apply go_st h); intro _ h)
 | ((with_reducible apply go_stA h); rfl; rfl; (first | rfl | simp [OneV.o]); intro _ h)
 | ((with_reducible apply go_stN h); rfl; (first | rfl | simp [OneV.o]); intro _ h)
 | ((with_reducible apply go_box h); rfl; intro _ _ h)
 | ((with_reducible apply go_ix h); omega)
 | ((with_reducible first | apply go_elN h | apply go_f1 h | apply go_rf1 h | apply go_rel h); (case hi => omega); (try case hx => exact inferInstance); (try case hv => rfl))
 | ((with_reducible apply go_fa h); omega; omega)
))
    refine go_lenM h (by repeat (first | exact .here | apply Fnt.there)) ?_
    by_cases g3 : n ≤ (m.length : Int)
    · have g3' : decide ((m.length : Int) ≥ n) = true := by simpa using g3
      rw [if_pos g3] at hK0
      (repeat (first
 | (simp (disch := omega) only [evA, evB, evC, bAdd_i64, bSub_i64, g3'])
 | (with_reducible apply go_ld1 h)
 | ((with_reducible first | apply go_ldA h | apply go_rd h | apply go_rdN h | apply go_rlen h); rfl)
 | (with_reducible first | apply go_ldN h | apply go_lenL h)
 | ((with_reducible apply go_st h); intro _ h)
 | ((with_reducible apply go_stA h); rfl; rfl; (first | rfl | simp [OneV.o]); intro _ h)
 | ((with_reducible apply go_stN h); rfl; (first | rfl | simp [OneV.o]); intro _ h)
 | ((with_reducible apply go_box h); rfl; intro _ _ h)
 | ((with_reducible apply go_ix h); omega)
 | ((with_reducible first | apply go_elN h | apply go_f1 h | apply go_rf1 h | apply go_rel h); (case hi => omega); (try case hx => exact inferInstance); (try case hv => rfl))
 | ((with_reducible apply go_fa h); omega; omega)
))
      exact hK0 (by simp) _ (close h.drew (by (repeat (first | exact .done | (refine .pick (by repeat (first | exact .here | apply Fnt.there)) ?_) | refine .skip ?_))))
    · have g3' : decide ((m.length : Int) ≥ n) = false := by simpa using g3
      rw [if_neg g3] at hK1 hadd
      obtain ⟨_, a2, a3⟩ := hadd rfl
      (repeat (first
 | (simp (disch := omega) only [evA, evB, evC, bAdd_i64, bSub_i64, g3'])
 | (with_reducible apply go_ld1 h)
 | ((with_reducible first | apply go_ldA h | apply go_rd h | apply go_rdN h | apply go_rlen h); rfl)
 | (with_reducible first | apply go_ldN h | apply go_lenL h)
 | ((with_reducible apply go_st h); intro _ h)
 | ((with_reducible apply go_stA h); rfl; rfl; (first | rfl | simp [OneV.o]); intro _ h)
 | ((with_reducible apply go_stN h); rfl; (first | rfl | simp [OneV.o]); intro _ h)
 | ((with_reducible apply go_box h); rfl; intro _ _ h)
 | ((with_reducible apply go_ix h); omega)
 | ((with_reducible first | apply go_elN h | apply go_f1 h | apply go_rf1 h | apply go_rel h); (case hi => omega); (try case hx => exact inferInstance); (try case hv => rfl))
 | ((with_reducible apply go_fa h); omega; omega)
))
      refine bput_spec (p := p) (dp := dp) (ml := ml) (mi := mi) (n := n) (next := next + 1) (hn := hn) (m := m) (I := I) (M := M) (T := T) (c := { c with id := next }) (L := _ :: L) ?_ ?_ (h.got) fun sv w h => ?_
      · have := hf.2.2.2; show c.times.length ≤ _; omega
      · exact hr.got
      (repeat (first
 | (simp (disch := omega) only [evA, evB, evC, bAdd_i64, bSub_i64])
 | (with_reducible apply go_ld1 h)
 | ((with_reducible first | apply go_ldA h | apply go_rd h | apply go_rdN h | apply go_rlen h); rfl)
 | (with_reducible first | apply go_ldN h | apply go_lenL h)
 | ((with_reducible apply go_st h); intro _ h)
 | ((with_reducible apply go_stA h); rfl; rfl; (first | rfl | simp [OneV.o]); intro _ h)
 | ((with_reducible apply go_stN h); rfl; (first | rfl | simp [OneV.o]); intro _ h)
 | ((with_reducible apply go_box h); rfl; intro _ _ h)
 | ((with_reducible apply go_ix h); omega)
 | ((with_reducible first | apply go_elN h | apply go_f1 h | apply go_rf1 h | apply go_rel h); (case hi => omega); (try case hx => exact inferInstance); (try case hv => rfl))
 | ((with_reducible apply go_fa h); omega; omega)
))
      exact hK1 rfl (T ++ [(sv, c.times)]) _ (fun y hy => List.mem_append_left _ hy) (holdB_mk (H.add g1 hf a2 a3 hn1) (by omega) hnx (inT_set (c := { c with id := next }) hT) (h.got))
  · rw [g2] at hK0
    simp only [Bool.true_eq_false, if_true, if_false] at hK0
    (repeat (first
 | (simp (disch := omega) only [evA, evB, evC, bAdd_i64, bSub_i64])
 | (with_reducible apply go_ld1 h)
 | ((with_reducible first | apply go_ldA h | apply go_rd h | apply go_rdN h | apply go_rlen h); rfl)
 | (with_reducible first | apply go_ldN h | apply go_lenL h)
 | ((with_reducible apply go_st h); intro _ h)
 | ((with_reducible apply go_stA h); rfl; rfl; (first | rfl | simp [OneV.o]); intro _ h)
 | ((with_reducible apply go_stN h); rfl; (first | rfl | simp [OneV.o]); intro _ h)
 | ((with_reducible apply go_box h); rfl; intro _ _ h)
 | ((with_reducible apply go_ix h); omega)
 | ((with_reducible first | apply go_elN h | apply go_f1 h | apply go_rf1 h | apply go_rel h); (case hi => omega); (try case hx => exact inferInstance); (try case hv => rfl))
 | ((with_reducible apply go_fa h); omega; omega)
))
    exact hK0 (by simp) _ (close h (by (repeat (first | exact .done | (refine .pick (by repeat (first | exact .here | apply Fnt.there)) ?_) | refine .skip ?_))))
theorem blen_spec (h : Sat w0 (HoldB v n next cs T :: L) w) (hK : K (.int .i64 cs.length) w) : callP G12 [v] w K := by
  replace h := holdB_open h
  obtain ⟨hn, m, I, M, p, dp, ml, mi, H, hn1, hn2, hT, rfl, h⟩ := h
  refine c12 ?_
  unfold F12
  (repeat (first
 | (simp (disch := omega) only [evA, evB, evC, bAdd_i64, bSub_i64])
 | (with_reducible apply go_ld1 h)
 | ((with_reducible first | apply go_ldA h | apply go_rd h | apply go_rdN h | apply go_rlen h); rfl)
 | (with_reducible first | apply go_ldN h | apply go_lenL h)
 | ((with_reducible apply go_st h); intro _ h)
 | ((with_reducible apply go_stA h); rfl; rfl; (first | rfl | simp [OneV.o]); intro _ h)
 | ((with_reducible apply go_stN h); rfl; (first | rfl | simp [OneV.o]); intro _ h)
 | ((with_reducible apply go_box h); rfl; intro _ _ h)
 | ((with_reducible apply go_ix h); omega)
 | ((with_reducible first | apply go_elN h | apply go_f1 h | apply go_rf1 h | apply go_rel h); (case hi => omega); (try case hx => exact inferInstance); (try case hv => rfl))
 | ((with_reducible apply go_fa h); omega; omega)
))
  refine go_lenM h (by repeat (first | exact .here | apply Fnt.there)) ?_
  rw [H.len]; exact hK
theorem bnext_hspec (h : Sat w0 (HoldB v n next cs T :: L) w) (hK : K (.int .i64 next) w) : callP G31 [v] w K := by
  replace h := holdB_open h
  obtain ⟨hn, m, I, M, p, dp, ml, mi, H, hn1, hn2, hT, rfl, h⟩ := h
  refine c31 ?_
  unfold F31
  (repeat (first
 | (simp (disch := omega) only [evA, evB, evC, bAdd_i64, bSub_i64])
 | (with_reducible apply go_ld1 h)
 | ((with_reducible first | apply go_ldA h | apply go_rd h | apply go_rdN h | apply go_rlen h); rfl)
 | (with_reducible first | apply go_ldN h | apply go_lenL h)
 | ((with_reducible apply go_st h); intro _ h)
 | ((with_reducible apply go_stA h); rfl; rfl; (first | rfl | simp [OneV.o]); intro _ h)
 | ((with_reducible apply go_stN h); rfl; (first | rfl | simp [OneV.o]); intro _ h)
 | ((with_reducible apply go_box h); rfl; intro _ _ h)
 | ((with_reducible apply go_ix h); omega)
 | ((with_reducible first | apply go_elN h | apply go_f1 h | apply go_rf1 h | apply go_rel h); (case hi => omega); (try case hx => exact inferInstance); (try case hv => rfl))
 | ((with_reducible apply go_fa h); omega; omega)
))
  exact hK
theorem bnew_hspec (h : Sat w0 L w) (hK0 : (n < 1 ∨ 65536 < n) → K (.tuple #[.pointer none, .int .i64 1]) w) (hK1 : 1 ≤ n → n ≤ 65536 → ∀ p w', Sat w0 (HoldB (ptr p) n 1 [] [] :: Pool [] :: L) w' → K (.tuple #[ptr p, .int .i64 0]) w') : callP G4 [.int .i64 n] w K := by
  by_cases g1 : n < 1
  · refine c4 ?_
    unfold F4
    have g1' : decide (n < 1) = true := by simpa using g1
    (repeat (first
 | (simp (disch := omega) only [evA, evB, evC, bAdd_i64, bSub_i64, g1'])
 | (with_reducible apply go_ld1 h)
 | ((with_reducible first | apply go_ldA h | apply go_rd h | apply go_rdN h | apply go_rlen h); rfl)
 | (with_reducible first | apply go_ldN h | apply go_lenL h)
 | ((with_reducible apply go_st h); intro _ h)
 | ((with_reducible apply go_stA h); rfl; rfl; (first | rfl | simp [OneV.o]); intro _ h)
 | ((with_reducible apply go_stN h); rfl; (first | rfl | simp [OneV.o]); intro _ h)
 | ((with_reducible apply go_box h); rfl; intro _ _ h)
 | ((with_reducible apply go_ix h); omega)
 | ((with_reducible first | apply go_elN h | apply go_f1 h | apply go_rf1 h | apply go_rel h); (case hi => omega); (try case hx => exact inferInstance); (try case hv => rfl))
 | ((with_reducible apply go_fa h); omega; omega)
))
    exact hK0 (.inl g1)
  by_cases g2 : n > 65536
  · refine c4 ?_
    unfold F4
    have g1' : decide (n < 1) = false := by simpa using g1
    have g2' : decide (n > 65536) = true := by simpa using g2
    (repeat (first
 | (simp (disch := omega) only [evA, evB, evC, bAdd_i64, bSub_i64, g1', g2'])
 | (with_reducible apply go_ld1 h)
 | ((with_reducible first | apply go_ldA h | apply go_rd h | apply go_rdN h | apply go_rlen h); rfl)
 | (with_reducible first | apply go_ldN h | apply go_lenL h)
 | ((with_reducible apply go_st h); intro _ h)
 | ((with_reducible apply go_stA h); rfl; rfl; (first | rfl | simp [OneV.o]); intro _ h)
 | ((with_reducible apply go_stN h); rfl; (first | rfl | simp [OneV.o]); intro _ h)
 | ((with_reducible apply go_box h); rfl; intro _ _ h)
 | ((with_reducible apply go_ix h); omega)
 | ((with_reducible first | apply go_elN h | apply go_f1 h | apply go_rf1 h | apply go_rel h); (case hi => omega); (try case hx => exact inferInstance); (try case hv => rfl))
 | ((with_reducible apply go_fa h); omega; omega)
))
    exact hK0 (.inr g2)
  refine hnew_spec (by omega) (by omega) h fun p w h => ?_
  replace h := hold_iff.1 h
  obtain ⟨p', dp, ml, mi, e, h⟩ := h
  cases e
  refine hK1 (by omega) (by omega) p w (holdB_mk (dp := dp) (ml := ml) (mi := mi) (hn := n) (m := []) (I := []) (M := []) (.start (by omega) (by omega) 1) (by omega) (by omega) (by simp) ?_)
  have h3 : Sat w0 (Pool [] :: _) w := pool_iff.2 h
  exact h3.got
theorem bfind_spec {wa : Int} {no ke : List UInt8} (h : Sat w0 (HoldB v n next cs T :: Pool T :: L) w)
    (hK0 : (∀ d ∈ cs, sgnOf d ≠ ⟨wa, no, ke⟩) → ∀ w', Sat w0 (HoldB v n next cs T :: Pool T :: L) w' → K (.tuple #[ctxV zeroC (.slice none 0 0), .bool false]) w')
    (hK1 : ∀ c ∈ cs, sgnOf c = ⟨wa, no, ke⟩ → ∀ s w', Sat w0 (LsH cI 1 3 s c.times :: HoldB v n next cs T :: Pool T :: L) w' → K (.tuple #[ctxV c s, .bool true]) w') : callP G26 [v, .int .i64 wa, .string (bs no), .string (bs ke)] w K := by
  replace h := holdB_open h
  obtain ⟨hn, m, I, M, p, dp, ml, mi, H, hn1, hn2, hT, rfl, h⟩ := h
  refine c26 ?_
  unfold F26
  have close : ∀ {w : World} {L' L2 : List HP}, Sat w0 L' w → Get L' (Cl p #[dp, .int .i64 n, .int .i64 next, ml, mi] 71 :: HeapH dp hn M :: MapH kH ctxE ml m :: MapH sgnV kH mi I :: L2) → Sat w0 (HoldB (ptr p) n next cs T :: L2) w := fun h g => holdB_mk H hn1 hn2 hT (h.get g)
  have := map_one (h.frt (A := MapH kH ctxE ml m))
  have := map_one (h.frt (A := MapH sgnV kH mi I))
  have zc := zc41
  refine go_alloc h zc rfl fun _ _ h => ?_
  (repeat (first
 | (simp (disch := omega) only [evA, evB, evC, bAdd_i64, bSub_i64])
 | (refine go_some (fb74_0_1_2 ..) ?_)
 | (with_reducible apply go_ld1 h)
 | ((with_reducible first | apply go_ldA h | apply go_rd h | apply go_rdN h | apply go_rlen h); rfl)
 | (with_reducible first | apply go_ldN h | apply go_lenL h)
 | ((with_reducible apply go_st h); intro _ h)
 | ((with_reducible apply go_stA h); rfl; rfl; (first | rfl | simp [OneV.o]); intro _ h)
 | ((with_reducible apply go_stN h); rfl; (first | rfl | simp [OneV.o]); intro _ h)
 | ((with_reducible apply go_box h); rfl; intro _ _ h)
 | ((with_reducible apply go_ix h); omega)
 | ((with_reducible first | apply go_elN h | apply go_f1 h | apply go_rf1 h | apply go_rel h); (case hi => omega); (try case hx => exact inferInstance); (try case hv => rfl))
 | ((with_reducible apply go_fa h); omega; omega)
))
  refine go_look2 h (by repeat (first | exact .here | apply Fnt.there)) KSgn um69 z3 (⟨wa, no, ke⟩ : Sgn) ?_
  rw [H.find]
  cases g : cs.find? fun d => decide (sgnOf d = ⟨wa, no, ke⟩) with
  | none =>
    simp only [Option.map_none, Option.elim_none, Option.isSome_none]
    (repeat (first
 | (simp (disch := omega) only [evA, evB, evC, bAdd_i64, bSub_i64])
 | (refine go_some (fb36 ..) ?_)
 | (with_reducible apply go_ld1 h)
 | ((with_reducible first | apply go_ldA h | apply go_rd h | apply go_rdN h | apply go_rlen h); rfl)
 | (with_reducible first | apply go_ldN h | apply go_lenL h)
 | ((with_reducible apply go_st h); intro _ h)
 | ((with_reducible apply go_stA h); rfl; rfl; (first | rfl | simp [OneV.o]); intro _ h)
 | ((with_reducible apply go_stN h); rfl; (first | rfl | simp [OneV.o]); intro _ h)
 | ((with_reducible apply go_box h); rfl; intro _ _ h)
 | ((with_reducible apply go_ix h); omega)
 | ((with_reducible first | apply go_elN h | apply go_f1 h | apply go_rf1 h | apply go_rel h); (case hi => omega); (try case hx => exact inferInstance); (try case hv => rfl))
 | ((with_reducible apply go_fa h); omega; omega)
))
    refine hK0 (fun d hd e => ?_) _ (close (L2 := Pool T :: L) h (by (repeat (first | exact .done | (refine .pick (by repeat (first | exact .here | apply Fnt.there)) ?_) | refine .skip ?_))))
    rw [List.find?_eq_none] at g
    have := g d hd
    simp [e] at this
  | some c =>
    simp only [Option.map_some, Option.elim_some, Option.isSome_some]
    have hc := List.mem_of_find?_eq_some g
    have hs := List.find?_some g
    simp only [decide_eq_true_eq] at hs
    obtain ⟨s, hg⟩ := H.get hc
    (repeat (first
 | (simp (disch := omega) only [evA, evB, evC, bAdd_i64, bSub_i64])
 | (with_reducible apply go_ld1 h)
 | ((with_reducible first | apply go_ldA h | apply go_rd h | apply go_rdN h | apply go_rlen h); rfl)
 | (with_reducible first | apply go_ldN h | apply go_lenL h)
 | ((with_reducible apply go_st h); intro _ h)
 | ((with_reducible apply go_stA h); rfl; rfl; (first | rfl | simp [OneV.o]); intro _ h)
 | ((with_reducible apply go_stN h); rfl; (first | rfl | simp [OneV.o]); intro _ h)
 | ((with_reducible apply go_box h); rfl; intro _ _ h)
 | ((with_reducible apply go_ix h); omega)
 | ((with_reducible first | apply go_elN h | apply go_f1 h | apply go_rf1 h | apply go_rel h); (case hi => omega); (try case hx => exact inferInstance); (try case hv => rfl))
 | ((with_reducible apply go_fa h); omega; omega)
))
    refine go_look1 h (by repeat (first | exact .here | apply Fnt.there)) KIh um68 zc c.id ?_
    rw [hg]
    simp only [Option.elim_some]
    have hr : RdL w0 (Pool T :: L) cI 1 s c.times := pool_rdv (x := (c, s)) (hT _ (aGet_mem hg)) .here
    have hl : c.times.length ≤ 1073741824 := by have := (H.ok c hc).2.1.2.2.2; omega
    refine own_spec (c := c) hl (hr.got) h fun s w h => ?_
    have := ls_one h
    (repeat (first
 | (simp (disch := omega) only [evA, evB, evC, bAdd_i64, bSub_i64])
 | (with_reducible apply go_ld1 h)
 | ((with_reducible first | apply go_ldA h | apply go_rd h | apply go_rdN h | apply go_rlen h); rfl)
 | (with_reducible first | apply go_ldN h | apply go_lenL h)
 | ((with_reducible apply go_st h); intro _ h)
 | ((with_reducible apply go_stA h); rfl; rfl; (first | rfl | simp [OneV.o]); intro _ h)
 | ((with_reducible apply go_stN h); rfl; (first | rfl | simp [OneV.o]); intro _ h)
 | ((with_reducible apply go_box h); rfl; intro _ _ h)
 | ((with_reducible apply go_ix h); omega)
 | ((with_reducible first | apply go_elN h | apply go_f1 h | apply go_rf1 h | apply go_rel h); (case hi => omega); (try case hx => exact inferInstance); (try case hv => rfl))
 | ((with_reducible apply go_fa h); omega; omega)
))
    exact hK1 c hc hs s _ (close (L2 := LsH cI 1 3 s c.times :: Pool T :: L) h (by (repeat (first | exact .done | (refine .pick (by repeat (first | exact .here | apply Fnt.there)) ?_) | refine .skip ?_)))).f1
theorem bfirst_spec (h : Sat w0 (HoldB v n next cs T :: Pool T :: L) w)
    (hK0 : cs = [] → ∀ w', Sat w0 (HoldB v n next cs T :: Pool T :: L) w' → K (.tuple #[ctxV zeroC (.slice none 0 0), .bool false]) w')
    (hK1 : ∀ c, FirstC c cs → ∀ s w', Sat w0 (LsH cI 1 3 s c.times :: HoldB v n next cs T :: Pool T :: L) w' → K (.tuple #[ctxV c s, .bool true]) w') : callP G28 [v] w K := by
  replace h := holdB_open h
  obtain ⟨hn, m, I, M, p, dp, ml, mi, H, hn1, hn2, hT, rfl, h⟩ := h
  refine c28 ?_
  unfold F28
  have close : ∀ {w : World} {L' L2 : List HP}, Sat w0 L' w → Get L' (Cl p #[dp, .int .i64 n, .int .i64 next, ml, mi] 71 :: HeapH dp hn M :: MapH kH ctxE ml m :: MapH sgnV kH mi I :: L2) → Sat w0 (HoldB (ptr p) n next cs T :: L2) w := fun h g => holdB_mk H hn1 hn2 hT (h.get g)
  have := map_one (h.frt (A := MapH kH ctxE ml m))
  have := map_one (h.frt (A := MapH sgnV kH mi I))
  obtain ⟨d, rfl⟩ := heap_ptr (h.frt (A := HeapH dp hn M))
  have zc := zc41
  refine go_alloc h zc rfl fun _ _ h => ?_
  (repeat (first
 | (simp (disch := omega) only [evA, evB, evC, bAdd_i64, bSub_i64])
 | (with_reducible apply go_ld1 h)
 | ((with_reducible first | apply go_ldA h | apply go_rd h | apply go_rdN h | apply go_rlen h); rfl)
 | (with_reducible first | apply go_ldN h | apply go_lenL h)
 | ((with_reducible apply go_st h); intro _ h)
 | ((with_reducible apply go_stA h); rfl; rfl; (first | rfl | simp [OneV.o]); intro _ h)
 | ((with_reducible apply go_stN h); rfl; (first | rfl | simp [OneV.o]); intro _ h)
 | ((with_reducible apply go_box h); rfl; intro _ _ h)
 | ((with_reducible apply go_ix h); omega)
 | ((with_reducible first | apply go_elN h | apply go_f1 h | apply go_rf1 h | apply go_rel h); (case hi => omega); (try case hx => exact inferInstance); (try case hv => rfl))
 | ((with_reducible apply go_fa h); omega; omega)
))
  refine soonest_spec (M := M) (hn := hn) (h.frt) fun w h => ?_
  cases g : M.head? with
  | none =>
    simp only [Option.getD_none, Option.isSome_none]
    (repeat (first
 | (simp (disch := omega) only [evA, evB, evC, bAdd_i64, bSub_i64])
 | (refine go_some (fb36 ..) ?_)
 | (with_reducible apply go_ld1 h)
 | ((with_reducible first | apply go_ldA h | apply go_rd h | apply go_rdN h | apply go_rlen h); rfl)
 | (with_reducible first | apply go_ldN h | apply go_lenL h)
 | ((with_reducible apply go_st h); intro _ h)
 | ((with_reducible apply go_stA h); rfl; rfl; (first | rfl | simp [OneV.o]); intro _ h)
 | ((with_reducible apply go_stN h); rfl; (first | rfl | simp [OneV.o]); intro _ h)
 | ((with_reducible apply go_box h); rfl; intro _ _ h)
 | ((with_reducible apply go_ix h); omega)
 | ((with_reducible first | apply go_elN h | apply go_f1 h | apply go_rf1 h | apply go_rel h); (case hi => omega); (try case hx => exact inferInstance); (try case hv => rfl))
 | ((with_reducible apply go_fa h); omega; omega)
))
    exact hK0 (H.empty_iff.1 g) _ (close (L2 := Pool T :: L) h (by (repeat (first | exact .done | (refine .pick (by repeat (first | exact .here | apply Fnt.there)) ?_) | refine .skip ?_))))
  | some x =>
    simp only [Option.getD_some, Option.isSome_some]
    obtain ⟨c, hc, e1, e2⟩ := H.first g
    obtain ⟨s, hg⟩ := H.get hc.1
    rw [e1] at hg
    (repeat (first
 | (simp (disch := omega) only [evA, evB, evC, bAdd_i64, bSub_i64])
 | (with_reducible apply go_ld1 h)
 | ((with_reducible first | apply go_ldA h | apply go_rd h | apply go_rdN h | apply go_rlen h); rfl)
 | (with_reducible first | apply go_ldN h | apply go_lenL h)
 | ((with_reducible apply go_st h); intro _ h)
 | ((with_reducible apply go_stA h); rfl; rfl; (first | rfl | simp [OneV.o]); intro _ h)
 | ((with_reducible apply go_stN h); rfl; (first | rfl | simp [OneV.o]); intro _ h)
 | ((with_reducible apply go_box h); rfl; intro _ _ h)
 | ((with_reducible apply go_ix h); omega)
 | ((with_reducible first | apply go_elN h | apply go_f1 h | apply go_rf1 h | apply go_rel h); (case hi => omega); (try case hx => exact inferInstance); (try case hv => rfl))
 | ((with_reducible apply go_fa h); omega; omega)
))
    refine go_look1 h (by repeat (first | exact .here | apply Fnt.there)) KIh um68 zc x.1 ?_
    rw [hg]
    simp only [Option.elim_some]
    have hr : RdL w0 (Pool T :: L) cI 1 s c.times := pool_rdv (x := (c, s)) (hT _ (aGet_mem hg)) .here
    have hl : c.times.length ≤ 1073741824 := by have := (H.ok c hc.1).2.1.2.2.2; omega
    refine own_spec (c := c) hl (hr.got) h fun s w h => ?_
    have := ls_one h
    (repeat (first
 | (simp (disch := omega) only [evA, evB, evC, bAdd_i64, bSub_i64])
 | (with_reducible apply go_ld1 h)
 | ((with_reducible first | apply go_ldA h | apply go_rd h | apply go_rdN h | apply go_rlen h); rfl)
 | (with_reducible first | apply go_ldN h | apply go_lenL h)
 | ((with_reducible apply go_st h); intro _ h)
 | ((with_reducible apply go_stA h); rfl; rfl; (first | rfl | simp [OneV.o]); intro _ h)
 | ((with_reducible apply go_stN h); rfl; (first | rfl | simp [OneV.o]); intro _ h)
 | ((with_reducible apply go_box h); rfl; intro _ _ h)
 | ((with_reducible apply go_ix h); omega)
 | ((with_reducible first | apply go_elN h | apply go_f1 h | apply go_rf1 h | apply go_rel h); (case hi => omega); (try case hx => exact inferInstance); (try case hv => rfl))
 | ((with_reducible apply go_fa h); omega; omega)
))
    exact hK1 c hc s _ (close (L2 := LsH cI 1 3 s c.times :: Pool T :: L) h (by (repeat (first | exact .done | (refine .pick (by repeat (first | exact .here | apply Fnt.there)) ?_) | refine .skip ?_)))).f1
theorem bdrop_spec {id : Int} (h : Sat w0 (HoldB v n next cs T :: L) w)
    (hK0 : (∀ c ∈ cs, c.id ≠ id) → ∀ w', Sat w0 (HoldB v n next cs T :: L) w' → K (.tuple #[ctxV zeroC (.slice none 0 0), .int .i64 5]) w')
    (hK1 : ∀ c ∈ cs, c.id = id → ∀ sv, (sv, c.times) ∈ T → ∀ w', Sat w0 (HoldB v n next (dropL id cs) T :: L) w' → K (.tuple #[ctxV c (svV sv), .int .i64 0]) w') : callP G19 [v, .int .i64 id] w K := by
  replace h := holdB_open h
  obtain ⟨hn, m, I, M, p, dp, ml, mi, H, hn1, hn2, hT, rfl, h⟩ := h
  refine c19 ?_
  unfold F19
  have := map_one (h.frt (A := MapH kH ctxE ml m))
  have := map_one (h.frt (A := MapH sgnV kH mi I))
  obtain ⟨d, rfl⟩ := heap_ptr (h.frt (A := HeapH dp hn M))
  have zc := zc41
  refine go_alloc h zc rfl fun _ _ h => ?_
  (repeat (first
 | (simp (disch := omega) only [evA, evB, evC, bAdd_i64, bSub_i64])
 | (with_reducible apply go_ld1 h)
 | ((with_reducible first | apply go_ldA h | apply go_rd h | apply go_rdN h | apply go_rlen h); rfl)
 | (with_reducible first | apply go_ldN h | apply go_lenL h)
 | ((with_reducible apply go_st h); intro _ h)
 | ((with_reducible apply go_stA h); rfl; rfl; (first | rfl | simp [OneV.o]); intro _ h)
 | ((with_reducible apply go_stN h); rfl; (first | rfl | simp [OneV.o]); intro _ h)
 | ((with_reducible apply go_box h); rfl; intro _ _ h)
 | ((with_reducible apply go_ix h); omega)
 | ((with_reducible first | apply go_elN h | apply go_f1 h | apply go_rf1 h | apply go_rel h); (case hi => omega); (try case hx => exact inferInstance); (try case hv => rfl))
 | ((with_reducible apply go_fa h); omega; omega)
))
  refine go_look2 h (by repeat (first | exact .here | apply Fnt.there)) KIh um68 zc id ?_
  cases hg : aGet id m with
  | none =>
    simp only [Option.elim_none, Option.isSome_none]
    (repeat (first
 | (simp (disch := omega) only [evA, evB, evC, bAdd_i64, bSub_i64])
 | (with_reducible apply go_ld1 h)
 | ((with_reducible first | apply go_ldA h | apply go_rd h | apply go_rdN h | apply go_rlen h); rfl)
 | (with_reducible first | apply go_ldN h | apply go_lenL h)
 | ((with_reducible apply go_st h); intro _ h)
 | ((with_reducible apply go_stA h); rfl; rfl; (first | rfl | simp [OneV.o]); intro _ h)
 | ((with_reducible apply go_stN h); rfl; (first | rfl | simp [OneV.o]); intro _ h)
 | ((with_reducible apply go_box h); rfl; intro _ _ h)
 | ((with_reducible apply go_ix h); omega)
 | ((with_reducible first | apply go_elN h | apply go_f1 h | apply go_rf1 h | apply go_rel h); (case hi => omega); (try case hx => exact inferInstance); (try case hv => rfl))
 | ((with_reducible apply go_fa h); omega; omega)
))
    refine go_alloc h zc rfl fun _ _ h => ?_
    (repeat (first
 | (simp (disch := omega) only [evA, evB, evC, bAdd_i64, bSub_i64])
 | (refine go_some (fb36 ..) ?_)
 | (with_reducible apply go_ld1 h)
 | ((with_reducible first | apply go_ldA h | apply go_rd h | apply go_rdN h | apply go_rlen h); rfl)
 | (with_reducible first | apply go_ldN h | apply go_lenL h)
 | ((with_reducible apply go_st h); intro _ h)
 | ((with_reducible apply go_stA h); rfl; rfl; (first | rfl | simp [OneV.o]); intro _ h)
 | ((with_reducible apply go_stN h); rfl; (first | rfl | simp [OneV.o]); intro _ h)
 | ((with_reducible apply go_box h); rfl; intro _ _ h)
 | ((with_reducible apply go_ix h); omega)
 | ((with_reducible first | apply go_elN h | apply go_f1 h | apply go_rf1 h | apply go_rel h); (case hi => omega); (try case hx => exact inferInstance); (try case hv => rfl))
 | ((with_reducible apply go_fa h); omega; omega)
))
    refine hK0 (fun c hc e => ?_) _ (holdB_mk H hn1 hn2 hT (h.got))
    obtain ⟨s, h1⟩ := H.get hc
    rw [e, hg] at h1; cases h1
  | some x =>
    obtain ⟨c, s⟩ := x
    obtain ⟨hc, hid⟩ := H.mem hg
    subst hid
    obtain ⟨sv, e, hy⟩ := hT _ (aGet_mem hg)
    simp only at e hy
    subst e
    simp only [Option.elim_some, Option.isSome_some]
    (repeat (first
 | (simp (disch := omega) only [evA, evB, evC, bAdd_i64, bSub_i64])
 | (with_reducible apply go_ld1 h)
 | ((with_reducible first | apply go_ldA h | apply go_rd h | apply go_rdN h | apply go_rlen h); rfl)
 | (with_reducible first | apply go_ldN h | apply go_lenL h)
 | ((with_reducible apply go_st h); intro _ h)
 | ((with_reducible apply go_stA h); rfl; rfl; (first | rfl | simp [OneV.o]); intro _ h)
 | ((with_reducible apply go_stN h); rfl; (first | rfl | simp [OneV.o]); intro _ h)
 | ((with_reducible apply go_box h); rfl; intro _ _ h)
 | ((with_reducible apply go_ix h); omega)
 | ((with_reducible first | apply go_elN h | apply go_f1 h | apply go_rf1 h | apply go_rel h); (case hi => omega); (try case hx => exact inferInstance); (try case hv => rfl))
 | ((with_reducible apply go_fa h); omega; omega)
))
    refine go_alloc h zc rfl fun _ _ h => ?_
    (repeat (first
 | (simp (disch := omega) only [evA, evB, evC, bAdd_i64, bSub_i64])
 | (with_reducible apply go_ld1 h)
 | ((with_reducible first | apply go_ldA h | apply go_rd h | apply go_rdN h | apply go_rlen h); rfl)
 | (with_reducible first | apply go_ldN h | apply go_lenL h)
 | ((with_reducible apply go_st h); intro _ h)
 | ((with_reducible apply go_stA h); rfl; rfl; (first | rfl | simp [OneV.o]); intro _ h)
 | ((with_reducible apply go_stN h); rfl; (first | rfl | simp [OneV.o]); intro _ h)
 | ((with_reducible apply go_box h); rfl; intro _ _ h)
 | ((with_reducible apply go_ix h); omega)
 | ((with_reducible first | apply go_elN h | apply go_f1 h | apply go_rf1 h | apply go_rel h); (case hi => omega); (try case hx => exact inferInstance); (try case hv => rfl))
 | ((with_reducible apply go_fa h); omega; omega)
))
    refine eDelete_sat (h.frt) KIh um68 c.id fun w h => ?_
    (repeat (first
 | (simp (disch := omega) only [evA, evB, evC, bAdd_i64, bSub_i64])
 | (with_reducible apply go_ld1 h)
 | ((with_reducible first | apply go_ldA h | apply go_rd h | apply go_rdN h | apply go_rlen h); rfl)
 | (with_reducible first | apply go_ldN h | apply go_lenL h)
 | ((with_reducible apply go_st h); intro _ h)
 | ((with_reducible apply go_stA h); rfl; rfl; (first | rfl | simp [OneV.o]); intro _ h)
 | ((with_reducible apply go_stN h); rfl; (first | rfl | simp [OneV.o]); intro _ h)
 | ((with_reducible apply go_box h); rfl; intro _ _ h)
 | ((with_reducible apply go_ix h); omega)
 | ((with_reducible first | apply go_elN h | apply go_f1 h | apply go_rf1 h | apply go_rel h); (case hi => omega); (try case hx => exact inferInstance); (try case hv => rfl))
 | ((with_reducible apply go_fa h); omega; omega)
))
    refine hof_spec (a := c) h.drew fun w h => ?_
    (repeat (first
 | (simp (disch := omega) only [evA, evB, evC, bAdd_i64, bSub_i64])
 | (with_reducible apply go_ld1 h)
 | ((with_reducible first | apply go_ldA h | apply go_rd h | apply go_rdN h | apply go_rlen h); rfl)
 | (with_reducible first | apply go_ldN h | apply go_lenL h)
 | ((with_reducible apply go_st h); intro _ h)
 | ((with_reducible apply go_stA h); rfl; rfl; (first | rfl | simp [OneV.o]); intro _ h)
 | ((with_reducible apply go_stN h); rfl; (first | rfl | simp [OneV.o]); intro _ h)
 | ((with_reducible apply go_box h); rfl; intro _ _ h)
 | ((with_reducible apply go_ix h); omega)
 | ((with_reducible first | apply go_elN h | apply go_f1 h | apply go_rf1 h | apply go_rel h); (case hi => omega); (try case hx => exact inferInstance); (try case hv => rfl))
 | ((with_reducible apply go_fa h); omega; omega)
))
    refine eDelete_sat (h.frt) KSgn um69 (sgnOf c) fun w h => ?_
    (repeat (first
 | (simp (disch := omega) only [evA, evB, evC, bAdd_i64, bSub_i64])
 | (with_reducible apply go_ld1 h)
 | ((with_reducible first | apply go_ldA h | apply go_rd h | apply go_rdN h | apply go_rlen h); rfl)
 | (with_reducible first | apply go_ldN h | apply go_lenL h)
 | ((with_reducible apply go_st h); intro _ h)
 | ((with_reducible apply go_stA h); rfl; rfl; (first | rfl | simp [OneV.o]); intro _ h)
 | ((with_reducible apply go_stN h); rfl; (first | rfl | simp [OneV.o]); intro _ h)
 | ((with_reducible apply go_box h); rfl; intro _ _ h)
 | ((with_reducible apply go_ix h); omega)
 | ((with_reducible first | apply go_elN h | apply go_f1 h | apply go_rf1 h | apply go_rel h); (case hi => omega); (try case hx => exact inferInstance); (try case hv => rfl))
 | ((with_reducible apply go_fa h); omega; omega)
))
    refine never_spec (M := M) (hn := hn) (h.frt) fun w h => ?_
    (repeat (first
 | (simp (disch := omega) only [evA, evB, evC, bAdd_i64, bSub_i64])
 | (with_reducible apply go_ld1 h)
 | ((with_reducible first | apply go_ldA h | apply go_rd h | apply go_rdN h | apply go_rlen h); rfl)
 | (with_reducible first | apply go_ldN h | apply go_lenL h)
 | ((with_reducible apply go_st h); intro _ h)
 | ((with_reducible apply go_stA h); rfl; rfl; (first | rfl | simp [OneV.o]); intro _ h)
 | ((with_reducible apply go_stN h); rfl; (first | rfl | simp [OneV.o]); intro _ h)
 | ((with_reducible apply go_box h); rfl; intro _ _ h)
 | ((with_reducible apply go_ix h); omega)
 | ((with_reducible first | apply go_elN h | apply go_f1 h | apply go_rf1 h | apply go_rel h); (case hi => omega); (try case hx => exact inferInstance); (try case hv => rfl))
 | ((with_reducible apply go_fa h); omega; omega)
))
    exact hK1 c hc rfl sv hy _ (holdB_mk (H.drop hc) hn1 hn2 (fun x hx => hT x (aDel_mem' hx)) (h.got))
theorem bturn_spec (hf : c.fits) (hr : RdL w0 (Pool T :: L) cI 1 tv c.times) (ho : OneV tv) (h : Sat w0 (HoldB v n next cs T :: Pool T :: L) w)
    (hK0 : turnA cs c ≠ 0 → ∀ w', Sat w0 (HoldB v n next cs T :: Pool T :: L) w' → K (.int .i64 (turnA cs c)) w')
    (hK1 : turnA cs c = 0 → ∀ T' w', (∀ y ∈ T, y ∈ T') → Sat w0 (HoldB v n next (turnL c cs) T' :: Pool T' :: L) w' → K (.int .i64 0) w') : callP G17 [v, ctxV c tv] w K := by
  replace h := holdB_open h
  obtain ⟨hn, m, I, M, p, dp, ml, mi, H, hn1, hn2, hT, rfl, h⟩ := h
  refine c17 ?_
  unfold F17
  have close : ∀ {w : World} {L' L2 : List HP}, Sat w0 L' w → Get L' (Cl p #[dp, .int .i64 n, .int .i64 next, ml, mi] 71 :: HeapH dp hn M :: MapH kH ctxE ml m :: MapH sgnV kH mi I :: L2) → Sat w0 (HoldB (ptr p) n next cs T :: L2) w := fun h g => holdB_mk H hn1 hn2 hT (h.get g)
  have := map_one (h.frt (A := MapH kH ctxE ml m))
  have := map_one (h.frt (A := MapH sgnV kH mi I))
  have zc := zc41
  (repeat (first
 | (simp (disch := omega) only [evA, evB, evC, bAdd_i64, bSub_i64])
 | (with_reducible apply go_ld1 h)
 | ((with_reducible first | apply go_ldA h | apply go_rd h | apply go_rdN h | apply go_rlen h); rfl)
 | (with_reducible first | apply go_ldN h | apply go_lenL h)
 | ((with_reducible apply go_st h); intro _ h)
 | ((with_reducible apply go_stA h); rfl; rfl; (first | rfl | simp [OneV.o]); intro _ h)
 | ((with_reducible apply go_stN h); rfl; (first | rfl | simp [OneV.o]); intro _ h)
 | ((with_reducible apply go_box h); rfl; intro _ _ h)
 | ((with_reducible apply go_ix h); omega)
 | ((with_reducible first | apply go_elN h | apply go_f1 h | apply go_rf1 h | apply go_rel h); (case hi => omega); (try case hx => exact inferInstance); (try case hv => rfl))
 | ((with_reducible apply go_fa h); omega; omega)
))
  refine go_look2 h (by repeat (first | exact .here | apply Fnt.there)) KIh um68 zc c.id ?_
  (repeat (first
 | (simp (disch := omega) only [evA, evB, evC, bAdd_i64, bSub_i64])
 | (with_reducible apply go_ld1 h)
 | ((with_reducible first | apply go_ldA h | apply go_rd h | apply go_rdN h | apply go_rlen h); rfl)
 | (with_reducible first | apply go_ldN h | apply go_lenL h)
 | ((with_reducible apply go_st h); intro _ h)
 | ((with_reducible apply go_stA h); rfl; rfl; (first | rfl | simp [OneV.o]); intro _ h)
 | ((with_reducible apply go_stN h); rfl; (first | rfl | simp [OneV.o]); intro _ h)
 | ((with_reducible apply go_box h); rfl; intro _ _ h)
 | ((with_reducible apply go_ix h); omega)
 | ((with_reducible first | apply go_elN h | apply go_f1 h | apply go_rf1 h | apply go_rel h); (case hi => omega); (try case hx => exact inferInstance); (try case hv => rfl))
 | ((with_reducible apply go_fa h); omega; omega)
))
  refine go_alloc h zc rfl fun _ _ h => ?_
  (repeat (first
 | (simp (disch := omega) only [evA, evB, evC, bAdd_i64, bSub_i64])
 | (with_reducible apply go_ld1 h)
 | ((with_reducible first | apply go_ldA h | apply go_rd h | apply go_rdN h | apply go_rlen h); rfl)
 | (with_reducible first | apply go_ldN h | apply go_lenL h)
 | ((with_reducible apply go_st h); intro _ h)
 | ((with_reducible apply go_stA h); rfl; rfl; (first | rfl | simp [OneV.o]); intro _ h)
 | ((with_reducible apply go_stN h); rfl; (first | rfl | simp [OneV.o]); intro _ h)
 | ((with_reducible apply go_box h); rfl; intro _ _ h)
 | ((with_reducible apply go_ix h); omega)
 | ((with_reducible first | apply go_elN h | apply go_f1 h | apply go_rf1 h | apply go_rel h); (case hi => omega); (try case hx => exact inferInstance); (try case hv => rfl))
 | ((with_reducible apply go_fa h); omega; omega)
))
  refine go_fok (look2 (h.frt) KIh um68 zc c.id) ?_
  have hfind : ∀ x, aGet c.id m = some x → (cs.find? fun d => decide (d.id = c.id)) = some x.1 := by
    intro x hg
    obtain ⟨h1, h2⟩ := H.mem (c := x.1) (s := x.2) hg
    cases hf : cs.find? fun d => decide (d.id = c.id) with
    | none => rw [List.find?_eq_none] at hf; have := hf _ h1; simp [h2] at this
    | some b =>
      have h3 := List.mem_of_find?_eq_some hf
      have h4 := List.find?_some hf
      simp only [decide_eq_true_eq] at h4
      rw [asc_eq H.asc h3 h1 (h4.trans h2.symm)]
  unfold turnA at hK0 hK1
  cases hg : aGet c.id m with
  | none =>
    simp only [Option.elim_none, Option.isSome_none]
    (repeat (first
 | (simp (disch := omega) only [evA, evB, evC, bAdd_i64, bSub_i64])
 | (with_reducible apply go_ld1 h)
 | ((with_reducible first | apply go_ldA h | apply go_rd h | apply go_rdN h | apply go_rlen h); rfl)
 | (with_reducible first | apply go_ldN h | apply go_lenL h)
 | ((with_reducible apply go_st h); intro _ h)
 | ((with_reducible apply go_stA h); rfl; rfl; (first | rfl | simp [OneV.o]); intro _ h)
 | ((with_reducible apply go_stN h); rfl; (first | rfl | simp [OneV.o]); intro _ h)
 | ((with_reducible apply go_box h); rfl; intro _ _ h)
 | ((with_reducible apply go_ix h); omega)
 | ((with_reducible first | apply go_elN h | apply go_f1 h | apply go_rf1 h | apply go_rel h); (case hi => omega); (try case hx => exact inferInstance); (try case hv => rfl))
 | ((with_reducible apply go_fa h); omega; omega)
))
    refine hcheck_spec (c := c) hf (hr.got) h fun w h => ?_
    unfold chkC
    cases g1 : okC c
    · rw [g1] at hK0
      have d4 : decide ((4 : Int) = 0) = false := by decide
      (repeat (first
 | (simp (disch := omega) only [evA, evB, evC, bAdd_i64, bSub_i64, Bool.false_eq_true, if_false, d4])
 | (with_reducible apply go_ld1 h)
 | ((with_reducible first | apply go_ldA h | apply go_rd h | apply go_rdN h | apply go_rlen h); rfl)
 | (with_reducible first | apply go_ldN h | apply go_lenL h)
 | ((with_reducible apply go_st h); intro _ h)
 | ((with_reducible apply go_stA h); rfl; rfl; (first | rfl | simp [OneV.o]); intro _ h)
 | ((with_reducible apply go_stN h); rfl; (first | rfl | simp [OneV.o]); intro _ h)
 | ((with_reducible apply go_box h); rfl; intro _ _ h)
 | ((with_reducible apply go_ix h); omega)
 | ((with_reducible first | apply go_elN h | apply go_f1 h | apply go_rf1 h | apply go_rel h); (case hi => omega); (try case hx => exact inferInstance); (try case hv => rfl))
 | ((with_reducible apply go_fa h); omega; omega)
))
      exact hK0 (by simp) _ (close (L2 := Pool T :: L) h (by (repeat (first | exact .done | (refine .pick (by repeat (first | exact .here | apply Fnt.there)) ?_) | refine .skip ?_))))
    have hn : (cs.find? fun d => decide (d.id = c.id)) = none := by
      rw [List.find?_eq_none]
      intro d hd e
      simp only [decide_eq_true_eq] at e
      obtain ⟨s, hx⟩ := H.get hd
      rw [e, hg] at hx; cases hx
    rw [g1, hn] at hK0
    (repeat (first
 | (simp (disch := omega) only [evA, evB, evC, bAdd_i64, bSub_i64, if_true])
 | (with_reducible apply go_ld1 h)
 | ((with_reducible first | apply go_ldA h | apply go_rd h | apply go_rdN h | apply go_rlen h); rfl)
 | (with_reducible first | apply go_ldN h | apply go_lenL h)
 | ((with_reducible apply go_st h); intro _ h)
 | ((with_reducible apply go_stA h); rfl; rfl; (first | rfl | simp [OneV.o]); intro _ h)
 | ((with_reducible apply go_stN h); rfl; (first | rfl | simp [OneV.o]); intro _ h)
 | ((with_reducible apply go_box h); rfl; intro _ _ h)
 | ((with_reducible apply go_ix h); omega)
 | ((with_reducible first | apply go_elN h | apply go_f1 h | apply go_rf1 h | apply go_rel h); (case hi => omega); (try case hx => exact inferInstance); (try case hv => rfl))
 | ((with_reducible apply go_fa h); omega; omega)
))
    exact hK0 (by simp) _ (close (L2 := Pool T :: L) h (by (repeat (first | exact .done | (refine .pick (by repeat (first | exact .here | apply Fnt.there)) ?_) | refine .skip ?_))))
  | some x =>
    obtain ⟨b, s⟩ := x
    obtain ⟨hb, hid⟩ := H.mem hg
    rw [hfind _ hg] at hK0 hK1
    obtain ⟨sb, e, hy⟩ := hT _ (aGet_mem hg)
    simp only at e hy
    subst e
    simp only [Option.elim_some, Option.isSome_some]
    (repeat (first
 | (simp (disch := omega) only [evA, evB, evC, bAdd_i64, bSub_i64])
 | (with_reducible apply go_ld1 h)
 | ((with_reducible first | apply go_ldA h | apply go_rd h | apply go_rdN h | apply go_rlen h); rfl)
 | (with_reducible first | apply go_ldN h | apply go_lenL h)
 | ((with_reducible apply go_st h); intro _ h)
 | ((with_reducible apply go_stA h); rfl; rfl; (first | rfl | simp [OneV.o]); intro _ h)
 | ((with_reducible apply go_stN h); rfl; (first | rfl | simp [OneV.o]); intro _ h)
 | ((with_reducible apply go_box h); rfl; intro _ _ h)
 | ((with_reducible apply go_ix h); omega)
 | ((with_reducible first | apply go_elN h | apply go_f1 h | apply go_rf1 h | apply go_rel h); (case hi => omega); (try case hx => exact inferInstance); (try case hv => rfl))
 | ((with_reducible apply go_fa h); omega; omega)
))
    refine hcheck_spec (c := c) hf (hr.got) h fun w h => ?_
    unfold chkC
    cases g1 : okC c
    · rw [g1] at hK0
      have d4 : decide ((4 : Int) = 0) = false := by decide
      (repeat (first
 | (simp (disch := omega) only [evA, evB, evC, bAdd_i64, bSub_i64, Bool.false_eq_true, if_false, d4])
 | (with_reducible apply go_ld1 h)
 | ((with_reducible first | apply go_ldA h | apply go_rd h | apply go_rdN h | apply go_rlen h); rfl)
 | (with_reducible first | apply go_ldN h | apply go_lenL h)
 | ((with_reducible apply go_st h); intro _ h)
 | ((with_reducible apply go_stA h); rfl; rfl; (first | rfl | simp [OneV.o]); intro _ h)
 | ((with_reducible apply go_stN h); rfl; (first | rfl | simp [OneV.o]); intro _ h)
 | ((with_reducible apply go_box h); rfl; intro _ _ h)
 | ((with_reducible apply go_ix h); omega)
 | ((with_reducible first | apply go_elN h | apply go_f1 h | apply go_rf1 h | apply go_rel h); (case hi => omega); (try case hx => exact inferInstance); (try case hv => rfl))
 | ((with_reducible apply go_fa h); omega; omega)
))
      exact hK0 (by simp) _ (close (L2 := Pool T :: L) h (by (repeat (first | exact .done | (refine .pick (by repeat (first | exact .here | apply Fnt.there)) ?_) | refine .skip ?_))))
    rw [g1] at hK0 hK1
    simp only [Bool.true_eq_false, if_false] at hK0 hK1
    (repeat (first
 | (simp (disch := omega) only [evA, evB, evC, bAdd_i64, bSub_i64, if_true])
 | (with_reducible apply go_ld1 h)
 | ((with_reducible first | apply go_ldA h | apply go_rd h | apply go_rdN h | apply go_rlen h); rfl)
 | (with_reducible first | apply go_ldN h | apply go_lenL h)
 | ((with_reducible apply go_st h); intro _ h)
 | ((with_reducible apply go_stA h); rfl; rfl; (first | rfl | simp [OneV.o]); intro _ h)
 | ((with_reducible apply go_stN h); rfl; (first | rfl | simp [OneV.o]); intro _ h)
 | ((with_reducible apply go_box h); rfl; intro _ _ h)
 | ((with_reducible apply go_ix h); omega)
 | ((with_reducible first | apply go_elN h | apply go_f1 h | apply go_rf1 h | apply go_rel h); (case hi => omega); (try case hx => exact inferInstance); (try case hv => rfl))
 | ((with_reducible apply go_fa h); omega; omega)
))
    refine hof_spec (a := b) h.drew fun w h => ?_
    (repeat (first
 | (simp (disch := omega) only [evA, evB, evC, bAdd_i64, bSub_i64])
 | (with_reducible apply go_ld1 h)
 | ((with_reducible first | apply go_ldA h | apply go_rd h | apply go_rdN h | apply go_rlen h); rfl)
 | (with_reducible first | apply go_ldN h | apply go_lenL h)
 | ((with_reducible apply go_st h); intro _ h)
 | ((with_reducible apply go_stA h); rfl; rfl; (first | rfl | simp [OneV.o]); intro _ h)
 | ((with_reducible apply go_stN h); rfl; (first | rfl | simp [OneV.o]); intro _ h)
 | ((with_reducible apply go_box h); rfl; intro _ _ h)
 | ((with_reducible apply go_ix h); omega)
 | ((with_reducible first | apply go_elN h | apply go_f1 h | apply go_rf1 h | apply go_rel h); (case hi => omega); (try case hx => exact inferInstance); (try case hv => rfl))
 | ((with_reducible apply go_fa h); omega; omega)
))
    refine hof_spec (a := c) h fun w h => ?_
    refine go_some (neSgn _ _ (sgnOf b) (sgnOf c)) ?_
    by_cases g2 : sgnOf b = sgnOf c
    · rw [if_pos g2] at hK1
      rw [decide_eq_true g2]
      (repeat (first
 | (simp (disch := omega) only [evA, evB, evC, bAdd_i64, bSub_i64])
 | (with_reducible apply go_ld1 h)
 | ((with_reducible first | apply go_ldA h | apply go_rd h | apply go_rdN h | apply go_rlen h); rfl)
 | (with_reducible first | apply go_ldN h | apply go_lenL h)
 | ((with_reducible apply go_st h); intro _ h)
 | ((with_reducible apply go_stA h); rfl; rfl; (first | rfl | simp [OneV.o]); intro _ h)
 | ((with_reducible apply go_stN h); rfl; (first | rfl | simp [OneV.o]); intro _ h)
 | ((with_reducible apply go_box h); rfl; intro _ _ h)
 | ((with_reducible apply go_ix h); omega)
 | ((with_reducible first | apply go_elN h | apply go_f1 h | apply go_rf1 h | apply go_rel h); (case hi => omega); (try case hx => exact inferInstance); (try case hv => rfl))
 | ((with_reducible apply go_fa h); omega; omega)
))
      refine bput_spec (p := p) (dp := dp) (ml := ml) (mi := mi) (n := n) (next := next) (hn := hn) (m := m) (I := I) (M := M) (T := T) (c := c) (L := _ :: _ :: L) ?_ ?_ (h.got) fun sv w h => ?_
      · have := hf.2.2.2; omega
      · exact hr.got
      (repeat (first
 | (simp (disch := omega) only [evA, evB, evC, bAdd_i64, bSub_i64])
 | (with_reducible apply go_ld1 h)
 | ((with_reducible first | apply go_ldA h | apply go_rd h | apply go_rdN h | apply go_rlen h); rfl)
 | (with_reducible first | apply go_ldN h | apply go_lenL h)
 | ((with_reducible apply go_st h); intro _ h)
 | ((with_reducible apply go_stA h); rfl; rfl; (first | rfl | simp [OneV.o]); intro _ h)
 | ((with_reducible apply go_stN h); rfl; (first | rfl | simp [OneV.o]); intro _ h)
 | ((with_reducible apply go_box h); rfl; intro _ _ h)
 | ((with_reducible apply go_ix h); omega)
 | ((with_reducible first | apply go_elN h | apply go_f1 h | apply go_rf1 h | apply go_rel h); (case hi => omega); (try case hx => exact inferInstance); (try case hv => rfl))
 | ((with_reducible apply go_fa h); omega; omega)
))
      exact hK1 rfl (T ++ [(sv, c.times)]) _ (fun y hy => List.mem_append_left _ hy) (holdB_mk (H.turn g1 hf hb hid g2) hn1 hn2 (inT_set hT) (h.got))
    · rw [if_neg g2] at hK0
      rw [decide_eq_false g2]
      (repeat (first
 | (simp (disch := omega) only [evA, evB, evC, bAdd_i64, bSub_i64])
 | (with_reducible apply go_ld1 h)
 | ((with_reducible first | apply go_ldA h | apply go_rd h | apply go_rdN h | apply go_rlen h); rfl)
 | (with_reducible first | apply go_ldN h | apply go_lenL h)
 | ((with_reducible apply go_st h); intro _ h)
 | ((with_reducible apply go_stA h); rfl; rfl; (first | rfl | simp [OneV.o]); intro _ h)
 | ((with_reducible apply go_stN h); rfl; (first | rfl | simp [OneV.o]); intro _ h)
 | ((with_reducible apply go_box h); rfl; intro _ _ h)
 | ((with_reducible apply go_ix h); omega)
 | ((with_reducible first | apply go_elN h | apply go_f1 h | apply go_rf1 h | apply go_rel h); (case hi => omega); (try case hx => exact inferInstance); (try case hv => rfl))
 | ((with_reducible apply go_fa h); omega; omega)
))
      exact hK0 (by simp) _ (close (L2 := Pool T :: L) h (by (repeat (first | exact .done | (refine .pick (by repeat (first | exact .here | apply Fnt.there)) ?_) | refine .skip ?_))))
end
end Go.Proofs.Gong

/- Hs1 -/
namespace Go.Proofs.Gong
open Go Go.Sx Go.Proofs
set_option maxRecDepth 100000
attribute [local irreducible] fBuild fLook fZero eqv bEqv Cl MapH LsH SlH ld1 ldN st callP eBox eAlloc lenM lenL eMapSet eDelete eAppend eBuildSl eRange eNext
def RdT (w0 : World) (L : List HP) (T : TM) (l : List (Ctx × SV)) : Prop := ∀ x ∈ l, ∀ T', (∀ y ∈ T, y ∈ T') → RdL w0 (Pool T' :: L) cI 1 (svV x.2) x.1.times
section
variable {w0 w : World} {L : List HP} {K : Value → World → Prop} {v : Value} {n next next0 hn : Int} {m : Held} {I : List (Sgn × Int)} {M : List It} {cs : List Ctx} {c : Ctx} {tv : Value} {T T' : TM}
theorem RdT.pool {l : List (Ctx × SV)} (h : ∀ x ∈ l, (x.2, x.1.times) ∈ T) : RdT w0 L T l := fun x hx _ hT => pool_rd (y := (x.2, x.1.times)) (hT _ (h x hx)) .here
theorem RdT.arg {l : List (Ctx × SV)} (h : ∀ x ∈ l, Rd w0 1 (svV x.2) x.1.times.length (x.1.times.flatMap cI)) : RdT w0 L T l := fun x hx _ _ => .of_arg (h x hx)
theorem ball_loop {p : Nat} {dp ml mi ks : Value} (H : HInv n next hn m I M cs) (hT : ∀ x ∈ m, InT T x.2) (hK : ∀ sv w', Sat w0 (CtxL sv cs :: Cl p #[dp, .int .i64 n, .int .i64 next, ml, mi] 71 :: MapH kH ctxE ml m :: Pool T :: L) w' → K sv w') :
    ∀ (d i : Nat) (xs : List (Ctx × SV)) (sv : Value) (w : World), cs.length - i < d → i ≤ cs.length → xs.map Prod.fst = cs.take i →
      Sat w0 (LsH cX 11 36 sv xs :: bag (hlX xs) :: LsH cI 1 3 ks (cs.map (·.id)) :: Cl p #[dp, .int .i64 n, .int .i64 next, ml, mi] 71 :: MapH kH ctxE ml m :: Pool T :: L) w →
      F29_2L d (ptr p) sv ks (.int .i64 (cs.length : Nat)) (.int .i64 i) w K := by
  intro d
  induction d with
  | zero => intro i _ _ _ hd; omega
  | succ d ih =>
    intro i xs sv w hd hi hx h
    rw [F29_2L]
    unfold F29_2b
    have hb := H.bd
    have := map_one (h.frt (A := MapH kH ctxE ml m))
    by_cases g : i < cs.length
    · have g' : decide ((i : Int) < (cs.length : Int)) = true := by simpa using g
      have g2 : i < (cs.map (·.id)).length := by simpa using g
      have ge : (cs.map (·.id))[i] = cs[i].id := by simp
      obtain ⟨s, hg⟩ := H.get (List.getElem_mem g)
      (repeat (first
 | (simp (disch := omega) only [evA, evB, evC, bAdd_i64, bSub_i64, g'])
 | (with_reducible apply go_ld1 h)
 | ((with_reducible first | apply go_ldA h | apply go_rd h | apply go_rdN h | apply go_rlen h); rfl)
 | (with_reducible first | apply go_ldN h | apply go_lenL h)
 | ((with_reducible apply go_st h); intro _ h)
 | ((with_reducible apply go_stA h); rfl; rfl; (first | rfl | simp [OneV.o]); intro _ h)
 | ((with_reducible apply go_stN h); rfl; (first | rfl | simp [OneV.o]); intro _ h)
 | ((with_reducible apply go_box h); rfl; intro _ _ h)
 | ((with_reducible apply go_ix h); omega)
 | ((with_reducible first | apply go_elN h | apply go_f1 h | apply go_rf1 h | apply go_rel h); (case hi => omega); (try case hx => exact inferInstance); (try case hv => rfl))
 | ((with_reducible apply go_fa h); omega; omega)
))
      refine go_some (i_at (ls_rd (h.frt (A := LsH cI 1 3 ks (cs.map (·.id))))) g2).2 ?_
      (repeat (first
 | (simp (disch := omega) only [evA, evB, evC, bAdd_i64, bSub_i64, ge])
 | (with_reducible apply go_ld1 h)
 | ((with_reducible first | apply go_ldA h | apply go_rd h | apply go_rdN h | apply go_rlen h); rfl)
 | (with_reducible first | apply go_ldN h | apply go_lenL h)
 | ((with_reducible apply go_st h); intro _ h)
 | ((with_reducible apply go_stA h); rfl; rfl; (first | rfl | simp [OneV.o]); intro _ h)
 | ((with_reducible apply go_stN h); rfl; (first | rfl | simp [OneV.o]); intro _ h)
 | ((with_reducible apply go_box h); rfl; intro _ _ h)
 | ((with_reducible apply go_ix h); omega)
 | ((with_reducible first | apply go_elN h | apply go_f1 h | apply go_rf1 h | apply go_rel h); (case hi => omega); (try case hx => exact inferInstance); (try case hv => rfl))
 | ((with_reducible apply go_fa h); omega; omega)
))
      refine go_look1 h (by repeat (first | exact .here | apply Fnt.there)) KIh um68 zc41 cs[i].id ?_
      rw [hg]
      simp only [Option.elim_some]
      have hr : RdL w0 (Pool T :: L) cI 1 s cs[i].times := pool_rdv (x := (cs[i], s)) (hT _ (aGet_mem hg)) .here
      have hl : cs[i].times.length ≤ 1073741824 := by have := (H.ok cs[i] (List.getElem_mem g)).2.1.2.2.2; omega
      refine own_spec (c := cs[i]) hl (hr.got) h fun s w h => ?_
      obtain ⟨a1, c1, rfl, _⟩ := (ls_rd h).cap
      (repeat (first
 | (simp (disch := omega) only [evA, evB, evC, bAdd_i64, bSub_i64])
 | (with_reducible apply go_ld1 h)
 | ((with_reducible first | apply go_ldA h | apply go_rd h | apply go_rdN h | apply go_rlen h); rfl)
 | (with_reducible first | apply go_ldN h | apply go_lenL h)
 | ((with_reducible apply go_st h); intro _ h)
 | ((with_reducible apply go_stA h); rfl; rfl; (first | rfl | simp [OneV.o]); intro _ h)
 | ((with_reducible apply go_stN h); rfl; (first | rfl | simp [OneV.o]); intro _ h)
 | ((with_reducible apply go_box h); rfl; intro _ _ h)
 | ((with_reducible apply go_ix h); omega)
 | ((with_reducible first | apply go_elN h | apply go_f1 h | apply go_rf1 h | apply go_rel h); (case hi => omega); (try case hx => exact inferInstance); (try case hv => rfl))
 | ((with_reducible apply go_fa h); omega; omega)
))
      have hlen : xs.length = i := by
        have := congrArg List.length hx
        simp at this; omega
      refine go_lit1 (f := cX) (x := (cs[i], (a1, cs[i].times.length, c1))) CX h u37 (fbX cs[i] (a1, cs[i].times.length, c1)) (by simp) fun s1 w h => ?_
      refine ls_app (l := xs) (m := [(cs[i], (a1, cs[i].times.length, c1))]) CX (h.frt) sl37 ss37 (ls_rd (h.frt)) (by have := H.bd; rw [hlen]; simp only [List.length_cons, List.length_nil]; omega) fun s2 w h => ?_
      (repeat (first
 | (simp (disch := omega) only [evA, evB, evC, bAdd_i64, bSub_i64])
 | (with_reducible apply go_ld1 h)
 | ((with_reducible first | apply go_ldA h | apply go_rd h | apply go_rdN h | apply go_rlen h); rfl)
 | (with_reducible first | apply go_ldN h | apply go_lenL h)
 | ((with_reducible apply go_st h); intro _ h)
 | ((with_reducible apply go_stA h); rfl; rfl; (first | rfl | simp [OneV.o]); intro _ h)
 | ((with_reducible apply go_stN h); rfl; (first | rfl | simp [OneV.o]); intro _ h)
 | ((with_reducible apply go_box h); rfl; intro _ _ h)
 | ((with_reducible apply go_ix h); omega)
 | ((with_reducible first | apply go_elN h | apply go_f1 h | apply go_rf1 h | apply go_rel h); (case hi => omega); (try case hx => exact inferInstance); (try case hv => rfl))
 | ((with_reducible apply go_fa h); omega; omega)
))
      refine ih (i + 1) (xs ++ [(cs[i], (a1, cs[i].times.length, c1))]) s2 w (by omega) (by omega) ?_ ?_
      · rw [List.map_append, hx, List.take_succ_eq_append_getElem g]; rfl
      · have h3 := bag_add (m := hlX xs) (x := (cs[i], .slice a1 cs[i].times.length c1)) (k := cs[i].id) (h.get (L' := LsH cI 1 3 (.slice a1 cs[i].times.length c1) cs[i].times :: bag (hlX xs) :: LsH cX 11 36 s2 (xs ++ [(cs[i], (a1, cs[i].times.length, c1))]) :: LsH cI 1 3 ks (cs.map (·.id)) :: Cl p #[dp, .int .i64 n, .int .i64 next, ml, mi] 71 :: MapH kH ctxE ml m :: Pool T :: L) (by (repeat (first | exact .done | (refine .pick (by repeat (first | exact .here | apply Fnt.there)) ?_) | refine .skip ?_))))
        have e3 : hlX (xs ++ [(cs[i], (a1, cs[i].times.length, c1))]) = hlX xs ++ [(cs[i].id, (cs[i], .slice a1 cs[i].times.length c1))] := by unfold hlX; rw [List.map_append]; rfl
        rw [e3]
        exact h3.f1
    · have g' : decide ((i : Int) < (cs.length : Int)) = false := by simpa using g
      have e : i = cs.length := by omega
      subst e
      (repeat (first
 | (simp (disch := omega) only [evA, evB, evC, bAdd_i64, bSub_i64, g'])
 | (with_reducible apply go_ld1 h)
 | ((with_reducible first | apply go_ldA h | apply go_rd h | apply go_rdN h | apply go_rlen h); rfl)
 | (with_reducible first | apply go_ldN h | apply go_lenL h)
 | ((with_reducible apply go_st h); intro _ h)
 | ((with_reducible apply go_stA h); rfl; rfl; (first | rfl | simp [OneV.o]); intro _ h)
 | ((with_reducible apply go_stN h); rfl; (first | rfl | simp [OneV.o]); intro _ h)
 | ((with_reducible apply go_box h); rfl; intro _ _ h)
 | ((with_reducible apply go_ix h); omega)
 | ((with_reducible first | apply go_elN h | apply go_f1 h | apply go_rf1 h | apply go_rel h); (case hi => omega); (try case hx => exact inferInstance); (try case hv => rfl))
 | ((with_reducible apply go_fa h); omega; omega)
))
      unfold F29_3 F29_3b
      refine hK sv w (ctxL_iff.2 ⟨xs, by rw [hx, List.take_length], h.got⟩)
theorem ball_spec (h : Sat w0 (HoldB v n next cs T :: Pool T :: L) w) (hK : ∀ sv w', Sat w0 (CtxL sv cs :: HoldB v n next cs T :: Pool T :: L) w' → K sv w') : callP G29 [v] w K := by
  refine c29 ?_
  unfold F29 F29_1 F29_1b
  replace h := holdB_open h
  obtain ⟨hn, m, I, M, p, dp, ml, mi, H, hn1, hn2, hT, rfl, h⟩ := h
  have := map_one (h.frt (A := MapH kH ctxE ml m))
  have := map_one (h.frt (A := MapH sgnV kH mi I))
  obtain ⟨r1, _, _, ⟨rfl, _⟩, _⟩ := map_iff.1 (h.frt (A := MapH kH ctxE ml m))
  (repeat (first
 | (simp (disch := omega) only [evA, evB, evC, bAdd_i64, bSub_i64])
 | (with_reducible apply go_ld1 h)
 | ((with_reducible first | apply go_ldA h | apply go_rd h | apply go_rdN h | apply go_rlen h); rfl)
 | (with_reducible first | apply go_ldN h | apply go_lenL h)
 | ((with_reducible apply go_st h); intro _ h)
 | ((with_reducible apply go_stA h); rfl; rfl; (first | rfl | simp [OneV.o]); intro _ h)
 | ((with_reducible apply go_stN h); rfl; (first | rfl | simp [OneV.o]); intro _ h)
 | ((with_reducible apply go_box h); rfl; intro _ _ h)
 | ((with_reducible apply go_ix h); omega)
 | ((with_reducible first | apply go_elN h | apply go_f1 h | apply go_rf1 h | apply go_rel h); (case hi => omega); (try case hx => exact inferInstance); (try case hv => rfl))
 | ((with_reducible apply go_fa h); omega; omega)
))
  refine c46 ?_
  unfold F46
  (repeat (first
 | (simp (disch := omega) only [evA, evB, evC, bAdd_i64, bSub_i64])
 | (with_reducible apply go_ld1 h)
 | ((with_reducible first | apply go_ldA h | apply go_rd h | apply go_rdN h | apply go_rlen h); rfl)
 | (with_reducible first | apply go_ldN h | apply go_lenL h)
 | ((with_reducible apply go_st h); intro _ h)
 | ((with_reducible apply go_stA h); rfl; rfl; (first | rfl | simp [OneV.o]); intro _ h)
 | ((with_reducible apply go_stN h); rfl; (first | rfl | simp [OneV.o]); intro _ h)
 | ((with_reducible apply go_box h); rfl; intro _ _ h)
 | ((with_reducible apply go_ix h); omega)
 | ((with_reducible first | apply go_elN h | apply go_f1 h | apply go_rf1 h | apply go_rel h); (case hi => omega); (try case hx => exact inferInstance); (try case hv => rfl))
 | ((with_reducible apply go_fa h); omega; omega)
))
  refine sortedI_sat (m := m) (ev := ctxE) (L := Cl p #[dp, .int .i64 n, .int .i64 next, .map (some r1), mi] 71 :: HeapH dp hn M :: MapH sgnV kH mi I :: Pool T :: L) (h.got) ?_ ?_ fun l v w hp hs h => ?_
  · intro x hx
    have h1 := H.key x hx
    have h2 := (H.ok x.2.1 (H.pm.mem_iff.1 (List.mem_map.2 ⟨x, hx, rfl⟩))).2.2
    omega
  · rw [H.len]; have := H.bd; omega
  have el : l = cs.map (·.id) := by
    refine List.Perm.eq_of_pairwise (le := fun a b : Int => a ≤ b) (fun a b _ _ h1 h2 => by omega) hs ?_ (hp.trans ?_)
    · exact List.pairwise_map.2 (H.asc.imp fun h => by omega)
    · have e : m.map Prod.fst = (m.map fun x => x.2.1).map (·.id) := by
        rw [List.map_map]
        exact List.map_congr_left fun x hx => H.key x hx
      rw [e]
      exact H.pm.map _
  subst el
  have hll := ls_len h
  rw [List.length_map] at hll
  (repeat (first
 | (simp (disch := omega) only [evA, evB, evC, bAdd_i64, bSub_i64, hll])
 | (with_reducible apply go_ld1 h)
 | ((with_reducible first | apply go_ldA h | apply go_rd h | apply go_rdN h | apply go_rlen h); rfl)
 | (with_reducible first | apply go_ldN h | apply go_lenL h)
 | ((with_reducible apply go_st h); intro _ h)
 | ((with_reducible apply go_stA h); rfl; rfl; (first | rfl | simp [OneV.o]); intro _ h)
 | ((with_reducible apply go_stN h); rfl; (first | rfl | simp [OneV.o]); intro _ h)
 | ((with_reducible apply go_box h); rfl; intro _ _ h)
 | ((with_reducible apply go_ix h); omega)
 | ((with_reducible first | apply go_elN h | apply go_f1 h | apply go_rf1 h | apply go_rel h); (case hi => omega); (try case hx => exact inferInstance); (try case hv => rfl))
 | ((with_reducible apply go_fa h); omega; omega)
))
  unfold F29_2
  refine ball_loop (w0 := w0) (mi := mi) (ml := .map (some r1)) (dp := dp) (T := T) (L := HeapH dp hn M :: MapH sgnV kH mi I :: L) H hT (fun sv w h => ?_) fuel 0 [] (.slice none 0 0) _ (by have := H.bd; unfold fuel; omega) (by omega) rfl ?_
  · have h4 : Sat w0 (HoldB (ptr p) n next cs T :: CtxL sv cs :: Pool T :: L) w := holdB_mk H hn1 hn2 hT (h.got)
    exact hK sv w h4.f1
  · have h3 : Sat w0 (bag [] :: _) _ := bag_iff.2 h
    have h4 := ls_nil (f := cX) (es := 11) (ty := 36) h3
    exact h4.got
theorem cll_spec {mv : Value} (h : Sat w0 (MapH kH ctxE mv m :: L) w) (hK : ∀ v' w', Sat w0 (MapH kH ctxE v' m :: MapH kH ctxE mv m :: L) w' → K v' w') : callP G41 [mv] w K := by
  refine c41 ?_
  unfold F41
  obtain ⟨r, es, c, ⟨rfl, _⟩, _⟩ := map_iff.1 h
  rw [bEq_nilm um68]
  simp only [bindP_some, Option.isNone_some, ifB_false]
  rw [fMkI_of um68 (by simp)]
  simp only [bindP_some]
  refine gClone_sat h fun v' w1 h1 => ?_
  rw [fAssert_of um68 (by simp)]
  simp only [bindP_some]
  exact hK _ _ h1
theorem clids_spec {mv : Value} (h : Sat w0 (MapH sgnV kH mv I :: L) w) (hK : ∀ v' w', Sat w0 (MapH sgnV kH v' I :: MapH sgnV kH mv I :: L) w' → K v' w') : callP G42 [mv] w K := by
  refine c42 ?_
  unfold F42
  obtain ⟨r, es, c, ⟨rfl, _⟩, _⟩ := map_iff.1 h
  rw [bEq_nilm um69]
  simp only [bindP_some, Option.isNone_some, ifB_false]
  rw [fMkI_of um69 (by simp)]
  simp only [bindP_some]
  refine gClone_sat h fun v' w1 h1 => ?_
  rw [fAssert_of um69 (by simp)]
  simp only [bindP_some]
  exact hK _ _ h1
theorem bfork_spec (h : Sat w0 (HoldB v n next cs T :: L) w) (hK : ∀ q w', Sat w0 (HoldB (ptr q) n next cs T :: HoldB v n next cs T :: L) w' → K (ptr q) w') : callP G23 [v] w K := by
  refine c23 ?_
  unfold F23
  replace h := holdB_open h
  obtain ⟨hn, m, I, M, p, dp, ml, mi, H, hn1, hn2, hT, rfl, h⟩ := h
  have := map_one (h.frt (A := MapH kH ctxE ml m))
  have := map_one (h.frt (A := MapH sgnV kH mi I))
  obtain ⟨d, rfl⟩ := heap_ptr (h.frt (A := HeapH dp hn M))
  (repeat (first
 | (simp (disch := omega) only [evA, evB, evC, bAdd_i64, bSub_i64])
 | (with_reducible apply go_ld1 h)
 | ((with_reducible first | apply go_ldA h | apply go_rd h | apply go_rdN h | apply go_rlen h); rfl)
 | (with_reducible first | apply go_ldN h | apply go_lenL h)
 | ((with_reducible apply go_st h); intro _ h)
 | ((with_reducible apply go_stA h); rfl; rfl; (first | rfl | simp [OneV.o]); intro _ h)
 | ((with_reducible apply go_stN h); rfl; (first | rfl | simp [OneV.o]); intro _ h)
 | ((with_reducible apply go_box h); rfl; intro _ _ h)
 | ((with_reducible apply go_ix h); omega)
 | ((with_reducible first | apply go_elN h | apply go_f1 h | apply go_rf1 h | apply go_rel h); (case hi => omega); (try case hx => exact inferInstance); (try case hv => rfl))
 | ((with_reducible apply go_fa h); omega; omega)
))
  refine fork_spec (M := M) (n := hn) (h.drew.frt (A := HeapH (ptr d) hn M)) fun d2 w h => ?_
  (repeat (first
 | (simp (disch := omega) only [evA, evB, evC, bAdd_i64, bSub_i64])
 | (refine go_some (fb67_0 ..) ?_)
 | (with_reducible apply go_ld1 h)
 | ((with_reducible first | apply go_ldA h | apply go_rd h | apply go_rdN h | apply go_rlen h); rfl)
 | (with_reducible first | apply go_ldN h | apply go_lenL h)
 | ((with_reducible apply go_st h); intro _ h)
 | ((with_reducible apply go_stA h); rfl; rfl; (first | rfl | simp [OneV.o]); intro _ h)
 | ((with_reducible apply go_stN h); rfl; (first | rfl | simp [OneV.o]); intro _ h)
 | ((with_reducible apply go_box h); rfl; intro _ _ h)
 | ((with_reducible apply go_ix h); omega)
 | ((with_reducible first | apply go_elN h | apply go_f1 h | apply go_rf1 h | apply go_rel h); (case hi => omega); (try case hx => exact inferInstance); (try case hv => rfl))
 | ((with_reducible apply go_fa h); omega; omega)
))
  refine cll_spec (m := m) (h.frt (A := MapH kH ctxE ml m)) fun m1 w h => ?_
  have := map_one h
  (repeat (first
 | (simp (disch := omega) only [evA, evB, evC, bAdd_i64, bSub_i64])
 | (with_reducible apply go_ld1 h)
 | ((with_reducible first | apply go_ldA h | apply go_rd h | apply go_rdN h | apply go_rlen h); rfl)
 | (with_reducible first | apply go_ldN h | apply go_lenL h)
 | ((with_reducible apply go_st h); intro _ h)
 | ((with_reducible apply go_stA h); rfl; rfl; (first | rfl | simp [OneV.o]); intro _ h)
 | ((with_reducible apply go_stN h); rfl; (first | rfl | simp [OneV.o]); intro _ h)
 | ((with_reducible apply go_box h); rfl; intro _ _ h)
 | ((with_reducible apply go_ix h); omega)
 | ((with_reducible first | apply go_elN h | apply go_f1 h | apply go_rf1 h | apply go_rel h); (case hi => omega); (try case hx => exact inferInstance); (try case hv => rfl))
 | ((with_reducible apply go_fa h); omega; omega)
))
  refine clids_spec (I := I) (h.frt (A := MapH sgnV kH mi I)) fun m2 w h => ?_
  have := map_one h
  (repeat (first
 | (simp (disch := omega) only [evA, evB, evC, bAdd_i64, bSub_i64])
 | (with_reducible apply go_ld1 h)
 | ((with_reducible first | apply go_ldA h | apply go_rd h | apply go_rdN h | apply go_rlen h); rfl)
 | (with_reducible first | apply go_ldN h | apply go_lenL h)
 | ((with_reducible apply go_st h); intro _ h)
 | ((with_reducible apply go_stA h); rfl; rfl; (first | rfl | simp [OneV.o]); intro _ h)
 | ((with_reducible apply go_stN h); rfl; (first | rfl | simp [OneV.o]); intro _ h)
 | ((with_reducible apply go_box h); rfl; intro _ _ h)
 | ((with_reducible apply go_ix h); omega)
 | ((with_reducible first | apply go_elN h | apply go_f1 h | apply go_rf1 h | apply go_rel h); (case hi => omega); (try case hx => exact inferInstance); (try case hv => rfl))
 | ((with_reducible apply go_fa h); omega; omega)
))
  obtain ⟨r1, _, _, ⟨rfl, _⟩, _⟩ := map_iff.1 (h.frt (A := MapH kH ctxE m1 m))
  obtain ⟨r2, _, _, ⟨rfl, _⟩, _⟩ := map_iff.1 (h.frt (A := MapH sgnV kH m2 I))
  have e : fBuild Tryz.prog 71 [(0, .agg #[ptr d2]), (1, .int .i64 n), (2, .int .i64 next), (3, .map (some r1)), (4, .map (some r2))] = some (.agg #[ptr d2, .int .i64 n, .int .i64 next, .map (some r1), .map (some r2)]) := by kernel_rfl
  refine go_some e ?_
  refine eBox_sat h fun q w h => ?_
  simp only [cells_agg] at h
  have h1 : Sat w0 (Cl p #[ptr d, .int .i64 n, .int .i64 next, ml, mi] 71 :: HeapH (ptr d) hn M :: MapH kH ctxE ml m :: MapH sgnV kH mi I :: Cl q #[ptr d2, .int .i64 n, .int .i64 next, .map (some r1), .map (some r2)] 71 :: HeapH (ptr d2) hn M :: MapH kH ctxE (.map (some r1)) m :: MapH sgnV kH (.map (some r2)) I :: L) w := h.got
  have h2 := holdB_mk (T := T) H hn1 hn2 hT h1
  have h3 : Sat w0 (Cl q #[ptr d2, .int .i64 n, .int .i64 next, .map (some r1), .map (some r2)] 71 :: HeapH (ptr d2) hn M :: MapH kH ctxE (.map (some r1)) m :: MapH sgnV kH (.map (some r2)) I :: HoldB (ptr p) n next cs T :: L) w := h2.got
  exact hK q w (holdB_mk (T := T) H hn1 hn2 hT h3)
theorem bload_loop {p q : Nat} {sv : Value} {l : List (Ctx × SV)} {T0 : TM} (hfit : ∀ x ∈ l, x.1.fits) (hlen : l.length ≤ 65536) (hnx : 1 ≤ next ∧ next ≤ 1152921504606846976)
    (hrd : RdL w0 L cX 11 sv l) (hrt : RdT w0 L T0 l)
    (hK0 : loadL next (l.map Prod.fst) [] = none → ∀ T' w', (∀ y ∈ T0, y ∈ T') → Sat w0 (Pool T' :: L) w' → K (.int .i64 4) w')
    (hK1 : ∀ cs, loadL next (l.map Prod.fst) [] = some cs → ∀ T' w', (∀ y ∈ T0, y ∈ T') → Sat w0 (HoldB (ptr q) 65536 next cs T' :: Pool T' :: L) w' → F24_3 (ptr p) sv (ptr q) w' K) :
    ∀ (d i : Nat) (cs : List Ctx) (T : TM) (w : World), l.length - i < d → i ≤ l.length → cs.length = i → (∀ y ∈ T0, y ∈ T) → loadL next (l.map Prod.fst) [] = loadL next ((l.drop i).map Prod.fst) cs →
      Sat w0 (HoldB (ptr q) 65536 next cs T :: Pool T :: L) w → F24_2L d (ptr p) sv (.int .i64 next) (ptr q) sv (.int .i64 (l.length : Nat)) (.int .i64 i) w K := by
  intro d
  induction d with
  | zero => intro i _ _ _ hd; omega
  | succ d ih =>
    intro i cs T w hd hi hc hTT he h
    rw [F24_2L]
    unfold F24_4 F24_4b F24_5 F24_5b
    by_cases g : i < l.length
    · have g' : decide ((i : Int) < (l.length : Int)) = true := by simpa using g
      have hd1 : (l.drop i).map Prod.fst = l[i].1 :: (l.drop (i + 1)).map Prod.fst := by rw [List.drop_eq_getElem_cons g]; rfl
      rw [hd1] at he
      replace h := holdB_open h
      obtain ⟨hn, m, I, M, p', dp, ml, mi, H, hn1, hn2, hT, e, h⟩ := h
      cases e
      have := map_one (h.frt (A := MapH kH ctxE ml m))
      have := map_one (h.frt (A := MapH sgnV kH mi I))
      have hrL : Rd w 11 sv l.length (l.flatMap cX) := hrd w (h.got)
      (repeat (first
 | (simp (disch := omega) only [evA, evB, evC, bAdd_i64, bSub_i64, g'])
 | (with_reducible apply go_ld1 h)
 | ((with_reducible first | apply go_ldA h | apply go_rd h | apply go_rdN h | apply go_rlen h); rfl)
 | (with_reducible first | apply go_ldN h | apply go_lenL h)
 | ((with_reducible apply go_st h); intro _ h)
 | ((with_reducible apply go_stA h); rfl; rfl; (first | rfl | simp [OneV.o]); intro _ h)
 | ((with_reducible apply go_stN h); rfl; (first | rfl | simp [OneV.o]); intro _ h)
 | ((with_reducible apply go_box h); rfl; intro _ _ h)
 | ((with_reducible apply go_ix h); omega)
 | ((with_reducible first | apply go_elN h | apply go_f1 h | apply go_rf1 h | apply go_rel h); (case hi => omega); (try case hx => exact inferInstance); (try case hv => rfl))
 | ((with_reducible apply go_fa h); omega; omega)
))
      refine go_some (ix_el hrL g) ?_
      refine go_some (rd_ld CX hrL g) ?_
      (repeat (first
 | (simp (disch := omega) only [evA, evB, evC, bAdd_i64, bSub_i64])
 | (with_reducible apply go_ld1 h)
 | ((with_reducible first | apply go_ldA h | apply go_rd h | apply go_rdN h | apply go_rlen h); rfl)
 | (with_reducible first | apply go_ldN h | apply go_lenL h)
 | ((with_reducible apply go_st h); intro _ h)
 | ((with_reducible apply go_stA h); rfl; rfl; (first | rfl | simp [OneV.o]); intro _ h)
 | ((with_reducible apply go_stN h); rfl; (first | rfl | simp [OneV.o]); intro _ h)
 | ((with_reducible apply go_box h); rfl; intro _ _ h)
 | ((with_reducible apply go_ix h); omega)
 | ((with_reducible first | apply go_elN h | apply go_f1 h | apply go_rf1 h | apply go_rel h); (case hi => omega); (try case hx => exact inferInstance); (try case hv => rfl))
 | ((with_reducible apply go_fa h); omega; omega)
))
      have hx := List.getElem_mem g
      have hro : RdL w0 (Pool T :: L) cI 1 (svV l[i].2) l[i].1.times := hrt _ hx T hTT
      have hfc := hfit _ hx
      generalize l[i] = y at he hro hfc
      obtain ⟨c, t⟩ := y
      have hbad : loadStep next cs c = none → loadL next (l.map Prod.fst) [] = none := fun h => by rw [he]; simp [loadL, h]
      refine go_alloc h zc41 rfl fun _ _ h => ?_
      (repeat (first
 | (simp (disch := omega) only [evA, evB, evC, bAdd_i64, bSub_i64])
 | (with_reducible apply go_ld1 h)
 | ((with_reducible first | apply go_ldA h | apply go_rd h | apply go_rdN h | apply go_rlen h); rfl)
 | (with_reducible first | apply go_ldN h | apply go_lenL h)
 | ((with_reducible apply go_st h); intro _ h)
 | ((with_reducible apply go_stA h); rfl; rfl; (first | rfl | simp [OneV.o]); intro _ h)
 | ((with_reducible apply go_stN h); rfl; (first | rfl | simp [OneV.o]); intro _ h)
 | ((with_reducible apply go_box h); rfl; intro _ _ h)
 | ((with_reducible apply go_ix h); omega)
 | ((with_reducible first | apply go_elN h | apply go_f1 h | apply go_rf1 h | apply go_rel h); (case hi => omega); (try case hx => exact inferInstance); (try case hv => rfl))
 | ((with_reducible apply go_fa h); omega; omega)
))
      refine go_look2 h (by repeat (first | exact .here | apply Fnt.there)) KIh um68 zc41 c.id ?_
      obtain ⟨b0, s0, e0, ho0⟩ : ∃ b0 s0, (aGet c.id m).elim (ctxV zeroC (.slice none 0 0)) ctxE = ctxV b0 s0 ∧ OneV s0 := by
        cases hg : aGet c.id m with
        | none => exact ⟨zeroC, _, rfl, inferInstance⟩
        | some x =>
          obtain ⟨s, e, _⟩ := hT _ (aGet_mem hg)
          simp only at e
          exact ⟨x.1, x.2, rfl, by rw [e]; infer_instance⟩
      rw [e0]
      (repeat (first
 | (simp (disch := omega) only [evA, evB, evC, bAdd_i64, bSub_i64])
 | (with_reducible apply go_ld1 h)
 | ((with_reducible first | apply go_ldA h | apply go_rd h | apply go_rdN h | apply go_rlen h); rfl)
 | (with_reducible first | apply go_ldN h | apply go_lenL h)
 | ((with_reducible apply go_st h); intro _ h)
 | ((with_reducible apply go_stA h); rfl; rfl; (first | rfl | simp [OneV.o]); intro _ h)
 | ((with_reducible apply go_stN h); rfl; (first | rfl | simp [OneV.o]); intro _ h)
 | ((with_reducible apply go_box h); rfl; intro _ _ h)
 | ((with_reducible apply go_ix h); omega)
 | ((with_reducible first | apply go_elN h | apply go_f1 h | apply go_rf1 h | apply go_rel h); (case hi => omega); (try case hx => exact inferInstance); (try case hv => rfl))
 | ((with_reducible apply go_fa h); omega; omega)
))
      refine go_alloc h zc41 rfl fun _ _ h => ?_
      (repeat (first
 | (simp (disch := omega) only [evA, evB, evC, bAdd_i64, bSub_i64])
 | (with_reducible apply go_ld1 h)
 | ((with_reducible first | apply go_ldA h | apply go_rd h | apply go_rdN h | apply go_rlen h); rfl)
 | (with_reducible first | apply go_ldN h | apply go_lenL h)
 | ((with_reducible apply go_st h); intro _ h)
 | ((with_reducible apply go_stA h); rfl; rfl; (first | rfl | simp [OneV.o]); intro _ h)
 | ((with_reducible apply go_stN h); rfl; (first | rfl | simp [OneV.o]); intro _ h)
 | ((with_reducible apply go_box h); rfl; intro _ _ h)
 | ((with_reducible apply go_ix h); omega)
 | ((with_reducible first | apply go_elN h | apply go_f1 h | apply go_rf1 h | apply go_rel h); (case hi => omega); (try case hx => exact inferInstance); (try case hv => rfl))
 | ((with_reducible apply go_fa h); omega; omega)
))
      refine go_fok ((look2 (h.frt) KIh um68 zc41 c.id).trans (by rw [e0])) ?_
      (repeat (first
 | (simp (disch := omega) only [evA, evB, evC, bAdd_i64, bSub_i64])
 | (with_reducible apply go_ld1 h)
 | ((with_reducible first | apply go_ldA h | apply go_rd h | apply go_rdN h | apply go_rlen h); rfl)
 | (with_reducible first | apply go_ldN h | apply go_lenL h)
 | ((with_reducible apply go_st h); intro _ h)
 | ((with_reducible apply go_stA h); rfl; rfl; (first | rfl | simp [OneV.o]); intro _ h)
 | ((with_reducible apply go_stN h); rfl; (first | rfl | simp [OneV.o]); intro _ h)
 | ((with_reducible apply go_box h); rfl; intro _ _ h)
 | ((with_reducible apply go_ix h); omega)
 | ((with_reducible first | apply go_elN h | apply go_f1 h | apply go_rf1 h | apply go_rel h); (case hi => omega); (try case hx => exact inferInstance); (try case hv => rfl))
 | ((with_reducible apply go_fa h); omega; omega)
))
      refine hof_spec (a := c) h.drew fun w h => ?_
      (repeat (first
 | (simp (disch := omega) only [evA, evB, evC, bAdd_i64, bSub_i64])
 | (with_reducible apply go_ld1 h)
 | ((with_reducible first | apply go_ldA h | apply go_rd h | apply go_rdN h | apply go_rlen h); rfl)
 | (with_reducible first | apply go_ldN h | apply go_lenL h)
 | ((with_reducible apply go_st h); intro _ h)
 | ((with_reducible apply go_stA h); rfl; rfl; (first | rfl | simp [OneV.o]); intro _ h)
 | ((with_reducible apply go_stN h); rfl; (first | rfl | simp [OneV.o]); intro _ h)
 | ((with_reducible apply go_box h); rfl; intro _ _ h)
 | ((with_reducible apply go_ix h); omega)
 | ((with_reducible first | apply go_elN h | apply go_f1 h | apply go_rf1 h | apply go_rel h); (case hi => omega); (try case hx => exact inferInstance); (try case hv => rfl))
 | ((with_reducible apply go_fa h); omega; omega)
))
      refine go_look2 h (by repeat (first | exact .here | apply Fnt.there)) KSgn um69 z3 (sgnOf c) ?_
      (repeat (first
 | (simp (disch := omega) only [evA, evB, evC, bAdd_i64, bSub_i64])
 | (with_reducible apply go_ld1 h)
 | ((with_reducible first | apply go_ldA h | apply go_rd h | apply go_rdN h | apply go_rlen h); rfl)
 | (with_reducible first | apply go_ldN h | apply go_lenL h)
 | ((with_reducible apply go_st h); intro _ h)
 | ((with_reducible apply go_stA h); rfl; rfl; (first | rfl | simp [OneV.o]); intro _ h)
 | ((with_reducible apply go_stN h); rfl; (first | rfl | simp [OneV.o]); intro _ h)
 | ((with_reducible apply go_box h); rfl; intro _ _ h)
 | ((with_reducible apply go_ix h); omega)
 | ((with_reducible first | apply go_elN h | apply go_f1 h | apply go_rf1 h | apply go_rel h); (case hi => omega); (try case hx => exact inferInstance); (try case hv => rfl))
 | ((with_reducible apply go_fa h); omega; omega)
))
      refine hcheck_spec (c := c) hfc (hro.got) h fun w h => ?_
      unfold chkC
      cases g1 : okC c
      · have d4 : decide ((4 : Int) = 0) = false := by decide
        (repeat (first
 | (simp (disch := omega) only [evA, evB, evC, bAdd_i64, bSub_i64, Bool.false_eq_true, if_false, d4])
 | (with_reducible apply go_ld1 h)
 | ((with_reducible first | apply go_ldA h | apply go_rd h | apply go_rdN h | apply go_rlen h); rfl)
 | (with_reducible first | apply go_ldN h | apply go_lenL h)
 | ((with_reducible apply go_st h); intro _ h)
 | ((with_reducible apply go_stA h); rfl; rfl; (first | rfl | simp [OneV.o]); intro _ h)
 | ((with_reducible apply go_stN h); rfl; (first | rfl | simp [OneV.o]); intro _ h)
 | ((with_reducible apply go_box h); rfl; intro _ _ h)
 | ((with_reducible apply go_ix h); omega)
 | ((with_reducible first | apply go_elN h | apply go_f1 h | apply go_rf1 h | apply go_rel h); (case hi => omega); (try case hx => exact inferInstance); (try case hv => rfl))
 | ((with_reducible apply go_fa h); omega; omega)
))
        exact hK0 (hbad (by unfold loadStep; rw [if_neg]; simp [g1])) T _ hTT (h.got)
      by_cases g2 : c.id < 1
      · have g2' : decide (c.id < 1) = true := by simpa using g2
        (repeat (first
 | (simp (disch := omega) only [evA, evB, evC, bAdd_i64, bSub_i64, if_true, g2'])
 | (with_reducible apply go_ld1 h)
 | ((with_reducible first | apply go_ldA h | apply go_rd h | apply go_rdN h | apply go_rlen h); rfl)
 | (with_reducible first | apply go_ldN h | apply go_lenL h)
 | ((with_reducible apply go_st h); intro _ h)
 | ((with_reducible apply go_stA h); rfl; rfl; (first | rfl | simp [OneV.o]); intro _ h)
 | ((with_reducible apply go_stN h); rfl; (first | rfl | simp [OneV.o]); intro _ h)
 | ((with_reducible apply go_box h); rfl; intro _ _ h)
 | ((with_reducible apply go_ix h); omega)
 | ((with_reducible first | apply go_elN h | apply go_f1 h | apply go_rf1 h | apply go_rel h); (case hi => omega); (try case hx => exact inferInstance); (try case hv => rfl))
 | ((with_reducible apply go_fa h); omega; omega)
))
        exact hK0 (hbad (by unfold loadStep; rw [if_neg]; omega)) T _ hTT (h.got)
      have g2' : decide (c.id < 1) = false := by simpa using g2
      by_cases g3 : c.id ≥ next
      · have g3' : decide (c.id ≥ next) = true := by simpa using g3
        (repeat (first
 | (simp (disch := omega) only [evA, evB, evC, bAdd_i64, bSub_i64, if_true, g2', g3'])
 | (with_reducible apply go_ld1 h)
 | ((with_reducible first | apply go_ldA h | apply go_rd h | apply go_rdN h | apply go_rlen h); rfl)
 | (with_reducible first | apply go_ldN h | apply go_lenL h)
 | ((with_reducible apply go_st h); intro _ h)
 | ((with_reducible apply go_stA h); rfl; rfl; (first | rfl | simp [OneV.o]); intro _ h)
 | ((with_reducible apply go_stN h); rfl; (first | rfl | simp [OneV.o]); intro _ h)
 | ((with_reducible apply go_box h); rfl; intro _ _ h)
 | ((with_reducible apply go_ix h); omega)
 | ((with_reducible first | apply go_elN h | apply go_f1 h | apply go_rf1 h | apply go_rel h); (case hi => omega); (try case hx => exact inferInstance); (try case hv => rfl))
 | ((with_reducible apply go_fa h); omega; omega)
))
        exact hK0 (hbad (by unfold loadStep; rw [if_neg]; omega)) T _ hTT (h.got)
      have g3' : decide (c.id ≥ next) = false := by simpa using g3
      cases g4 : (aGet c.id m).isSome
      case true =>
        (repeat (first
 | (simp (disch := omega) only [evA, evB, evC, bAdd_i64, bSub_i64, if_true, g2', g3'])
 | (with_reducible apply go_ld1 h)
 | ((with_reducible first | apply go_ldA h | apply go_rd h | apply go_rdN h | apply go_rlen h); rfl)
 | (with_reducible first | apply go_ldN h | apply go_lenL h)
 | ((with_reducible apply go_st h); intro _ h)
 | ((with_reducible apply go_stA h); rfl; rfl; (first | rfl | simp [OneV.o]); intro _ h)
 | ((with_reducible apply go_stN h); rfl; (first | rfl | simp [OneV.o]); intro _ h)
 | ((with_reducible apply go_box h); rfl; intro _ _ h)
 | ((with_reducible apply go_ix h); omega)
 | ((with_reducible first | apply go_elN h | apply go_f1 h | apply go_rf1 h | apply go_rel h); (case hi => omega); (try case hx => exact inferInstance); (try case hv => rfl))
 | ((with_reducible apply go_fa h); omega; omega)
))
        refine hK0 (hbad ?_) T _ hTT (h.got)
        unfold loadStep
        rw [if_neg]
        intro hh
        rw [H.get_none hh.2.2.2.1] at g4; cases g4
      cases g5 : (aGet (sgnOf c) I).isSome
      case true =>
        (repeat (first
 | (simp (disch := omega) only [evA, evB, evC, bAdd_i64, bSub_i64, if_true, g2', g3'])
 | (with_reducible apply go_ld1 h)
 | ((with_reducible first | apply go_ldA h | apply go_rd h | apply go_rdN h | apply go_rlen h); rfl)
 | (with_reducible first | apply go_ldN h | apply go_lenL h)
 | ((with_reducible apply go_st h); intro _ h)
 | ((with_reducible apply go_stA h); rfl; rfl; (first | rfl | simp [OneV.o]); intro _ h)
 | ((with_reducible apply go_stN h); rfl; (first | rfl | simp [OneV.o]); intro _ h)
 | ((with_reducible apply go_box h); rfl; intro _ _ h)
 | ((with_reducible apply go_ix h); omega)
 | ((with_reducible first | apply go_elN h | apply go_f1 h | apply go_rf1 h | apply go_rel h); (case hi => omega); (try case hx => exact inferInstance); (try case hv => rfl))
 | ((with_reducible apply go_fa h); omega; omega)
))
        refine hK0 (hbad ?_) T _ hTT (h.got)
        unfold loadStep
        rw [if_neg]
        intro hh
        rw [H.snone hh.2.2.2.2] at g5; cases g5
      have n1 : ∀ d ∈ cs, d.id ≠ c.id := fun d hd e => by
        obtain ⟨s, hs⟩ := H.get hd
        rw [e] at hs; rw [hs] at g4; cases g4
      have n2 : ∀ d ∈ cs, sgnOf d ≠ sgnOf c := fun d hd e => by
        have hs := H.sget hd
        rw [e] at hs; rw [hs] at g5; cases g5
      have hstep : loadStep next cs c = some (insC c cs) := by
        unfold loadStep
        rw [if_pos ⟨g1, by omega, by omega, n1, n2⟩]
      have g6 : decide ((i : Int) < 65536) = true := by simp; omega
      (repeat (first
 | (simp (disch := omega) only [evA, evB, evC, bAdd_i64, bSub_i64, if_true, g2', g3', g6])
 | (with_reducible apply go_ld1 h)
 | ((with_reducible first | apply go_ldA h | apply go_rd h | apply go_rdN h | apply go_rlen h); rfl)
 | (with_reducible first | apply go_ldN h | apply go_lenL h)
 | ((with_reducible apply go_st h); intro _ h)
 | ((with_reducible apply go_stA h); rfl; rfl; (first | rfl | simp [OneV.o]); intro _ h)
 | ((with_reducible apply go_stN h); rfl; (first | rfl | simp [OneV.o]); intro _ h)
 | ((with_reducible apply go_box h); rfl; intro _ _ h)
 | ((with_reducible apply go_ix h); omega)
 | ((with_reducible first | apply go_elN h | apply go_f1 h | apply go_rf1 h | apply go_rel h); (case hi => omega); (try case hx => exact inferInstance); (try case hv => rfl))
 | ((with_reducible apply go_fa h); omega; omega)
))
      refine bput_spec (p := q) (dp := dp) (ml := ml) (mi := mi) (n := 65536) (next := next) (hn := hn) (m := m) (I := I) (M := M) (T := T) (c := c) (L := _ :: _ :: L) ?_ ?_ (h.got) fun s w h => ?_
      · have : c.times.length < 1073741824 := hfc.2.2.2
        show c.times.length ≤ _; omega
      · exact hro.got
      (repeat (first
 | (simp (disch := omega) only [evA, evB, evC, bAdd_i64, bSub_i64])
 | (with_reducible apply go_ld1 h)
 | ((with_reducible first | apply go_ldA h | apply go_rd h | apply go_rdN h | apply go_rlen h); rfl)
 | (with_reducible first | apply go_ldN h | apply go_lenL h)
 | ((with_reducible apply go_st h); intro _ h)
 | ((with_reducible apply go_stA h); rfl; rfl; (first | rfl | simp [OneV.o]); intro _ h)
 | ((with_reducible apply go_stN h); rfl; (first | rfl | simp [OneV.o]); intro _ h)
 | ((with_reducible apply go_box h); rfl; intro _ _ h)
 | ((with_reducible apply go_ix h); omega)
 | ((with_reducible first | apply go_elN h | apply go_f1 h | apply go_rf1 h | apply go_rel h); (case hi => omega); (try case hx => exact inferInstance); (try case hv => rfl))
 | ((with_reducible apply go_fa h); omega; omega)
))
      refine ih (i + 1) (insC c cs) (T ++ [(s, c.times)]) w (by omega) (by omega) ?_ (fun y hy => List.mem_append_left _ (hTT y hy)) ?_ (holdB_mk (H.ins g1 hfc n2 n1 (by omega) (by omega) (by omega)) hn1 hn2 (inT_set hT) (h.got))
      · have := (insC_perm c cs).length_eq; simp at this; omega
      · rw [he]; simp [loadL, hstep]
    · have g' : decide ((i : Int) < (l.length : Int)) = false := by simpa using g
      (repeat (first
 | (simp (disch := omega) only [evA, evB, evC, bAdd_i64, bSub_i64, g'])
 | (with_reducible apply go_ld1 h)
 | ((with_reducible first | apply go_ldA h | apply go_rd h | apply go_rdN h | apply go_rlen h); rfl)
 | (with_reducible first | apply go_ldN h | apply go_lenL h)
 | ((with_reducible apply go_st h); intro _ h)
 | ((with_reducible apply go_stA h); rfl; rfl; (first | rfl | simp [OneV.o]); intro _ h)
 | ((with_reducible apply go_stN h); rfl; (first | rfl | simp [OneV.o]); intro _ h)
 | ((with_reducible apply go_box h); rfl; intro _ _ h)
 | ((with_reducible apply go_ix h); omega)
 | ((with_reducible first | apply go_elN h | apply go_f1 h | apply go_rf1 h | apply go_rel h); (case hi => omega); (try case hx => exact inferInstance); (try case hv => rfl))
 | ((with_reducible apply go_fa h); omega; omega)
))
      refine hK1 cs ?_ T w hTT h
      rw [he, List.drop_eq_nil_of_le (by omega)]; rfl
def loadA' (n next0 : Int) (cs : List Ctx) (l : List Ctx) (next : Int) : Int × Int × List Ctx :=
  if next < 1 ∨ 1152921504606846976 < next then (4, next0, cs) else match loadL next l [] with
  | none => (4, next0, cs)
  | some ds => if n < (l.length : Int) then (200, next0, cs) else (0, next, ds)
theorem bload_spec {sv : Value} {l : List (Ctx × SV)} (hfit : ∀ x ∈ l, x.1.fits) (hlen : l.length ≤ 65536) (hrd : RdL w0 L cX 11 sv l) (hrt : RdT w0 L T l)
    (h : Sat w0 (HoldB v n next0 cs T :: Pool T :: L) w)
    (hK : ∀ T' w', (∀ y ∈ T, y ∈ T') → Sat w0 (HoldB v n (loadA' n next0 cs (l.map Prod.fst) next).2.1 (loadA' n next0 cs (l.map Prod.fst) next).2.2 T' :: Pool T' :: L) w' → K (.int .i64 (loadA' n next0 cs (l.map Prod.fst) next).1) w') : callP G24 [v, sv, .int .i64 next] w K := by
  obtain ⟨p, rfl⟩ : ∃ p, v = ptr p := by
    obtain ⟨_, _, _, _, p, _, _, _, _, _, _, _, e, _⟩ := holdB_open h
    exact ⟨p, e⟩
  refine c24 ?_
  unfold F24 F24_1 F24_1b F24_2
  unfold loadA' at hK
  have hl := (hrd w (h.got)).len
  by_cases g1 : next < 1
  · have g1' : decide (next < 1) = true := by simpa using g1
    rw [if_pos (.inl g1)] at hK
    (repeat (first
 | (simp (disch := omega) only [evA, evB, evC, bAdd_i64, bSub_i64, g1'])
 | (with_reducible apply go_ld1 h)
 | ((with_reducible first | apply go_ldA h | apply go_rd h | apply go_rdN h | apply go_rlen h); rfl)
 | (with_reducible first | apply go_ldN h | apply go_lenL h)
 | ((with_reducible apply go_st h); intro _ h)
 | ((with_reducible apply go_stA h); rfl; rfl; (first | rfl | simp [OneV.o]); intro _ h)
 | ((with_reducible apply go_stN h); rfl; (first | rfl | simp [OneV.o]); intro _ h)
 | ((with_reducible apply go_box h); rfl; intro _ _ h)
 | ((with_reducible apply go_ix h); omega)
 | ((with_reducible first | apply go_elN h | apply go_f1 h | apply go_rf1 h | apply go_rel h); (case hi => omega); (try case hx => exact inferInstance); (try case hv => rfl))
 | ((with_reducible apply go_fa h); omega; omega)
))
    exact hK T _ (fun _ h => h) h
  have g1' : decide (next < 1) = false := by simpa using g1
  by_cases g2 : next > 1152921504606846976
  · have g2' : decide (next > 1152921504606846976) = true := by simpa using g2
    rw [if_pos (.inr g2)] at hK
    (repeat (first
 | (simp (disch := omega) only [evA, evB, evC, bAdd_i64, bSub_i64, g1', g2'])
 | (with_reducible apply go_ld1 h)
 | ((with_reducible first | apply go_ldA h | apply go_rd h | apply go_rdN h | apply go_rlen h); rfl)
 | (with_reducible first | apply go_ldN h | apply go_lenL h)
 | ((with_reducible apply go_st h); intro _ h)
 | ((with_reducible apply go_stA h); rfl; rfl; (first | rfl | simp [OneV.o]); intro _ h)
 | ((with_reducible apply go_stN h); rfl; (first | rfl | simp [OneV.o]); intro _ h)
 | ((with_reducible apply go_box h); rfl; intro _ _ h)
 | ((with_reducible apply go_ix h); omega)
 | ((with_reducible first | apply go_elN h | apply go_f1 h | apply go_rf1 h | apply go_rel h); (case hi => omega); (try case hx => exact inferInstance); (try case hv => rfl))
 | ((with_reducible apply go_fa h); omega; omega)
))
    exact hK T _ (fun _ h => h) h
  have g2' : decide (next > 1152921504606846976) = false := by simpa using g2
  rw [if_neg (by omega)] at hK
  (repeat (first
 | (simp (disch := omega) only [evA, evB, evC, bAdd_i64, bSub_i64, g1', g2'])
 | (with_reducible apply go_ld1 h)
 | ((with_reducible first | apply go_ldA h | apply go_rd h | apply go_rdN h | apply go_rlen h); rfl)
 | (with_reducible first | apply go_ldN h | apply go_lenL h)
 | ((with_reducible apply go_st h); intro _ h)
 | ((with_reducible apply go_stA h); rfl; rfl; (first | rfl | simp [OneV.o]); intro _ h)
 | ((with_reducible apply go_stN h); rfl; (first | rfl | simp [OneV.o]); intro _ h)
 | ((with_reducible apply go_box h); rfl; intro _ _ h)
 | ((with_reducible apply go_ix h); omega)
 | ((with_reducible first | apply go_elN h | apply go_f1 h | apply go_rf1 h | apply go_rel h); (case hi => omega); (try case hx => exact inferInstance); (try case hv => rfl))
 | ((with_reducible apply go_fa h); omega; omega)
))
  refine hempty_spec (n := 65536) (next := next) (by omega) (by omega) h fun q w h => ?_
  (repeat (first
 | (simp (disch := omega) only [evA, evB, evC, bAdd_i64, bSub_i64, hl])
 | (with_reducible apply go_ld1 h)
 | ((with_reducible first | apply go_ldA h | apply go_rd h | apply go_rdN h | apply go_rlen h); rfl)
 | (with_reducible first | apply go_ldN h | apply go_lenL h)
 | ((with_reducible apply go_st h); intro _ h)
 | ((with_reducible apply go_stA h); rfl; rfl; (first | rfl | simp [OneV.o]); intro _ h)
 | ((with_reducible apply go_stN h); rfl; (first | rfl | simp [OneV.o]); intro _ h)
 | ((with_reducible apply go_box h); rfl; intro _ _ h)
 | ((with_reducible apply go_ix h); omega)
 | ((with_reducible first | apply go_elN h | apply go_f1 h | apply go_rf1 h | apply go_rel h); (case hi => omega); (try case hx => exact inferInstance); (try case hv => rfl))
 | ((with_reducible apply go_fa h); omega; omega)
))
  replace h := hold_iff.1 h
  obtain ⟨q', dq, ql, qi, e, h⟩ := h
  cases e
  have h5 : Sat w0 (HoldB (ptr q) 65536 next [] T :: HoldB (ptr p) n next0 cs T :: Pool T :: L) w := holdB_mk (hn := 65536) (m := []) (I := []) (M := []) (dp := dq) (ml := ql) (mi := qi) (.start (by omega) (by omega) next) (by omega) (by omega) (by simp) (h.got)
  clear h
  have h : Sat w0 (HoldB (ptr p) n next0 cs T :: HoldB (ptr q) 65536 next [] T :: Pool T :: L) w := h5.got
  clear h5
  replace h := holdB_open h
  obtain ⟨hn, m, I, M, p', dp, ml, mi, H, hn1, hn2, hT, e, h⟩ := h
  cases e
  refine bload_loop (p := p) (q := q) (T0 := T) (L := Cl p #[dp, .int .i64 n, .int .i64 next0, ml, mi] 71 :: HeapH dp hn M :: MapH kH ctxE ml m :: MapH sgnV kH mi I :: L) hfit hlen (by omega) (hrd.got) (fun x hx T' hT' => (hrt x hx T' hT').got) (fun hb T' w hT' h => ?_) (fun ds hds T' w hT' h => ?_) fuel 0 [] T w (by unfold fuel; omega) (by omega) rfl (fun _ h => h) (by simp) (h.got)
  · rw [hb] at hK
    exact hK T' w hT' (holdB_mk H hn1 hn2 (fun x hx => (hT x hx).mono hT') (h.got))
  rw [hds] at hK
  simp only at hK
  unfold F24_3 F24_3b
  replace h := holdB_open h
  obtain ⟨hn', m', I', M', q2, dq2, ql2, qi2, H', hn1', hn2', hT2, e, h⟩ := h
  cases e
  have := map_one (h.frt (A := MapH kH ctxE ql2 m'))
  have := map_one (h.frt (A := MapH sgnV kH qi2 I'))
  obtain ⟨d, rfl⟩ := heap_ptr (h.frt (A := HeapH dq2 hn' M'))
  by_cases g3 : (l.length : Int) > n
  · have g3' : decide ((l.length : Int) > n) = true := by simpa using g3
    rw [if_pos (by simpa using g3)] at hK
    (repeat (first
 | (simp (disch := omega) only [evA, evB, evC, bAdd_i64, bSub_i64, hl, g3'])
 | (with_reducible apply go_ld1 h)
 | ((with_reducible first | apply go_ldA h | apply go_rd h | apply go_rdN h | apply go_rlen h); rfl)
 | (with_reducible first | apply go_ldN h | apply go_lenL h)
 | ((with_reducible apply go_st h); intro _ h)
 | ((with_reducible apply go_stA h); rfl; rfl; (first | rfl | simp [OneV.o]); intro _ h)
 | ((with_reducible apply go_stN h); rfl; (first | rfl | simp [OneV.o]); intro _ h)
 | ((with_reducible apply go_box h); rfl; intro _ _ h)
 | ((with_reducible apply go_ix h); omega)
 | ((with_reducible first | apply go_elN h | apply go_f1 h | apply go_rf1 h | apply go_rel h); (case hi => omega); (try case hx => exact inferInstance); (try case hv => rfl))
 | ((with_reducible apply go_fa h); omega; omega)
))
    exact hK T' _ hT' (holdB_mk H hn1 hn2 (fun x hx => (hT x hx).mono hT') (h.got))
  · have g3' : decide ((l.length : Int) > n) = false := by simpa using g3
    rw [if_neg (by simpa using g3)] at hK
    (repeat (first
 | (simp (disch := omega) only [evA, evB, evC, bAdd_i64, bSub_i64, hl, g3'])
 | (with_reducible apply go_ld1 h)
 | ((with_reducible first | apply go_ldA h | apply go_rd h | apply go_rdN h | apply go_rlen h); rfl)
 | (with_reducible first | apply go_ldN h | apply go_lenL h)
 | ((with_reducible apply go_st h); intro _ h)
 | ((with_reducible apply go_stA h); rfl; rfl; (first | rfl | simp [OneV.o]); intro _ h)
 | ((with_reducible apply go_stN h); rfl; (first | rfl | simp [OneV.o]); intro _ h)
 | ((with_reducible apply go_box h); rfl; intro _ _ h)
 | ((with_reducible apply go_ix h); omega)
 | ((with_reducible first | apply go_elN h | apply go_f1 h | apply go_rf1 h | apply go_rel h); (case hi => omega); (try case hx => exact inferInstance); (try case hv => rfl))
 | ((with_reducible apply go_fa h); omega; omega)
))
    have hds2 : ds.length = l.length := by have := loadL_len hds; simpa using this
    have hH := H.bd
    have hH' := H'.bd
    have hbd : (ds.length : Int) ≤ n ∧ 1 ≤ n ∧ n ≤ hn' ∧ hn' ≤ 65536 := by omega
    exact hK T' _ hT' (holdB_mk (hn := hn') (m := m') (I := I') (M := M') ⟨H'.pm, H'.key, H'.asc, H'.pI, H'.sg, H'.pM, H'.aM, hbd, H'.ok⟩ hn1' hn2' hT2 (h.got))
end
end Go.Proofs.Gong

/- Hs2 -/
namespace Go.Proofs.Gong
open Go Go.Sx Go.Proofs
set_option maxRecDepth 100000
theorem dropL_at {cs : List Ctx} {i : Nat} (ha : cs.Pairwise fun a b => a.id < b.id) (hi : i < cs.length) : dropL cs[i].id cs = cs.take i ++ cs.drop (i + 1) := by
  have e0 : cs = cs.take i ++ cs[i] :: cs.drop (i + 1) := by rw [← List.drop_eq_getElem_cons hi, List.take_append_drop]
  have h := ha
  rw [e0, List.pairwise_append] at h
  obtain ⟨_, h2, h3⟩ := h
  obtain ⟨c, hc⟩ : ∃ c, cs[i] = c := ⟨_, rfl⟩
  rw [hc] at h2 h3 e0 ⊢
  have h4 := (List.pairwise_cons.1 h2).1
  conv => lhs; rw [e0]
  exact dropL_split (fun d hd => by have := h3 d hd c (by simp); omega) (fun d hd => by have := h4 d hd; omega)
theorem turnL_set {cs : List Ctx} {c : Ctx} {i : Nat} (ha : cs.Pairwise fun a b => a.id < b.id) (hi : i < cs.length) (e : cs[i].id = c.id) : turnL c cs = cs.set i c := by
  unfold turnL
  refine List.ext_getElem (by simp) fun j h1 h2 => ?_
  have hj : j < cs.length := by simpa using h1
  rw [List.getElem_map, List.getElem_set]
  by_cases g : i = j
  · subst g; rw [if_pos e, if_pos rfl]
  · rw [if_neg g, if_neg]
    intro e2
    rcases Nat.lt_or_gt_of_ne g with h | h
    · have := List.pairwise_iff_getElem.1 ha i j hi hj h; omega
    · have := List.pairwise_iff_getElem.1 ha j i hj hi h; omega
theorem idx_eq {cs : List Ctx} {i j : Nat} (ha : cs.Pairwise fun a b => a.id < b.id) (hi : i < cs.length) (hj : j < cs.length) (e : cs[i] = cs[j]) : i = j := by
  rcases Nat.lt_trichotomy i j with h | h | h
  · have := List.pairwise_iff_getElem.1 ha i j hi hj h; rw [e] at this; omega
  · exact h
  · have := List.pairwise_iff_getElem.1 ha j i hj hi h; rw [e] at this; omega
attribute [local irreducible] fBuild fLook fZero eqv bEqv Cl MapH LsH SlH ld1 ldN st callP eBox eAlloc lenM lenL eMapSet eDelete eAppend eBuildSl eRange eNext
section
variable {w0 w : World} {L : List HP} {K : Value → World → Prop} {v : Value} {n next : Int} {cs : List Ctx} {c : Ctx} {tv s : Value} {T T' : TM} {xs : List (Ctx × SV)} {q : Nat}
def InP (T : TM) (xs : List (Ctx × SV)) : Prop := ∀ x ∈ xs, (x.2, x.1.times) ∈ T
theorem InP.mono (h : InP T xs) (hT : ∀ y ∈ T, y ∈ T') : InP T' xs := fun x hx => hT _ (h x hx)
abbrev RcC (q : Nat) (n next : Int) (s : Value) : HP := Cl q #[.int .i64 n, .int .i64 next, s] 45
def RefC (v : Value) (n next : Int) (cs : List Ctx) (T : TM) : HP := HEx fun q => HEx fun s => HEx fun xs => HPr ((xs.map Prod.fst = cs ∧ InP T xs) ∧ v = ptr q) (HSt (RcC q n next s) (LsH cX 11 36 s xs))
theorem refC_open (h : Sat w0 (RefC v n next cs T :: L) w) : ∃ q s xs, xs.map Prod.fst = cs ∧ InP T xs ∧ v = ptr q ∧ Sat w0 (RcC q n next s :: LsH cX 11 36 s xs :: L) w := by
  simp only [RefC, Sat.ex_iff, Sat.pr_iff, Sat.star_iff] at h
  obtain ⟨q, s, xs, ⟨⟨h1, h2⟩, h3⟩, h⟩ := h
  exact ⟨q, s, xs, h1, h2, h3, h⟩
theorem refC_mk (h1 : xs.map Prod.fst = cs) (h2 : InP T xs) (h : Sat w0 (RcC q n next s :: LsH cX 11 36 s xs :: L) w) : Sat w0 (RefC (ptr q) n next cs T :: L) w := by
  simp only [RefC, Sat.ex_iff, Sat.pr_iff, Sat.star_iff]
  exact ⟨q, s, xs, ⟨⟨h1, h2⟩, rfl⟩, h⟩
theorem refC_ptr (h : Sat w0 (RefC v n next cs T :: L) w) : ∃ q, v = ptr q := by
  obtain ⟨q, _, _, _, _, e, _⟩ := refC_open h
  exact ⟨q, e⟩
theorem refC_at (h : Sat w0 (RefC (ptr q) n next cs T :: L) w) : ∃ s xs, xs.map Prod.fst = cs ∧ InP T xs ∧ Sat w0 (RcC q n next s :: LsH cX 11 36 s xs :: L) w := by
  obtain ⟨q', s, xs, h1, h2, e, h⟩ := refC_open h
  cases e
  exact ⟨s, xs, h1, h2, h⟩
theorem refC_mono (hT : ∀ y ∈ T, y ∈ T') (h : Sat w0 (RefC v n next cs T :: L) w) : Sat w0 (RefC v n next cs T' :: L) w := by
  obtain ⟨q, rfl⟩ := refC_ptr h
  obtain ⟨s, xs, h1, h2, h⟩ := refC_at h
  exact refC_mk h1 (h2.mono hT) h
theorem rcnew_spec (h : Sat w0 L w) (hK0 : (n < 1 ∨ 65536 < n) → K (.tuple #[.pointer none, .int .i64 1]) w) (hK1 : 1 ≤ n → n ≤ 65536 → ∀ p w', Sat w0 (RefC (ptr p) n 1 [] T :: L) w' → K (.tuple #[ptr p, .int .i64 0]) w') : callP G5 [.int .i64 n] w K := by
  refine c5 ?_
  unfold F5
  by_cases g1 : n < 1
  · have g1' : decide (n < 1) = true := by simpa using g1
    (repeat (first
 | (simp (disch := omega) only [evA, evB, evC, bAdd_i64, bSub_i64, g1'])
 | (with_reducible apply go_ld1 h)
 | ((with_reducible first | apply go_ldA h | apply go_rd h | apply go_rdN h | apply go_rlen h); rfl)
 | (with_reducible first | apply go_ldN h | apply go_lenL h)
 | ((with_reducible apply go_st h); intro _ h)
 | ((with_reducible apply go_stA h); rfl; rfl; (first | rfl | simp [OneV.o]); intro _ h)
 | ((with_reducible apply go_stN h); rfl; (first | rfl | simp [OneV.o]); intro _ h)
 | ((with_reducible apply go_box h); rfl; intro _ _ h)
 | ((with_reducible apply go_ix h); omega)
 | ((with_reducible first | apply go_elN h | apply go_f1 h | apply go_rf1 h | apply go_rel h); (case hi => omega); (try case hx => exact inferInstance); (try case hv => rfl))
 | ((with_reducible apply go_fa h); omega; omega)
))
    exact hK0 (.inl g1)
  have g1' : decide (n < 1) = false := by simpa using g1
  by_cases g2 : n > 65536
  · have g2' : decide (n > 65536) = true := by simpa using g2
    (repeat (first
 | (simp (disch := omega) only [evA, evB, evC, bAdd_i64, bSub_i64, g1', g2'])
 | (with_reducible apply go_ld1 h)
 | ((with_reducible first | apply go_ldA h | apply go_rd h | apply go_rdN h | apply go_rlen h); rfl)
 | (with_reducible first | apply go_ldN h | apply go_lenL h)
 | ((with_reducible apply go_st h); intro _ h)
 | ((with_reducible apply go_stA h); rfl; rfl; (first | rfl | simp [OneV.o]); intro _ h)
 | ((with_reducible apply go_stN h); rfl; (first | rfl | simp [OneV.o]); intro _ h)
 | ((with_reducible apply go_box h); rfl; intro _ _ h)
 | ((with_reducible apply go_ix h); omega)
 | ((with_reducible first | apply go_elN h | apply go_f1 h | apply go_rf1 h | apply go_rel h); (case hi => omega); (try case hx => exact inferInstance); (try case hv => rfl))
 | ((with_reducible apply go_fa h); omega; omega)
))
    exact hK0 (.inr g2)
  have g2' : decide (n > 65536) = false := by simpa using g2
  have eb : fBuild Tryz.prog 45 [(0, .int .i64 n), (1, .int .i64 1)] = some (.agg #[.int .i64 n, .int .i64 1, .slice none 0 0]) := by kernel_rfl
  have h := Sat.nilLs cX 11 36 h
  (repeat (first
 | (simp (disch := omega) only [evA, evB, evC, bAdd_i64, bSub_i64, g1', g2'])
 | (refine go_some (eb ..) ?_)
 | (with_reducible apply go_ld1 h)
 | ((with_reducible first | apply go_ldA h | apply go_rd h | apply go_rdN h | apply go_rlen h); rfl)
 | (with_reducible first | apply go_ldN h | apply go_lenL h)
 | ((with_reducible apply go_st h); intro _ h)
 | ((with_reducible apply go_stA h); rfl; rfl; (first | rfl | simp [OneV.o]); intro _ h)
 | ((with_reducible apply go_stN h); rfl; (first | rfl | simp [OneV.o]); intro _ h)
 | ((with_reducible apply go_box h); rfl; intro _ _ h)
 | ((with_reducible apply go_ix h); omega)
 | ((with_reducible first | apply go_elN h | apply go_f1 h | apply go_rf1 h | apply go_rel h); (case hi => omega); (try case hx => exact inferInstance); (try case hv => rfl))
 | ((with_reducible apply go_fa h); omega; omega)
))
  exact hK1 (by omega) (by omega) _ _ (refC_mk (xs := []) rfl (by intro x hx; cases hx) h)
theorem copied_spec (hl : c.times.length ≤ 1073741824) (hr : RdL w0 L cI 1 tv c.times) (ho : OneV tv) (h : Sat w0 L w) (hK : ∀ sv w', Sat w0 (LsH cI 1 3 (svV sv) c.times :: L) w' → K (ctxV c (svV sv)) w') : callP G13 [ctxV c tv] w K := by
  refine c13 ?_
  unfold F13
  (repeat (first
 | (simp (disch := omega) only [evA, evB, evC, bAdd_i64, bSub_i64])
 | (with_reducible apply go_ld1 h)
 | ((with_reducible first | apply go_ldA h | apply go_rd h | apply go_rdN h | apply go_rlen h); rfl)
 | (with_reducible first | apply go_ldN h | apply go_lenL h)
 | ((with_reducible apply go_st h); intro _ h)
 | ((with_reducible apply go_stA h); rfl; rfl; (first | rfl | simp [OneV.o]); intro _ h)
 | ((with_reducible apply go_stN h); rfl; (first | rfl | simp [OneV.o]); intro _ h)
 | ((with_reducible apply go_box h); rfl; intro _ _ h)
 | ((with_reducible apply go_ix h); omega)
 | ((with_reducible first | apply go_elN h | apply go_f1 h | apply go_rf1 h | apply go_rel h); (case hi => omega); (try case hx => exact inferInstance); (try case hv => rfl))
 | ((with_reducible apply go_fa h); omega; omega)
))
  refine go_alloc h zc41 rfl fun _ _ h => ?_
  (repeat (first
 | (simp (disch := omega) only [evA, evB, evC, bAdd_i64, bSub_i64])
 | (with_reducible apply go_ld1 h)
 | ((with_reducible first | apply go_ldA h | apply go_rd h | apply go_rdN h | apply go_rlen h); rfl)
 | (with_reducible first | apply go_ldN h | apply go_lenL h)
 | ((with_reducible apply go_st h); intro _ h)
 | ((with_reducible apply go_stA h); rfl; rfl; (first | rfl | simp [OneV.o]); intro _ h)
 | ((with_reducible apply go_stN h); rfl; (first | rfl | simp [OneV.o]); intro _ h)
 | ((with_reducible apply go_box h); rfl; intro _ _ h)
 | ((with_reducible apply go_ix h); omega)
 | ((with_reducible first | apply go_elN h | apply go_f1 h | apply go_rf1 h | apply go_rel h); (case hi => omega); (try case hx => exact inferInstance); (try case hv => rfl))
 | ((with_reducible apply go_fa h); omega; omega)
))
  refine go_lit0 CI h u34 (by kernel_rfl) fun s1 w h => ?_
  (repeat (first
 | (simp (disch := omega) only [evA, evB, evC, bAdd_i64, bSub_i64])
 | (with_reducible apply go_ld1 h)
 | ((with_reducible first | apply go_ldA h | apply go_rd h | apply go_rdN h | apply go_rlen h); rfl)
 | (with_reducible first | apply go_ldN h | apply go_lenL h)
 | ((with_reducible apply go_st h); intro _ h)
 | ((with_reducible apply go_stA h); rfl; rfl; (first | rfl | simp [OneV.o]); intro _ h)
 | ((with_reducible apply go_stN h); rfl; (first | rfl | simp [OneV.o]); intro _ h)
 | ((with_reducible apply go_box h); rfl; intro _ _ h)
 | ((with_reducible apply go_ix h); omega)
 | ((with_reducible first | apply go_elN h | apply go_f1 h | apply go_rf1 h | apply go_rel h); (case hi => omega); (try case hx => exact inferInstance); (try case hv => rfl))
 | ((with_reducible apply go_fa h); omega; omega)
))
  refine ls_app (l := []) (m := c.times) CI h sl34 ss34 (hr w (h.got)) (by simp; omega) fun s2 w h => ?_
  rw [List.nil_append] at h
  obtain ⟨a1, c1, rfl, _⟩ := (ls_rd h).cap
  (repeat (first
 | (simp (disch := omega) only [evA, evB, evC, bAdd_i64, bSub_i64])
 | (with_reducible apply go_ld1 h)
 | ((with_reducible first | apply go_ldA h | apply go_rd h | apply go_rdN h | apply go_rlen h); rfl)
 | (with_reducible first | apply go_ldN h | apply go_lenL h)
 | ((with_reducible apply go_st h); intro _ h)
 | ((with_reducible apply go_stA h); rfl; rfl; (first | rfl | simp [OneV.o]); intro _ h)
 | ((with_reducible apply go_stN h); rfl; (first | rfl | simp [OneV.o]); intro _ h)
 | ((with_reducible apply go_box h); rfl; intro _ _ h)
 | ((with_reducible apply go_ix h); omega)
 | ((with_reducible first | apply go_elN h | apply go_f1 h | apply go_rf1 h | apply go_rel h); (case hi => omega); (try case hx => exact inferInstance); (try case hv => rfl))
 | ((with_reducible apply go_fa h); omega; omega)
))
  exact hK (a1, c.times.length, c1) _ (h.got)
theorem place_loop {g : Sgn} (hl : xs.length ≤ 1073741824) (h : Sat w0 (RcC q n next s :: LsH cX 11 36 s xs :: L) w) (hK0 : (∀ x ∈ xs, sgnOf x.1 ≠ g) → K (.int .i64 (-1)) w) (hK1 : ∀ (i : Nat) (hi : i < xs.length), sgnOf xs[i].1 = g → K (.int .i64 i) w) :
    ∀ (d i : Nat), xs.length - i < d → i ≤ xs.length → (∀ x ∈ xs.take i, sgnOf x.1 ≠ g) → F37_2L d (ptr q) (.int .i64 g.watch) (.string (bs g.node)) (.string (bs g.key)) (.int .i64 i) w K := by
  intro d
  induction d with
  | zero => intro i hd; omega
  | succ d ih =>
    intro i hd hi hno
    rw [F37_2L]
    unfold F37_2b
    by_cases gi : i < xs.length
    · have g' : decide ((i : Int) < (xs.length : Int)) = true := by simpa using gi
      have hes : sgnOf xs[i].1 = ⟨xs[i].1.watch, xs[i].1.node, xs[i].1.key⟩ := rfl
      have nx : sgnOf xs[i].1 ≠ g → F37_2L d (ptr q) (.int .i64 g.watch) (.string (bs g.node)) (.string (bs g.key)) (.int .i64 ((i : Int) + 1)) w K := fun hne => ih (i + 1) (by omega) (by omega) (fun x hx => by
        rw [List.take_succ_eq_append_getElem gi] at hx
        rcases List.mem_append.1 hx with hx | hx
        · exact hno x hx
        · simp at hx; subst hx; exact hne)
      cases e1 : decide (xs[i].1.watch = g.watch)
      · have nx := nx (fun e => by rw [← e] at e1; simp [hes] at e1)
        (repeat (first
 | (simp (disch := omega) only [evA, evB, evC, bAdd_i64, bSub_i64, g', e1])
 | (with_reducible apply go_ld1 h)
 | ((with_reducible first | apply go_ldA h | apply go_rd h | apply go_rdN h | apply go_rlen h); rfl)
 | (with_reducible first | apply go_ldN h | apply go_lenL h)
 | ((with_reducible apply go_st h); intro _ h)
 | ((with_reducible apply go_stA h); rfl; rfl; (first | rfl | simp [OneV.o]); intro _ h)
 | ((with_reducible apply go_stN h); rfl; (first | rfl | simp [OneV.o]); intro _ h)
 | ((with_reducible apply go_box h); rfl; intro _ _ h)
 | ((with_reducible apply go_ix h); omega)
 | ((with_reducible first | apply go_elN h | apply go_f1 h | apply go_rf1 h | apply go_rel h); (case hi => omega); (try case hx => exact inferInstance); (try case hv => rfl))
 | ((with_reducible apply go_fa h); omega; omega)
))
        exact nx
      cases e2 : decide (xs[i].1.node = g.node)
      · have nx := nx (fun e => by rw [← e] at e2; simp [hes] at e2)
        (repeat (first
 | (simp (disch := omega) only [evA, evB, evC, bAdd_i64, bSub_i64, g', e1, e2])
 | (with_reducible apply go_ld1 h)
 | ((with_reducible first | apply go_ldA h | apply go_rd h | apply go_rdN h | apply go_rlen h); rfl)
 | (with_reducible first | apply go_ldN h | apply go_lenL h)
 | ((with_reducible apply go_st h); intro _ h)
 | ((with_reducible apply go_stA h); rfl; rfl; (first | rfl | simp [OneV.o]); intro _ h)
 | ((with_reducible apply go_stN h); rfl; (first | rfl | simp [OneV.o]); intro _ h)
 | ((with_reducible apply go_box h); rfl; intro _ _ h)
 | ((with_reducible apply go_ix h); omega)
 | ((with_reducible first | apply go_elN h | apply go_f1 h | apply go_rf1 h | apply go_rel h); (case hi => omega); (try case hx => exact inferInstance); (try case hv => rfl))
 | ((with_reducible apply go_fa h); omega; omega)
))
        exact nx
      cases e3 : decide (xs[i].1.key = g.key)
      · have nx := nx (fun e => by rw [← e] at e3; simp [hes] at e3)
        (repeat (first
 | (simp (disch := omega) only [evA, evB, evC, bAdd_i64, bSub_i64, g', e1, e2, e3])
 | (with_reducible apply go_ld1 h)
 | ((with_reducible first | apply go_ldA h | apply go_rd h | apply go_rdN h | apply go_rlen h); rfl)
 | (with_reducible first | apply go_ldN h | apply go_lenL h)
 | ((with_reducible apply go_st h); intro _ h)
 | ((with_reducible apply go_stA h); rfl; rfl; (first | rfl | simp [OneV.o]); intro _ h)
 | ((with_reducible apply go_stN h); rfl; (first | rfl | simp [OneV.o]); intro _ h)
 | ((with_reducible apply go_box h); rfl; intro _ _ h)
 | ((with_reducible apply go_ix h); omega)
 | ((with_reducible first | apply go_elN h | apply go_f1 h | apply go_rf1 h | apply go_rel h); (case hi => omega); (try case hx => exact inferInstance); (try case hv => rfl))
 | ((with_reducible apply go_fa h); omega; omega)
))
        exact nx
      have fin := hK1 i gi (by
        simp only [decide_eq_true_eq] at e1 e2 e3
        rw [hes, e1, e2, e3])
      (repeat (first
 | (simp (disch := omega) only [evA, evB, evC, bAdd_i64, bSub_i64, g', e1, e2, e3])
 | (with_reducible apply go_ld1 h)
 | ((with_reducible first | apply go_ldA h | apply go_rd h | apply go_rdN h | apply go_rlen h); rfl)
 | (with_reducible first | apply go_ldN h | apply go_lenL h)
 | ((with_reducible apply go_st h); intro _ h)
 | ((with_reducible apply go_stA h); rfl; rfl; (first | rfl | simp [OneV.o]); intro _ h)
 | ((with_reducible apply go_stN h); rfl; (first | rfl | simp [OneV.o]); intro _ h)
 | ((with_reducible apply go_box h); rfl; intro _ _ h)
 | ((with_reducible apply go_ix h); omega)
 | ((with_reducible first | apply go_elN h | apply go_f1 h | apply go_rf1 h | apply go_rel h); (case hi => omega); (try case hx => exact inferInstance); (try case hv => rfl))
 | ((with_reducible apply go_fa h); omega; omega)
))
      exact fin
    · have g' : decide ((i : Int) < (xs.length : Int)) = false := by simpa using gi
      have e : i = xs.length := by omega
      subst e
      rw [List.take_length] at hno
      (repeat (first
 | (simp (disch := omega) only [evA, evB, evC, bAdd_i64, bSub_i64, g'])
 | (with_reducible apply go_ld1 h)
 | ((with_reducible first | apply go_ldA h | apply go_rd h | apply go_rdN h | apply go_rlen h); rfl)
 | (with_reducible first | apply go_ldN h | apply go_lenL h)
 | ((with_reducible apply go_st h); intro _ h)
 | ((with_reducible apply go_stA h); rfl; rfl; (first | rfl | simp [OneV.o]); intro _ h)
 | ((with_reducible apply go_stN h); rfl; (first | rfl | simp [OneV.o]); intro _ h)
 | ((with_reducible apply go_box h); rfl; intro _ _ h)
 | ((with_reducible apply go_ix h); omega)
 | ((with_reducible first | apply go_elN h | apply go_f1 h | apply go_rf1 h | apply go_rel h); (case hi => omega); (try case hx => exact inferInstance); (try case hv => rfl))
 | ((with_reducible apply go_fa h); omega; omega)
))
      unfold F37_3 F37_3b
      exact hK0 hno
theorem place_spec {g : Sgn} (hl : xs.length ≤ 1073741824) (h : Sat w0 (RcC q n next s :: LsH cX 11 36 s xs :: L) w) (hK0 : (∀ x ∈ xs, sgnOf x.1 ≠ g) → K (.int .i64 (-1)) w) (hK1 : ∀ (i : Nat) (hi : i < xs.length), sgnOf xs[i].1 = g → K (.int .i64 i) w) :
    callP G37 [ptr q, .int .i64 g.watch, .string (bs g.node), .string (bs g.key)] w K := by
  refine c37 ?_
  unfold F37 F37_1 F37_1b F37_2
  exact place_loop hl h hK0 hK1 fuel 0 (by unfold fuel; omega) (by omega) (by simp)
theorem at_loop {id : Int} (hl : xs.length ≤ 1073741824) (h : Sat w0 (RcC q n next s :: LsH cX 11 36 s xs :: L) w) (hK0 : (∀ x ∈ xs, x.1.id ≠ id) → K (.int .i64 (-1)) w) (hK1 : ∀ (i : Nat) (hi : i < xs.length), xs[i].1.id = id → K (.int .i64 i) w) :
    ∀ (d i : Nat), xs.length - i < d → i ≤ xs.length → (∀ x ∈ xs.take i, x.1.id ≠ id) → F38_2L d (ptr q) (.int .i64 id) (.int .i64 i) w K := by
  intro d
  induction d with
  | zero => intro i hd; omega
  | succ d ih =>
    intro i hd hi hno
    rw [F38_2L]
    unfold F38_2b
    by_cases gi : i < xs.length
    · have g' : decide ((i : Int) < (xs.length : Int)) = true := by simpa using gi
      by_cases g1 : xs[i].1.id = id
      · have g1' : decide (xs[i].1.id = id) = true := by simpa using g1
        have fin := hK1 i gi g1
        (repeat (first
 | (simp (disch := omega) only [evA, evB, evC, bAdd_i64, bSub_i64, g', g1'])
 | (with_reducible apply go_ld1 h)
 | ((with_reducible first | apply go_ldA h | apply go_rd h | apply go_rdN h | apply go_rlen h); rfl)
 | (with_reducible first | apply go_ldN h | apply go_lenL h)
 | ((with_reducible apply go_st h); intro _ h)
 | ((with_reducible apply go_stA h); rfl; rfl; (first | rfl | simp [OneV.o]); intro _ h)
 | ((with_reducible apply go_stN h); rfl; (first | rfl | simp [OneV.o]); intro _ h)
 | ((with_reducible apply go_box h); rfl; intro _ _ h)
 | ((with_reducible apply go_ix h); omega)
 | ((with_reducible first | apply go_elN h | apply go_f1 h | apply go_rf1 h | apply go_rel h); (case hi => omega); (try case hx => exact inferInstance); (try case hv => rfl))
 | ((with_reducible apply go_fa h); omega; omega)
))
        exact fin
      · have g1' : decide (xs[i].1.id = id) = false := by simpa using g1
        have nx := ih (i + 1) (by omega) (by omega) (fun x hx => by
          rw [List.take_succ_eq_append_getElem gi] at hx
          rcases List.mem_append.1 hx with hx | hx
          · exact hno x hx
          · simp at hx; subst hx; exact g1)
        (repeat (first
 | (simp (disch := omega) only [evA, evB, evC, bAdd_i64, bSub_i64, g', g1'])
 | (with_reducible apply go_ld1 h)
 | ((with_reducible first | apply go_ldA h | apply go_rd h | apply go_rdN h | apply go_rlen h); rfl)
 | (with_reducible first | apply go_ldN h | apply go_lenL h)
 | ((with_reducible apply go_st h); intro _ h)
 | ((with_reducible apply go_stA h); rfl; rfl; (first | rfl | simp [OneV.o]); intro _ h)
 | ((with_reducible apply go_stN h); rfl; (first | rfl | simp [OneV.o]); intro _ h)
 | ((with_reducible apply go_box h); rfl; intro _ _ h)
 | ((with_reducible apply go_ix h); omega)
 | ((with_reducible first | apply go_elN h | apply go_f1 h | apply go_rf1 h | apply go_rel h); (case hi => omega); (try case hx => exact inferInstance); (try case hv => rfl))
 | ((with_reducible apply go_fa h); omega; omega)
))
        exact nx
    · have g' : decide ((i : Int) < (xs.length : Int)) = false := by simpa using gi
      have e : i = xs.length := by omega
      subst e
      rw [List.take_length] at hno
      (repeat (first
 | (simp (disch := omega) only [evA, evB, evC, bAdd_i64, bSub_i64, g'])
 | (with_reducible apply go_ld1 h)
 | ((with_reducible first | apply go_ldA h | apply go_rd h | apply go_rdN h | apply go_rlen h); rfl)
 | (with_reducible first | apply go_ldN h | apply go_lenL h)
 | ((with_reducible apply go_st h); intro _ h)
 | ((with_reducible apply go_stA h); rfl; rfl; (first | rfl | simp [OneV.o]); intro _ h)
 | ((with_reducible apply go_stN h); rfl; (first | rfl | simp [OneV.o]); intro _ h)
 | ((with_reducible apply go_box h); rfl; intro _ _ h)
 | ((with_reducible apply go_ix h); omega)
 | ((with_reducible first | apply go_elN h | apply go_f1 h | apply go_rf1 h | apply go_rel h); (case hi => omega); (try case hx => exact inferInstance); (try case hv => rfl))
 | ((with_reducible apply go_fa h); omega; omega)
))
      unfold F38_3 F38_3b
      exact hK0 hno
theorem at_spec {id : Int} (hl : xs.length ≤ 1073741824) (h : Sat w0 (RcC q n next s :: LsH cX 11 36 s xs :: L) w) (hK0 : (∀ x ∈ xs, x.1.id ≠ id) → K (.int .i64 (-1)) w) (hK1 : ∀ (i : Nat) (hi : i < xs.length), xs[i].1.id = id → K (.int .i64 i) w) :
    callP G38 [ptr q, .int .i64 id] w K := by
  refine c38 ?_
  unfold F38 F38_1 F38_1b F38_2
  exact at_loop hl h hK0 hK1 fuel 0 (by unfold fuel; omega) (by omega) (by simp)
theorem rcfind_spec {wa : Int} {no ke : List UInt8} (hl : cs.length ≤ 65536) (hft : ∀ c ∈ cs, c.times.length ≤ 1073741824) (h : Sat w0 (RefC v n next cs T :: Pool T :: L) w)
    (hK0 : (∀ d ∈ cs, sgnOf d ≠ ⟨wa, no, ke⟩) → ∀ w', Sat w0 (RefC v n next cs T :: Pool T :: L) w' → K (.tuple #[ctxV zeroC (.slice none 0 0), .bool false]) w')
    (hK1 : ∀ c ∈ cs, sgnOf c = ⟨wa, no, ke⟩ → ∀ sv w', Sat w0 (LsH cI 1 3 (svV sv) c.times :: RefC v n next cs T :: Pool T :: L) w' → K (.tuple #[ctxV c (svV sv), .bool true]) w') : callP G27 [v, .int .i64 wa, .string (bs no), .string (bs ke)] w K := by
  obtain ⟨q, rfl⟩ := refC_ptr h
  replace h := refC_at h
  obtain ⟨s, xs, hx, hP, h⟩ := h
  have hxl : xs.length = cs.length := by rw [← hx]; simp
  refine c27 ?_
  unfold F27
  refine go_alloc h zc41 rfl fun qa _ h => ?_
  refine place_spec (g := ⟨wa, no, ke⟩) (by omega) (h.got : Sat w0 (RcC q n next s :: LsH cX 11 36 s xs :: Cl qa _ _ :: Pool T :: L) _) (fun hno => ?_) (fun i hi e => ?_)
  · have g0 : decide ((-1 : Int) < 0) = true := by decide
    (repeat (first
 | (simp (disch := omega) only [evA, evB, evC, bAdd_i64, bSub_i64, g0])
 | (refine go_some (fb36 ..) ?_)
 | (with_reducible apply go_ld1 h)
 | ((with_reducible first | apply go_ldA h | apply go_rd h | apply go_rdN h | apply go_rlen h); rfl)
 | (with_reducible first | apply go_ldN h | apply go_lenL h)
 | ((with_reducible apply go_st h); intro _ h)
 | ((with_reducible apply go_stA h); rfl; rfl; (first | rfl | simp [OneV.o]); intro _ h)
 | ((with_reducible apply go_stN h); rfl; (first | rfl | simp [OneV.o]); intro _ h)
 | ((with_reducible apply go_box h); rfl; intro _ _ h)
 | ((with_reducible apply go_ix h); omega)
 | ((with_reducible first | apply go_elN h | apply go_f1 h | apply go_rf1 h | apply go_rel h); (case hi => omega); (try case hx => exact inferInstance); (try case hv => rfl))
 | ((with_reducible apply go_fa h); omega; omega)
))
    refine hK0 (fun d hd => ?_) _ (refC_mk hx hP (h.got))
    rw [← hx] at hd
    obtain ⟨x, hx2, rfl⟩ := List.mem_map.1 hd
    exact hno x hx2
  · have g0 : decide ((i : Int) < 0) = false := by simp
    have hm : xs[i].1 ∈ cs := by rw [← hx]; exact List.mem_map.2 ⟨xs[i], List.getElem_mem hi, rfl⟩
    have hp := hP _ (List.getElem_mem hi)
    (repeat (first
 | (simp (disch := omega) only [evA, evB, evC, bAdd_i64, bSub_i64, g0])
 | (with_reducible apply go_ld1 h)
 | ((with_reducible first | apply go_ldA h | apply go_rd h | apply go_rdN h | apply go_rlen h); rfl)
 | (with_reducible first | apply go_ldN h | apply go_lenL h)
 | ((with_reducible apply go_st h); intro _ h)
 | ((with_reducible apply go_stA h); rfl; rfl; (first | rfl | simp [OneV.o]); intro _ h)
 | ((with_reducible apply go_stN h); rfl; (first | rfl | simp [OneV.o]); intro _ h)
 | ((with_reducible apply go_box h); rfl; intro _ _ h)
 | ((with_reducible apply go_ix h); omega)
 | ((with_reducible first | apply go_elN h | apply go_f1 h | apply go_rf1 h | apply go_rel h); (case hi => omega); (try case hx => exact inferInstance); (try case hv => rfl))
 | ((with_reducible apply go_fa h); omega; omega)
))
    refine copied_spec (c := xs[i].1) (tv := svV xs[i].2) (hft _ hm) (RdL.get (pool_rd (L := Pool T :: L) hp .here) (by (repeat (first | exact .done | (refine .pick (by repeat (first | exact .here | apply Fnt.there)) ?_) | refine .skip ?_)))) inferInstance h fun sv w h => ?_
    (repeat (first
 | (simp (disch := omega) only [evA, evB, evC, bAdd_i64, bSub_i64])
 | (with_reducible apply go_ld1 h)
 | ((with_reducible first | apply go_ldA h | apply go_rd h | apply go_rdN h | apply go_rlen h); rfl)
 | (with_reducible first | apply go_ldN h | apply go_lenL h)
 | ((with_reducible apply go_st h); intro _ h)
 | ((with_reducible apply go_stA h); rfl; rfl; (first | rfl | simp [OneV.o]); intro _ h)
 | ((with_reducible apply go_stN h); rfl; (first | rfl | simp [OneV.o]); intro _ h)
 | ((with_reducible apply go_box h); rfl; intro _ _ h)
 | ((with_reducible apply go_ix h); omega)
 | ((with_reducible first | apply go_elN h | apply go_f1 h | apply go_rf1 h | apply go_rel h); (case hi => omega); (try case hx => exact inferInstance); (try case hv => rfl))
 | ((with_reducible apply go_fa h); omega; omega)
))
    refine hK1 _ hm e sv _ ?_
    exact Sat.f1 (refC_mk hx hP (h.got))
theorem rcdrop_spec {id : Int} (hl : cs.length ≤ 65536) (ha : cs.Pairwise fun a b => a.id < b.id) (h : Sat w0 (RefC v n next cs T :: L) w)
    (hK0 : (∀ c ∈ cs, c.id ≠ id) → ∀ w', Sat w0 (RefC v n next cs T :: L) w' → K (.tuple #[ctxV zeroC (.slice none 0 0), .int .i64 5]) w')
    (hK1 : ∀ c ∈ cs, c.id = id → ∀ sv, (sv, c.times) ∈ T → ∀ w', Sat w0 (RefC v n next (dropL id cs) T :: L) w' → K (.tuple #[ctxV c (svV sv), .int .i64 0]) w') : callP G20 [v, .int .i64 id] w K := by
  obtain ⟨q, rfl⟩ := refC_ptr h
  replace h := refC_at h
  obtain ⟨s, xs, hx, hP, h⟩ := h
  have hxl : xs.length = cs.length := by rw [← hx]; simp
  refine c20 ?_
  unfold F20
  refine go_alloc h zc41 rfl fun qa _ h => ?_
  refine at_spec (id := id) (by omega) (h.got : Sat w0 (RcC q n next s :: LsH cX 11 36 s xs :: Cl qa _ _ :: L) _) (fun hno => ?_) (fun i hi e => ?_)
  · have g0 : decide ((-1 : Int) < 0) = true := by decide
    (repeat (first
 | (simp (disch := omega) only [evA, evB, evC, bAdd_i64, bSub_i64, g0])
 | (refine go_some (fb36 ..) ?_)
 | (with_reducible apply go_ld1 h)
 | ((with_reducible first | apply go_ldA h | apply go_rd h | apply go_rdN h | apply go_rlen h); rfl)
 | (with_reducible first | apply go_ldN h | apply go_lenL h)
 | ((with_reducible apply go_st h); intro _ h)
 | ((with_reducible apply go_stA h); rfl; rfl; (first | rfl | simp [OneV.o]); intro _ h)
 | ((with_reducible apply go_stN h); rfl; (first | rfl | simp [OneV.o]); intro _ h)
 | ((with_reducible apply go_box h); rfl; intro _ _ h)
 | ((with_reducible apply go_ix h); omega)
 | ((with_reducible first | apply go_elN h | apply go_f1 h | apply go_rf1 h | apply go_rel h); (case hi => omega); (try case hx => exact inferInstance); (try case hv => rfl))
 | ((with_reducible apply go_fa h); omega; omega)
))
    refine hK0 (fun d hd => ?_) _ (refC_mk hx hP (h.got))
    rw [← hx] at hd
    obtain ⟨x, hx2, rfl⟩ := List.mem_map.1 hd
    exact hno x hx2
  · have g0 : decide ((i : Int) < 0) = false := by simp
    have hm : xs[i].1 ∈ cs := by rw [← hx]; exact List.mem_map.2 ⟨xs[i], List.getElem_mem hi, rfl⟩
    have hp := hP _ (List.getElem_mem hi)
    have e1 : ((i : Int) + 1) = ((i + 1 : Nat) : Int) := by omega
    (repeat (first
 | (simp (disch := omega) only [evA, evB, evC, bAdd_i64, bSub_i64, g0])
 | (with_reducible apply go_ld1 h)
 | ((with_reducible first | apply go_ldA h | apply go_rd h | apply go_rdN h | apply go_rlen h); rfl)
 | (with_reducible first | apply go_ldN h | apply go_lenL h)
 | ((with_reducible apply go_st h); intro _ h)
 | ((with_reducible apply go_stA h); rfl; rfl; (first | rfl | simp [OneV.o]); intro _ h)
 | ((with_reducible apply go_stN h); rfl; (first | rfl | simp [OneV.o]); intro _ h)
 | ((with_reducible apply go_box h); rfl; intro _ _ h)
 | ((with_reducible apply go_ix h); omega)
 | ((with_reducible first | apply go_elN h | apply go_f1 h | apply go_rf1 h | apply go_rel h); (case hi => omega); (try case hx => exact inferInstance); (try case hv => rfl))
 | ((with_reducible apply go_fa h); omega; omega)
))
    refine go_alloc h zc41 rfl fun qb _ h => ?_
    (repeat (first
 | (simp (disch := omega) only [evA, evB, evC, bAdd_i64, bSub_i64, e1])
 | (with_reducible apply go_ld1 h)
 | ((with_reducible first | apply go_ldA h | apply go_rd h | apply go_rdN h | apply go_rlen h); rfl)
 | (with_reducible first | apply go_ldN h | apply go_lenL h)
 | ((with_reducible apply go_st h); intro _ h)
 | ((with_reducible apply go_stA h); rfl; rfl; (first | rfl | simp [OneV.o]); intro _ h)
 | ((with_reducible apply go_stN h); rfl; (first | rfl | simp [OneV.o]); intro _ h)
 | ((with_reducible apply go_box h); rfl; intro _ _ h)
 | ((with_reducible apply go_ix h); omega)
 | ((with_reducible first | apply go_elN h | apply go_f1 h | apply go_rf1 h | apply go_rel h); (case hi => omega); (try case hx => exact inferInstance); (try case hv => rfl))
 | ((with_reducible apply go_fa h); omega; omega)
))
    refine go_subTo' h.drew (i := i) (by omega) fun v1 r1 => ?_
    (repeat (first
 | (simp (disch := omega) only [evA, evB, evC, bAdd_i64, bSub_i64, e1])
 | (with_reducible apply go_ld1 h)
 | ((with_reducible first | apply go_ldA h | apply go_rd h | apply go_rdN h | apply go_rlen h); rfl)
 | (with_reducible first | apply go_ldN h | apply go_lenL h)
 | ((with_reducible apply go_st h); intro _ h)
 | ((with_reducible apply go_stA h); rfl; rfl; (first | rfl | simp [OneV.o]); intro _ h)
 | ((with_reducible apply go_stN h); rfl; (first | rfl | simp [OneV.o]); intro _ h)
 | ((with_reducible apply go_box h); rfl; intro _ _ h)
 | ((with_reducible apply go_ix h); omega)
 | ((with_reducible first | apply go_elN h | apply go_f1 h | apply go_rf1 h | apply go_rel h); (case hi => omega); (try case hx => exact inferInstance); (try case hv => rfl))
 | ((with_reducible apply go_fa h); omega; omega)
))
    refine go_subFrom' h.drew (i := i + 1) (by omega) fun v2 r2 => ?_
    refine go_lit0 CX h.drew u37 (by kernel_rfl) fun s2 w h => ?_
    (repeat (first
 | (simp (disch := omega) only [evA, evB, evC, bAdd_i64, bSub_i64])
 | (with_reducible apply go_ld1 h)
 | ((with_reducible first | apply go_ldA h | apply go_rd h | apply go_rdN h | apply go_rlen h); rfl)
 | (with_reducible first | apply go_ldN h | apply go_lenL h)
 | ((with_reducible apply go_st h); intro _ h)
 | ((with_reducible apply go_stA h); rfl; rfl; (first | rfl | simp [OneV.o]); intro _ h)
 | ((with_reducible apply go_stN h); rfl; (first | rfl | simp [OneV.o]); intro _ h)
 | ((with_reducible apply go_box h); rfl; intro _ _ h)
 | ((with_reducible apply go_ix h); omega)
 | ((with_reducible first | apply go_elN h | apply go_f1 h | apply go_rf1 h | apply go_rel h); (case hi => omega); (try case hx => exact inferInstance); (try case hv => rfl))
 | ((with_reducible apply go_fa h); omega; omega)
))
    refine ls_app (l := []) (m := xs.take i) CX h sl37 ss37 (r1 h inferInstance) (by simp; omega) fun s3 w h => ?_
    rw [List.nil_append] at h
    (repeat (first
 | (simp (disch := omega) only [evA, evB, evC, bAdd_i64, bSub_i64])
 | (with_reducible apply go_ld1 h)
 | ((with_reducible first | apply go_ldA h | apply go_rd h | apply go_rdN h | apply go_rlen h); rfl)
 | (with_reducible first | apply go_ldN h | apply go_lenL h)
 | ((with_reducible apply go_st h); intro _ h)
 | ((with_reducible apply go_stA h); rfl; rfl; (first | rfl | simp [OneV.o]); intro _ h)
 | ((with_reducible apply go_stN h); rfl; (first | rfl | simp [OneV.o]); intro _ h)
 | ((with_reducible apply go_box h); rfl; intro _ _ h)
 | ((with_reducible apply go_ix h); omega)
 | ((with_reducible first | apply go_elN h | apply go_f1 h | apply go_rf1 h | apply go_rel h); (case hi => omega); (try case hx => exact inferInstance); (try case hv => rfl))
 | ((with_reducible apply go_fa h); omega; omega)
))
    refine ls_app (l := xs.take i) (m := xs.drop (i + 1)) CX h sl37 ss37 (r2 h inferInstance) (by simp; omega) fun s4 w h => ?_
    have := ls_one h
    (repeat (first
 | (simp (disch := omega) only [evA, evB, evC, bAdd_i64, bSub_i64])
 | (with_reducible apply go_ld1 h)
 | ((with_reducible first | apply go_ldA h | apply go_rd h | apply go_rdN h | apply go_rlen h); rfl)
 | (with_reducible first | apply go_ldN h | apply go_lenL h)
 | ((with_reducible apply go_st h); intro _ h)
 | ((with_reducible apply go_stA h); rfl; rfl; (first | rfl | simp [OneV.o]); intro _ h)
 | ((with_reducible apply go_stN h); rfl; (first | rfl | simp [OneV.o]); intro _ h)
 | ((with_reducible apply go_box h); rfl; intro _ _ h)
 | ((with_reducible apply go_ix h); omega)
 | ((with_reducible first | apply go_elN h | apply go_f1 h | apply go_rf1 h | apply go_rel h); (case hi => omega); (try case hx => exact inferInstance); (try case hv => rfl))
 | ((with_reducible apply go_fa h); omega; omega)
))
    subst e
    refine hK1 _ hm rfl xs[i].2 hp _ (refC_mk (xs := xs.take i ++ xs.drop (i + 1)) ?_ ?_ (h.got))
    · have hci : cs[i]'(by omega) = xs[i].1 := by simp only [← hx, List.getElem_map]
      rw [← hci, dropL_at ha (by omega), ← hx, List.map_append, List.map_take, List.map_drop]
    · intro x hx2
      rcases List.mem_append.1 hx2 with h2 | h2
      · exact hP x (List.mem_of_mem_take h2)
      · exact hP x (List.mem_of_mem_drop h2)
end
end Go.Proofs.Gong

/- Hs3 -/
namespace Go.Proofs.Gong
open Go Go.Sx Go.Proofs
set_option maxRecDepth 100000
theorem itLt_not {a b d : It} (h1 : itLt d b = false) (h2 : itLt a b = true) : itLt d a = false := by
  unfold itLt at *
  simp only [Bool.or_eq_true, Bool.or_eq_false_iff, Bool.and_eq_true, Bool.and_eq_false_iff, decide_eq_true_eq, decide_eq_false_iff_not] at *
  omega
theorem itLt_irr (a : It) : itLt a a = false := by unfold itLt; simp
abbrev cIt' (c : Ctx) : It := (c.id, c.at')
attribute [local irreducible] fBuild fLook fZero eqv bEqv Cl MapH LsH SlH ld1 ldN st callP eBox eAlloc lenM lenL eMapSet eDelete eAppend eBuildSl eRange eNext
section
variable {w0 w : World} {L : List HP} {K : Value → World → Prop} {v : Value} {n next : Int} {cs : List Ctx} {c : Ctx} {tv s : Value} {T T' : TM} {xs : List (Ctx × SV)} {q : Nat}
theorem rfirst_loop {qa : Nat} (hl : xs.length ≤ 65536)
    (hE : ∀ a w', ((a = -1 ∧ xs = []) ∨ ∃ j : Nat, ∃ hj : j < xs.length, a = (j : Int) ∧ ∀ x ∈ xs, itLt (cIt' x.1) (cIt' xs[j].1) = false) → Sat w0 (Cl qa (cCtx zeroC (.slice none 0 0)).toArray 36 :: RcC q n next s :: LsH cX 11 36 s xs :: L) w' → F22_3 (ptr q) (ptr qa) (.int .i64 a) w' K) :
    ∀ (d i : Nat) (a : Int) (w : World), xs.length - i < d → i ≤ xs.length → ((a = -1 ∧ i = 0) ∨ ∃ j : Nat, ∃ hj : j < xs.length, a = (j : Int) ∧ ∀ x ∈ xs.take i, itLt (cIt' x.1) (cIt' xs[j].1) = false) →
      Sat w0 (Cl qa (cCtx zeroC (.slice none 0 0)).toArray 36 :: RcC q n next s :: LsH cX 11 36 s xs :: L) w → F22_2L d (ptr q) (ptr qa) (.int .i64 a) (.int .i64 i) w K := by
  intro d
  induction d with
  | zero => intro i _ _ hd; omega
  | succ d ih =>
    intro i a w hd hi ha h
    rw [F22_2L]
    unfold F22_4 F22_4b
    by_cases gi : i < xs.length
    · have g' : decide ((i : Int) < (xs.length : Int)) = true := by simpa using gi
      have tk : ∀ {j : Nat} (hj : j < xs.length), (∀ x ∈ xs.take i, itLt (cIt' x.1) (cIt' xs[j].1) = false) → itLt (cIt' xs[i].1) (cIt' xs[j].1) = false → ∀ x ∈ xs.take (i + 1), itLt (cIt' x.1) (cIt' xs[j].1) = false := by
        intro j hj h1 h2 x hx
        rw [List.take_succ_eq_append_getElem gi] at hx
        rcases List.mem_append.1 hx with hx | hx
        · exact h1 x hx
        · simp at hx; subst hx; exact h2
      rcases ha with ⟨rfl, rfl⟩ | ⟨j, hj, rfl, ha⟩
      · have g0 : decide ((-1 : Int) < 0) = true := by decide
        have nx := ih (0 + 1) (0 : Nat) w.drew (by omega) (by omega) (.inr ⟨0, gi, rfl, tk gi (by simp) (itLt_irr _)⟩) h.drew
        (repeat (first
 | (simp (disch := omega) only [evA, evB, evC, bAdd_i64, bSub_i64, g', g0])
 | (with_reducible apply go_ld1 h)
 | ((with_reducible first | apply go_ldA h | apply go_rd h | apply go_rdN h | apply go_rlen h); rfl)
 | (with_reducible first | apply go_ldN h | apply go_lenL h)
 | ((with_reducible apply go_st h); intro _ h)
 | ((with_reducible apply go_stA h); rfl; rfl; (first | rfl | simp [OneV.o]); intro _ h)
 | ((with_reducible apply go_stN h); rfl; (first | rfl | simp [OneV.o]); intro _ h)
 | ((with_reducible apply go_box h); rfl; intro _ _ h)
 | ((with_reducible apply go_ix h); omega)
 | ((with_reducible first | apply go_elN h | apply go_f1 h | apply go_rf1 h | apply go_rel h); (case hi => omega); (try case hx => exact inferInstance); (try case hv => rfl))
 | ((with_reducible apply go_fa h); omega; omega)
))
        unfold F22_5 F22_5b
        (repeat (first
 | (simp (disch := omega) only [evA, evB, evC, bAdd_i64, bSub_i64])
 | (with_reducible apply go_ld1 h)
 | ((with_reducible first | apply go_ldA h | apply go_rd h | apply go_rdN h | apply go_rlen h); rfl)
 | (with_reducible first | apply go_ldN h | apply go_lenL h)
 | ((with_reducible apply go_st h); intro _ h)
 | ((with_reducible apply go_stA h); rfl; rfl; (first | rfl | simp [OneV.o]); intro _ h)
 | ((with_reducible apply go_stN h); rfl; (first | rfl | simp [OneV.o]); intro _ h)
 | ((with_reducible apply go_box h); rfl; intro _ _ h)
 | ((with_reducible apply go_ix h); omega)
 | ((with_reducible first | apply go_elN h | apply go_f1 h | apply go_rf1 h | apply go_rel h); (case hi => omega); (try case hx => exact inferInstance); (try case hv => rfl))
 | ((with_reducible apply go_fa h); omega; omega)
))
        exact nx
      · have g0 : decide ((j : Int) < 0) = false := by simp
        by_cases g1 : xs[i].1.at' < xs[j].1.at'
        · have g1' : decide (xs[i].1.at' < xs[j].1.at') = true := by simpa using g1
          have hlt : itLt (cIt' xs[i].1) (cIt' xs[j].1) = true := by unfold itLt; simp [g1]
          have nx := ih (i + 1) (i : Nat) w.drew (by omega) (by omega) (.inr ⟨i, gi, rfl, tk gi (fun x hx => itLt_not (ha x hx) hlt) (itLt_irr _)⟩) h.drew
          (repeat (first
 | (simp (disch := omega) only [evA, evB, evC, bAdd_i64, bSub_i64, g', g0, g1'])
 | (with_reducible apply go_ld1 h)
 | ((with_reducible first | apply go_ldA h | apply go_rd h | apply go_rdN h | apply go_rlen h); rfl)
 | (with_reducible first | apply go_ldN h | apply go_lenL h)
 | ((with_reducible apply go_st h); intro _ h)
 | ((with_reducible apply go_stA h); rfl; rfl; (first | rfl | simp [OneV.o]); intro _ h)
 | ((with_reducible apply go_stN h); rfl; (first | rfl | simp [OneV.o]); intro _ h)
 | ((with_reducible apply go_box h); rfl; intro _ _ h)
 | ((with_reducible apply go_ix h); omega)
 | ((with_reducible first | apply go_elN h | apply go_f1 h | apply go_rf1 h | apply go_rel h); (case hi => omega); (try case hx => exact inferInstance); (try case hv => rfl))
 | ((with_reducible apply go_fa h); omega; omega)
))
          unfold F22_5 F22_5b
          (repeat (first
 | (simp (disch := omega) only [evA, evB, evC, bAdd_i64, bSub_i64])
 | (with_reducible apply go_ld1 h)
 | ((with_reducible first | apply go_ldA h | apply go_rd h | apply go_rdN h | apply go_rlen h); rfl)
 | (with_reducible first | apply go_ldN h | apply go_lenL h)
 | ((with_reducible apply go_st h); intro _ h)
 | ((with_reducible apply go_stA h); rfl; rfl; (first | rfl | simp [OneV.o]); intro _ h)
 | ((with_reducible apply go_stN h); rfl; (first | rfl | simp [OneV.o]); intro _ h)
 | ((with_reducible apply go_box h); rfl; intro _ _ h)
 | ((with_reducible apply go_ix h); omega)
 | ((with_reducible first | apply go_elN h | apply go_f1 h | apply go_rf1 h | apply go_rel h); (case hi => omega); (try case hx => exact inferInstance); (try case hv => rfl))
 | ((with_reducible apply go_fa h); omega; omega)
))
          exact nx
        have g1' : decide (xs[i].1.at' < xs[j].1.at') = false := by simpa using g1
        by_cases g2 : xs[i].1.at' = xs[j].1.at'
        · have g2' : decide (xs[i].1.at' = xs[j].1.at') = true := by simpa using g2
          by_cases g3 : xs[i].1.id < xs[j].1.id
          · have g3' : decide (xs[i].1.id < xs[j].1.id) = true := by simpa using g3
            have hlt : itLt (cIt' xs[i].1) (cIt' xs[j].1) = true := by unfold itLt; simp [g2, g3]
            have nx := ih (i + 1) (i : Nat) w.drew (by omega) (by omega) (.inr ⟨i, gi, rfl, tk gi (fun x hx => itLt_not (ha x hx) hlt) (itLt_irr _)⟩) h.drew
            (repeat (first
 | (simp (disch := omega) only [evA, evB, evC, bAdd_i64, bSub_i64, g', g0, g1', g2', g3'])
 | (with_reducible apply go_ld1 h)
 | ((with_reducible first | apply go_ldA h | apply go_rd h | apply go_rdN h | apply go_rlen h); rfl)
 | (with_reducible first | apply go_ldN h | apply go_lenL h)
 | ((with_reducible apply go_st h); intro _ h)
 | ((with_reducible apply go_stA h); rfl; rfl; (first | rfl | simp [OneV.o]); intro _ h)
 | ((with_reducible apply go_stN h); rfl; (first | rfl | simp [OneV.o]); intro _ h)
 | ((with_reducible apply go_box h); rfl; intro _ _ h)
 | ((with_reducible apply go_ix h); omega)
 | ((with_reducible first | apply go_elN h | apply go_f1 h | apply go_rf1 h | apply go_rel h); (case hi => omega); (try case hx => exact inferInstance); (try case hv => rfl))
 | ((with_reducible apply go_fa h); omega; omega)
))
            unfold F22_5 F22_5b
            (repeat (first
 | (simp (disch := omega) only [evA, evB, evC, bAdd_i64, bSub_i64])
 | (with_reducible apply go_ld1 h)
 | ((with_reducible first | apply go_ldA h | apply go_rd h | apply go_rdN h | apply go_rlen h); rfl)
 | (with_reducible first | apply go_ldN h | apply go_lenL h)
 | ((with_reducible apply go_st h); intro _ h)
 | ((with_reducible apply go_stA h); rfl; rfl; (first | rfl | simp [OneV.o]); intro _ h)
 | ((with_reducible apply go_stN h); rfl; (first | rfl | simp [OneV.o]); intro _ h)
 | ((with_reducible apply go_box h); rfl; intro _ _ h)
 | ((with_reducible apply go_ix h); omega)
 | ((with_reducible first | apply go_elN h | apply go_f1 h | apply go_rf1 h | apply go_rel h); (case hi => omega); (try case hx => exact inferInstance); (try case hv => rfl))
 | ((with_reducible apply go_fa h); omega; omega)
))
            exact nx
          · have g3' : decide (xs[i].1.id < xs[j].1.id) = false := by simpa using g3
            have nx := ih (i + 1) (j : Nat) w.drew (by omega) (by omega) (.inr ⟨j, hj, rfl, tk hj ha (by unfold itLt; simp [g2]; omega)⟩) h.drew
            (repeat (first
 | (simp (disch := omega) only [evA, evB, evC, bAdd_i64, bSub_i64, g', g0, g1', g2', g3'])
 | (with_reducible apply go_ld1 h)
 | ((with_reducible first | apply go_ldA h | apply go_rd h | apply go_rdN h | apply go_rlen h); rfl)
 | (with_reducible first | apply go_ldN h | apply go_lenL h)
 | ((with_reducible apply go_st h); intro _ h)
 | ((with_reducible apply go_stA h); rfl; rfl; (first | rfl | simp [OneV.o]); intro _ h)
 | ((with_reducible apply go_stN h); rfl; (first | rfl | simp [OneV.o]); intro _ h)
 | ((with_reducible apply go_box h); rfl; intro _ _ h)
 | ((with_reducible apply go_ix h); omega)
 | ((with_reducible first | apply go_elN h | apply go_f1 h | apply go_rf1 h | apply go_rel h); (case hi => omega); (try case hx => exact inferInstance); (try case hv => rfl))
 | ((with_reducible apply go_fa h); omega; omega)
))
            unfold F22_5 F22_5b
            (repeat (first
 | (simp (disch := omega) only [evA, evB, evC, bAdd_i64, bSub_i64])
 | (with_reducible apply go_ld1 h)
 | ((with_reducible first | apply go_ldA h | apply go_rd h | apply go_rdN h | apply go_rlen h); rfl)
 | (with_reducible first | apply go_ldN h | apply go_lenL h)
 | ((with_reducible apply go_st h); intro _ h)
 | ((with_reducible apply go_stA h); rfl; rfl; (first | rfl | simp [OneV.o]); intro _ h)
 | ((with_reducible apply go_stN h); rfl; (first | rfl | simp [OneV.o]); intro _ h)
 | ((with_reducible apply go_box h); rfl; intro _ _ h)
 | ((with_reducible apply go_ix h); omega)
 | ((with_reducible first | apply go_elN h | apply go_f1 h | apply go_rf1 h | apply go_rel h); (case hi => omega); (try case hx => exact inferInstance); (try case hv => rfl))
 | ((with_reducible apply go_fa h); omega; omega)
))
            exact nx
        · have g2' : decide (xs[i].1.at' = xs[j].1.at') = false := by simpa using g2
          have nx := ih (i + 1) (j : Nat) w.drew (by omega) (by omega) (.inr ⟨j, hj, rfl, tk hj ha (by unfold itLt; simp [g2]; omega)⟩) h.drew
          (repeat (first
 | (simp (disch := omega) only [evA, evB, evC, bAdd_i64, bSub_i64, g', g0, g1', g2'])
 | (with_reducible apply go_ld1 h)
 | ((with_reducible first | apply go_ldA h | apply go_rd h | apply go_rdN h | apply go_rlen h); rfl)
 | (with_reducible first | apply go_ldN h | apply go_lenL h)
 | ((with_reducible apply go_st h); intro _ h)
 | ((with_reducible apply go_stA h); rfl; rfl; (first | rfl | simp [OneV.o]); intro _ h)
 | ((with_reducible apply go_stN h); rfl; (first | rfl | simp [OneV.o]); intro _ h)
 | ((with_reducible apply go_box h); rfl; intro _ _ h)
 | ((with_reducible apply go_ix h); omega)
 | ((with_reducible first | apply go_elN h | apply go_f1 h | apply go_rf1 h | apply go_rel h); (case hi => omega); (try case hx => exact inferInstance); (try case hv => rfl))
 | ((with_reducible apply go_fa h); omega; omega)
))
          unfold F22_5 F22_5b
          (repeat (first
 | (simp (disch := omega) only [evA, evB, evC, bAdd_i64, bSub_i64])
 | (with_reducible apply go_ld1 h)
 | ((with_reducible first | apply go_ldA h | apply go_rd h | apply go_rdN h | apply go_rlen h); rfl)
 | (with_reducible first | apply go_ldN h | apply go_lenL h)
 | ((with_reducible apply go_st h); intro _ h)
 | ((with_reducible apply go_stA h); rfl; rfl; (first | rfl | simp [OneV.o]); intro _ h)
 | ((with_reducible apply go_stN h); rfl; (first | rfl | simp [OneV.o]); intro _ h)
 | ((with_reducible apply go_box h); rfl; intro _ _ h)
 | ((with_reducible apply go_ix h); omega)
 | ((with_reducible first | apply go_elN h | apply go_f1 h | apply go_rf1 h | apply go_rel h); (case hi => omega); (try case hx => exact inferInstance); (try case hv => rfl))
 | ((with_reducible apply go_fa h); omega; omega)
))
          exact nx
    · have g' : decide ((i : Int) < (xs.length : Int)) = false := by simpa using gi
      have e : i = xs.length := by omega
      subst e
      rw [List.take_length] at ha
      (repeat (first
 | (simp (disch := omega) only [evA, evB, evC, bAdd_i64, bSub_i64, g'])
 | (with_reducible apply go_ld1 h)
 | ((with_reducible first | apply go_ldA h | apply go_rd h | apply go_rdN h | apply go_rlen h); rfl)
 | (with_reducible first | apply go_ldN h | apply go_lenL h)
 | ((with_reducible apply go_st h); intro _ h)
 | ((with_reducible apply go_stA h); rfl; rfl; (first | rfl | simp [OneV.o]); intro _ h)
 | ((with_reducible apply go_stN h); rfl; (first | rfl | simp [OneV.o]); intro _ h)
 | ((with_reducible apply go_box h); rfl; intro _ _ h)
 | ((with_reducible apply go_ix h); omega)
 | ((with_reducible first | apply go_elN h | apply go_f1 h | apply go_rf1 h | apply go_rel h); (case hi => omega); (try case hx => exact inferInstance); (try case hv => rfl))
 | ((with_reducible apply go_fa h); omega; omega)
))
      refine hE a _ ?_ h
      rcases ha with ⟨h1, h2⟩ | ha
      · exact .inl ⟨h1, List.eq_nil_of_length_eq_zero h2⟩
      · exact .inr ha
theorem rcfirst_spec (hl : cs.length ≤ 65536) (hft : ∀ c ∈ cs, c.times.length ≤ 1073741824) (h : Sat w0 (RefC v n next cs T :: Pool T :: L) w)
    (hK0 : cs = [] → ∀ w', Sat w0 (RefC v n next cs T :: Pool T :: L) w' → K (.tuple #[ctxV zeroC (.slice none 0 0), .bool false]) w')
    (hK1 : ∀ c, FirstC c cs → ∀ sv w', Sat w0 (LsH cI 1 3 (svV sv) c.times :: RefC v n next cs T :: Pool T :: L) w' → K (.tuple #[ctxV c (svV sv), .bool true]) w') : callP G22 [v] w K := by
  obtain ⟨q, rfl⟩ := refC_ptr h
  replace h := refC_at h
  obtain ⟨s, xs, hx, hP, h⟩ := h
  have hxl : xs.length = cs.length := by rw [← hx]; simp
  refine c22 ?_
  unfold F22 F22_1 F22_1b F22_2
  refine go_alloc h zc41 rfl fun qa _ h => ?_
  refine rfirst_loop (s := s) (xs := xs) (n := n) (next := next) (L := Pool T :: L) (by omega) (fun a w ha h => ?_) fuel 0 (-1) _ (by unfold fuel; omega) (by omega) (.inl ⟨rfl, rfl⟩) (h.got)
  unfold F22_3 F22_3b
  rcases ha with ⟨rfl, rfl⟩ | ⟨j, hj, rfl, ha⟩
  · have g0 : decide ((-1 : Int) < 0) = true := by decide
    (repeat (first
 | (simp (disch := omega) only [evA, evB, evC, bAdd_i64, bSub_i64, g0])
 | (refine go_some (fb36 ..) ?_)
 | (with_reducible apply go_ld1 h)
 | ((with_reducible first | apply go_ldA h | apply go_rd h | apply go_rdN h | apply go_rlen h); rfl)
 | (with_reducible first | apply go_ldN h | apply go_lenL h)
 | ((with_reducible apply go_st h); intro _ h)
 | ((with_reducible apply go_stA h); rfl; rfl; (first | rfl | simp [OneV.o]); intro _ h)
 | ((with_reducible apply go_stN h); rfl; (first | rfl | simp [OneV.o]); intro _ h)
 | ((with_reducible apply go_box h); rfl; intro _ _ h)
 | ((with_reducible apply go_ix h); omega)
 | ((with_reducible first | apply go_elN h | apply go_f1 h | apply go_rf1 h | apply go_rel h); (case hi => omega); (try case hx => exact inferInstance); (try case hv => rfl))
 | ((with_reducible apply go_fa h); omega; omega)
))
    exact hK0 (by rw [← hx]; rfl) _ (refC_mk hx hP (h.got))
  · have g0 : decide ((j : Int) < 0) = false := by simp
    have hm : xs[j].1 ∈ cs := by rw [← hx]; exact List.mem_map.2 ⟨xs[j], List.getElem_mem hj, rfl⟩
    have hp := hP _ (List.getElem_mem hj)
    (repeat (first
 | (simp (disch := omega) only [evA, evB, evC, bAdd_i64, bSub_i64, g0])
 | (with_reducible apply go_ld1 h)
 | ((with_reducible first | apply go_ldA h | apply go_rd h | apply go_rdN h | apply go_rlen h); rfl)
 | (with_reducible first | apply go_ldN h | apply go_lenL h)
 | ((with_reducible apply go_st h); intro _ h)
 | ((with_reducible apply go_stA h); rfl; rfl; (first | rfl | simp [OneV.o]); intro _ h)
 | ((with_reducible apply go_stN h); rfl; (first | rfl | simp [OneV.o]); intro _ h)
 | ((with_reducible apply go_box h); rfl; intro _ _ h)
 | ((with_reducible apply go_ix h); omega)
 | ((with_reducible first | apply go_elN h | apply go_f1 h | apply go_rf1 h | apply go_rel h); (case hi => omega); (try case hx => exact inferInstance); (try case hv => rfl))
 | ((with_reducible apply go_fa h); omega; omega)
))
    refine copied_spec (c := xs[j].1) (tv := svV xs[j].2) (hft _ hm) (RdL.get (pool_rd (L := Pool T :: L) hp .here) (by (repeat (first | exact .done | (refine .pick (by repeat (first | exact .here | apply Fnt.there)) ?_) | refine .skip ?_)))) inferInstance h fun sv w h => ?_
    (repeat (first
 | (simp (disch := omega) only [evA, evB, evC, bAdd_i64, bSub_i64])
 | (with_reducible apply go_ld1 h)
 | ((with_reducible first | apply go_ldA h | apply go_rd h | apply go_rdN h | apply go_rlen h); rfl)
 | (with_reducible first | apply go_ldN h | apply go_lenL h)
 | ((with_reducible apply go_st h); intro _ h)
 | ((with_reducible apply go_stA h); rfl; rfl; (first | rfl | simp [OneV.o]); intro _ h)
 | ((with_reducible apply go_stN h); rfl; (first | rfl | simp [OneV.o]); intro _ h)
 | ((with_reducible apply go_box h); rfl; intro _ _ h)
 | ((with_reducible apply go_ix h); omega)
 | ((with_reducible first | apply go_elN h | apply go_f1 h | apply go_rf1 h | apply go_rel h); (case hi => omega); (try case hx => exact inferInstance); (try case hv => rfl))
 | ((with_reducible apply go_fa h); omega; omega)
))
    refine hK1 _ ⟨hm, fun d hd => ?_⟩ sv _ ?_
    · rw [← hx] at hd
      obtain ⟨x, hx2, rfl⟩ := List.mem_map.1 hd
      exact ha x hx2
    · exact Sat.f1 (refC_mk hx hP (h.got))
theorem rcadd_spec (hf : c.fits) (hl : cs.length ≤ 65536) (hnx : next + 1 ≤ 4611686018427387904 ∧ 1 ≤ next) (hr : RdL w0 (Pool T :: L) cI 1 tv c.times) (ho : OneV tv) (h : Sat w0 (RefC v n next cs T :: Pool T :: L) w)
    (hK0 : addA n cs c ≠ 0 → ∀ w', Sat w0 (RefC v n next cs T :: Pool T :: L) w' → K (.tuple #[.int .i64 0, .int .i64 (addA n cs c)]) w')
    (hK1 : addA n cs c = 0 → ∀ T' w', (∀ y ∈ T, y ∈ T') → Sat w0 (RefC v n (next + 1) (cs ++ [{ c with id := next }]) T' :: Pool T' :: L) w' → K (.tuple #[.int .i64 next, .int .i64 0]) w') : callP G15 [v, ctxV c tv] w K := by
  obtain ⟨q, rfl⟩ := refC_ptr h
  replace h := refC_at h
  obtain ⟨s, xs, hx, hP, h⟩ := h
  have hxl : xs.length = cs.length := by rw [← hx]; simp
  have hct : c.times.length ≤ 1073741824 := by have := hf.2.2.2; omega
  unfold addA at hK0 hK1
  refine c15 ?_
  unfold F15
  (repeat (first
 | (simp (disch := omega) only [evA, evB, evC, bAdd_i64, bSub_i64])
 | (with_reducible apply go_ld1 h)
 | ((with_reducible first | apply go_ldA h | apply go_rd h | apply go_rdN h | apply go_rlen h); rfl)
 | (with_reducible first | apply go_ldN h | apply go_lenL h)
 | ((with_reducible apply go_st h); intro _ h)
 | ((with_reducible apply go_stA h); rfl; rfl; (first | rfl | simp [OneV.o]); intro _ h)
 | ((with_reducible apply go_stN h); rfl; (first | rfl | simp [OneV.o]); intro _ h)
 | ((with_reducible apply go_box h); rfl; intro _ _ h)
 | ((with_reducible apply go_ix h); omega)
 | ((with_reducible first | apply go_elN h | apply go_f1 h | apply go_rf1 h | apply go_rel h); (case hi => omega); (try case hx => exact inferInstance); (try case hv => rfl))
 | ((with_reducible apply go_fa h); omega; omega)
))
  refine fhcheck_spec (c := c) hf (hr.got) h fun w h => ?_
  unfold chkC
  cases g1 : okC c
  · rw [g1] at hK0
    (repeat (first
 | (simp (disch := omega) only [evA, evB, evC, bAdd_i64, bSub_i64, Bool.false_eq_true, if_false, Int.reduceEq])
 | (with_reducible apply go_ld1 h)
 | ((with_reducible first | apply go_ldA h | apply go_rd h | apply go_rdN h | apply go_rlen h); rfl)
 | (with_reducible first | apply go_ldN h | apply go_lenL h)
 | ((with_reducible apply go_st h); intro _ h)
 | ((with_reducible apply go_stA h); rfl; rfl; (first | rfl | simp [OneV.o]); intro _ h)
 | ((with_reducible apply go_stN h); rfl; (first | rfl | simp [OneV.o]); intro _ h)
 | ((with_reducible apply go_box h); rfl; intro _ _ h)
 | ((with_reducible apply go_ix h); omega)
 | ((with_reducible first | apply go_elN h | apply go_f1 h | apply go_rf1 h | apply go_rel h); (case hi => omega); (try case hx => exact inferInstance); (try case hv => rfl))
 | ((with_reducible apply go_fa h); omega; omega)
))
    exact hK0 (by simp) _ (refC_mk hx hP (h.got))
  rw [g1] at hK0 hK1
  simp only [Bool.true_eq_false, if_false] at hK0 hK1
  (repeat (first
 | (simp (disch := omega) only [evA, evB, evC, bAdd_i64, bSub_i64, if_true, Int.reduceEq])
 | (with_reducible apply go_ld1 h)
 | ((with_reducible first | apply go_ldA h | apply go_rd h | apply go_rdN h | apply go_rlen h); rfl)
 | (with_reducible first | apply go_ldN h | apply go_lenL h)
 | ((with_reducible apply go_st h); intro _ h)
 | ((with_reducible apply go_stA h); rfl; rfl; (first | rfl | simp [OneV.o]); intro _ h)
 | ((with_reducible apply go_stN h); rfl; (first | rfl | simp [OneV.o]); intro _ h)
 | ((with_reducible apply go_box h); rfl; intro _ _ h)
 | ((with_reducible apply go_ix h); omega)
 | ((with_reducible first | apply go_elN h | apply go_f1 h | apply go_rf1 h | apply go_rel h); (case hi => omega); (try case hx => exact inferInstance); (try case hv => rfl))
 | ((with_reducible apply go_fa h); omega; omega)
))
  have hfind : ∀ i (hi : i < xs.length), sgnOf xs[i].1 = sgnOf c → (cs.find? fun d => decide (sgnOf d = sgnOf c)).isSome = true := fun i hi e => by
    refine List.find?_isSome.2 ⟨xs[i].1, ?_, by simpa using e⟩
    rw [← hx]; exact List.mem_map.2 ⟨xs[i], List.getElem_mem hi, rfl⟩
  refine place_spec (g := sgnOf c) (by omega) (h.got : Sat w0 (RcC q n next s :: LsH cX 11 36 s xs :: _ :: Pool T :: L) _) (fun hno => ?_) (fun i hi e => ?_)
  case refine_2 =>
    have g0 : decide ((i : Int) ≥ 0) = true := by simp
    rw [if_pos (hfind i hi e)] at hK0
    (repeat (first
 | (simp (disch := omega) only [evA, evB, evC, bAdd_i64, bSub_i64, g0])
 | (with_reducible apply go_ld1 h)
 | ((with_reducible first | apply go_ldA h | apply go_rd h | apply go_rdN h | apply go_rlen h); rfl)
 | (with_reducible first | apply go_ldN h | apply go_lenL h)
 | ((with_reducible apply go_st h); intro _ h)
 | ((with_reducible apply go_stA h); rfl; rfl; (first | rfl | simp [OneV.o]); intro _ h)
 | ((with_reducible apply go_stN h); rfl; (first | rfl | simp [OneV.o]); intro _ h)
 | ((with_reducible apply go_box h); rfl; intro _ _ h)
 | ((with_reducible apply go_ix h); omega)
 | ((with_reducible first | apply go_elN h | apply go_f1 h | apply go_rf1 h | apply go_rel h); (case hi => omega); (try case hx => exact inferInstance); (try case hv => rfl))
 | ((with_reducible apply go_fa h); omega; omega)
))
    exact hK0 (by simp) _ (refC_mk hx hP (h.got))
  have g0 : decide ((-1 : Int) ≥ 0) = false := by decide
  have hnone : (cs.find? fun d => decide (sgnOf d = sgnOf c)) = none := by
    rw [List.find?_eq_none]
    intro d hd
    rw [← hx] at hd
    obtain ⟨x, hx2, rfl⟩ := List.mem_map.1 hd
    simpa using hno x hx2
  rw [hnone] at hK0 hK1
  simp only [Option.isSome_none, Bool.false_eq_true, if_false] at hK0 hK1
  rw [← hxl] at hK0 hK1
  by_cases g4 : n ≤ (xs.length : Int)
  · have g4' : decide ((xs.length : Int) ≥ n) = true := by simpa using g4
    rw [if_pos g4] at hK0
    (repeat (first
 | (simp (disch := omega) only [evA, evB, evC, bAdd_i64, bSub_i64, g0, g4'])
 | (with_reducible apply go_ld1 h)
 | ((with_reducible first | apply go_ldA h | apply go_rd h | apply go_rdN h | apply go_rlen h); rfl)
 | (with_reducible first | apply go_ldN h | apply go_lenL h)
 | ((with_reducible apply go_st h); intro _ h)
 | ((with_reducible apply go_stA h); rfl; rfl; (first | rfl | simp [OneV.o]); intro _ h)
 | ((with_reducible apply go_stN h); rfl; (first | rfl | simp [OneV.o]); intro _ h)
 | ((with_reducible apply go_box h); rfl; intro _ _ h)
 | ((with_reducible apply go_ix h); omega)
 | ((with_reducible first | apply go_elN h | apply go_f1 h | apply go_rf1 h | apply go_rel h); (case hi => omega); (try case hx => exact inferInstance); (try case hv => rfl))
 | ((with_reducible apply go_fa h); omega; omega)
))
    exact hK0 (by simp) _ (refC_mk hx hP (h.drew.got))
  have g4' : decide ((xs.length : Int) ≥ n) = false := by simpa using g4
  rw [if_neg g4] at hK1
  (repeat (first
 | (simp (disch := omega) only [evA, evB, evC, bAdd_i64, bSub_i64, g0, g4'])
 | (with_reducible apply go_ld1 h)
 | ((with_reducible first | apply go_ldA h | apply go_rd h | apply go_rdN h | apply go_rlen h); rfl)
 | (with_reducible first | apply go_ldN h | apply go_lenL h)
 | ((with_reducible apply go_st h); intro _ h)
 | ((with_reducible apply go_stA h); rfl; rfl; (first | rfl | simp [OneV.o]); intro _ h)
 | ((with_reducible apply go_stN h); rfl; (first | rfl | simp [OneV.o]); intro _ h)
 | ((with_reducible apply go_box h); rfl; intro _ _ h)
 | ((with_reducible apply go_ix h); omega)
 | ((with_reducible first | apply go_elN h | apply go_f1 h | apply go_rf1 h | apply go_rel h); (case hi => omega); (try case hx => exact inferInstance); (try case hv => rfl))
 | ((with_reducible apply go_fa h); omega; omega)
))
  refine copied_spec (c := c) hct (hr.got) ho h.drew fun sv w h => ?_
  (repeat (first
 | (simp (disch := omega) only [evA, evB, evC, bAdd_i64, bSub_i64])
 | (with_reducible apply go_ld1 h)
 | ((with_reducible first | apply go_ldA h | apply go_rd h | apply go_rdN h | apply go_rlen h); rfl)
 | (with_reducible first | apply go_ldN h | apply go_lenL h)
 | ((with_reducible apply go_st h); intro _ h)
 | ((with_reducible apply go_stA h); rfl; rfl; (first | rfl | simp [OneV.o]); intro _ h)
 | ((with_reducible apply go_stN h); rfl; (first | rfl | simp [OneV.o]); intro _ h)
 | ((with_reducible apply go_box h); rfl; intro _ _ h)
 | ((with_reducible apply go_ix h); omega)
 | ((with_reducible first | apply go_elN h | apply go_f1 h | apply go_rf1 h | apply go_rel h); (case hi => omega); (try case hx => exact inferInstance); (try case hv => rfl))
 | ((with_reducible apply go_fa h); omega; omega)
))
  obtain ⟨x, hxx⟩ : ∃ x : Ctx × SV, x = ({ c with id := next }, sv) := ⟨_, rfl⟩
  have fbx : fBuildSl Tryz.prog 36 1 [(0, .agg (cX ({ c with id := next }, sv)).toArray)] = some (cX x).toArray := by rw [hxx]; exact fbX _ _
  have fin : ∀ {s9 : Value} {w : World} {L' : List HP}, Sat w0 L' w → Get L' (LsH cI 1 3 (svV sv) c.times :: Pool T :: RcC q n (next + 1) s9 :: LsH cX 11 36 s9 (xs ++ [x]) :: L) → K (.tuple #[.int .i64 next, .int .i64 0]) w := fun h g => by
    have h2 := pool_add (h.get g)
    have h3 : Sat w0 (RcC q n (next + 1) _ :: LsH cX 11 36 _ (xs ++ [x]) :: Pool (T ++ [(sv, c.times)]) :: L) _ := h2.got
    refine hK1 rfl (T ++ [(sv, c.times)]) _ (fun y hy => List.mem_append_left _ hy) (refC_mk (xs := xs ++ [x]) (by rw [List.map_append, hx, hxx]; rfl) ?_ h3)
    intro y hy
    rcases List.mem_append.1 hy with hy | hy
    · exact List.mem_append_left _ (hP y hy)
    · simp at hy; subst hy; rw [hxx]; simp
  refine ⟨?_, ?_⟩
  · refine go_lit0 CX h.drew u37 (by kernel_rfl) fun sa w h => ?_
    (repeat (first
 | (simp (disch := omega) only [evA, evB, evC, bAdd_i64, bSub_i64])
 | (with_reducible apply go_ld1 h)
 | ((with_reducible first | apply go_ldA h | apply go_rd h | apply go_rdN h | apply go_rlen h); rfl)
 | (with_reducible first | apply go_ldN h | apply go_lenL h)
 | ((with_reducible apply go_st h); intro _ h)
 | ((with_reducible apply go_stA h); rfl; rfl; (first | rfl | simp [OneV.o]); intro _ h)
 | ((with_reducible apply go_stN h); rfl; (first | rfl | simp [OneV.o]); intro _ h)
 | ((with_reducible apply go_box h); rfl; intro _ _ h)
 | ((with_reducible apply go_ix h); omega)
 | ((with_reducible first | apply go_elN h | apply go_f1 h | apply go_rf1 h | apply go_rel h); (case hi => omega); (try case hx => exact inferInstance); (try case hv => rfl))
 | ((with_reducible apply go_fa h); omega; omega)
))
    refine ⟨?_, ?_⟩
    · refine ls_app (l := []) (m := xs) CX h sl37 ss37 (ls_of h (.refl _) (inferInstance : LsIn s _ _ _ _ _ xs)) (by simp; omega) fun sb w h => ?_
      rw [List.nil_append] at h
      (repeat (first
 | (simp (disch := omega) only [evA, evB, evC, bAdd_i64, bSub_i64])
 | (with_reducible apply go_ld1 h)
 | ((with_reducible first | apply go_ldA h | apply go_rd h | apply go_rdN h | apply go_rlen h); rfl)
 | (with_reducible first | apply go_ldN h | apply go_lenL h)
 | ((with_reducible apply go_st h); intro _ h)
 | ((with_reducible apply go_stA h); rfl; rfl; (first | rfl | simp [OneV.o]); intro _ h)
 | ((with_reducible apply go_stN h); rfl; (first | rfl | simp [OneV.o]); intro _ h)
 | ((with_reducible apply go_box h); rfl; intro _ _ h)
 | ((with_reducible apply go_ix h); omega)
 | ((with_reducible first | apply go_elN h | apply go_f1 h | apply go_rf1 h | apply go_rel h); (case hi => omega); (try case hx => exact inferInstance); (try case hv => rfl))
 | ((with_reducible apply go_fa h); omega; omega)
))
      refine go_lit1 (x := x) CX h u37 fbx rfl fun sc w h => ?_
      (repeat (first
 | (simp (disch := omega) only [evA, evB, evC, bAdd_i64, bSub_i64])
 | (with_reducible apply go_ld1 h)
 | ((with_reducible first | apply go_ldA h | apply go_rd h | apply go_rdN h | apply go_rlen h); rfl)
 | (with_reducible first | apply go_ldN h | apply go_lenL h)
 | ((with_reducible apply go_st h); intro _ h)
 | ((with_reducible apply go_stA h); rfl; rfl; (first | rfl | simp [OneV.o]); intro _ h)
 | ((with_reducible apply go_stN h); rfl; (first | rfl | simp [OneV.o]); intro _ h)
 | ((with_reducible apply go_box h); rfl; intro _ _ h)
 | ((with_reducible apply go_ix h); omega)
 | ((with_reducible first | apply go_elN h | apply go_f1 h | apply go_rf1 h | apply go_rel h); (case hi => omega); (try case hx => exact inferInstance); (try case hv => rfl))
 | ((with_reducible apply go_fa h); omega; omega)
))
      refine ls_app (l := xs) (m := [x]) CX (h.frt (A := LsH cX 11 36 sb xs)) sl37 ss37 (ls_of h (.refl _) (inferInstance : LsIn sc _ _ _ _ _ [x])) (by simp; omega) fun sd w h => ?_
      have := ls_one h
      (repeat (first
 | (simp (disch := omega) only [evA, evB, evC, bAdd_i64, bSub_i64])
 | (with_reducible apply go_ld1 h)
 | ((with_reducible first | apply go_ldA h | apply go_rd h | apply go_rdN h | apply go_rlen h); rfl)
 | (with_reducible first | apply go_ldN h | apply go_lenL h)
 | ((with_reducible apply go_st h); intro _ h)
 | ((with_reducible apply go_stA h); rfl; rfl; (first | rfl | simp [OneV.o]); intro _ h)
 | ((with_reducible apply go_stN h); rfl; (first | rfl | simp [OneV.o]); intro _ h)
 | ((with_reducible apply go_box h); rfl; intro _ _ h)
 | ((with_reducible apply go_ix h); omega)
 | ((with_reducible first | apply go_elN h | apply go_f1 h | apply go_rf1 h | apply go_rel h); (case hi => omega); (try case hx => exact inferInstance); (try case hv => rfl))
 | ((with_reducible apply go_fa h); omega; omega)
))
      exact fin (s9 := sd) h (by (repeat (first | exact .done | (refine .pick (by repeat (first | exact .here | apply Fnt.there)) ?_) | refine .skip ?_)))
    · refine go_lit1 (x := x) CX h u37 fbx rfl fun sc w h => ?_
      (repeat (first
 | (simp (disch := omega) only [evA, evB, evC, bAdd_i64, bSub_i64])
 | (with_reducible apply go_ld1 h)
 | ((with_reducible first | apply go_ldA h | apply go_rd h | apply go_rdN h | apply go_rlen h); rfl)
 | (with_reducible first | apply go_ldN h | apply go_lenL h)
 | ((with_reducible apply go_st h); intro _ h)
 | ((with_reducible apply go_stA h); rfl; rfl; (first | rfl | simp [OneV.o]); intro _ h)
 | ((with_reducible apply go_stN h); rfl; (first | rfl | simp [OneV.o]); intro _ h)
 | ((with_reducible apply go_box h); rfl; intro _ _ h)
 | ((with_reducible apply go_ix h); omega)
 | ((with_reducible first | apply go_elN h | apply go_f1 h | apply go_rf1 h | apply go_rel h); (case hi => omega); (try case hx => exact inferInstance); (try case hv => rfl))
 | ((with_reducible apply go_fa h); omega; omega)
))
      refine ls_app (l := []) (m := xs) CX (h.frt (A := LsH cX 11 36 sa [])) sl37 ss37 (ls_of h (.refl _) (inferInstance : LsIn s _ _ _ _ _ xs)) (by simp; omega) fun sb w h => ?_
      rw [List.nil_append] at h
      (repeat (first
 | (simp (disch := omega) only [evA, evB, evC, bAdd_i64, bSub_i64])
 | (with_reducible apply go_ld1 h)
 | ((with_reducible first | apply go_ldA h | apply go_rd h | apply go_rdN h | apply go_rlen h); rfl)
 | (with_reducible first | apply go_ldN h | apply go_lenL h)
 | ((with_reducible apply go_st h); intro _ h)
 | ((with_reducible apply go_stA h); rfl; rfl; (first | rfl | simp [OneV.o]); intro _ h)
 | ((with_reducible apply go_stN h); rfl; (first | rfl | simp [OneV.o]); intro _ h)
 | ((with_reducible apply go_box h); rfl; intro _ _ h)
 | ((with_reducible apply go_ix h); omega)
 | ((with_reducible first | apply go_elN h | apply go_f1 h | apply go_rf1 h | apply go_rel h); (case hi => omega); (try case hx => exact inferInstance); (try case hv => rfl))
 | ((with_reducible apply go_fa h); omega; omega)
))
      refine ls_app (l := xs) (m := [x]) CX (h.frt (A := LsH cX 11 36 sb xs)) sl37 ss37 (ls_of h (.refl _) (inferInstance : LsIn sc _ _ _ _ _ [x])) (by simp; omega) fun sd w h => ?_
      have := ls_one h
      (repeat (first
 | (simp (disch := omega) only [evA, evB, evC, bAdd_i64, bSub_i64])
 | (with_reducible apply go_ld1 h)
 | ((with_reducible first | apply go_ldA h | apply go_rd h | apply go_rdN h | apply go_rlen h); rfl)
 | (with_reducible first | apply go_ldN h | apply go_lenL h)
 | ((with_reducible apply go_st h); intro _ h)
 | ((with_reducible apply go_stA h); rfl; rfl; (first | rfl | simp [OneV.o]); intro _ h)
 | ((with_reducible apply go_stN h); rfl; (first | rfl | simp [OneV.o]); intro _ h)
 | ((with_reducible apply go_box h); rfl; intro _ _ h)
 | ((with_reducible apply go_ix h); omega)
 | ((with_reducible first | apply go_elN h | apply go_f1 h | apply go_rf1 h | apply go_rel h); (case hi => omega); (try case hx => exact inferInstance); (try case hv => rfl))
 | ((with_reducible apply go_fa h); omega; omega)
))
      exact fin (s9 := sd) h (by (repeat (first | exact .done | (refine .pick (by repeat (first | exact .here | apply Fnt.there)) ?_) | refine .skip ?_)))
  · refine go_lit1 (x := x) CX h.drew u37 fbx rfl fun sc w h => ?_
    (repeat (first
 | (simp (disch := omega) only [evA, evB, evC, bAdd_i64, bSub_i64])
 | (with_reducible apply go_ld1 h)
 | ((with_reducible first | apply go_ldA h | apply go_rd h | apply go_rdN h | apply go_rlen h); rfl)
 | (with_reducible first | apply go_ldN h | apply go_lenL h)
 | ((with_reducible apply go_st h); intro _ h)
 | ((with_reducible apply go_stA h); rfl; rfl; (first | rfl | simp [OneV.o]); intro _ h)
 | ((with_reducible apply go_stN h); rfl; (first | rfl | simp [OneV.o]); intro _ h)
 | ((with_reducible apply go_box h); rfl; intro _ _ h)
 | ((with_reducible apply go_ix h); omega)
 | ((with_reducible first | apply go_elN h | apply go_f1 h | apply go_rf1 h | apply go_rel h); (case hi => omega); (try case hx => exact inferInstance); (try case hv => rfl))
 | ((with_reducible apply go_fa h); omega; omega)
))
    refine go_lit0 CX h u37 (by kernel_rfl) fun sa w h => ?_
    (repeat (first
 | (simp (disch := omega) only [evA, evB, evC, bAdd_i64, bSub_i64])
 | (with_reducible apply go_ld1 h)
 | ((with_reducible first | apply go_ldA h | apply go_rd h | apply go_rdN h | apply go_rlen h); rfl)
 | (with_reducible first | apply go_ldN h | apply go_lenL h)
 | ((with_reducible apply go_st h); intro _ h)
 | ((with_reducible apply go_stA h); rfl; rfl; (first | rfl | simp [OneV.o]); intro _ h)
 | ((with_reducible apply go_stN h); rfl; (first | rfl | simp [OneV.o]); intro _ h)
 | ((with_reducible apply go_box h); rfl; intro _ _ h)
 | ((with_reducible apply go_ix h); omega)
 | ((with_reducible first | apply go_elN h | apply go_f1 h | apply go_rf1 h | apply go_rel h); (case hi => omega); (try case hx => exact inferInstance); (try case hv => rfl))
 | ((with_reducible apply go_fa h); omega; omega)
))
    refine ls_app (l := []) (m := xs) CX h sl37 ss37 (ls_of h (.refl _) (inferInstance : LsIn s _ _ _ _ _ xs)) (by simp; omega) fun sb w h => ?_
    rw [List.nil_append] at h
    (repeat (first
 | (simp (disch := omega) only [evA, evB, evC, bAdd_i64, bSub_i64])
 | (with_reducible apply go_ld1 h)
 | ((with_reducible first | apply go_ldA h | apply go_rd h | apply go_rdN h | apply go_rlen h); rfl)
 | (with_reducible first | apply go_ldN h | apply go_lenL h)
 | ((with_reducible apply go_st h); intro _ h)
 | ((with_reducible apply go_stA h); rfl; rfl; (first | rfl | simp [OneV.o]); intro _ h)
 | ((with_reducible apply go_stN h); rfl; (first | rfl | simp [OneV.o]); intro _ h)
 | ((with_reducible apply go_box h); rfl; intro _ _ h)
 | ((with_reducible apply go_ix h); omega)
 | ((with_reducible first | apply go_elN h | apply go_f1 h | apply go_rf1 h | apply go_rel h); (case hi => omega); (try case hx => exact inferInstance); (try case hv => rfl))
 | ((with_reducible apply go_fa h); omega; omega)
))
    refine ls_app (l := xs) (m := [x]) CX (h.frt (A := LsH cX 11 36 sb xs)) sl37 ss37 (ls_of h (.refl _) (inferInstance : LsIn sc _ _ _ _ _ [x])) (by simp; omega) fun sd w h => ?_
    have := ls_one h
    (repeat (first
 | (simp (disch := omega) only [evA, evB, evC, bAdd_i64, bSub_i64])
 | (with_reducible apply go_ld1 h)
 | ((with_reducible first | apply go_ldA h | apply go_rd h | apply go_rdN h | apply go_rlen h); rfl)
 | (with_reducible first | apply go_ldN h | apply go_lenL h)
 | ((with_reducible apply go_st h); intro _ h)
 | ((with_reducible apply go_stA h); rfl; rfl; (first | rfl | simp [OneV.o]); intro _ h)
 | ((with_reducible apply go_stN h); rfl; (first | rfl | simp [OneV.o]); intro _ h)
 | ((with_reducible apply go_box h); rfl; intro _ _ h)
 | ((with_reducible apply go_ix h); omega)
 | ((with_reducible first | apply go_elN h | apply go_f1 h | apply go_rf1 h | apply go_rel h); (case hi => omega); (try case hx => exact inferInstance); (try case hv => rfl))
 | ((with_reducible apply go_fa h); omega; omega)
))
    exact fin (s9 := sd) h (by (repeat (first | exact .done | (refine .pick (by repeat (first | exact .here | apply Fnt.there)) ?_) | refine .skip ?_)))
theorem rcturn_spec (hf : c.fits) (hl : cs.length ≤ 65536) (ha : cs.Pairwise fun a b => a.id < b.id) (hsg : cs.Pairwise fun a b => sgnOf a ≠ sgnOf b) (hr : RdL w0 (Pool T :: L) cI 1 tv c.times) (ho : OneV tv) (h : Sat w0 (RefC v n next cs T :: Pool T :: L) w)
    (hK0 : turnA cs c ≠ 0 → ∀ w', Sat w0 (RefC v n next cs T :: Pool T :: L) w' → K (.int .i64 (turnA cs c)) w')
    (hK1 : turnA cs c = 0 → ∀ T' w', (∀ y ∈ T, y ∈ T') → Sat w0 (RefC v n next (turnL c cs) T' :: Pool T' :: L) w' → K (.int .i64 0) w') : callP G18 [v, ctxV c tv] w K := by
  obtain ⟨q, rfl⟩ := refC_ptr h
  replace h := refC_at h
  obtain ⟨s, xs, hx, hP, h⟩ := h
  have hxl : xs.length = cs.length := by rw [← hx]; simp
  have hct : c.times.length ≤ 1073741824 := by have := hf.2.2.2; omega
  have hat : ∀ {i : Nat} (hi : i < xs.length), cs[i]'(by omega) = xs[i].1 := fun hi => by simp only [← hx, List.getElem_map]
  unfold turnA at hK0 hK1
  refine c18 ?_
  unfold F18
  (repeat (first
 | (simp (disch := omega) only [evA, evB, evC, bAdd_i64, bSub_i64])
 | (with_reducible apply go_ld1 h)
 | ((with_reducible first | apply go_ldA h | apply go_rd h | apply go_rdN h | apply go_rlen h); rfl)
 | (with_reducible first | apply go_ldN h | apply go_lenL h)
 | ((with_reducible apply go_st h); intro _ h)
 | ((with_reducible apply go_stA h); rfl; rfl; (first | rfl | simp [OneV.o]); intro _ h)
 | ((with_reducible apply go_stN h); rfl; (first | rfl | simp [OneV.o]); intro _ h)
 | ((with_reducible apply go_box h); rfl; intro _ _ h)
 | ((with_reducible apply go_ix h); omega)
 | ((with_reducible first | apply go_elN h | apply go_f1 h | apply go_rf1 h | apply go_rel h); (case hi => omega); (try case hx => exact inferInstance); (try case hv => rfl))
 | ((with_reducible apply go_fa h); omega; omega)
))
  refine fhcheck_spec (c := c) hf (hr.got) h fun w h => ?_
  unfold chkC
  cases g1 : okC c
  · rw [g1] at hK0
    (repeat (first
 | (simp (disch := omega) only [evA, evB, evC, bAdd_i64, bSub_i64, Bool.false_eq_true, if_false, Int.reduceEq])
 | (with_reducible apply go_ld1 h)
 | ((with_reducible first | apply go_ldA h | apply go_rd h | apply go_rdN h | apply go_rlen h); rfl)
 | (with_reducible first | apply go_ldN h | apply go_lenL h)
 | ((with_reducible apply go_st h); intro _ h)
 | ((with_reducible apply go_stA h); rfl; rfl; (first | rfl | simp [OneV.o]); intro _ h)
 | ((with_reducible apply go_stN h); rfl; (first | rfl | simp [OneV.o]); intro _ h)
 | ((with_reducible apply go_box h); rfl; intro _ _ h)
 | ((with_reducible apply go_ix h); omega)
 | ((with_reducible first | apply go_elN h | apply go_f1 h | apply go_rf1 h | apply go_rel h); (case hi => omega); (try case hx => exact inferInstance); (try case hv => rfl))
 | ((with_reducible apply go_fa h); omega; omega)
))
    exact hK0 (by simp) _ (refC_mk hx hP (h.got))
  rw [g1] at hK0 hK1
  simp only [Bool.true_eq_false, if_false] at hK0 hK1
  (repeat (first
 | (simp (disch := omega) only [evA, evB, evC, bAdd_i64, bSub_i64, if_true, Int.reduceEq])
 | (with_reducible apply go_ld1 h)
 | ((with_reducible first | apply go_ldA h | apply go_rd h | apply go_rdN h | apply go_rlen h); rfl)
 | (with_reducible first | apply go_ldN h | apply go_lenL h)
 | ((with_reducible apply go_st h); intro _ h)
 | ((with_reducible apply go_stA h); rfl; rfl; (first | rfl | simp [OneV.o]); intro _ h)
 | ((with_reducible apply go_stN h); rfl; (first | rfl | simp [OneV.o]); intro _ h)
 | ((with_reducible apply go_box h); rfl; intro _ _ h)
 | ((with_reducible apply go_ix h); omega)
 | ((with_reducible first | apply go_elN h | apply go_f1 h | apply go_rf1 h | apply go_rel h); (case hi => omega); (try case hx => exact inferInstance); (try case hv => rfl))
 | ((with_reducible apply go_fa h); omega; omega)
))
  refine at_spec (id := c.id) (by omega) (h.got : Sat w0 (RcC q n next s :: LsH cX 11 36 s xs :: _ :: Pool T :: L) _) (fun hno => ?_) (fun i hi e => ?_)
  · have g0 : decide ((-1 : Int) < 0) = true := by decide
    have hn : (cs.find? fun d => decide (d.id = c.id)) = none := by
      rw [List.find?_eq_none]
      intro d hd
      rw [← hx] at hd
      obtain ⟨x, hx2, rfl⟩ := List.mem_map.1 hd
      simpa using hno x hx2
    rw [hn] at hK0
    (repeat (first
 | (simp (disch := omega) only [evA, evB, evC, bAdd_i64, bSub_i64, g0])
 | (with_reducible apply go_ld1 h)
 | ((with_reducible first | apply go_ldA h | apply go_rd h | apply go_rdN h | apply go_rlen h); rfl)
 | (with_reducible first | apply go_ldN h | apply go_lenL h)
 | ((with_reducible apply go_st h); intro _ h)
 | ((with_reducible apply go_stA h); rfl; rfl; (first | rfl | simp [OneV.o]); intro _ h)
 | ((with_reducible apply go_stN h); rfl; (first | rfl | simp [OneV.o]); intro _ h)
 | ((with_reducible apply go_box h); rfl; intro _ _ h)
 | ((with_reducible apply go_ix h); omega)
 | ((with_reducible first | apply go_elN h | apply go_f1 h | apply go_rf1 h | apply go_rel h); (case hi => omega); (try case hx => exact inferInstance); (try case hv => rfl))
 | ((with_reducible apply go_fa h); omega; omega)
))
    exact hK0 (by simp) _ (refC_mk hx hP (h.got))
  have g0 : decide ((i : Int) < 0) = false := by simp
  have hci := hat hi
  have hsome : (cs.find? fun d => decide (d.id = c.id)) = some xs[i].1 := by
    cases hf : cs.find? fun d => decide (d.id = c.id) with
    | none => rw [List.find?_eq_none] at hf; have := hf xs[i].1 (by rw [← hci]; exact List.getElem_mem _); simp [e] at this
    | some b =>
      have h3 := List.mem_of_find?_eq_some hf
      have h4 := List.find?_some hf
      simp only [decide_eq_true_eq] at h4
      rw [asc_eq ha h3 (show xs[i].1 ∈ cs by rw [← hci]; exact List.getElem_mem _) (h4.trans e.symm)]
  rw [hsome] at hK0 hK1
  simp only at hK0 hK1
  (repeat (first
 | (simp (disch := omega) only [evA, evB, evC, bAdd_i64, bSub_i64, g0])
 | (with_reducible apply go_ld1 h)
 | ((with_reducible first | apply go_ldA h | apply go_rd h | apply go_rdN h | apply go_rlen h); rfl)
 | (with_reducible first | apply go_ldN h | apply go_lenL h)
 | ((with_reducible apply go_st h); intro _ h)
 | ((with_reducible apply go_stA h); rfl; rfl; (first | rfl | simp [OneV.o]); intro _ h)
 | ((with_reducible apply go_stN h); rfl; (first | rfl | simp [OneV.o]); intro _ h)
 | ((with_reducible apply go_box h); rfl; intro _ _ h)
 | ((with_reducible apply go_ix h); omega)
 | ((with_reducible first | apply go_elN h | apply go_f1 h | apply go_rf1 h | apply go_rel h); (case hi => omega); (try case hx => exact inferInstance); (try case hv => rfl))
 | ((with_reducible apply go_fa h); omega; omega)
))
  have bad : ∀ {a : Int} {w : World}, a ≠ (i : Int) → sgnOf xs[i].1 ≠ sgnOf c → Sat w0 (RcC q n next s :: LsH cX 11 36 s xs :: Pool T :: L) w → K (.int .i64 4) w := fun hne g2 h => by
    rw [if_neg g2] at hK0
    exact hK0 (by simp) _ (refC_mk hx hP h)
  refine place_spec (g := sgnOf c) (by omega) (h.got : Sat w0 (RcC q n next s :: LsH cX 11 36 s xs :: _ :: Pool T :: L) _) (fun hno => ?_) (fun j hj e2 => ?_)
  · have g5 : decide ((-1 : Int) = (i : Int)) = false := decide_eq_false (by omega)
    (repeat (first
 | (simp (disch := omega) only [evA, evB, evC, bAdd_i64, bSub_i64, g5])
 | (with_reducible apply go_ld1 h)
 | ((with_reducible first | apply go_ldA h | apply go_rd h | apply go_rdN h | apply go_rlen h); rfl)
 | (with_reducible first | apply go_ldN h | apply go_lenL h)
 | ((with_reducible apply go_st h); intro _ h)
 | ((with_reducible apply go_stA h); rfl; rfl; (first | rfl | simp [OneV.o]); intro _ h)
 | ((with_reducible apply go_stN h); rfl; (first | rfl | simp [OneV.o]); intro _ h)
 | ((with_reducible apply go_box h); rfl; intro _ _ h)
 | ((with_reducible apply go_ix h); omega)
 | ((with_reducible first | apply go_elN h | apply go_f1 h | apply go_rf1 h | apply go_rel h); (case hi => omega); (try case hx => exact inferInstance); (try case hv => rfl))
 | ((with_reducible apply go_fa h); omega; omega)
))
    exact bad (a := -1) (by omega) (hno _ (List.getElem_mem hi)) (h.got)
  by_cases g6 : j = i
  case neg =>
    have g5 : decide ((j : Int) = (i : Int)) = false := decide_eq_false (by omega)
    (repeat (first
 | (simp (disch := omega) only [evA, evB, evC, bAdd_i64, bSub_i64, g5])
 | (with_reducible apply go_ld1 h)
 | ((with_reducible first | apply go_ldA h | apply go_rd h | apply go_rdN h | apply go_rlen h); rfl)
 | (with_reducible first | apply go_ldN h | apply go_lenL h)
 | ((with_reducible apply go_st h); intro _ h)
 | ((with_reducible apply go_stA h); rfl; rfl; (first | rfl | simp [OneV.o]); intro _ h)
 | ((with_reducible apply go_stN h); rfl; (first | rfl | simp [OneV.o]); intro _ h)
 | ((with_reducible apply go_box h); rfl; intro _ _ h)
 | ((with_reducible apply go_ix h); omega)
 | ((with_reducible first | apply go_elN h | apply go_f1 h | apply go_rf1 h | apply go_rel h); (case hi => omega); (try case hx => exact inferInstance); (try case hv => rfl))
 | ((with_reducible apply go_fa h); omega; omega)
))
    refine bad (a := j) (by omega) (fun e3 => g6 ?_) (h.got)
    refine idx_eq ha (by omega) (by omega) ?_
    exact sg_eq hsg (List.getElem_mem _) (List.getElem_mem _) (by rw [hat hj, hci, e2, e3])
  subst g6
  have g5 : decide ((j : Int) = (j : Int)) = true := by simp
  rw [if_pos e2] at hK1
  (repeat (first
 | (simp (disch := omega) only [evA, evB, evC, bAdd_i64, bSub_i64, g5])
 | (with_reducible apply go_ld1 h)
 | ((with_reducible first | apply go_ldA h | apply go_rd h | apply go_rdN h | apply go_rlen h); rfl)
 | (with_reducible first | apply go_ldN h | apply go_lenL h)
 | ((with_reducible apply go_st h); intro _ h)
 | ((with_reducible apply go_stA h); rfl; rfl; (first | rfl | simp [OneV.o]); intro _ h)
 | ((with_reducible apply go_stN h); rfl; (first | rfl | simp [OneV.o]); intro _ h)
 | ((with_reducible apply go_box h); rfl; intro _ _ h)
 | ((with_reducible apply go_ix h); omega)
 | ((with_reducible first | apply go_elN h | apply go_f1 h | apply go_rf1 h | apply go_rel h); (case hi => omega); (try case hx => exact inferInstance); (try case hv => rfl))
 | ((with_reducible apply go_fa h); omega; omega)
))
  refine go_lit0 CX h u37 (by kernel_rfl) fun sa w h => ?_
  (repeat (first
 | (simp (disch := omega) only [evA, evB, evC, bAdd_i64, bSub_i64])
 | (with_reducible apply go_ld1 h)
 | ((with_reducible first | apply go_ldA h | apply go_rd h | apply go_rdN h | apply go_rlen h); rfl)
 | (with_reducible first | apply go_ldN h | apply go_lenL h)
 | ((with_reducible apply go_st h); intro _ h)
 | ((with_reducible apply go_stA h); rfl; rfl; (first | rfl | simp [OneV.o]); intro _ h)
 | ((with_reducible apply go_stN h); rfl; (first | rfl | simp [OneV.o]); intro _ h)
 | ((with_reducible apply go_box h); rfl; intro _ _ h)
 | ((with_reducible apply go_ix h); omega)
 | ((with_reducible first | apply go_elN h | apply go_f1 h | apply go_rf1 h | apply go_rel h); (case hi => omega); (try case hx => exact inferInstance); (try case hv => rfl))
 | ((with_reducible apply go_fa h); omega; omega)
))
  refine ls_app (l := []) (m := xs) CX h sl37 ss37 (ls_of h (.refl _) (inferInstance : LsIn s _ _ _ _ _ xs)) (by simp; omega) fun sb w h => ?_
  rw [List.nil_append] at h
  (repeat (first
 | (simp (disch := omega) only [evA, evB, evC, bAdd_i64, bSub_i64])
 | (with_reducible apply go_ld1 h)
 | ((with_reducible first | apply go_ldA h | apply go_rd h | apply go_rdN h | apply go_rlen h); rfl)
 | (with_reducible first | apply go_ldN h | apply go_lenL h)
 | ((with_reducible apply go_st h); intro _ h)
 | ((with_reducible apply go_stA h); rfl; rfl; (first | rfl | simp [OneV.o]); intro _ h)
 | ((with_reducible apply go_stN h); rfl; (first | rfl | simp [OneV.o]); intro _ h)
 | ((with_reducible apply go_box h); rfl; intro _ _ h)
 | ((with_reducible apply go_ix h); omega)
 | ((with_reducible first | apply go_elN h | apply go_f1 h | apply go_rf1 h | apply go_rel h); (case hi => omega); (try case hx => exact inferInstance); (try case hv => rfl))
 | ((with_reducible apply go_fa h); omega; omega)
))
  refine copied_spec (c := c) hct (hr.got) ho h fun sv w h => ?_
  (repeat (first
 | (simp (disch := omega) only [evA, evB, evC, bAdd_i64, bSub_i64])
 | (with_reducible apply go_ld1 h)
 | ((with_reducible first | apply go_ldA h | apply go_rd h | apply go_rdN h | apply go_rlen h); rfl)
 | (with_reducible first | apply go_ldN h | apply go_lenL h)
 | ((with_reducible apply go_st h); intro _ h)
 | ((with_reducible apply go_stA h); rfl; rfl; (first | rfl | simp [OneV.o]); intro _ h)
 | ((with_reducible apply go_stN h); rfl; (first | rfl | simp [OneV.o]); intro _ h)
 | ((with_reducible apply go_box h); rfl; intro _ _ h)
 | ((with_reducible apply go_ix h); omega)
 | ((with_reducible first | apply go_elN h | apply go_f1 h | apply go_rf1 h | apply go_rel h); (case hi => omega); (try case hx => exact inferInstance); (try case hv => rfl))
 | ((with_reducible apply go_fa h); omega; omega)
))
  refine ls_st CX (h.frt (A := LsH cX 11 36 sb xs)) hi (c, sv) rfl fun w h => ?_
  have := ls_one h
  (repeat (first
 | (simp (disch := omega) only [evA, evB, evC, bAdd_i64, bSub_i64])
 | (with_reducible apply go_ld1 h)
 | ((with_reducible first | apply go_ldA h | apply go_rd h | apply go_rdN h | apply go_rlen h); rfl)
 | (with_reducible first | apply go_ldN h | apply go_lenL h)
 | ((with_reducible apply go_st h); intro _ h)
 | ((with_reducible apply go_stA h); rfl; rfl; (first | rfl | simp [OneV.o]); intro _ h)
 | ((with_reducible apply go_stN h); rfl; (first | rfl | simp [OneV.o]); intro _ h)
 | ((with_reducible apply go_box h); rfl; intro _ _ h)
 | ((with_reducible apply go_ix h); omega)
 | ((with_reducible first | apply go_elN h | apply go_f1 h | apply go_rf1 h | apply go_rel h); (case hi => omega); (try case hx => exact inferInstance); (try case hv => rfl))
 | ((with_reducible apply go_fa h); omega; omega)
))
  have h2 : Sat w0 (LsH cI 1 3 (svV sv) c.times :: Pool T :: RcC q n next sb :: LsH cX 11 36 sb (xs.set j (c, sv)) :: L) _ := h.got
  have h3 : Sat w0 (RcC q n next sb :: LsH cX 11 36 sb (xs.set j (c, sv)) :: Pool (T ++ [(sv, c.times)]) :: L) _ := Sat.get (pool_add h2) (by (repeat (first | exact .done | (refine .pick (by repeat (first | exact .here | apply Fnt.there)) ?_) | refine .skip ?_)))
  refine hK1 rfl (T ++ [(sv, c.times)]) _ (fun y hy => List.mem_append_left _ hy) (refC_mk (xs := xs.set j (c, sv)) ?_ ?_ h3)
  · rw [turnL_set ha (i := j) (by omega) (by rw [hci]; exact e), ← hx, List.map_set]
  · intro y hy
    rcases List.mem_or_eq_of_mem_set hy with hy | hy
    · exact List.mem_append_left _ (hP y hy)
    · subst hy; simp
end
end Go.Proofs.Gong

/- Hs4 -/
namespace Go.Proofs.Gong
open Go Go.Sx Go.Proofs
set_option maxRecDepth 100000
theorem insC_at {c : Ctx} {o : List Ctx} {k : Nat} (hle : ∀ x ∈ o.take k, x.id < c.id) (hs : ∀ x, o[k]? = some x → ¬ x.id < c.id) : o.take k ++ c :: o.drop k = insC c o := by
  unfold insC
  have e0 : o = o.take k ++ o.drop k := (List.take_append_drop k o).symm
  have e1 : o.takeWhile (fun d => decide (d.id < c.id)) = o.take k ∧ o.dropWhile (fun d => decide (d.id < c.id)) = o.drop k := by
    constructor
    · conv => lhs; rw [e0]
      rw [List.takeWhile_append_of_pos (by intro x hx; simpa using hle x hx)]
      cases hd : o.drop k with
      | nil => simp
      | cons y t =>
        have : o[k]? = some y := by rw [← List.head?_drop, hd]; rfl
        have := hs y this
        rw [List.takeWhile_cons, if_neg (by simpa using this), List.append_nil]
    · conv => lhs; rw [e0]
      rw [List.dropWhile_append_of_pos (by intro x hx; simpa using hle x hx)]
      cases hd : o.drop k with
      | nil => simp
      | cons y t =>
        have : o[k]? = some y := by rw [← List.head?_drop, hd]; rfl
        have := hs y this
        rw [List.dropWhile_cons, if_neg (by simpa using this)]
  rw [e1.1, e1.2]
theorem inP_ins {T : TM} {xs : List (Ctx × SV)} {c : Ctx} {sv : SV} {k : Nat} (hP : InP T xs) : InP (T ++ [(sv, c.times)]) (xs.take k ++ (c, sv) :: xs.drop k) := by
  intro y hy
  rcases List.mem_append.1 hy with hy | hy
  · exact List.mem_append_left _ (hP y (List.mem_of_mem_take hy))
  · rcases List.mem_cons.1 hy with hy | hy
    · subst hy; simp
    · exact List.mem_append_left _ (hP y (List.mem_of_mem_drop hy))
attribute [local irreducible] fBuild fLook fZero eqv bEqv Cl MapH LsH SlH ld1 ldN st callP eBox eAlloc lenM lenL eMapSet eDelete eAppend eBuildSl eRange eNext
section
variable {w0 w : World} {L : List HP} {K : Value → World → Prop} {v : Value} {n next next0 : Int} {cs : List Ctx} {c : Ctx} {tv s : Value} {T T' : TM} {xs : List (Ctx × SV)} {q qx qc : Nat}
theorem rcload_put {s0 s1 s2 s8 : Value} {k : Nat} {R3 : Value → Value → Value → Value → Value → World → Prop} (hct : c.times.length ≤ 1073741824) (hr : RdL w0 (Pool T :: L) cI 1 tv c.times) (ho : OneV tv) (hl : xs.length ≤ 65536) (hk : k ≤ xs.length)
    (h : Sat w0 (Cl qc (cCtx c tv).toArray 36 :: RcC qx n next s :: LsH cX 11 36 s xs :: Pool T :: L) w)
    (hE : ∀ sv s' w', Sat w0 (RcC qx n next s' :: LsH cX 11 36 s' (xs.take k ++ (c, sv) :: xs.drop k) :: Pool (T ++ [(sv, c.times)]) :: L) w' → F25_6 s0 s1 s2 (ptr qx) s8 w' K R3) :
    F25_9 s0 s1 s2 (ptr qx) s8 (ptr qc) (.int .i64 (k : Nat)) w K R3 := by
  unfold F25_9 F25_9b
  (repeat (first
 | (simp (disch := omega) only [evA, evB, evC, bAdd_i64, bSub_i64])
 | (with_reducible apply go_ld1 h)
 | ((with_reducible first | apply go_ldA h | apply go_rd h | apply go_rdN h | apply go_rlen h); rfl)
 | (with_reducible first | apply go_ldN h | apply go_lenL h)
 | ((with_reducible apply go_st h); intro _ h)
 | ((with_reducible apply go_stA h); rfl; rfl; (first | rfl | simp [OneV.o]); intro _ h)
 | ((with_reducible apply go_stN h); rfl; (first | rfl | simp [OneV.o]); intro _ h)
 | ((with_reducible apply go_box h); rfl; intro _ _ h)
 | ((with_reducible apply go_ix h); omega)
 | ((with_reducible first | apply go_elN h | apply go_f1 h | apply go_rf1 h | apply go_rel h); (case hi => omega); (try case hx => exact inferInstance); (try case hv => rfl))
 | ((with_reducible apply go_fa h); omega; omega)
))
  refine go_subTo' h (i := k) hk fun v1 r1 => ?_
  replace h := Sat.nilLs cX 11 36 h
  refine ls_app (l := []) (m := xs.take k) CX h sl37 ss37 (r1 h inferInstance) (by simp; omega) fun s1' w h => ?_
  rw [List.nil_append] at h
  (repeat (first
 | (simp (disch := omega) only [evA, evB, evC, bAdd_i64, bSub_i64])
 | (with_reducible apply go_ld1 h)
 | ((with_reducible first | apply go_ldA h | apply go_rd h | apply go_rdN h | apply go_rlen h); rfl)
 | (with_reducible first | apply go_ldN h | apply go_lenL h)
 | ((with_reducible apply go_st h); intro _ h)
 | ((with_reducible apply go_stA h); rfl; rfl; (first | rfl | simp [OneV.o]); intro _ h)
 | ((with_reducible apply go_stN h); rfl; (first | rfl | simp [OneV.o]); intro _ h)
 | ((with_reducible apply go_box h); rfl; intro _ _ h)
 | ((with_reducible apply go_ix h); omega)
 | ((with_reducible first | apply go_elN h | apply go_f1 h | apply go_rf1 h | apply go_rel h); (case hi => omega); (try case hx => exact inferInstance); (try case hv => rfl))
 | ((with_reducible apply go_fa h); omega; omega)
))
  refine copied_spec (c := c) hct (hr.got) ho h fun sv w h => ?_
  refine go_lit1 (x := (c, sv)) CX h u37 (fbX c sv) rfl fun sc w h => ?_
  refine ls_app (l := xs.take k) (m := [(c, sv)]) CX (h.frt (A := LsH cX 11 36 s1' (xs.take k))) sl37 ss37 (ls_of h (.refl _) (inferInstance : LsIn sc _ _ _ _ _ [(c, sv)])) (by simp; omega) fun s2' w h => ?_
  (repeat (first
 | (simp (disch := omega) only [evA, evB, evC, bAdd_i64, bSub_i64])
 | (with_reducible apply go_ld1 h)
 | ((with_reducible first | apply go_ldA h | apply go_rd h | apply go_rdN h | apply go_rlen h); rfl)
 | (with_reducible first | apply go_ldN h | apply go_lenL h)
 | ((with_reducible apply go_st h); intro _ h)
 | ((with_reducible apply go_stA h); rfl; rfl; (first | rfl | simp [OneV.o]); intro _ h)
 | ((with_reducible apply go_stN h); rfl; (first | rfl | simp [OneV.o]); intro _ h)
 | ((with_reducible apply go_box h); rfl; intro _ _ h)
 | ((with_reducible apply go_ix h); omega)
 | ((with_reducible first | apply go_elN h | apply go_f1 h | apply go_rf1 h | apply go_rel h); (case hi => omega); (try case hx => exact inferInstance); (try case hv => rfl))
 | ((with_reducible apply go_fa h); omega; omega)
))
  refine go_subFrom' (v := s) (l := xs) h (i := k) hk fun v2 r2 => ?_
  refine ls_app (l := xs.take k ++ [(c, sv)]) (m := xs.drop k) CX h sl37 ss37 (r2 h inferInstance) (by simp; omega) fun s3' w h => ?_
  have := ls_one h
  (repeat (first
 | (simp (disch := omega) only [evA, evB, evC, bAdd_i64, bSub_i64])
 | (with_reducible apply go_ld1 h)
 | ((with_reducible first | apply go_ldA h | apply go_rd h | apply go_rdN h | apply go_rlen h); rfl)
 | (with_reducible first | apply go_ldN h | apply go_lenL h)
 | ((with_reducible apply go_st h); intro _ h)
 | ((with_reducible apply go_stA h); rfl; rfl; (first | rfl | simp [OneV.o]); intro _ h)
 | ((with_reducible apply go_stN h); rfl; (first | rfl | simp [OneV.o]); intro _ h)
 | ((with_reducible apply go_box h); rfl; intro _ _ h)
 | ((with_reducible apply go_ix h); omega)
 | ((with_reducible first | apply go_elN h | apply go_f1 h | apply go_rf1 h | apply go_rel h); (case hi => omega); (try case hx => exact inferInstance); (try case hv => rfl))
 | ((with_reducible apply go_fa h); omega; omega)
))
  have e : xs.take k ++ [(c, sv)] ++ xs.drop k = xs.take k ++ (c, sv) :: xs.drop k := by simp
  rw [e] at h
  have h2 : Sat w0 (LsH cI 1 3 (svV sv) c.times :: Pool T :: RcC qx n next s3' :: LsH cX 11 36 s3' (xs.take k ++ (c, sv) :: xs.drop k) :: L) _ := h.got
  exact hE sv s3' _ (Sat.get (pool_add h2) (by (repeat (first | exact .done | (refine .pick (by repeat (first | exact .here | apply Fnt.there)) ?_) | refine .skip ?_))))
theorem rcload_find {s0 s1 s2 s8 : Value} {R3 : Value → Value → Value → Value → Value → World → Prop} (hct : c.times.length ≤ 1073741824) (hr : RdL w0 (Pool T :: L) cI 1 tv c.times) (ho : OneV tv) (hl : xs.length ≤ 65536)
    (hE : ∀ sv s' xs' w', xs'.map Prod.fst = insC c (xs.map Prod.fst) → (InP T xs → InP (T ++ [(sv, c.times)]) xs') → Sat w0 (RcC qx n next s' :: LsH cX 11 36 s' xs' :: Pool (T ++ [(sv, c.times)]) :: L) w' → F25_6 s0 s1 s2 (ptr qx) s8 w' K R3) :
    ∀ (d k : Nat) (w : World), xs.length - k < d → k ≤ xs.length → (∀ x ∈ xs.take k, x.1.id < c.id) → Sat w0 (Cl qc (cCtx c tv).toArray 36 :: RcC qx n next s :: LsH cX 11 36 s xs :: Pool T :: L) w →
      F25_8L d s0 s1 s2 (ptr qx) s8 (ptr qc) (.int .i64 (k : Nat)) w K R3 := by
  intro d
  induction d with
  | zero => intro k w hd; omega
  | succ d ih =>
    intro k w hd hk hle h
    rw [F25_8L]
    unfold F25_8b
    have stop : (∀ x, xs[k]? = some x → ¬ x.1.id < c.id) → ∀ w, Sat w0 (Cl qc (cCtx c tv).toArray 36 :: RcC qx n next s :: LsH cX 11 36 s xs :: Pool T :: L) w → F25_9 s0 s1 s2 (ptr qx) s8 (ptr qc) (.int .i64 (k : Nat)) w K R3 := by
      intro hs w h
      refine rcload_put hct hr ho hl hk h fun sv s' w h => hE sv s' _ w ?_ (fun hP => inP_ins hP) h
      rw [List.map_append, List.map_cons, List.map_take, List.map_drop]
      refine insC_at (fun x hx => ?_) (fun x hx => ?_)
      · rw [← List.map_take] at hx
        obtain ⟨y, hy, rfl⟩ := List.mem_map.1 hx
        exact hle y hy
      · rw [List.getElem?_map, Option.map_eq_some_iff] at hx
        obtain ⟨y, hy, rfl⟩ := hx
        exact hs y hy
    by_cases g : k < xs.length
    · have g' : decide ((k : Int) < (xs.length : Int)) = true := by simpa using g
      by_cases g2 : xs[k].1.id < c.id
      · have g2' : decide (xs[k].1.id < c.id) = true := by simpa using g2
        (repeat (first
 | (simp (disch := omega) only [evA, evB, evC, bAdd_i64, bSub_i64, g', g2'])
 | (with_reducible apply go_ld1 h)
 | ((with_reducible first | apply go_ldA h | apply go_rd h | apply go_rdN h | apply go_rlen h); rfl)
 | (with_reducible first | apply go_ldN h | apply go_lenL h)
 | ((with_reducible apply go_st h); intro _ h)
 | ((with_reducible apply go_stA h); rfl; rfl; (first | rfl | simp [OneV.o]); intro _ h)
 | ((with_reducible apply go_stN h); rfl; (first | rfl | simp [OneV.o]); intro _ h)
 | ((with_reducible apply go_box h); rfl; intro _ _ h)
 | ((with_reducible apply go_ix h); omega)
 | ((with_reducible first | apply go_elN h | apply go_f1 h | apply go_rf1 h | apply go_rel h); (case hi => omega); (try case hx => exact inferInstance); (try case hv => rfl))
 | ((with_reducible apply go_fa h); omega; omega)
))
        refine ih (k + 1) _ (by omega) (by omega) (fun x hx => ?_) h.drew
        rw [List.take_succ_eq_append_getElem g] at hx
        rcases List.mem_append.1 hx with hx | hx
        · exact hle x hx
        · simp at hx; subst hx; exact g2
      · have g2' : decide (xs[k].1.id < c.id) = false := by simpa using g2
        have st := stop (fun x hx => by rw [List.getElem?_eq_getElem g] at hx; cases hx; exact g2) _ h.drew
        (repeat (first
 | (simp (disch := omega) only [evA, evB, evC, bAdd_i64, bSub_i64, g', g2'])
 | (with_reducible apply go_ld1 h)
 | ((with_reducible first | apply go_ldA h | apply go_rd h | apply go_rdN h | apply go_rlen h); rfl)
 | (with_reducible first | apply go_ldN h | apply go_lenL h)
 | ((with_reducible apply go_st h); intro _ h)
 | ((with_reducible apply go_stA h); rfl; rfl; (first | rfl | simp [OneV.o]); intro _ h)
 | ((with_reducible apply go_stN h); rfl; (first | rfl | simp [OneV.o]); intro _ h)
 | ((with_reducible apply go_box h); rfl; intro _ _ h)
 | ((with_reducible apply go_ix h); omega)
 | ((with_reducible first | apply go_elN h | apply go_f1 h | apply go_rf1 h | apply go_rel h); (case hi => omega); (try case hx => exact inferInstance); (try case hv => rfl))
 | ((with_reducible apply go_fa h); omega; omega)
))
        exact st
    · have g' : decide ((k : Int) < (xs.length : Int)) = false := by simpa using g
      have st := stop (fun x hx => by rw [List.getElem?_eq_none (by omega)] at hx; cases hx) _ h.drew
      (repeat (first
 | (simp (disch := omega) only [evA, evB, evC, bAdd_i64, bSub_i64, g'])
 | (with_reducible apply go_ld1 h)
 | ((with_reducible first | apply go_ldA h | apply go_rd h | apply go_rdN h | apply go_rlen h); rfl)
 | (with_reducible first | apply go_ldN h | apply go_lenL h)
 | ((with_reducible apply go_st h); intro _ h)
 | ((with_reducible apply go_stA h); rfl; rfl; (first | rfl | simp [OneV.o]); intro _ h)
 | ((with_reducible apply go_stN h); rfl; (first | rfl | simp [OneV.o]); intro _ h)
 | ((with_reducible apply go_box h); rfl; intro _ _ h)
 | ((with_reducible apply go_ix h); omega)
 | ((with_reducible first | apply go_elN h | apply go_f1 h | apply go_rf1 h | apply go_rel h); (case hi => omega); (try case hx => exact inferInstance); (try case hv => rfl))
 | ((with_reducible apply go_fa h); omega; omega)
))
      exact st
theorem rcload_loop {sv : Value} {l : List (Ctx × SV)} {T0 : TM} (hfit : ∀ x ∈ l, x.1.fits) (hlen : l.length ≤ 65536) (hrd : RdL w0 L cX 11 sv l) (hrt : RdT w0 L T0 l)
    (hK0 : loadL next (l.map Prod.fst) [] = none → ∀ T' w', (∀ y ∈ T0, y ∈ T') → Sat w0 (Pool T' :: L) w' → K (.int .i64 4) w')
    (hK1 : ∀ ds, loadL next (l.map Prod.fst) [] = some ds → ∀ T' s' xs' w', (∀ y ∈ T0, y ∈ T') → xs'.map Prod.fst = ds → InP T' xs' → Sat w0 (RcC qx n next s' :: LsH cX 11 36 s' xs' :: Pool T' :: L) w' → F25_3 (ptr q) sv (.int .i64 next) (ptr qx) w' K) :
    ∀ (d i : Nat) (xs : List (Ctx × SV)) (T : TM) (s : Value) (w : World), l.length - i < d → i ≤ l.length → xs.length = i → (∀ y ∈ T0, y ∈ T) → InP T xs → loadL next (l.map Prod.fst) [] = loadL next ((l.drop i).map Prod.fst) (xs.map Prod.fst) →
      Sat w0 (RcC qx n next s :: LsH cX 11 36 s xs :: Pool T :: L) w → F25_2L d (ptr q) sv (.int .i64 next) (ptr qx) (.int .i64 i) w K := by
  intro d
  induction d with
  | zero => intro i _ _ _ _ hd; omega
  | succ d ih =>
    intro i xs T s w hd hi hc hTT hP he h
    rw [F25_2L]
    unfold F25_4 F25_4b
    have hl := (hrd w (h.got)).len
    by_cases g : i < l.length
    · have g' : decide ((i : Int) < (l.length : Int)) = true := by simpa using g
      have hd1 : (l.drop i).map Prod.fst = l[i].1 :: (l.drop (i + 1)).map Prod.fst := by rw [List.drop_eq_getElem_cons g]; rfl
      rw [hd1] at he
      have hrL : Rd w 11 sv l.length (l.flatMap cX) := hrd w (h.got)
      (repeat (first
 | (simp (disch := omega) only [evA, evB, evC, bAdd_i64, bSub_i64, hl, g'])
 | (with_reducible apply go_ld1 h)
 | ((with_reducible first | apply go_ldA h | apply go_rd h | apply go_rdN h | apply go_rlen h); rfl)
 | (with_reducible first | apply go_ldN h | apply go_lenL h)
 | ((with_reducible apply go_st h); intro _ h)
 | ((with_reducible apply go_stA h); rfl; rfl; (first | rfl | simp [OneV.o]); intro _ h)
 | ((with_reducible apply go_stN h); rfl; (first | rfl | simp [OneV.o]); intro _ h)
 | ((with_reducible apply go_box h); rfl; intro _ _ h)
 | ((with_reducible apply go_ix h); omega)
 | ((with_reducible first | apply go_elN h | apply go_f1 h | apply go_rf1 h | apply go_rel h); (case hi => omega); (try case hx => exact inferInstance); (try case hv => rfl))
 | ((with_reducible apply go_fa h); omega; omega)
))
      unfold F25_5 F25_7 F25_7b
      refine go_some (ix_el hrL g) ?_
      refine go_some (rd_ld CX hrL g) ?_
      have hx := List.getElem_mem g
      have hro : RdL w0 (Pool T :: L) cI 1 (svV l[i].2) l[i].1.times := hrt _ hx T hTT
      have hfc := hfit _ hx
      generalize l[i] = y at he hro hfc
      obtain ⟨c, t⟩ := y
      have hct : c.times.length ≤ 1073741824 := by have : c.times.length < 1073741824 := hfc.2.2.2; omega
      have hbad : loadStep next (xs.map Prod.fst) c = none → loadL next (l.map Prod.fst) [] = none := fun h => by rw [he]; simp [loadL, h]
      refine go_alloc h zc41 rfl fun qc _ h => ?_
      (repeat (first
 | (simp (disch := omega) only [evA, evB, evC, bAdd_i64, bSub_i64])
 | (with_reducible apply go_ld1 h)
 | ((with_reducible first | apply go_ldA h | apply go_rd h | apply go_rdN h | apply go_rlen h); rfl)
 | (with_reducible first | apply go_ldN h | apply go_lenL h)
 | ((with_reducible apply go_st h); intro _ h)
 | ((with_reducible apply go_stA h); rfl; rfl; (first | rfl | simp [OneV.o]); intro _ h)
 | ((with_reducible apply go_stN h); rfl; (first | rfl | simp [OneV.o]); intro _ h)
 | ((with_reducible apply go_box h); rfl; intro _ _ h)
 | ((with_reducible apply go_ix h); omega)
 | ((with_reducible first | apply go_elN h | apply go_f1 h | apply go_rf1 h | apply go_rel h); (case hi => omega); (try case hx => exact inferInstance); (try case hv => rfl))
 | ((with_reducible apply go_fa h); omega; omega)
))
      refine fhcheck_spec (c := c) hfc (hro.got) h fun w h => ?_
      unfold chkC
      cases g1 : okC c
      · (repeat (first
 | (simp (disch := omega) only [evA, evB, evC, bAdd_i64, bSub_i64, Bool.false_eq_true, if_false, Int.reduceEq])
 | (with_reducible apply go_ld1 h)
 | ((with_reducible first | apply go_ldA h | apply go_rd h | apply go_rdN h | apply go_rlen h); rfl)
 | (with_reducible first | apply go_ldN h | apply go_lenL h)
 | ((with_reducible apply go_st h); intro _ h)
 | ((with_reducible apply go_stA h); rfl; rfl; (first | rfl | simp [OneV.o]); intro _ h)
 | ((with_reducible apply go_stN h); rfl; (first | rfl | simp [OneV.o]); intro _ h)
 | ((with_reducible apply go_box h); rfl; intro _ _ h)
 | ((with_reducible apply go_ix h); omega)
 | ((with_reducible first | apply go_elN h | apply go_f1 h | apply go_rf1 h | apply go_rel h); (case hi => omega); (try case hx => exact inferInstance); (try case hv => rfl))
 | ((with_reducible apply go_fa h); omega; omega)
))
        exact hK0 (hbad (by unfold loadStep; rw [if_neg]; simp [g1])) T _ hTT (h.got)
      by_cases g2 : c.id < 1
      · have g2' : decide (c.id < 1) = true := by simpa using g2
        (repeat (first
 | (simp (disch := omega) only [evA, evB, evC, bAdd_i64, bSub_i64, if_true, g2', Int.reduceEq])
 | (with_reducible apply go_ld1 h)
 | ((with_reducible first | apply go_ldA h | apply go_rd h | apply go_rdN h | apply go_rlen h); rfl)
 | (with_reducible first | apply go_ldN h | apply go_lenL h)
 | ((with_reducible apply go_st h); intro _ h)
 | ((with_reducible apply go_stA h); rfl; rfl; (first | rfl | simp [OneV.o]); intro _ h)
 | ((with_reducible apply go_stN h); rfl; (first | rfl | simp [OneV.o]); intro _ h)
 | ((with_reducible apply go_box h); rfl; intro _ _ h)
 | ((with_reducible apply go_ix h); omega)
 | ((with_reducible first | apply go_elN h | apply go_f1 h | apply go_rf1 h | apply go_rel h); (case hi => omega); (try case hx => exact inferInstance); (try case hv => rfl))
 | ((with_reducible apply go_fa h); omega; omega)
))
        exact hK0 (hbad (by unfold loadStep; rw [if_neg]; omega)) T _ hTT (h.got)
      have g2' : decide (c.id < 1) = false := by simpa using g2
      by_cases g3 : c.id ≥ next
      · have g3' : decide (c.id ≥ next) = true := by simpa using g3
        (repeat (first
 | (simp (disch := omega) only [evA, evB, evC, bAdd_i64, bSub_i64, if_true, g2', g3', Int.reduceEq])
 | (with_reducible apply go_ld1 h)
 | ((with_reducible first | apply go_ldA h | apply go_rd h | apply go_rdN h | apply go_rlen h); rfl)
 | (with_reducible first | apply go_ldN h | apply go_lenL h)
 | ((with_reducible apply go_st h); intro _ h)
 | ((with_reducible apply go_stA h); rfl; rfl; (first | rfl | simp [OneV.o]); intro _ h)
 | ((with_reducible apply go_stN h); rfl; (first | rfl | simp [OneV.o]); intro _ h)
 | ((with_reducible apply go_box h); rfl; intro _ _ h)
 | ((with_reducible apply go_ix h); omega)
 | ((with_reducible first | apply go_elN h | apply go_f1 h | apply go_rf1 h | apply go_rel h); (case hi => omega); (try case hx => exact inferInstance); (try case hv => rfl))
 | ((with_reducible apply go_fa h); omega; omega)
))
        exact hK0 (hbad (by unfold loadStep; rw [if_neg]; omega)) T _ hTT (h.got)
      have g3' : decide (c.id ≥ next) = false := by simpa using g3
      (repeat (first
 | (simp (disch := omega) only [evA, evB, evC, bAdd_i64, bSub_i64, if_true, g2', g3', Int.reduceEq])
 | (with_reducible apply go_ld1 h)
 | ((with_reducible first | apply go_ldA h | apply go_rd h | apply go_rdN h | apply go_rlen h); rfl)
 | (with_reducible first | apply go_ldN h | apply go_lenL h)
 | ((with_reducible apply go_st h); intro _ h)
 | ((with_reducible apply go_stA h); rfl; rfl; (first | rfl | simp [OneV.o]); intro _ h)
 | ((with_reducible apply go_stN h); rfl; (first | rfl | simp [OneV.o]); intro _ h)
 | ((with_reducible apply go_box h); rfl; intro _ _ h)
 | ((with_reducible apply go_ix h); omega)
 | ((with_reducible first | apply go_elN h | apply go_f1 h | apply go_rf1 h | apply go_rel h); (case hi => omega); (try case hx => exact inferInstance); (try case hv => rfl))
 | ((with_reducible apply go_fa h); omega; omega)
))
      refine at_spec (q := qx) (id := c.id) (xs := xs) (s := s) (n := n) (next := next) (by omega) (h.got : Sat w0 (RcC qx n next s :: LsH cX 11 36 s xs :: Cl qc (cCtx c (svV t)).toArray 36 :: Pool T :: L) w) (fun hn1 => ?_) (fun j hj e1 => ?_)
      case refine_2 =>
        have g4 : decide ((j : Int) ≥ 0) = true := by simp
        (repeat (first
 | (simp (disch := omega) only [evA, evB, evC, bAdd_i64, bSub_i64, g4])
 | (with_reducible apply go_ld1 h)
 | ((with_reducible first | apply go_ldA h | apply go_rd h | apply go_rdN h | apply go_rlen h); rfl)
 | (with_reducible first | apply go_ldN h | apply go_lenL h)
 | ((with_reducible apply go_st h); intro _ h)
 | ((with_reducible apply go_stA h); rfl; rfl; (first | rfl | simp [OneV.o]); intro _ h)
 | ((with_reducible apply go_stN h); rfl; (first | rfl | simp [OneV.o]); intro _ h)
 | ((with_reducible apply go_box h); rfl; intro _ _ h)
 | ((with_reducible apply go_ix h); omega)
 | ((with_reducible first | apply go_elN h | apply go_f1 h | apply go_rf1 h | apply go_rel h); (case hi => omega); (try case hx => exact inferInstance); (try case hv => rfl))
 | ((with_reducible apply go_fa h); omega; omega)
))
        refine hK0 (hbad ?_) T _ hTT (h.got)
        unfold loadStep
        rw [if_neg]
        rintro ⟨_, _, _, h1, _⟩
        exact h1 _ (List.mem_map.2 ⟨xs[j], List.getElem_mem hj, rfl⟩) e1
      have g4 : decide ((-1 : Int) ≥ 0) = false := by decide
      (repeat (first
 | (simp (disch := omega) only [evA, evB, evC, bAdd_i64, bSub_i64, g4])
 | (with_reducible apply go_ld1 h)
 | ((with_reducible first | apply go_ldA h | apply go_rd h | apply go_rdN h | apply go_rlen h); rfl)
 | (with_reducible first | apply go_ldN h | apply go_lenL h)
 | ((with_reducible apply go_st h); intro _ h)
 | ((with_reducible apply go_stA h); rfl; rfl; (first | rfl | simp [OneV.o]); intro _ h)
 | ((with_reducible apply go_stN h); rfl; (first | rfl | simp [OneV.o]); intro _ h)
 | ((with_reducible apply go_box h); rfl; intro _ _ h)
 | ((with_reducible apply go_ix h); omega)
 | ((with_reducible first | apply go_elN h | apply go_f1 h | apply go_rf1 h | apply go_rel h); (case hi => omega); (try case hx => exact inferInstance); (try case hv => rfl))
 | ((with_reducible apply go_fa h); omega; omega)
))
      refine place_spec (q := qx) (g := sgnOf c) (xs := xs) (s := s) (n := n) (next := next) (by omega) (h.got : Sat w0 (RcC qx n next s :: LsH cX 11 36 s xs :: Cl qc (cCtx c (svV t)).toArray 36 :: Pool T :: L) w) (fun hn2 => ?_) (fun j hj e1 => ?_)
      case refine_2 =>
        have g5 : decide ((j : Int) ≥ 0) = true := by simp
        (repeat (first
 | (simp (disch := omega) only [evA, evB, evC, bAdd_i64, bSub_i64, g5])
 | (with_reducible apply go_ld1 h)
 | ((with_reducible first | apply go_ldA h | apply go_rd h | apply go_rdN h | apply go_rlen h); rfl)
 | (with_reducible first | apply go_ldN h | apply go_lenL h)
 | ((with_reducible apply go_st h); intro _ h)
 | ((with_reducible apply go_stA h); rfl; rfl; (first | rfl | simp [OneV.o]); intro _ h)
 | ((with_reducible apply go_stN h); rfl; (first | rfl | simp [OneV.o]); intro _ h)
 | ((with_reducible apply go_box h); rfl; intro _ _ h)
 | ((with_reducible apply go_ix h); omega)
 | ((with_reducible first | apply go_elN h | apply go_f1 h | apply go_rf1 h | apply go_rel h); (case hi => omega); (try case hx => exact inferInstance); (try case hv => rfl))
 | ((with_reducible apply go_fa h); omega; omega)
))
        refine hK0 (hbad ?_) T _ hTT (h.got)
        unfold loadStep
        rw [if_neg]
        rintro ⟨_, _, _, _, h1⟩
        exact h1 _ (List.mem_map.2 ⟨xs[j], List.getElem_mem hj, rfl⟩) e1
      (repeat (first
 | (simp (disch := omega) only [evA, evB, evC, bAdd_i64, bSub_i64, g4])
 | (with_reducible apply go_ld1 h)
 | ((with_reducible first | apply go_ldA h | apply go_rd h | apply go_rdN h | apply go_rlen h); rfl)
 | (with_reducible first | apply go_ldN h | apply go_lenL h)
 | ((with_reducible apply go_st h); intro _ h)
 | ((with_reducible apply go_stA h); rfl; rfl; (first | rfl | simp [OneV.o]); intro _ h)
 | ((with_reducible apply go_stN h); rfl; (first | rfl | simp [OneV.o]); intro _ h)
 | ((with_reducible apply go_box h); rfl; intro _ _ h)
 | ((with_reducible apply go_ix h); omega)
 | ((with_reducible first | apply go_elN h | apply go_f1 h | apply go_rf1 h | apply go_rel h); (case hi => omega); (try case hx => exact inferInstance); (try case hv => rfl))
 | ((with_reducible apply go_fa h); omega; omega)
))
      unfold F25_8
      have hst : loadStep next (xs.map Prod.fst) c = some (insC c (xs.map Prod.fst)) := by
        unfold loadStep
        rw [if_pos]
        refine ⟨g1, by omega, by omega, fun d hd => ?_, fun d hd => ?_⟩
        · obtain ⟨x, hx2, rfl⟩ := List.mem_map.1 hd; exact hn1 x hx2
        · obtain ⟨x, hx2, rfl⟩ := List.mem_map.1 hd; exact hn2 x hx2
      refine rcload_find (c := c) (tv := svV t) (qc := qc) (qx := qx) (xs := xs) (s := s) (T := T) (n := n) (next := next) (L := L) hct hro inferInstance (by omega) (fun sv' s' xs' w hm hP2 h => ?_) fuel 0 _ (by unfold fuel; omega) (by omega) (by simp) (h.got)
      unfold F25_6 F25_6b
      (repeat (first
 | (simp (disch := omega) only [evA, evB, evC, bAdd_i64, bSub_i64])
 | (with_reducible apply go_ld1 h)
 | ((with_reducible first | apply go_ldA h | apply go_rd h | apply go_rdN h | apply go_rlen h); rfl)
 | (with_reducible first | apply go_ldN h | apply go_lenL h)
 | ((with_reducible apply go_st h); intro _ h)
 | ((with_reducible apply go_stA h); rfl; rfl; (first | rfl | simp [OneV.o]); intro _ h)
 | ((with_reducible apply go_stN h); rfl; (first | rfl | simp [OneV.o]); intro _ h)
 | ((with_reducible apply go_box h); rfl; intro _ _ h)
 | ((with_reducible apply go_ix h); omega)
 | ((with_reducible first | apply go_elN h | apply go_f1 h | apply go_rf1 h | apply go_rel h); (case hi => omega); (try case hx => exact inferInstance); (try case hv => rfl))
 | ((with_reducible apply go_fa h); omega; omega)
))
      refine ih (i + 1) xs' (T ++ [(sv', c.times)]) s' _ (by omega) (by omega) ?_ (fun y hy => List.mem_append_left _ (hTT y hy)) (hP2 hP) ?_ h
      · have h9 := congrArg List.length hm
        have := (insC_perm c (xs.map Prod.fst)).length_eq
        simp at this h9; omega
      · rw [he, hm]; simp [loadL, hst]
    · have g' : decide ((i : Int) < (l.length : Int)) = false := by simpa using g
      rw [List.drop_eq_nil_of_le (by omega)] at he
      (repeat (first
 | (simp (disch := omega) only [evA, evB, evC, bAdd_i64, bSub_i64, hl, g'])
 | (with_reducible apply go_ld1 h)
 | ((with_reducible first | apply go_ldA h | apply go_rd h | apply go_rdN h | apply go_rlen h); rfl)
 | (with_reducible first | apply go_ldN h | apply go_lenL h)
 | ((with_reducible apply go_st h); intro _ h)
 | ((with_reducible apply go_stA h); rfl; rfl; (first | rfl | simp [OneV.o]); intro _ h)
 | ((with_reducible apply go_stN h); rfl; (first | rfl | simp [OneV.o]); intro _ h)
 | ((with_reducible apply go_box h); rfl; intro _ _ h)
 | ((with_reducible apply go_ix h); omega)
 | ((with_reducible first | apply go_elN h | apply go_f1 h | apply go_rf1 h | apply go_rel h); (case hi => omega); (try case hx => exact inferInstance); (try case hv => rfl))
 | ((with_reducible apply go_fa h); omega; omega)
))
      exact hK1 _ (by rw [he]; rfl) T s xs w hTT rfl hP h
theorem rcload_spec {sv : Value} {l : List (Ctx × SV)} (hfit : ∀ x ∈ l, x.1.fits) (hlen : l.length ≤ 65536) (hrd : RdL w0 L cX 11 sv l) (hrt : RdT w0 L T l)
    (h : Sat w0 (RefC v n next0 cs T :: Pool T :: L) w)
    (hK : ∀ T' w', (∀ y ∈ T, y ∈ T') → Sat w0 (RefC v n (loadA' n next0 cs (l.map Prod.fst) next).2.1 (loadA' n next0 cs (l.map Prod.fst) next).2.2 T' :: Pool T' :: L) w' → K (.int .i64 (loadA' n next0 cs (l.map Prod.fst) next).1) w') : callP G25 [v, sv, .int .i64 next] w K := by
  obtain ⟨q, rfl⟩ := refC_ptr h
  refine c25 ?_
  unfold F25 F25_1 F25_1b F25_2
  unfold loadA' at hK
  by_cases g1 : next < 1
  · have g1' : decide (next < 1) = true := by simpa using g1
    rw [if_pos (.inl g1)] at hK
    (repeat (first
 | (simp (disch := omega) only [evA, evB, evC, bAdd_i64, bSub_i64, g1'])
 | (with_reducible apply go_ld1 h)
 | ((with_reducible first | apply go_ldA h | apply go_rd h | apply go_rdN h | apply go_rlen h); rfl)
 | (with_reducible first | apply go_ldN h | apply go_lenL h)
 | ((with_reducible apply go_st h); intro _ h)
 | ((with_reducible apply go_stA h); rfl; rfl; (first | rfl | simp [OneV.o]); intro _ h)
 | ((with_reducible apply go_stN h); rfl; (first | rfl | simp [OneV.o]); intro _ h)
 | ((with_reducible apply go_box h); rfl; intro _ _ h)
 | ((with_reducible apply go_ix h); omega)
 | ((with_reducible first | apply go_elN h | apply go_f1 h | apply go_rf1 h | apply go_rel h); (case hi => omega); (try case hx => exact inferInstance); (try case hv => rfl))
 | ((with_reducible apply go_fa h); omega; omega)
))
    exact hK T _ (fun _ h => h) h
  have g1' : decide (next < 1) = false := by simpa using g1
  by_cases g2 : next > 1152921504606846976
  · have g2' : decide (next > 1152921504606846976) = true := by simpa using g2
    rw [if_pos (.inr g2)] at hK
    (repeat (first
 | (simp (disch := omega) only [evA, evB, evC, bAdd_i64, bSub_i64, g1', g2'])
 | (with_reducible apply go_ld1 h)
 | ((with_reducible first | apply go_ldA h | apply go_rd h | apply go_rdN h | apply go_rlen h); rfl)
 | (with_reducible first | apply go_ldN h | apply go_lenL h)
 | ((with_reducible apply go_st h); intro _ h)
 | ((with_reducible apply go_stA h); rfl; rfl; (first | rfl | simp [OneV.o]); intro _ h)
 | ((with_reducible apply go_stN h); rfl; (first | rfl | simp [OneV.o]); intro _ h)
 | ((with_reducible apply go_box h); rfl; intro _ _ h)
 | ((with_reducible apply go_ix h); omega)
 | ((with_reducible first | apply go_elN h | apply go_f1 h | apply go_rf1 h | apply go_rel h); (case hi => omega); (try case hx => exact inferInstance); (try case hv => rfl))
 | ((with_reducible apply go_fa h); omega; omega)
))
    exact hK T _ (fun _ h => h) h
  have g2' : decide (next > 1152921504606846976) = false := by simpa using g2
  rw [if_neg (by omega)] at hK
  replace h := refC_at h
  obtain ⟨s, xs, hx, hP, h⟩ := h
  have eb : fBuild Tryz.prog 45 [(0, .int .i64 n), (1, .int .i64 next)] = some (.agg #[.int .i64 n, .int .i64 next, .slice none 0 0]) := by kernel_rfl
  (repeat (first
 | (simp (disch := omega) only [evA, evB, evC, bAdd_i64, bSub_i64, g1', g2'])
 | (with_reducible apply go_ld1 h)
 | ((with_reducible first | apply go_ldA h | apply go_rd h | apply go_rdN h | apply go_rlen h); rfl)
 | (with_reducible first | apply go_ldN h | apply go_lenL h)
 | ((with_reducible apply go_st h); intro _ h)
 | ((with_reducible apply go_stA h); rfl; rfl; (first | rfl | simp [OneV.o]); intro _ h)
 | ((with_reducible apply go_stN h); rfl; (first | rfl | simp [OneV.o]); intro _ h)
 | ((with_reducible apply go_box h); rfl; intro _ _ h)
 | ((with_reducible apply go_ix h); omega)
 | ((with_reducible first | apply go_elN h | apply go_f1 h | apply go_rf1 h | apply go_rel h); (case hi => omega); (try case hx => exact inferInstance); (try case hv => rfl))
 | ((with_reducible apply go_fa h); omega; omega)
))
  refine go_some eb ?_
  refine eBox_sat h fun qx w h => ?_
  simp only [cells_agg] at h
  have h2 := Sat.nilLs cX 11 36 h
  refine rcload_loop (q := q) (qx := qx) (T0 := T) (L := RcC q n next0 s :: LsH cX 11 36 s xs :: L) hfit hlen (hrd.got) (fun x hx T' hT' => (hrt x hx T' hT').got) (fun hb T' w hT' h => ?_) (fun ds hds T' s' xs' w hT' hm hP' h => ?_) fuel 0 [] T (.slice none 0 0) w (by unfold fuel; omega) (by omega) rfl (fun _ h => h) (by intro x hx; cases hx) (by simp) (h2.got)
  · rw [hb] at hK
    exact hK T' w hT' (refC_mk hx (hP.mono hT') (h.got))
  rw [hds] at hK
  simp only at hK
  unfold F25_3 F25_3b
  have hl := (hrd w (h.got)).len
  have := ls_one (h.frt (A := LsH cX 11 36 s' xs'))
  by_cases g3 : (l.length : Int) > n
  · have g3' : decide ((l.length : Int) > n) = true := by simpa using g3
    rw [if_pos (by simpa using g3)] at hK
    (repeat (first
 | (simp (disch := omega) only [evA, evB, evC, bAdd_i64, bSub_i64, hl, g3'])
 | (with_reducible apply go_ld1 h)
 | ((with_reducible first | apply go_ldA h | apply go_rd h | apply go_rdN h | apply go_rlen h); rfl)
 | (with_reducible first | apply go_ldN h | apply go_lenL h)
 | ((with_reducible apply go_st h); intro _ h)
 | ((with_reducible apply go_stA h); rfl; rfl; (first | rfl | simp [OneV.o]); intro _ h)
 | ((with_reducible apply go_stN h); rfl; (first | rfl | simp [OneV.o]); intro _ h)
 | ((with_reducible apply go_box h); rfl; intro _ _ h)
 | ((with_reducible apply go_ix h); omega)
 | ((with_reducible first | apply go_elN h | apply go_f1 h | apply go_rf1 h | apply go_rel h); (case hi => omega); (try case hx => exact inferInstance); (try case hv => rfl))
 | ((with_reducible apply go_fa h); omega; omega)
))
    exact hK T' _ hT' (refC_mk hx (hP.mono hT') (h.got))
  · have g3' : decide ((l.length : Int) > n) = false := by simpa using g3
    rw [if_neg (by simpa using g3)] at hK
    (repeat (first
 | (simp (disch := omega) only [evA, evB, evC, bAdd_i64, bSub_i64, hl, g3'])
 | (with_reducible apply go_ld1 h)
 | ((with_reducible first | apply go_ldA h | apply go_rd h | apply go_rdN h | apply go_rlen h); rfl)
 | (with_reducible first | apply go_ldN h | apply go_lenL h)
 | ((with_reducible apply go_st h); intro _ h)
 | ((with_reducible apply go_stA h); rfl; rfl; (first | rfl | simp [OneV.o]); intro _ h)
 | ((with_reducible apply go_stN h); rfl; (first | rfl | simp [OneV.o]); intro _ h)
 | ((with_reducible apply go_box h); rfl; intro _ _ h)
 | ((with_reducible apply go_ix h); omega)
 | ((with_reducible first | apply go_elN h | apply go_f1 h | apply go_rf1 h | apply go_rel h); (case hi => omega); (try case hx => exact inferInstance); (try case hv => rfl))
 | ((with_reducible apply go_fa h); omega; omega)
))
    exact hK T' _ hT' (refC_mk hm hP' (h.got))
end
end Go.Proofs.Gong
