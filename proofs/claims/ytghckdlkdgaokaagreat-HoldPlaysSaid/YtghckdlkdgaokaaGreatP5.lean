/- A part of the proofs: what stands below it, told in lemmas. No condition. -/
import Derived.Test.YtghckdlkdgaokaaGreatP4
set_option linter.all false

/- Hs5 -/
namespace Go.Proofs.Gong
open Go Go.Sx Go.Proofs
set_option maxRecDepth 100000
theorem eqBh (x y : Operand) (a b : Bool) : bEq Tryz.prog 4 x y (.bool a) (.bool b) = some (.bool (a == b)) := bEq_bool ub4 a b
def FindR (cs : List Ctx) (g : Sgn) (c : Ctx) (b : Bool) : Prop := (b = false ∧ c = zeroC ∧ ∀ d ∈ cs, sgnOf d ≠ g) ∨ (b = true ∧ c ∈ cs ∧ sgnOf c = g)
def FirstR (cs : List Ctx) (c : Ctx) (b : Bool) : Prop := (b = false ∧ c = zeroC ∧ cs = []) ∨ (b = true ∧ FirstC c cs)
theorem FindR.eq {cs : List Ctx} {g : Sgn} {c d : Ctx} {a b : Bool} (hs : cs.Pairwise fun a b => sgnOf a ≠ sgnOf b) (h1 : FindR cs g c a) (h2 : FindR cs g d b) : c = d ∧ a = b := by
  rcases h1 with ⟨rfl, rfl, h1⟩ | ⟨rfl, h1, h1'⟩ <;> rcases h2 with ⟨rfl, rfl, h2⟩ | ⟨rfl, h2, h2'⟩
  · exact ⟨rfl, rfl⟩
  · exact absurd h2' (h1 _ h2)
  · exact absurd h1' (h2 _ h1)
  · exact ⟨sg_eq hs h1 h2 (h1'.trans h2'.symm), rfl⟩
theorem FirstR.eq {cs : List Ctx} {c d : Ctx} {a b : Bool} (ha : cs.Pairwise fun a b => a.id < b.id) (h1 : FirstR cs c a) (h2 : FirstR cs d b) : c = d ∧ a = b := by
  rcases h1 with ⟨rfl, rfl, h1⟩ | ⟨rfl, h1⟩ <;> rcases h2 with ⟨rfl, rfl, h2⟩ | ⟨rfl, h2⟩
  · exact ⟨rfl, rfl⟩
  · rw [h1] at h2; have := h2.1; simp at this
  · rw [h2] at h1; have := h1.1; simp at this
  · exact ⟨FirstC.eq ha h1 h2, rfl⟩
abbrev txT (xs : List (Ctx × SV)) : TM := xs.map fun x => (x.2, x.1.times)
attribute [local irreducible] fBuild fLook fZero eqv bEqv Cl MapH LsH SlH ld1 ldN st callP eBox eAlloc lenM lenL eMapSet eDelete eAppend eBuildSl eRange eNext
section
variable {w0 w : World} {L : List HP} {K : Value → World → Prop} {v rv : Value} {n next : Int} {cs : List Ctx} {c : Ctx} {tv s : Value} {T T' : TM} {xs ys : List (Ctx × SV)} {q : Nat} {l : List Int}
theorem bag_pool (h : Sat w0 (bag (hlX xs) :: L) w) : Sat w0 (Pool (txT xs) :: L) w := by
  refine pool_iff.2 ?_
  have h1 := bag_iff.1 h
  have e : (hlX xs).map heldP = (txT xs).map tmP := by
    unfold hlX txT
    rw [List.map_map, List.map_map]
    rfl
  rw [e] at h1
  exact h1
theorem pool_cons {y : SV × List Int} (h : Sat w0 (Pool (y :: T) :: L) w) : Sat w0 (LsH cI 1 3 (svV y.1) y.2 :: Pool T :: L) w := by
  have h1 := pool_iff.1 h
  rw [List.map_cons, List.cons_append] at h1
  have h2 : Sat w0 (Pool T :: tmP y :: L) w := pool_iff.2 (h1.perm List.perm_middle.symm)
  exact h2.f1
theorem spoil_loop {sv : Value} (hK : ∀ w', Sat w0 L w' → K (.tuple #[]) w') : ∀ (d i : Nat) (l : List Int) (w : World), l.length - i < d → i ≤ l.length → l.length ≤ 1073741824 → Sat w0 (LsH cI 1 3 sv l :: L) w → F16_2L d sv (.int .i64 i) w K := by
  intro d
  induction d with
  | zero => intro i l w hd; omega
  | succ d ih =>
    intro i l w hd hi hl h
    rw [F16_2L]
    unfold F16_2b
    by_cases g : i < l.length
    · have g' : decide ((i : Int) < (l.length : Int)) = true := by simpa using g
      (repeat (first
 | (simp (disch := omega) only [evA, evB, evC, bAdd_i64, bSub_i64, g'])
 | (with_reducible apply go_ld1 h)
 | ((with_reducible first | apply go_ldA h | apply go_rd h | apply go_rdN h | apply go_rlen h); rfl)
 | (with_reducible first | apply go_ldN h | apply go_lenL h)
 | ((with_reducible apply go_st h); intro _ h)
 | ((with_reducible apply go_stA h); rfl; rfl; (first | rfl | simp [OneV.o]); intro _ h)
 | ((with_reducible apply go_stN h); rfl; (first | rfl | simp [OneV.o]); intro _ h)
 | ((with_reducible apply go_box h); rfl; intro _ _ h)
 | ((with_reducible apply go_ix h); omega)
 | ((with_reducible first | apply go_elN h | apply go_f1 h | apply go_rf1 h | apply go_rel h); (case hi => omega); (try case hx => exact inferInstance); (try case hv => rfl))
 | ((with_reducible apply go_fa h); omega; omega)
))
      refine ls_st CI h g (-77) rfl fun w h => ?_
      (repeat (first
 | (simp (disch := omega) only [evA, evB, evC, bAdd_i64, bSub_i64])
 | (with_reducible apply go_ld1 h)
 | ((with_reducible first | apply go_ldA h | apply go_rd h | apply go_rdN h | apply go_rlen h); rfl)
 | (with_reducible first | apply go_ldN h | apply go_lenL h)
 | ((with_reducible apply go_st h); intro _ h)
 | ((with_reducible apply go_stA h); rfl; rfl; (first | rfl | simp [OneV.o]); intro _ h)
 | ((with_reducible apply go_stN h); rfl; (first | rfl | simp [OneV.o]); intro _ h)
 | ((with_reducible apply go_box h); rfl; intro _ _ h)
 | ((with_reducible apply go_ix h); omega)
 | ((with_reducible first | apply go_elN h | apply go_f1 h | apply go_rf1 h | apply go_rel h); (case hi => omega); (try case hx => exact inferInstance); (try case hv => rfl))
 | ((with_reducible apply go_fa h); omega; omega)
))
      exact ih (i + 1) _ w (by simp; omega) (by simp; omega) (by simpa using hl) h
    · have g' : decide ((i : Int) < (l.length : Int)) = false := by simpa using g
      (repeat (first
 | (simp (disch := omega) only [evA, evB, evC, bAdd_i64, bSub_i64, g'])
 | (with_reducible apply go_ld1 h)
 | ((with_reducible first | apply go_ldA h | apply go_rd h | apply go_rdN h | apply go_rlen h); rfl)
 | (with_reducible first | apply go_ldN h | apply go_lenL h)
 | ((with_reducible apply go_st h); intro _ h)
 | ((with_reducible apply go_stA h); rfl; rfl; (first | rfl | simp [OneV.o]); intro _ h)
 | ((with_reducible apply go_stN h); rfl; (first | rfl | simp [OneV.o]); intro _ h)
 | ((with_reducible apply go_box h); rfl; intro _ _ h)
 | ((with_reducible apply go_ix h); omega)
 | ((with_reducible first | apply go_elN h | apply go_f1 h | apply go_rf1 h | apply go_rel h); (case hi => omega); (try case hx => exact inferInstance); (try case hv => rfl))
 | ((with_reducible apply go_fa h); omega; omega)
))
      exact hK _ h.drop
theorem spoil_spec {sv : Value} (hl : l.length ≤ 1073741824) (h : Sat w0 (LsH cI 1 3 sv l :: L) w) (hK : ∀ w', Sat w0 L w' → K (.tuple #[]) w') : callP G16 [sv] w K := by
  refine c16 ?_
  unfold F16 F16_1 F16_1b F16_2
  exact spoil_loop hK fuel 0 l w (by unfold fuel; omega) (by omega) hl h
theorem bfind_u {wa : Int} {no ke : List UInt8} (h : Sat w0 (HoldB v n next cs T :: Pool T :: L) w)
    (hK : ∀ c b s w', FindR cs ⟨wa, no, ke⟩ c b → Sat w0 (LsH cI 1 3 s c.times :: HoldB v n next cs T :: Pool T :: L) w' → K (.tuple #[ctxV c s, .bool b]) w') : callP G26 [v, .int .i64 wa, .string (bs no), .string (bs ke)] w K :=
  bfind_spec h (fun hno w h => hK zeroC false _ w (.inl ⟨rfl, rfl, hno⟩) (Sat.nilLs cI 1 3 h)) (fun c hc e s w h => hK c true s w (.inr ⟨rfl, hc, e⟩) h)
theorem rcfind_u {wa : Int} {no ke : List UInt8} (hl : cs.length ≤ 65536) (hft : ∀ c ∈ cs, c.times.length ≤ 1073741824) (h : Sat w0 (RefC v n next cs T :: Pool T :: L) w)
    (hK : ∀ c b s w', FindR cs ⟨wa, no, ke⟩ c b → Sat w0 (LsH cI 1 3 s c.times :: RefC v n next cs T :: Pool T :: L) w' → K (.tuple #[ctxV c s, .bool b]) w') : callP G27 [v, .int .i64 wa, .string (bs no), .string (bs ke)] w K :=
  rcfind_spec hl hft h (fun hno w h => hK zeroC false _ w (.inl ⟨rfl, rfl, hno⟩) (Sat.nilLs cI 1 3 h)) (fun c hc e s w h => hK c true _ w (.inr ⟨rfl, hc, e⟩) h)
theorem bfirst_u (h : Sat w0 (HoldB v n next cs T :: Pool T :: L) w)
    (hK : ∀ c b s w', FirstR cs c b → Sat w0 (LsH cI 1 3 s c.times :: HoldB v n next cs T :: Pool T :: L) w' → K (.tuple #[ctxV c s, .bool b]) w') : callP G28 [v] w K :=
  bfirst_spec h (fun hno w h => hK zeroC false _ w (.inl ⟨rfl, rfl, hno⟩) (Sat.nilLs cI 1 3 h)) (fun c hc s w h => hK c true s w (.inr ⟨rfl, hc⟩) h)
theorem rcfirst_u (hl : cs.length ≤ 65536) (hft : ∀ c ∈ cs, c.times.length ≤ 1073741824) (h : Sat w0 (RefC v n next cs T :: Pool T :: L) w)
    (hK : ∀ c b s w', FirstR cs c b → Sat w0 (LsH cI 1 3 s c.times :: RefC v n next cs T :: Pool T :: L) w' → K (.tuple #[ctxV c s, .bool b]) w') : callP G22 [v] w K :=
  rcfirst_spec hl hft h (fun hno w h => hK zeroC false _ w (.inl ⟨rfl, rfl, hno⟩) (Sat.nilLs cI 1 3 h)) (fun c hc s w h => hK c true _ w (.inr ⟨rfl, hc⟩) h)
theorem sameall_loop {a b : Value} (hl : xs.length ≤ 65536) (hra : RdL w0 L cX 11 a xs) (hrb : RdL w0 L cX 11 b ys) (hta : ∀ x ∈ xs, RdL w0 L cI 1 (svV x.2) x.1.times) (htb : ∀ x ∈ ys, RdL w0 L cI 1 (svV x.2) x.1.times)
    (hft : ∀ x ∈ xs, x.1.times.length ≤ 1073741824) (hm : xs.map Prod.fst = ys.map Prod.fst) (hK : ∀ w', Sat w0 L w' → K (.bool true) w') :
    ∀ (d i : Nat) (w : World), xs.length - i < d → i ≤ xs.length → Sat w0 L w → F30_2L d a b (.int .i64 i) w K := by
  have hlen : xs.length = ys.length := by have := congrArg List.length hm; simpa using this
  intro d
  induction d with
  | zero => intro i w hd; omega
  | succ d ih =>
    intro i w hd hi h
    rw [F30_2L]
    unfold F30_2b
    have l1 := (hra w h).len
    by_cases g : i < xs.length
    · have g' : decide ((i : Int) < (xs.length : Int)) = true := by simpa using g
      have g2 : i < ys.length := by omega
      have he : xs[i].1 = ys[i].1 := by
        have h1 : (xs.map Prod.fst)[i]? = some xs[i].1 := by rw [List.getElem?_map, List.getElem?_eq_getElem g]; rfl
        rw [hm, List.getElem?_map, List.getElem?_eq_getElem g2] at h1
        simpa using h1.symm
      (repeat (first
 | (simp (disch := omega) only [evA, evB, evC, bAdd_i64, bSub_i64, l1, g'])
 | (with_reducible apply go_ld1 h)
 | ((with_reducible first | apply go_ldA h | apply go_rd h | apply go_rdN h | apply go_rlen h); rfl)
 | (with_reducible first | apply go_ldN h | apply go_lenL h)
 | ((with_reducible apply go_st h); intro _ h)
 | ((with_reducible apply go_stA h); rfl; rfl; (first | rfl | simp [OneV.o]); intro _ h)
 | ((with_reducible apply go_stN h); rfl; (first | rfl | simp [OneV.o]); intro _ h)
 | ((with_reducible apply go_box h); rfl; intro _ _ h)
 | ((with_reducible apply go_ix h); omega)
 | ((with_reducible first | apply go_elN h | apply go_f1 h | apply go_rf1 h | apply go_rel h); (case hi => omega); (try case hx => exact inferInstance); (try case hv => rfl))
 | ((with_reducible apply go_fa h); omega; omega)
))
      refine go_some (ix_el (hra w h) g) ?_
      refine go_some (rd_ld CX (hra w h) g) ?_
      refine go_some (ix_el (hrb w h) g2) ?_
      refine go_some (rd_ld CX (hrb w h) g2) ?_
      refine fsame_spec (a := xs[i].1) (b := ys[i].1) (tv := svV xs[i].2) (tv' := svV ys[i].2) (hft _ (List.getElem_mem g)) (hta _ (List.getElem_mem g)) (htb _ (List.getElem_mem g2)) h.drew fun w h => ?_
      rw [decide_eq_true he]
      (repeat (first
 | (simp (disch := omega) only [evA, evB, evC, bAdd_i64, bSub_i64])
 | (with_reducible apply go_ld1 h)
 | ((with_reducible first | apply go_ldA h | apply go_rd h | apply go_rdN h | apply go_rlen h); rfl)
 | (with_reducible first | apply go_ldN h | apply go_lenL h)
 | ((with_reducible apply go_st h); intro _ h)
 | ((with_reducible apply go_stA h); rfl; rfl; (first | rfl | simp [OneV.o]); intro _ h)
 | ((with_reducible apply go_stN h); rfl; (first | rfl | simp [OneV.o]); intro _ h)
 | ((with_reducible apply go_box h); rfl; intro _ _ h)
 | ((with_reducible apply go_ix h); omega)
 | ((with_reducible first | apply go_elN h | apply go_f1 h | apply go_rf1 h | apply go_rel h); (case hi => omega); (try case hx => exact inferInstance); (try case hv => rfl))
 | ((with_reducible apply go_fa h); omega; omega)
))
      exact ih (i + 1) w (by omega) (by omega) h
    · have g' : decide ((i : Int) < (xs.length : Int)) = false := by simpa using g
      (repeat (first
 | (simp (disch := omega) only [evA, evB, evC, bAdd_i64, bSub_i64, l1, g'])
 | (with_reducible apply go_ld1 h)
 | ((with_reducible first | apply go_ldA h | apply go_rd h | apply go_rdN h | apply go_rlen h); rfl)
 | (with_reducible first | apply go_ldN h | apply go_lenL h)
 | ((with_reducible apply go_st h); intro _ h)
 | ((with_reducible apply go_stA h); rfl; rfl; (first | rfl | simp [OneV.o]); intro _ h)
 | ((with_reducible apply go_stN h); rfl; (first | rfl | simp [OneV.o]); intro _ h)
 | ((with_reducible apply go_box h); rfl; intro _ _ h)
 | ((with_reducible apply go_ix h); omega)
 | ((with_reducible first | apply go_elN h | apply go_f1 h | apply go_rf1 h | apply go_rel h); (case hi => omega); (try case hx => exact inferInstance); (try case hv => rfl))
 | ((with_reducible apply go_fa h); omega; omega)
))
      unfold F30_3 F30_3b
      exact hK _ h
theorem sameall_spec {a b : Value} (hl : xs.length ≤ 65536) (hra : RdL w0 L cX 11 a xs) (hrb : RdL w0 L cX 11 b ys) (hta : ∀ x ∈ xs, RdL w0 L cI 1 (svV x.2) x.1.times) (htb : ∀ x ∈ ys, RdL w0 L cI 1 (svV x.2) x.1.times)
    (hft : ∀ x ∈ xs, x.1.times.length ≤ 1073741824) (hm : xs.map Prod.fst = ys.map Prod.fst) (h : Sat w0 L w) (hK : ∀ w', Sat w0 L w' → K (.bool true) w') : callP G30 [a, b] w K := by
  have hlen : xs.length = ys.length := by have := congrArg List.length hm; simpa using this
  refine c30 ?_
  unfold F30 F30_1 F30_1b
  have l1 := (hra w h).len
  have l2 := (hrb w h).len
  rw [← hlen] at l2
  (repeat (first
 | (simp (disch := omega) only [evA, evB, evC, bAdd_i64, bSub_i64, l1, l2])
 | (with_reducible apply go_ld1 h)
 | ((with_reducible first | apply go_ldA h | apply go_rd h | apply go_rdN h | apply go_rlen h); rfl)
 | (with_reducible first | apply go_ldN h | apply go_lenL h)
 | ((with_reducible apply go_st h); intro _ h)
 | ((with_reducible apply go_stA h); rfl; rfl; (first | rfl | simp [OneV.o]); intro _ h)
 | ((with_reducible apply go_stN h); rfl; (first | rfl | simp [OneV.o]); intro _ h)
 | ((with_reducible apply go_box h); rfl; intro _ _ h)
 | ((with_reducible apply go_ix h); omega)
 | ((with_reducible first | apply go_elN h | apply go_f1 h | apply go_rf1 h | apply go_rel h); (case hi => omega); (try case hx => exact inferInstance); (try case hv => rfl))
 | ((with_reducible apply go_fa h); omega; omega)
))
  unfold F30_2
  exact sameall_loop hl hra hrb hta htb hft hm hK fuel 0 w (by unfold fuel; omega) (by omega) h
theorem hspoil_loop {s0 s1 s16 x : Value} (hft : ∀ y ∈ xs, y.1.times.length ≤ 1073741824) (hl : xs.length ≤ 65536) (hK : ∀ w', Sat w0 L w' → F9_3 s0 s1 s16 w' K) :
    ∀ (d i : Nat) (w : World), xs.length - i < d → i ≤ xs.length → Sat w0 (LsH cX 11 36 x xs :: Pool (txT (xs.drop i)) :: L) w → F9_2L d s0 s1 x s16 (.int .i64 i) w K := by
  intro d
  induction d with
  | zero => intro i w hd; omega
  | succ d ih =>
    intro i w hd hi h
    rw [F9_2L]
    unfold F9_2b
    by_cases g : i < xs.length
    · have g' : decide ((i : Int) < (xs.length : Int)) = true := by simpa using g
      (repeat (first
 | (simp (disch := omega) only [evA, evB, evC, bAdd_i64, bSub_i64, g'])
 | (with_reducible apply go_ld1 h)
 | ((with_reducible first | apply go_ldA h | apply go_rd h | apply go_rdN h | apply go_rlen h); rfl)
 | (with_reducible first | apply go_ldN h | apply go_lenL h)
 | ((with_reducible apply go_st h); intro _ h)
 | ((with_reducible apply go_stA h); rfl; rfl; (first | rfl | simp [OneV.o]); intro _ h)
 | ((with_reducible apply go_stN h); rfl; (first | rfl | simp [OneV.o]); intro _ h)
 | ((with_reducible apply go_box h); rfl; intro _ _ h)
 | ((with_reducible apply go_ix h); omega)
 | ((with_reducible first | apply go_elN h | apply go_f1 h | apply go_rf1 h | apply go_rel h); (case hi => omega); (try case hx => exact inferInstance); (try case hv => rfl))
 | ((with_reducible apply go_fa h); omega; omega)
))
      have e : txT (xs.drop i) = (xs[i].2, xs[i].1.times) :: txT (xs.drop (i + 1)) := by rw [List.drop_eq_getElem_cons g]; rfl
      rw [e] at h
      have h2 : Sat w0 (LsH cI 1 3 (svV xs[i].2) xs[i].1.times :: Pool (txT (xs.drop (i + 1))) :: LsH cX 11 36 x xs :: L) w := pool_cons h.f1
      refine spoil_spec (l := xs[i].1.times) (hft _ (List.getElem_mem g)) h2 fun w h => ?_
      (repeat (first
 | (simp (disch := omega) only [evA, evB, evC, bAdd_i64, bSub_i64])
 | (with_reducible apply go_ld1 h)
 | ((with_reducible first | apply go_ldA h | apply go_rd h | apply go_rdN h | apply go_rlen h); rfl)
 | (with_reducible first | apply go_ldN h | apply go_lenL h)
 | ((with_reducible apply go_st h); intro _ h)
 | ((with_reducible apply go_stA h); rfl; rfl; (first | rfl | simp [OneV.o]); intro _ h)
 | ((with_reducible apply go_stN h); rfl; (first | rfl | simp [OneV.o]); intro _ h)
 | ((with_reducible apply go_box h); rfl; intro _ _ h)
 | ((with_reducible apply go_ix h); omega)
 | ((with_reducible first | apply go_elN h | apply go_f1 h | apply go_rf1 h | apply go_rel h); (case hi => omega); (try case hx => exact inferInstance); (try case hv => rfl))
 | ((with_reducible apply go_fa h); omega; omega)
))
      exact ih (i + 1) w (by omega) (by omega) h.f1
    · have g' : decide ((i : Int) < (xs.length : Int)) = false := by simpa using g
      (repeat (first
 | (simp (disch := omega) only [evA, evB, evC, bAdd_i64, bSub_i64, g'])
 | (with_reducible apply go_ld1 h)
 | ((with_reducible first | apply go_ldA h | apply go_rd h | apply go_rdN h | apply go_rlen h); rfl)
 | (with_reducible first | apply go_ldN h | apply go_lenL h)
 | ((with_reducible apply go_st h); intro _ h)
 | ((with_reducible apply go_stA h); rfl; rfl; (first | rfl | simp [OneV.o]); intro _ h)
 | ((with_reducible apply go_stN h); rfl; (first | rfl | simp [OneV.o]); intro _ h)
 | ((with_reducible apply go_box h); rfl; intro _ _ h)
 | ((with_reducible apply go_ix h); omega)
 | ((with_reducible first | apply go_elN h | apply go_f1 h | apply go_rf1 h | apply go_rel h); (case hi => omega); (try case hx => exact inferInstance); (try case hv => rfl))
 | ((with_reducible apply go_fa h); omega; omega)
))
      exact hK _ h.drop.drop
theorem hstands_spec (ho : OneV tv) (h : Sat w0 (HoldB v n next cs T :: RefC rv n next cs T :: Pool T :: L) w) (hK : ∀ w', Sat w0 (HoldB v n next cs T :: RefC rv n next cs T :: Pool T :: L) w' → K (.bool true) w') : callP G9 [v, rv, ctxV c tv] w K := by
  obtain ⟨hn, m, I, M, H, hn1, hn2⟩ := holdB_inv h
  have hb := H.bd
  have hcl : cs.length ≤ 65536 := by omega
  have hct : ∀ c ∈ cs, c.times.length ≤ 1073741824 := fun c hc => by have := (H.ok c hc).2.1.2.2.2; omega
  have hz : zeroC.times.length ≤ 1073741824 := by simp [zeroC]
  have hctF : ∀ {g c b}, FindR cs g c b → c.times.length ≤ 1073741824 := fun h => by
    rcases h with ⟨_, rfl, _⟩ | ⟨_, h, _⟩
    · exact hz
    · exact hct _ h
  have hctG : ∀ {c b}, FirstR cs c b → c.times.length ≤ 1073741824 := fun h => by
    rcases h with ⟨_, rfl, _⟩ | ⟨_, h⟩
    · exact hz
    · exact hct _ h.1
  obtain ⟨q, rfl⟩ := refC_ptr h.f1
  refine c9 ?_
  unfold F9 F9_1 F9_1b
  refine eBox_sat h fun qb w h => ?_
  simp only [cells_agg] at h
  (repeat (first
 | (simp (disch := omega) only [evA, evB, evC, bAdd_i64, bSub_i64])
 | (with_reducible apply go_ld1 h)
 | ((with_reducible first | apply go_ldA h | apply go_rd h | apply go_rdN h | apply go_rlen h); rfl)
 | (with_reducible first | apply go_ldN h | apply go_lenL h)
 | ((with_reducible apply go_st h); intro _ h)
 | ((with_reducible apply go_stA h); rfl; rfl; (first | rfl | simp [OneV.o]); intro _ h)
 | ((with_reducible apply go_stN h); rfl; (first | rfl | simp [OneV.o]); intro _ h)
 | ((with_reducible apply go_box h); rfl; intro _ _ h)
 | ((with_reducible apply go_ix h); omega)
 | ((with_reducible first | apply go_elN h | apply go_f1 h | apply go_rf1 h | apply go_rel h); (case hi => omega); (try case hx => exact inferInstance); (try case hv => rfl))
 | ((with_reducible apply go_fa h); omega; omega)
))
  refine bfind_u (cs := cs) (T := T) (v := v) (n := n) (next := next) (L := Cl qb (cCtx c tv).toArray 36 :: RefC (ptr q) n next cs T :: L) (h.got) fun c1 b1 s1 w hf1 h => ?_
  have := ls_one h
  (repeat (first
 | (simp (disch := omega) only [evA, evB, evC, bAdd_i64, bSub_i64])
 | (with_reducible apply go_ld1 h)
 | ((with_reducible first | apply go_ldA h | apply go_rd h | apply go_rdN h | apply go_rlen h); rfl)
 | (with_reducible first | apply go_ldN h | apply go_lenL h)
 | ((with_reducible apply go_st h); intro _ h)
 | ((with_reducible apply go_stA h); rfl; rfl; (first | rfl | simp [OneV.o]); intro _ h)
 | ((with_reducible apply go_stN h); rfl; (first | rfl | simp [OneV.o]); intro _ h)
 | ((with_reducible apply go_box h); rfl; intro _ _ h)
 | ((with_reducible apply go_ix h); omega)
 | ((with_reducible first | apply go_elN h | apply go_f1 h | apply go_rf1 h | apply go_rel h); (case hi => omega); (try case hx => exact inferInstance); (try case hv => rfl))
 | ((with_reducible apply go_fa h); omega; omega)
))
  refine go_alloc h zc41 rfl fun qa _ h => ?_
  (repeat (first
 | (simp (disch := omega) only [evA, evB, evC, bAdd_i64, bSub_i64])
 | (with_reducible apply go_ld1 h)
 | ((with_reducible first | apply go_ldA h | apply go_rd h | apply go_rdN h | apply go_rlen h); rfl)
 | (with_reducible first | apply go_ldN h | apply go_lenL h)
 | ((with_reducible apply go_st h); intro _ h)
 | ((with_reducible apply go_stA h); rfl; rfl; (first | rfl | simp [OneV.o]); intro _ h)
 | ((with_reducible apply go_stN h); rfl; (first | rfl | simp [OneV.o]); intro _ h)
 | ((with_reducible apply go_box h); rfl; intro _ _ h)
 | ((with_reducible apply go_ix h); omega)
 | ((with_reducible first | apply go_elN h | apply go_f1 h | apply go_rf1 h | apply go_rel h); (case hi => omega); (try case hx => exact inferInstance); (try case hv => rfl))
 | ((with_reducible apply go_fa h); omega; omega)
))
  refine rcfind_u (cs := cs) (T := T) (v := ptr q) (n := n) (next := next) (L := Cl qa (cCtx c1 s1).toArray 36 :: LsH cI 1 3 s1 c1.times :: HoldB v n next cs T :: Cl qb (cCtx c tv).toArray 36 :: L) hcl hct (h.got) fun c2 b2 s2 w hf2 h => ?_
  obtain ⟨rfl, rfl⟩ := hf1.eq H.sg hf2
  have := ls_one h
  (repeat (first
 | (simp (disch := omega) only [evA, evB, evC, bAdd_i64, bSub_i64])
 | (with_reducible apply go_ld1 h)
 | ((with_reducible first | apply go_ldA h | apply go_rd h | apply go_rdN h | apply go_rlen h); rfl)
 | (with_reducible first | apply go_ldN h | apply go_lenL h)
 | ((with_reducible apply go_st h); intro _ h)
 | ((with_reducible apply go_stA h); rfl; rfl; (first | rfl | simp [OneV.o]); intro _ h)
 | ((with_reducible apply go_stN h); rfl; (first | rfl | simp [OneV.o]); intro _ h)
 | ((with_reducible apply go_box h); rfl; intro _ _ h)
 | ((with_reducible apply go_ix h); omega)
 | ((with_reducible first | apply go_elN h | apply go_f1 h | apply go_rf1 h | apply go_rel h); (case hi => omega); (try case hx => exact inferInstance); (try case hv => rfl))
 | ((with_reducible apply go_fa h); omega; omega)
))
  refine go_alloc h zc41 rfl fun qc _ h => ?_
  (repeat (first
 | (simp (disch := omega) only [evA, evB, evC, bAdd_i64, bSub_i64])
 | (with_reducible apply go_ld1 h)
 | ((with_reducible first | apply go_ldA h | apply go_rd h | apply go_rdN h | apply go_rlen h); rfl)
 | (with_reducible first | apply go_ldN h | apply go_lenL h)
 | ((with_reducible apply go_st h); intro _ h)
 | ((with_reducible apply go_stA h); rfl; rfl; (first | rfl | simp [OneV.o]); intro _ h)
 | ((with_reducible apply go_stN h); rfl; (first | rfl | simp [OneV.o]); intro _ h)
 | ((with_reducible apply go_box h); rfl; intro _ _ h)
 | ((with_reducible apply go_ix h); omega)
 | ((with_reducible first | apply go_elN h | apply go_f1 h | apply go_rf1 h | apply go_rel h); (case hi => omega); (try case hx => exact inferInstance); (try case hv => rfl))
 | ((with_reducible apply go_fa h); omega; omega)
))
  refine bfirst_u (cs := cs) (T := T) (v := v) (n := n) (next := next) (L := Cl qc (cCtx c1 s2).toArray 36 :: LsH cI 1 3 s2 c1.times :: Cl qa (cCtx c1 s1).toArray 36 :: LsH cI 1 3 s1 c1.times :: RefC (ptr q) n next cs T :: L) (h.got) fun c3 b3 s3 w hf3 h => ?_
  have := ls_one h
  (repeat (first
 | (simp (disch := omega) only [evA, evB, evC, bAdd_i64, bSub_i64])
 | (with_reducible apply go_ld1 h)
 | ((with_reducible first | apply go_ldA h | apply go_rd h | apply go_rdN h | apply go_rlen h); rfl)
 | (with_reducible first | apply go_ldN h | apply go_lenL h)
 | ((with_reducible apply go_st h); intro _ h)
 | ((with_reducible apply go_stA h); rfl; rfl; (first | rfl | simp [OneV.o]); intro _ h)
 | ((with_reducible apply go_stN h); rfl; (first | rfl | simp [OneV.o]); intro _ h)
 | ((with_reducible apply go_box h); rfl; intro _ _ h)
 | ((with_reducible apply go_ix h); omega)
 | ((with_reducible first | apply go_elN h | apply go_f1 h | apply go_rf1 h | apply go_rel h); (case hi => omega); (try case hx => exact inferInstance); (try case hv => rfl))
 | ((with_reducible apply go_fa h); omega; omega)
))
  refine go_alloc h zc41 rfl fun qd _ h => ?_
  (repeat (first
 | (simp (disch := omega) only [evA, evB, evC, bAdd_i64, bSub_i64])
 | (with_reducible apply go_ld1 h)
 | ((with_reducible first | apply go_ldA h | apply go_rd h | apply go_rdN h | apply go_rlen h); rfl)
 | (with_reducible first | apply go_ldN h | apply go_lenL h)
 | ((with_reducible apply go_st h); intro _ h)
 | ((with_reducible apply go_stA h); rfl; rfl; (first | rfl | simp [OneV.o]); intro _ h)
 | ((with_reducible apply go_stN h); rfl; (first | rfl | simp [OneV.o]); intro _ h)
 | ((with_reducible apply go_box h); rfl; intro _ _ h)
 | ((with_reducible apply go_ix h); omega)
 | ((with_reducible first | apply go_elN h | apply go_f1 h | apply go_rf1 h | apply go_rel h); (case hi => omega); (try case hx => exact inferInstance); (try case hv => rfl))
 | ((with_reducible apply go_fa h); omega; omega)
))
  refine rcfirst_u (cs := cs) (T := T) (v := ptr q) (n := n) (next := next) (L := Cl qd (cCtx c3 s3).toArray 36 :: LsH cI 1 3 s3 c3.times :: Cl qc (cCtx c1 s2).toArray 36 :: LsH cI 1 3 s2 c1.times :: Cl qa (cCtx c1 s1).toArray 36 :: LsH cI 1 3 s1 c1.times :: HoldB v n next cs T :: L) hcl hct (h.got) fun c4 b4 s4 w hf4 h => ?_
  obtain ⟨rfl, rfl⟩ := hf3.eq H.asc hf4
  have := ls_one h
  (repeat (first
 | (simp (disch := omega) only [evA, evB, evC, bAdd_i64, bSub_i64])
 | (with_reducible apply go_ld1 h)
 | ((with_reducible first | apply go_ldA h | apply go_rd h | apply go_rdN h | apply go_rlen h); rfl)
 | (with_reducible first | apply go_ldN h | apply go_lenL h)
 | ((with_reducible apply go_st h); intro _ h)
 | ((with_reducible apply go_stA h); rfl; rfl; (first | rfl | simp [OneV.o]); intro _ h)
 | ((with_reducible apply go_stN h); rfl; (first | rfl | simp [OneV.o]); intro _ h)
 | ((with_reducible apply go_box h); rfl; intro _ _ h)
 | ((with_reducible apply go_ix h); omega)
 | ((with_reducible first | apply go_elN h | apply go_f1 h | apply go_rf1 h | apply go_rel h); (case hi => omega); (try case hx => exact inferInstance); (try case hv => rfl))
 | ((with_reducible apply go_fa h); omega; omega)
))
  refine go_alloc h zc41 rfl fun qe _ h => ?_
  (repeat (first
 | (simp (disch := omega) only [evA, evB, evC, bAdd_i64, bSub_i64])
 | (with_reducible apply go_ld1 h)
 | ((with_reducible first | apply go_ldA h | apply go_rd h | apply go_rdN h | apply go_rlen h); rfl)
 | (with_reducible first | apply go_ldN h | apply go_lenL h)
 | ((with_reducible apply go_st h); intro _ h)
 | ((with_reducible apply go_stA h); rfl; rfl; (first | rfl | simp [OneV.o]); intro _ h)
 | ((with_reducible apply go_stN h); rfl; (first | rfl | simp [OneV.o]); intro _ h)
 | ((with_reducible apply go_box h); rfl; intro _ _ h)
 | ((with_reducible apply go_ix h); omega)
 | ((with_reducible first | apply go_elN h | apply go_f1 h | apply go_rf1 h | apply go_rel h); (case hi => omega); (try case hx => exact inferInstance); (try case hv => rfl))
 | ((with_reducible apply go_fa h); omega; omega)
))
  refine ball_spec (cs := cs) (T := T) (v := v) (n := n) (next := next) (L := Cl qe (cCtx c3 s4).toArray 36 :: LsH cI 1 3 s4 c3.times :: Cl qd (cCtx c3 s3).toArray 36 :: LsH cI 1 3 s3 c3.times :: Cl qc (cCtx c1 s2).toArray 36 :: LsH cI 1 3 s2 c1.times :: Cl qa (cCtx c1 s1).toArray 36 :: LsH cI 1 3 s1 c1.times :: RefC (ptr q) n next cs T :: L) (h.got) fun x w h => ?_
  replace h := ctxL_iff.1 h
  obtain ⟨xs, hxs, h⟩ := h
  replace h := bag_pool h.f1
  replace h := h.frt (A := RefC (ptr q) n next cs T)
  replace h := refC_at h
  obtain ⟨s, ys, hy, hP, h⟩ := h
  have hxl : xs.length = cs.length := by rw [← hxs]; simp
  have hyl : ((ys.length : Nat) : Int) = (cs.length : Int) := by rw [← hy]; simp
  have hxt : ∀ y ∈ xs, y.1.times.length ≤ 1073741824 := fun y hy => hct _ (by rw [← hxs]; exact List.mem_map.2 ⟨y, hy, rfl⟩)
  (repeat (first
 | (simp (disch := omega) only [evA, evB, evC, bAdd_i64, bSub_i64])
 | (with_reducible apply go_ld1 h)
 | ((with_reducible first | apply go_ldA h | apply go_rd h | apply go_rdN h | apply go_rlen h); rfl)
 | (with_reducible first | apply go_ldN h | apply go_lenL h)
 | ((with_reducible apply go_st h); intro _ h)
 | ((with_reducible apply go_stA h); rfl; rfl; (first | rfl | simp [OneV.o]); intro _ h)
 | ((with_reducible apply go_stN h); rfl; (first | rfl | simp [OneV.o]); intro _ h)
 | ((with_reducible apply go_box h); rfl; intro _ _ h)
 | ((with_reducible apply go_ix h); omega)
 | ((with_reducible first | apply go_elN h | apply go_f1 h | apply go_rf1 h | apply go_rel h); (case hi => omega); (try case hx => exact inferInstance); (try case hv => rfl))
 | ((with_reducible apply go_fa h); omega; omega)
))
  refine sameall_spec (xs := xs) (ys := ys) (by omega) (RdL.of_ls inferInstance) (RdL.of_ls inferInstance) (fun y hm => pool_rd (T := txT xs) (y := (y.2, y.1.times)) (List.mem_map.2 ⟨y, hm, rfl⟩) (by repeat (first | exact .here | apply Fnt.there))) (fun y hm => pool_rd (T := T) (hP y hm) (by repeat (first | exact .here | apply Fnt.there))) hxt (by rw [hxs, hy]) h fun w h => ?_
  (repeat (first
 | (simp (disch := omega) only [evA, evB, evC, bAdd_i64, bSub_i64])
 | (with_reducible apply go_ld1 h)
 | ((with_reducible first | apply go_ldA h | apply go_rd h | apply go_rdN h | apply go_rlen h); rfl)
 | (with_reducible first | apply go_ldN h | apply go_lenL h)
 | ((with_reducible apply go_st h); intro _ h)
 | ((with_reducible apply go_stA h); rfl; rfl; (first | rfl | simp [OneV.o]); intro _ h)
 | ((with_reducible apply go_stN h); rfl; (first | rfl | simp [OneV.o]); intro _ h)
 | ((with_reducible apply go_box h); rfl; intro _ _ h)
 | ((with_reducible apply go_ix h); omega)
 | ((with_reducible first | apply go_elN h | apply go_f1 h | apply go_rf1 h | apply go_rel h); (case hi => omega); (try case hx => exact inferInstance); (try case hv => rfl))
 | ((with_reducible apply go_fa h); omega; omega)
))
  refine fsame_spec (a := c1) (b := c1) (tv := s1) (tv' := s2) (hctF hf1) (RdL.of_ls inferInstance) (RdL.of_ls inferInstance) h fun w h => ?_
  rw [decide_eq_true rfl]
  (repeat (first
 | (simp (disch := omega) only [evA, evB, evC, bAdd_i64, bSub_i64, eqBh, beq_self_eq_true])
 | (with_reducible apply go_ld1 h)
 | ((with_reducible first | apply go_ldA h | apply go_rd h | apply go_rdN h | apply go_rlen h); rfl)
 | (with_reducible first | apply go_ldN h | apply go_lenL h)
 | ((with_reducible apply go_st h); intro _ h)
 | ((with_reducible apply go_stA h); rfl; rfl; (first | rfl | simp [OneV.o]); intro _ h)
 | ((with_reducible apply go_stN h); rfl; (first | rfl | simp [OneV.o]); intro _ h)
 | ((with_reducible apply go_box h); rfl; intro _ _ h)
 | ((with_reducible apply go_ix h); omega)
 | ((with_reducible first | apply go_elN h | apply go_f1 h | apply go_rf1 h | apply go_rel h); (case hi => omega); (try case hx => exact inferInstance); (try case hv => rfl))
 | ((with_reducible apply go_fa h); omega; omega)
))
  refine fsame_spec (a := c3) (b := c3) (tv := s3) (tv' := s4) (hctG hf3) (RdL.of_ls inferInstance) (RdL.of_ls inferInstance) h fun w h => ?_
  rw [decide_eq_true rfl]
  (repeat (first
 | (simp (disch := omega) only [evA, evB, evC, bAdd_i64, bSub_i64, eqBh, beq_self_eq_true])
 | (with_reducible apply go_ld1 h)
 | ((with_reducible first | apply go_ldA h | apply go_rd h | apply go_rdN h | apply go_rlen h); rfl)
 | (with_reducible first | apply go_ldN h | apply go_lenL h)
 | ((with_reducible apply go_st h); intro _ h)
 | ((with_reducible apply go_stA h); rfl; rfl; (first | rfl | simp [OneV.o]); intro _ h)
 | ((with_reducible apply go_stN h); rfl; (first | rfl | simp [OneV.o]); intro _ h)
 | ((with_reducible apply go_box h); rfl; intro _ _ h)
 | ((with_reducible apply go_ix h); omega)
 | ((with_reducible first | apply go_elN h | apply go_f1 h | apply go_rf1 h | apply go_rel h); (case hi => omega); (try case hx => exact inferInstance); (try case hv => rfl))
 | ((with_reducible apply go_fa h); omega; omega)
))
  refine spoil_spec (l := c1.times) (hctF hf1) (h.frt (A := LsH cI 1 3 s1 c1.times)) fun w h => ?_
  (repeat (first
 | (simp (disch := omega) only [evA, evB, evC, bAdd_i64, bSub_i64])
 | (with_reducible apply go_ld1 h)
 | ((with_reducible first | apply go_ldA h | apply go_rd h | apply go_rdN h | apply go_rlen h); rfl)
 | (with_reducible first | apply go_ldN h | apply go_lenL h)
 | ((with_reducible apply go_st h); intro _ h)
 | ((with_reducible apply go_stA h); rfl; rfl; (first | rfl | simp [OneV.o]); intro _ h)
 | ((with_reducible apply go_stN h); rfl; (first | rfl | simp [OneV.o]); intro _ h)
 | ((with_reducible apply go_box h); rfl; intro _ _ h)
 | ((with_reducible apply go_ix h); omega)
 | ((with_reducible first | apply go_elN h | apply go_f1 h | apply go_rf1 h | apply go_rel h); (case hi => omega); (try case hx => exact inferInstance); (try case hv => rfl))
 | ((with_reducible apply go_fa h); omega; omega)
))
  refine spoil_spec (l := c3.times) (hctG hf3) (h.frt (A := LsH cI 1 3 s3 c3.times)) fun w h => ?_
  unfold F9_2
  refine hspoil_loop (xs := xs) (L := HoldB v n next cs T :: RcC q n next s :: LsH cX 11 36 s ys :: Pool T :: L) hxt (by omega) (fun w h => ?_) fuel 0 _ (by unfold fuel; omega) (by omega) (by rw [List.drop_zero]; exact h.got)
  unfold F9_3 F9_3b
  (repeat (first
 | (simp (disch := omega) only [evA, evB, evC, bAdd_i64, bSub_i64])
 | (with_reducible apply go_ld1 h)
 | ((with_reducible first | apply go_ldA h | apply go_rd h | apply go_rdN h | apply go_rlen h); rfl)
 | (with_reducible first | apply go_ldN h | apply go_lenL h)
 | ((with_reducible apply go_st h); intro _ h)
 | ((with_reducible apply go_stA h); rfl; rfl; (first | rfl | simp [OneV.o]); intro _ h)
 | ((with_reducible apply go_stN h); rfl; (first | rfl | simp [OneV.o]); intro _ h)
 | ((with_reducible apply go_box h); rfl; intro _ _ h)
 | ((with_reducible apply go_ix h); omega)
 | ((with_reducible first | apply go_elN h | apply go_f1 h | apply go_rf1 h | apply go_rel h); (case hi => omega); (try case hx => exact inferInstance); (try case hv => rfl))
 | ((with_reducible apply go_fa h); omega; omega)
))
  refine ball_spec (cs := cs) (T := T) (v := v) (n := n) (next := next) (L := RcC q n next s :: LsH cX 11 36 s ys :: L) (h.drew.got) fun x w h => ?_
  replace h := ctxL_iff.1 h
  obtain ⟨zs, hzs, h⟩ := h
  replace h := bag_pool h.f1
  have hzl : zs.length = cs.length := by rw [← hzs]; simp
  have hzt : ∀ y ∈ zs, y.1.times.length ≤ 1073741824 := fun y hy => hct _ (by rw [← hzs]; exact List.mem_map.2 ⟨y, hy, rfl⟩)
  (repeat (first
 | (simp (disch := omega) only [evA, evB, evC, bAdd_i64, bSub_i64])
 | (with_reducible apply go_ld1 h)
 | ((with_reducible first | apply go_ldA h | apply go_rd h | apply go_rdN h | apply go_rlen h); rfl)
 | (with_reducible first | apply go_ldN h | apply go_lenL h)
 | ((with_reducible apply go_st h); intro _ h)
 | ((with_reducible apply go_stA h); rfl; rfl; (first | rfl | simp [OneV.o]); intro _ h)
 | ((with_reducible apply go_stN h); rfl; (first | rfl | simp [OneV.o]); intro _ h)
 | ((with_reducible apply go_box h); rfl; intro _ _ h)
 | ((with_reducible apply go_ix h); omega)
 | ((with_reducible first | apply go_elN h | apply go_f1 h | apply go_rf1 h | apply go_rel h); (case hi => omega); (try case hx => exact inferInstance); (try case hv => rfl))
 | ((with_reducible apply go_fa h); omega; omega)
))
  refine sameall_spec (xs := zs) (ys := ys) (by omega) (RdL.of_ls inferInstance) (RdL.of_ls inferInstance) (fun y hm => pool_rd (T := txT zs) (y := (y.2, y.1.times)) (List.mem_map.2 ⟨y, hm, rfl⟩) (by repeat (first | exact .here | apply Fnt.there))) (fun y hm => pool_rd (T := T) (hP y hm) (by repeat (first | exact .here | apply Fnt.there))) hzt (by rw [hzs, hy]) h fun w h => ?_
  (repeat (first
 | (simp (disch := omega) only [evA, evB, evC, bAdd_i64, bSub_i64, hyl])
 | (with_reducible apply go_ld1 h)
 | ((with_reducible first | apply go_ldA h | apply go_rd h | apply go_rdN h | apply go_rlen h); rfl)
 | (with_reducible first | apply go_ldN h | apply go_lenL h)
 | ((with_reducible apply go_st h); intro _ h)
 | ((with_reducible apply go_stA h); rfl; rfl; (first | rfl | simp [OneV.o]); intro _ h)
 | ((with_reducible apply go_stN h); rfl; (first | rfl | simp [OneV.o]); intro _ h)
 | ((with_reducible apply go_box h); rfl; intro _ _ h)
 | ((with_reducible apply go_ix h); omega)
 | ((with_reducible first | apply go_elN h | apply go_f1 h | apply go_rf1 h | apply go_rel h); (case hi => omega); (try case hx => exact inferInstance); (try case hv => rfl))
 | ((with_reducible apply go_fa h); omega; omega)
))
  refine blen_spec (cs := cs) (v := v) (h.frt (A := HoldB v n next cs T)) ?_
  (repeat (first
 | (simp (disch := omega) only [evA, evB, evC, bAdd_i64, bSub_i64, hyl])
 | (with_reducible apply go_ld1 h)
 | ((with_reducible first | apply go_ldA h | apply go_rd h | apply go_rdN h | apply go_rlen h); rfl)
 | (with_reducible first | apply go_ldN h | apply go_lenL h)
 | ((with_reducible apply go_st h); intro _ h)
 | ((with_reducible apply go_stA h); rfl; rfl; (first | rfl | simp [OneV.o]); intro _ h)
 | ((with_reducible apply go_stN h); rfl; (first | rfl | simp [OneV.o]); intro _ h)
 | ((with_reducible apply go_box h); rfl; intro _ _ h)
 | ((with_reducible apply go_ix h); omega)
 | ((with_reducible first | apply go_elN h | apply go_f1 h | apply go_rf1 h | apply go_rel h); (case hi => omega); (try case hx => exact inferInstance); (try case hv => rfl))
 | ((with_reducible apply go_fa h); omega; omega)
))
  refine go_fok ((ls_len (h.frt (A := LsH cX 11 36 s ys))).trans (by rw [hyl])) ?_
  (repeat (first
 | (simp (disch := omega) only [evA, evB, evC, bAdd_i64, bSub_i64, hyl])
 | (with_reducible apply go_ld1 h)
 | ((with_reducible first | apply go_ldA h | apply go_rd h | apply go_rdN h | apply go_rlen h); rfl)
 | (with_reducible first | apply go_ldN h | apply go_lenL h)
 | ((with_reducible apply go_st h); intro _ h)
 | ((with_reducible apply go_stA h); rfl; rfl; (first | rfl | simp [OneV.o]); intro _ h)
 | ((with_reducible apply go_stN h); rfl; (first | rfl | simp [OneV.o]); intro _ h)
 | ((with_reducible apply go_box h); rfl; intro _ _ h)
 | ((with_reducible apply go_ix h); omega)
 | ((with_reducible first | apply go_elN h | apply go_f1 h | apply go_rf1 h | apply go_rel h); (case hi => omega); (try case hx => exact inferInstance); (try case hv => rfl))
 | ((with_reducible apply go_fa h); omega; omega)
))
  refine bnext_hspec (cs := cs) (v := v) (h.frt (A := HoldB v n next cs T)) ?_
  (repeat (first
 | (simp (disch := omega) only [evA, evB, evC, bAdd_i64, bSub_i64])
 | (with_reducible apply go_ld1 h)
 | ((with_reducible first | apply go_ldA h | apply go_rd h | apply go_rdN h | apply go_rlen h); rfl)
 | (with_reducible first | apply go_ldN h | apply go_lenL h)
 | ((with_reducible apply go_st h); intro _ h)
 | ((with_reducible apply go_stA h); rfl; rfl; (first | rfl | simp [OneV.o]); intro _ h)
 | ((with_reducible apply go_stN h); rfl; (first | rfl | simp [OneV.o]); intro _ h)
 | ((with_reducible apply go_box h); rfl; intro _ _ h)
 | ((with_reducible apply go_ix h); omega)
 | ((with_reducible first | apply go_elN h | apply go_f1 h | apply go_rf1 h | apply go_rel h); (case hi => omega); (try case hx => exact inferInstance); (try case hv => rfl))
 | ((with_reducible apply go_fa h); omega; omega)
))
  exact hK _ (Sat.f1 (refC_mk hy hP (h.got)))
end
end Go.Proofs.Gong

/- Hs6 -/
namespace Go.Proofs.Gong
open Go Go.Sx Go.Proofs
set_option maxRecDepth 100000
structure HAct where
  kind : Int
  n : Int
  keep : Bool
  c : Ctx
  tv : SV
  lv : SV
@[reducible] def cHA (a : HAct) : List Value := [.int .i64 a.kind, .int .i64 a.n, .bool a.keep, .int .i64 a.c.id, .int .i64 a.c.watch, .string (bs a.c.node), .string (bs a.c.key), .int .i64 a.c.at', .string (bs a.c.e.node), .string (bs a.c.e.cls), .string (bs a.c.e.key), .int .i64 a.c.e.level, .string (bs a.c.e.text), svV a.tv, svV a.lv]
abbrev hactV (a : HAct) : Value := .agg (cHA a).toArray
theorem CHA : Cod cHA 15 := ⟨fun _ => rfl, fun _ => rfl, by omega⟩
instance : CodC cHA 15 := ⟨CHA⟩
theorem swapX_perm {l : List (Ctx × SV)} {i j : Nat} (hi : i < l.length) (hj : j < l.length) : ((l.set i l[j]).set j l[i]).Perm l := by
  have := swapL_perm (l := l) hi hj
  rw [swapL_eq hi hj] at this
  exact this
theorem loadA'_next {n next0 next : Int} {cs l : List Ctx} : (loadA' n next0 cs l next).2.1 = next0 ∨ (loadA' n next0 cs l next).2.1 ≤ 1152921504606846976 := by
  unfold loadA'
  split
  · exact .inl rfl
  split
  · exact .inl rfl
  split
  · exact .inl rfl
  · exact .inr (by show next ≤ _; omega)
attribute [local irreducible] fBuild fLook fZero eqv bEqv Cl MapH LsH SlH ld1 ldN st callP eBox eAlloc lenM lenL eMapSet eDelete eAppend eBuildSl eRange eNext
section
variable {w0 w : World} {L : List HP} {K : Value → World → Prop} {v : Value} {n next : Int} {cs : List Ctx} {c : Ctx} {s : Value} {T T' : TM} {xs : List (Ctx × SV)} {q pa qc : Nat} {a : HAct} {sv : SV} {id : Int}
theorem hdoes_add (hf : a.c.fits) (ha : Rd w0 1 (svV a.tv) a.c.times.length (a.c.times.flatMap cI)) (hnx : next + 1 ≤ 4611686018427387904)
    (h : Sat w0 (Cl pa (cHA a).toArray 39 :: Cl qc (cCtx a.c (svV sv)).toArray 36 :: LsH cI 1 3 (svV sv) a.c.times :: HoldB v n next cs T :: RefC (ptr q) n next cs T :: Pool T :: L) w)
    (hK : ∀ next' cs' T' w', (next' ≤ next + 1 ∨ next' ≤ 1152921504606846976) → Sat w0 (HoldB v n next' cs' T' :: RefC (ptr q) n next' cs' T' :: Pool T' :: L) w' → K (.bool true) w') : F8_6 v (ptr q) (ptr pa) (ptr qc) w K := by
  unfold F8_6 F8_6b
  obtain ⟨hn, m, I, M, H, hn1, hn2⟩ := holdB_inv (h.frt (A := HoldB v n next cs T))
  have hb := H.bd
  have hct : a.c.times.length ≤ 1073741824 := by have := hf.2.2.2; omega
  (repeat (first
 | (simp (disch := omega) only [evA, evB, evC, bAdd_i64, bSub_i64])
 | (with_reducible apply go_ld1 h)
 | ((with_reducible first | apply go_ldA h | apply go_rd h | apply go_rdN h | apply go_rlen h); rfl)
 | (with_reducible first | apply go_ldN h | apply go_lenL h)
 | ((with_reducible apply go_st h); intro _ h)
 | ((with_reducible apply go_stA h); rfl; rfl; (first | rfl | simp [OneV.o]); intro _ h)
 | ((with_reducible apply go_stN h); rfl; (first | rfl | simp [OneV.o]); intro _ h)
 | ((with_reducible apply go_box h); rfl; intro _ _ h)
 | ((with_reducible apply go_ix h); omega)
 | ((with_reducible first | apply go_elN h | apply go_f1 h | apply go_rf1 h | apply go_rel h); (case hi => omega); (try case hx => exact inferInstance); (try case hv => rfl))
 | ((with_reducible apply go_fa h); omega; omega)
))
  refine badd_spec (c := a.c) (tv := svV sv) (v := v) (T := T) (L := Cl pa (cHA a).toArray 39 :: Cl qc (cCtx a.c (svV sv)).toArray 36 :: LsH cI 1 3 (svV sv) a.c.times :: RefC (ptr q) n next cs T :: L) hf hnx (RdL.of_ls inferInstance) (h.got) (fun hne w h => ?_) (fun he T1 w hT1 h => ?_)
  · (repeat (first
 | (simp (disch := omega) only [evA, evB, evC, bAdd_i64, bSub_i64])
 | (with_reducible apply go_ld1 h)
 | ((with_reducible first | apply go_ldA h | apply go_rd h | apply go_rdN h | apply go_rlen h); rfl)
 | (with_reducible first | apply go_ldN h | apply go_lenL h)
 | ((with_reducible apply go_st h); intro _ h)
 | ((with_reducible apply go_stA h); rfl; rfl; (first | rfl | simp [OneV.o]); intro _ h)
 | ((with_reducible apply go_stN h); rfl; (first | rfl | simp [OneV.o]); intro _ h)
 | ((with_reducible apply go_box h); rfl; intro _ _ h)
 | ((with_reducible apply go_ix h); omega)
 | ((with_reducible first | apply go_elN h | apply go_f1 h | apply go_rf1 h | apply go_rel h); (case hi => omega); (try case hx => exact inferInstance); (try case hv => rfl))
 | ((with_reducible apply go_fa h); omega; omega)
))
    refine rcadd_spec (c := a.c) (tv := svV a.tv) (v := ptr q) (T := T) (cs := cs) (n := n) (next := next) (L := Cl pa (cHA a).toArray 39 :: Cl qc (cCtx a.c (svV sv)).toArray 36 :: LsH cI 1 3 (svV sv) a.c.times :: HoldB v n next cs T :: L) hf (by omega) ⟨hnx, hn1⟩ (.of_arg ha) inferInstance (h.got) (fun _ w h => ?_) (fun he => absurd he hne)
    (repeat (first
 | (simp (disch := omega) only [evA, evB, evC, bAdd_i64, bSub_i64])
 | (with_reducible apply go_ld1 h)
 | ((with_reducible first | apply go_ldA h | apply go_rd h | apply go_rdN h | apply go_rlen h); rfl)
 | (with_reducible first | apply go_ldN h | apply go_lenL h)
 | ((with_reducible apply go_st h); intro _ h)
 | ((with_reducible apply go_stA h); rfl; rfl; (first | rfl | simp [OneV.o]); intro _ h)
 | ((with_reducible apply go_stN h); rfl; (first | rfl | simp [OneV.o]); intro _ h)
 | ((with_reducible apply go_box h); rfl; intro _ _ h)
 | ((with_reducible apply go_ix h); omega)
 | ((with_reducible first | apply go_elN h | apply go_f1 h | apply go_rf1 h | apply go_rel h); (case hi => omega); (try case hx => exact inferInstance); (try case hv => rfl))
 | ((with_reducible apply go_fa h); omega; omega)
))
    refine spoil_spec (l := a.c.times) hct (h.frt (A := LsH cI 1 3 (svV sv) a.c.times)) fun w h => ?_
    (repeat (first
 | (simp (disch := omega) only [evA, evB, evC, bAdd_i64, bSub_i64])
 | (with_reducible apply go_ld1 h)
 | ((with_reducible first | apply go_ldA h | apply go_rd h | apply go_rdN h | apply go_rlen h); rfl)
 | (with_reducible first | apply go_ldN h | apply go_lenL h)
 | ((with_reducible apply go_st h); intro _ h)
 | ((with_reducible apply go_stA h); rfl; rfl; (first | rfl | simp [OneV.o]); intro _ h)
 | ((with_reducible apply go_stN h); rfl; (first | rfl | simp [OneV.o]); intro _ h)
 | ((with_reducible apply go_box h); rfl; intro _ _ h)
 | ((with_reducible apply go_ix h); omega)
 | ((with_reducible first | apply go_elN h | apply go_f1 h | apply go_rf1 h | apply go_rel h); (case hi => omega); (try case hx => exact inferInstance); (try case hv => rfl))
 | ((with_reducible apply go_fa h); omega; omega)
))
    exact hK next cs T _ (.inl (by omega)) (h.got)
  · (repeat (first
 | (simp (disch := omega) only [evA, evB, evC, bAdd_i64, bSub_i64])
 | (with_reducible apply go_ld1 h)
 | ((with_reducible first | apply go_ldA h | apply go_rd h | apply go_rdN h | apply go_rlen h); rfl)
 | (with_reducible first | apply go_ldN h | apply go_lenL h)
 | ((with_reducible apply go_st h); intro _ h)
 | ((with_reducible apply go_stA h); rfl; rfl; (first | rfl | simp [OneV.o]); intro _ h)
 | ((with_reducible apply go_stN h); rfl; (first | rfl | simp [OneV.o]); intro _ h)
 | ((with_reducible apply go_box h); rfl; intro _ _ h)
 | ((with_reducible apply go_ix h); omega)
 | ((with_reducible first | apply go_elN h | apply go_f1 h | apply go_rf1 h | apply go_rel h); (case hi => omega); (try case hx => exact inferInstance); (try case hv => rfl))
 | ((with_reducible apply go_fa h); omega; omega)
))
    have h1 : Sat w0 (RefC (ptr q) n next cs T1 :: HoldB v n (next + 1) (cs ++ [{ a.c with id := next }]) T1 :: Pool T1 :: Cl pa (cHA a).toArray 39 :: Cl qc (cCtx a.c (svV sv)).toArray 36 :: LsH cI 1 3 (svV sv) a.c.times :: L) w := refC_mono hT1 (h.frt (A := RefC (ptr q) n next cs T))
    refine rcadd_spec (c := a.c) (tv := svV a.tv) (v := ptr q) (T := T1) (cs := cs) (n := n) (next := next) (L := Cl pa (cHA a).toArray 39 :: Cl qc (cCtx a.c (svV sv)).toArray 36 :: LsH cI 1 3 (svV sv) a.c.times :: HoldB v n (next + 1) (cs ++ [{ a.c with id := next }]) T1 :: L) hf (by omega) ⟨hnx, hn1⟩ (.of_arg ha) inferInstance (h1.got) (fun hne => absurd he hne) (fun _ T2 w hT2 h => ?_)
    (repeat (first
 | (simp (disch := omega) only [evA, evB, evC, bAdd_i64, bSub_i64])
 | (with_reducible apply go_ld1 h)
 | ((with_reducible first | apply go_ldA h | apply go_rd h | apply go_rdN h | apply go_rlen h); rfl)
 | (with_reducible first | apply go_ldN h | apply go_lenL h)
 | ((with_reducible apply go_st h); intro _ h)
 | ((with_reducible apply go_stA h); rfl; rfl; (first | rfl | simp [OneV.o]); intro _ h)
 | ((with_reducible apply go_stN h); rfl; (first | rfl | simp [OneV.o]); intro _ h)
 | ((with_reducible apply go_box h); rfl; intro _ _ h)
 | ((with_reducible apply go_ix h); omega)
 | ((with_reducible first | apply go_elN h | apply go_f1 h | apply go_rf1 h | apply go_rel h); (case hi => omega); (try case hx => exact inferInstance); (try case hv => rfl))
 | ((with_reducible apply go_fa h); omega; omega)
))
    refine spoil_spec (l := a.c.times) hct (h.frt (A := LsH cI 1 3 (svV sv) a.c.times)) fun w h => ?_
    (repeat (first
 | (simp (disch := omega) only [evA, evB, evC, bAdd_i64, bSub_i64])
 | (with_reducible apply go_ld1 h)
 | ((with_reducible first | apply go_ldA h | apply go_rd h | apply go_rdN h | apply go_rlen h); rfl)
 | (with_reducible first | apply go_ldN h | apply go_lenL h)
 | ((with_reducible apply go_st h); intro _ h)
 | ((with_reducible apply go_stA h); rfl; rfl; (first | rfl | simp [OneV.o]); intro _ h)
 | ((with_reducible apply go_stN h); rfl; (first | rfl | simp [OneV.o]); intro _ h)
 | ((with_reducible apply go_box h); rfl; intro _ _ h)
 | ((with_reducible apply go_ix h); omega)
 | ((with_reducible first | apply go_elN h | apply go_f1 h | apply go_rf1 h | apply go_rel h); (case hi => omega); (try case hx => exact inferInstance); (try case hv => rfl))
 | ((with_reducible apply go_fa h); omega; omega)
))
    have h2 := holdB_mono hT2 (h.frt (A := HoldB v n (next + 1) (cs ++ [{ a.c with id := next }]) T1))
    exact hK (next + 1) (cs ++ [{ a.c with id := next }]) T2 _ (.inl (by omega)) (h2.got)
theorem hdoes_turn' (hf : c.fits) (h : Sat w0 (Cl pa (cHA a).toArray 39 :: Cl qc (cCtx c (svV sv)).toArray 36 :: LsH cI 1 3 (svV sv) c.times :: HoldB v n next cs T :: RefC (ptr q) n next cs T :: Pool T :: L) w)
    (hK : ∀ next' cs' T' w', (next' ≤ next + 1 ∨ next' ≤ 1152921504606846976) → Sat w0 (HoldB v n next' cs' T' :: RefC (ptr q) n next' cs' T' :: Pool T' :: L) w' → K (.bool true) w') : F8_10 v (ptr q) (ptr qc) w K := by
  unfold F8_10 F8_10b
  obtain ⟨hn, m, I, M, H, hn1, hn2⟩ := holdB_inv (h.frt (A := HoldB v n next cs T))
  have hb := H.bd
  have hct : c.times.length ≤ 1073741824 := by have := hf.2.2.2; omega
  (repeat (first
 | (simp (disch := omega) only [evA, evB, evC, bAdd_i64, bSub_i64])
 | (with_reducible apply go_ld1 h)
 | ((with_reducible first | apply go_ldA h | apply go_rd h | apply go_rdN h | apply go_rlen h); rfl)
 | (with_reducible first | apply go_ldN h | apply go_lenL h)
 | ((with_reducible apply go_st h); intro _ h)
 | ((with_reducible apply go_stA h); rfl; rfl; (first | rfl | simp [OneV.o]); intro _ h)
 | ((with_reducible apply go_stN h); rfl; (first | rfl | simp [OneV.o]); intro _ h)
 | ((with_reducible apply go_box h); rfl; intro _ _ h)
 | ((with_reducible apply go_ix h); omega)
 | ((with_reducible first | apply go_elN h | apply go_f1 h | apply go_rf1 h | apply go_rel h); (case hi => omega); (try case hx => exact inferInstance); (try case hv => rfl))
 | ((with_reducible apply go_fa h); omega; omega)
))
  refine copied_spec (c := c) (tv := svV sv) hct (RdL.of_ls inferInstance) inferInstance h fun sd w h => ?_
  refine go_alloc h zc41 rfl fun qd _ h => ?_
  (repeat (first
 | (simp (disch := omega) only [evA, evB, evC, bAdd_i64, bSub_i64])
 | (with_reducible apply go_ld1 h)
 | ((with_reducible first | apply go_ldA h | apply go_rd h | apply go_rdN h | apply go_rlen h); rfl)
 | (with_reducible first | apply go_ldN h | apply go_lenL h)
 | ((with_reducible apply go_st h); intro _ h)
 | ((with_reducible apply go_stA h); rfl; rfl; (first | rfl | simp [OneV.o]); intro _ h)
 | ((with_reducible apply go_stN h); rfl; (first | rfl | simp [OneV.o]); intro _ h)
 | ((with_reducible apply go_box h); rfl; intro _ _ h)
 | ((with_reducible apply go_ix h); omega)
 | ((with_reducible first | apply go_elN h | apply go_f1 h | apply go_rf1 h | apply go_rel h); (case hi => omega); (try case hx => exact inferInstance); (try case hv => rfl))
 | ((with_reducible apply go_fa h); omega; omega)
))
  refine bturn_spec (c := c) (tv := svV sv) (v := v) (T := T) (cs := cs) (n := n) (next := next) (L := Cl qd (cCtx c (svV sd)).toArray 36 :: LsH cI 1 3 (svV sd) c.times :: Cl qc (cCtx c (svV sv)).toArray 36 :: LsH cI 1 3 (svV sv) c.times :: RefC (ptr q) n next cs T :: L) hf (RdL.of_ls inferInstance) inferInstance (h.got) (fun hne w h => ?_) (fun he T1 w hT1 h => ?_)
  · (repeat (first
 | (simp (disch := omega) only [evA, evB, evC, bAdd_i64, bSub_i64])
 | (with_reducible apply go_ld1 h)
 | ((with_reducible first | apply go_ldA h | apply go_rd h | apply go_rdN h | apply go_rlen h); rfl)
 | (with_reducible first | apply go_ldN h | apply go_lenL h)
 | ((with_reducible apply go_st h); intro _ h)
 | ((with_reducible apply go_stA h); rfl; rfl; (first | rfl | simp [OneV.o]); intro _ h)
 | ((with_reducible apply go_stN h); rfl; (first | rfl | simp [OneV.o]); intro _ h)
 | ((with_reducible apply go_box h); rfl; intro _ _ h)
 | ((with_reducible apply go_ix h); omega)
 | ((with_reducible first | apply go_elN h | apply go_f1 h | apply go_rf1 h | apply go_rel h); (case hi => omega); (try case hx => exact inferInstance); (try case hv => rfl))
 | ((with_reducible apply go_fa h); omega; omega)
))
    refine spoil_spec (l := c.times) hct (h.frt (A := LsH cI 1 3 (svV sv) c.times)) fun w h => ?_
    (repeat (first
 | (simp (disch := omega) only [evA, evB, evC, bAdd_i64, bSub_i64])
 | (with_reducible apply go_ld1 h)
 | ((with_reducible first | apply go_ldA h | apply go_rd h | apply go_rdN h | apply go_rlen h); rfl)
 | (with_reducible first | apply go_ldN h | apply go_lenL h)
 | ((with_reducible apply go_st h); intro _ h)
 | ((with_reducible apply go_stA h); rfl; rfl; (first | rfl | simp [OneV.o]); intro _ h)
 | ((with_reducible apply go_stN h); rfl; (first | rfl | simp [OneV.o]); intro _ h)
 | ((with_reducible apply go_box h); rfl; intro _ _ h)
 | ((with_reducible apply go_ix h); omega)
 | ((with_reducible first | apply go_elN h | apply go_f1 h | apply go_rf1 h | apply go_rel h); (case hi => omega); (try case hx => exact inferInstance); (try case hv => rfl))
 | ((with_reducible apply go_fa h); omega; omega)
))
    refine rcturn_spec (c := c) (tv := svV sd) (v := ptr q) (T := T) (cs := cs) (n := n) (next := next) (L := Cl qd (cCtx c (svV sd)).toArray 36 :: LsH cI 1 3 (svV sd) c.times :: HoldB v n next cs T :: L) hf (by omega) H.asc H.sg (RdL.of_ls inferInstance) inferInstance (h.got) (fun _ w h => ?_) (fun he => absurd he hne)
    (repeat (first
 | (simp (disch := omega) only [evA, evB, evC, bAdd_i64, bSub_i64])
 | (with_reducible apply go_ld1 h)
 | ((with_reducible first | apply go_ldA h | apply go_rd h | apply go_rdN h | apply go_rlen h); rfl)
 | (with_reducible first | apply go_ldN h | apply go_lenL h)
 | ((with_reducible apply go_st h); intro _ h)
 | ((with_reducible apply go_stA h); rfl; rfl; (first | rfl | simp [OneV.o]); intro _ h)
 | ((with_reducible apply go_stN h); rfl; (first | rfl | simp [OneV.o]); intro _ h)
 | ((with_reducible apply go_box h); rfl; intro _ _ h)
 | ((with_reducible apply go_ix h); omega)
 | ((with_reducible first | apply go_elN h | apply go_f1 h | apply go_rf1 h | apply go_rel h); (case hi => omega); (try case hx => exact inferInstance); (try case hv => rfl))
 | ((with_reducible apply go_fa h); omega; omega)
))
    exact hK next cs T _ (.inl (by omega)) (h.got)
  · (repeat (first
 | (simp (disch := omega) only [evA, evB, evC, bAdd_i64, bSub_i64])
 | (with_reducible apply go_ld1 h)
 | ((with_reducible first | apply go_ldA h | apply go_rd h | apply go_rdN h | apply go_rlen h); rfl)
 | (with_reducible first | apply go_ldN h | apply go_lenL h)
 | ((with_reducible apply go_st h); intro _ h)
 | ((with_reducible apply go_stA h); rfl; rfl; (first | rfl | simp [OneV.o]); intro _ h)
 | ((with_reducible apply go_stN h); rfl; (first | rfl | simp [OneV.o]); intro _ h)
 | ((with_reducible apply go_box h); rfl; intro _ _ h)
 | ((with_reducible apply go_ix h); omega)
 | ((with_reducible first | apply go_elN h | apply go_f1 h | apply go_rf1 h | apply go_rel h); (case hi => omega); (try case hx => exact inferInstance); (try case hv => rfl))
 | ((with_reducible apply go_fa h); omega; omega)
))
    refine spoil_spec (l := c.times) hct (h.frt (A := LsH cI 1 3 (svV sv) c.times)) fun w h => ?_
    (repeat (first
 | (simp (disch := omega) only [evA, evB, evC, bAdd_i64, bSub_i64])
 | (with_reducible apply go_ld1 h)
 | ((with_reducible first | apply go_ldA h | apply go_rd h | apply go_rdN h | apply go_rlen h); rfl)
 | (with_reducible first | apply go_ldN h | apply go_lenL h)
 | ((with_reducible apply go_st h); intro _ h)
 | ((with_reducible apply go_stA h); rfl; rfl; (first | rfl | simp [OneV.o]); intro _ h)
 | ((with_reducible apply go_stN h); rfl; (first | rfl | simp [OneV.o]); intro _ h)
 | ((with_reducible apply go_box h); rfl; intro _ _ h)
 | ((with_reducible apply go_ix h); omega)
 | ((with_reducible first | apply go_elN h | apply go_f1 h | apply go_rf1 h | apply go_rel h); (case hi => omega); (try case hx => exact inferInstance); (try case hv => rfl))
 | ((with_reducible apply go_fa h); omega; omega)
))
    have h1 : Sat w0 (RefC (ptr q) n next cs T1 :: HoldB v n next (turnL c cs) T1 :: Pool T1 :: Cl qd (cCtx c (svV sd)).toArray 36 :: LsH cI 1 3 (svV sd) c.times :: L) w := Sat.get (refC_mono hT1 (h.frt (A := RefC (ptr q) n next cs T))) (by (repeat (first | exact .done | (refine .pick (by repeat (first | exact .here | apply Fnt.there)) ?_) | refine .skip ?_)))
    refine rcturn_spec (c := c) (tv := svV sd) (v := ptr q) (T := T1) (cs := cs) (n := n) (next := next) (L := Cl qd (cCtx c (svV sd)).toArray 36 :: LsH cI 1 3 (svV sd) c.times :: HoldB v n next (turnL c cs) T1 :: L) hf (by omega) H.asc H.sg (RdL.of_ls inferInstance) inferInstance (h1.got) (fun hne => absurd he hne) (fun _ T2 w hT2 h => ?_)
    (repeat (first
 | (simp (disch := omega) only [evA, evB, evC, bAdd_i64, bSub_i64])
 | (with_reducible apply go_ld1 h)
 | ((with_reducible first | apply go_ldA h | apply go_rd h | apply go_rdN h | apply go_rlen h); rfl)
 | (with_reducible first | apply go_ldN h | apply go_lenL h)
 | ((with_reducible apply go_st h); intro _ h)
 | ((with_reducible apply go_stA h); rfl; rfl; (first | rfl | simp [OneV.o]); intro _ h)
 | ((with_reducible apply go_stN h); rfl; (first | rfl | simp [OneV.o]); intro _ h)
 | ((with_reducible apply go_box h); rfl; intro _ _ h)
 | ((with_reducible apply go_ix h); omega)
 | ((with_reducible first | apply go_elN h | apply go_f1 h | apply go_rf1 h | apply go_rel h); (case hi => omega); (try case hx => exact inferInstance); (try case hv => rfl))
 | ((with_reducible apply go_fa h); omega; omega)
))
    have h2 := holdB_mono hT2 (h.frt (A := HoldB v n next (turnL c cs) T1))
    exact hK next (turnL c cs) T2 _ (.inl (by omega)) (h2.got)
theorem hdoes_turn (hf : a.c.fits) (h : Sat w0 (Cl pa (cHA a).toArray 39 :: Cl qc (cCtx a.c (svV sv)).toArray 36 :: LsH cI 1 3 (svV sv) a.c.times :: HoldB v n next cs T :: RefC (ptr q) n next cs T :: Pool T :: L) w)
    (hK : ∀ next' cs' T' w', (next' ≤ next + 1 ∨ next' ≤ 1152921504606846976) → Sat w0 (HoldB v n next' cs' T' :: RefC (ptr q) n next' cs' T' :: Pool T' :: L) w' → K (.bool true) w') : F8_9 v (ptr q) (ptr pa) (ptr qc) (.int .i64 id) w K := by
  unfold F8_9 F8_9b
  obtain ⟨hn, m, I, M, H, hn1, hn2⟩ := holdB_inv (h.frt (A := HoldB v n next cs T))
  have hb := H.bd
  replace h := h.frt (A := RefC (ptr q) n next cs T)
  replace h := refC_at h
  obtain ⟨s, ys, hy, hP, h⟩ := h
  have hyl : ys.length = cs.length := by rw [← hy]; simp
  (repeat (first
 | (simp (disch := omega) only [evA, evB, evC, bAdd_i64, bSub_i64])
 | (with_reducible apply go_ld1 h)
 | ((with_reducible first | apply go_ldA h | apply go_rd h | apply go_rdN h | apply go_rlen h); rfl)
 | (with_reducible first | apply go_ldN h | apply go_lenL h)
 | ((with_reducible apply go_st h); intro _ h)
 | ((with_reducible apply go_stA h); rfl; rfl; (first | rfl | simp [OneV.o]); intro _ h)
 | ((with_reducible apply go_stN h); rfl; (first | rfl | simp [OneV.o]); intro _ h)
 | ((with_reducible apply go_box h); rfl; intro _ _ h)
 | ((with_reducible apply go_ix h); omega)
 | ((with_reducible first | apply go_elN h | apply go_f1 h | apply go_rf1 h | apply go_rel h); (case hi => omega); (try case hx => exact inferInstance); (try case hv => rfl))
 | ((with_reducible apply go_fa h); omega; omega)
))
  refine Below_spec (by omega) (by omega) fun k h1 h2 _ => ?_
  obtain ⟨i, rfl⟩ : ∃ j : Nat, k = j := ⟨k.toNat, by omega⟩
  have plain : ∀ w, Sat w0 (Cl pa (cHA a).toArray 39 :: Cl qc (cCtx { a.c with id := id } (svV sv)).toArray 36 :: LsH cI 1 3 (svV sv) a.c.times :: HoldB v n next cs T :: RcC q n next s :: LsH cX 11 36 s ys :: Pool T :: L) w → F8_10 v (ptr q) (ptr qc) w K := fun w h => by
    have h3 := refC_mk (T := T) hy hP (h.get (L' := RcC q n next s :: LsH cX 11 36 s ys :: Cl pa (cHA a).toArray 39 :: Cl qc (cCtx { a.c with id := id } (svV sv)).toArray 36 :: LsH cI 1 3 (svV sv) a.c.times :: HoldB v n next cs T :: Pool T :: L) (by (repeat (first | exact .done | (refine .pick (by repeat (first | exact .here | apply Fnt.there)) ?_) | refine .skip ?_))))
    exact hdoes_turn' (c := { a.c with id := id }) (sv := sv) (pa := pa) (a := a) hf (h3.got) hK
  cases g1 : a.keep
  · (repeat (first
 | (simp (disch := omega) only [evA, evB, evC, bAdd_i64, bSub_i64, g1])
 | (with_reducible apply go_ld1 h)
 | ((with_reducible first | apply go_ldA h | apply go_rd h | apply go_rdN h | apply go_rlen h); rfl)
 | (with_reducible first | apply go_ldN h | apply go_lenL h)
 | ((with_reducible apply go_st h); intro _ h)
 | ((with_reducible apply go_stA h); rfl; rfl; (first | rfl | simp [OneV.o]); intro _ h)
 | ((with_reducible apply go_stN h); rfl; (first | rfl | simp [OneV.o]); intro _ h)
 | ((with_reducible apply go_box h); rfl; intro _ _ h)
 | ((with_reducible apply go_ix h); omega)
 | ((with_reducible first | apply go_elN h | apply go_f1 h | apply go_rf1 h | apply go_rel h); (case hi => omega); (try case hx => exact inferInstance); (try case hv => rfl))
 | ((with_reducible apply go_fa h); omega; omega)
))
    exact plain _ (h.drew.got)
  by_cases g2 : i < ys.length
  case neg =>
    have g2' : decide ((i : Int) < (ys.length : Int)) = false := by simpa using g2
    (repeat (first
 | (simp (disch := omega) only [evA, evB, evC, bAdd_i64, bSub_i64, g1, g2'])
 | (with_reducible apply go_ld1 h)
 | ((with_reducible first | apply go_ldA h | apply go_rd h | apply go_rdN h | apply go_rlen h); rfl)
 | (with_reducible first | apply go_ldN h | apply go_lenL h)
 | ((with_reducible apply go_st h); intro _ h)
 | ((with_reducible apply go_stA h); rfl; rfl; (first | rfl | simp [OneV.o]); intro _ h)
 | ((with_reducible apply go_stN h); rfl; (first | rfl | simp [OneV.o]); intro _ h)
 | ((with_reducible apply go_box h); rfl; intro _ _ h)
 | ((with_reducible apply go_ix h); omega)
 | ((with_reducible first | apply go_elN h | apply go_f1 h | apply go_rf1 h | apply go_rel h); (case hi => omega); (try case hx => exact inferInstance); (try case hv => rfl))
 | ((with_reducible apply go_fa h); omega; omega)
))
    exact plain _ (h.drew.got)
  have g2' : decide ((i : Int) < (ys.length : Int)) = true := by simpa using g2
  have hm : ys[i].1 ∈ cs := by rw [← hy]; exact List.mem_map.2 ⟨ys[i], List.getElem_mem g2, rfl⟩
  have hof := (H.ok _ hm).2.1
  (repeat (first
 | (simp (disch := omega) only [evA, evB, evC, bAdd_i64, bSub_i64, g1, g2'])
 | (with_reducible apply go_ld1 h)
 | ((with_reducible first | apply go_ldA h | apply go_rd h | apply go_rdN h | apply go_rlen h); rfl)
 | (with_reducible first | apply go_ldN h | apply go_lenL h)
 | ((with_reducible apply go_st h); intro _ h)
 | ((with_reducible apply go_stA h); rfl; rfl; (first | rfl | simp [OneV.o]); intro _ h)
 | ((with_reducible apply go_stN h); rfl; (first | rfl | simp [OneV.o]); intro _ h)
 | ((with_reducible apply go_box h); rfl; intro _ _ h)
 | ((with_reducible apply go_ix h); omega)
 | ((with_reducible first | apply go_elN h | apply go_f1 h | apply go_rf1 h | apply go_rel h); (case hi => omega); (try case hx => exact inferInstance); (try case hv => rfl))
 | ((with_reducible apply go_fa h); omega; omega)
))
  have h3 := refC_mk (T := T) hy hP (h.get (L' := RcC q n next s :: LsH cX 11 36 s ys :: Cl pa (cHA a).toArray 39 :: Cl qc (cCtx { a.c with id := ys[i].1.id, watch := ys[i].1.watch, node := ys[i].1.node, key := ys[i].1.key } (svV sv)).toArray 36 :: LsH cI 1 3 (svV sv) a.c.times :: HoldB v n next cs T :: Pool T :: L) (by (repeat (first | exact .done | (refine .pick (by repeat (first | exact .here | apply Fnt.there)) ?_) | refine .skip ?_))))
  exact hdoes_turn' (c := { a.c with id := ys[i].1.id, watch := ys[i].1.watch, node := ys[i].1.node, key := ys[i].1.key }) (sv := sv) (pa := pa) (a := a) ⟨hof.1, hof.2.1, hf.2.2.1, hf.2.2.2⟩ (h3.got) hK
theorem hdoes_drop (h : Sat w0 (Cl pa (cHA a).toArray 39 :: Cl qc (cCtx a.c (svV sv)).toArray 36 :: LsH cI 1 3 (svV sv) a.c.times :: HoldB v n next cs T :: RefC (ptr q) n next cs T :: Pool T :: L) w)
    (hK : ∀ next' cs' T' w', (next' ≤ next + 1 ∨ next' ≤ 1152921504606846976) → Sat w0 (HoldB v n next' cs' T' :: RefC (ptr q) n next' cs' T' :: Pool T' :: L) w' → K (.bool true) w') : F8_13 v (ptr q) (.int .i64 id) w K := by
  unfold F8_13 F8_13b
  obtain ⟨hn, m, I, M, H, hn1, hn2⟩ := holdB_inv (h.frt (A := HoldB v n next cs T))
  have hb := H.bd
  refine bdrop_spec (id := id) (v := v) (T := T) (cs := cs) (n := n) (next := next) (L := RefC (ptr q) n next cs T :: Pool T :: L) (h.got) (fun hno w h => ?_) (fun c1 hc1 e1 sv1 hp1 w h => ?_)
  · (repeat (first
 | (simp (disch := omega) only [evA, evB, evC, bAdd_i64, bSub_i64])
 | (with_reducible apply go_ld1 h)
 | ((with_reducible first | apply go_ldA h | apply go_rd h | apply go_rdN h | apply go_rlen h); rfl)
 | (with_reducible first | apply go_ldN h | apply go_lenL h)
 | ((with_reducible apply go_st h); intro _ h)
 | ((with_reducible apply go_stA h); rfl; rfl; (first | rfl | simp [OneV.o]); intro _ h)
 | ((with_reducible apply go_stN h); rfl; (first | rfl | simp [OneV.o]); intro _ h)
 | ((with_reducible apply go_box h); rfl; intro _ _ h)
 | ((with_reducible apply go_ix h); omega)
 | ((with_reducible first | apply go_elN h | apply go_f1 h | apply go_rf1 h | apply go_rel h); (case hi => omega); (try case hx => exact inferInstance); (try case hv => rfl))
 | ((with_reducible apply go_fa h); omega; omega)
))
    refine go_alloc h zc41 rfl fun q1 _ h => ?_
    (repeat (first
 | (simp (disch := omega) only [evA, evB, evC, bAdd_i64, bSub_i64])
 | (with_reducible apply go_ld1 h)
 | ((with_reducible first | apply go_ldA h | apply go_rd h | apply go_rdN h | apply go_rlen h); rfl)
 | (with_reducible first | apply go_ldN h | apply go_lenL h)
 | ((with_reducible apply go_st h); intro _ h)
 | ((with_reducible apply go_stA h); rfl; rfl; (first | rfl | simp [OneV.o]); intro _ h)
 | ((with_reducible apply go_stN h); rfl; (first | rfl | simp [OneV.o]); intro _ h)
 | ((with_reducible apply go_box h); rfl; intro _ _ h)
 | ((with_reducible apply go_ix h); omega)
 | ((with_reducible first | apply go_elN h | apply go_f1 h | apply go_rf1 h | apply go_rel h); (case hi => omega); (try case hx => exact inferInstance); (try case hv => rfl))
 | ((with_reducible apply go_fa h); omega; omega)
))
    refine rcdrop_spec (id := id) (v := ptr q) (T := T) (cs := cs) (n := n) (next := next) (L := Cl q1 (cCtx zeroC (.slice none 0 0)).toArray 36 :: HoldB v n next cs T :: Pool T :: L) (by omega) H.asc (h.got) (fun _ w h => ?_) (fun c2 hc2 e2 => absurd e2 (hno _ hc2))
    (repeat (first
 | (simp (disch := omega) only [evA, evB, evC, bAdd_i64, bSub_i64])
 | (with_reducible apply go_ld1 h)
 | ((with_reducible first | apply go_ldA h | apply go_rd h | apply go_rdN h | apply go_rlen h); rfl)
 | (with_reducible first | apply go_ldN h | apply go_lenL h)
 | ((with_reducible apply go_st h); intro _ h)
 | ((with_reducible apply go_stA h); rfl; rfl; (first | rfl | simp [OneV.o]); intro _ h)
 | ((with_reducible apply go_stN h); rfl; (first | rfl | simp [OneV.o]); intro _ h)
 | ((with_reducible apply go_box h); rfl; intro _ _ h)
 | ((with_reducible apply go_ix h); omega)
 | ((with_reducible first | apply go_elN h | apply go_f1 h | apply go_rf1 h | apply go_rel h); (case hi => omega); (try case hx => exact inferInstance); (try case hv => rfl))
 | ((with_reducible apply go_fa h); omega; omega)
))
    refine go_alloc h zc41 rfl fun q2 _ h => ?_
    (repeat (first
 | (simp (disch := omega) only [evA, evB, evC, bAdd_i64, bSub_i64])
 | (with_reducible apply go_ld1 h)
 | ((with_reducible first | apply go_ldA h | apply go_rd h | apply go_rdN h | apply go_rlen h); rfl)
 | (with_reducible first | apply go_ldN h | apply go_lenL h)
 | ((with_reducible apply go_st h); intro _ h)
 | ((with_reducible apply go_stA h); rfl; rfl; (first | rfl | simp [OneV.o]); intro _ h)
 | ((with_reducible apply go_stN h); rfl; (first | rfl | simp [OneV.o]); intro _ h)
 | ((with_reducible apply go_box h); rfl; intro _ _ h)
 | ((with_reducible apply go_ix h); omega)
 | ((with_reducible first | apply go_elN h | apply go_f1 h | apply go_rf1 h | apply go_rel h); (case hi => omega); (try case hx => exact inferInstance); (try case hv => rfl))
 | ((with_reducible apply go_fa h); omega; omega)
))
    refine fsame_spec (a := zeroC) (b := zeroC) (by simp [zeroC]) rdNil rdNil h fun w h => ?_
    rw [decide_eq_true rfl]
    (repeat (first
 | (simp (disch := omega) only [evA, evB, evC, bAdd_i64, bSub_i64, Int.reduceEq])
 | (with_reducible apply go_ld1 h)
 | ((with_reducible first | apply go_ldA h | apply go_rd h | apply go_rdN h | apply go_rlen h); rfl)
 | (with_reducible first | apply go_ldN h | apply go_lenL h)
 | ((with_reducible apply go_st h); intro _ h)
 | ((with_reducible apply go_stA h); rfl; rfl; (first | rfl | simp [OneV.o]); intro _ h)
 | ((with_reducible apply go_stN h); rfl; (first | rfl | simp [OneV.o]); intro _ h)
 | ((with_reducible apply go_box h); rfl; intro _ _ h)
 | ((with_reducible apply go_ix h); omega)
 | ((with_reducible first | apply go_elN h | apply go_f1 h | apply go_rf1 h | apply go_rel h); (case hi => omega); (try case hx => exact inferInstance); (try case hv => rfl))
 | ((with_reducible apply go_fa h); omega; omega)
))
    exact hK next cs T _ (.inl (by omega)) (h.got)
  · have hof := (H.ok _ hc1).2.1.2.2.2
    (repeat (first
 | (simp (disch := omega) only [evA, evB, evC, bAdd_i64, bSub_i64])
 | (with_reducible apply go_ld1 h)
 | ((with_reducible first | apply go_ldA h | apply go_rd h | apply go_rdN h | apply go_rlen h); rfl)
 | (with_reducible first | apply go_ldN h | apply go_lenL h)
 | ((with_reducible apply go_st h); intro _ h)
 | ((with_reducible apply go_stA h); rfl; rfl; (first | rfl | simp [OneV.o]); intro _ h)
 | ((with_reducible apply go_stN h); rfl; (first | rfl | simp [OneV.o]); intro _ h)
 | ((with_reducible apply go_box h); rfl; intro _ _ h)
 | ((with_reducible apply go_ix h); omega)
 | ((with_reducible first | apply go_elN h | apply go_f1 h | apply go_rf1 h | apply go_rel h); (case hi => omega); (try case hx => exact inferInstance); (try case hv => rfl))
 | ((with_reducible apply go_fa h); omega; omega)
))
    refine go_alloc h zc41 rfl fun q1 _ h => ?_
    (repeat (first
 | (simp (disch := omega) only [evA, evB, evC, bAdd_i64, bSub_i64])
 | (with_reducible apply go_ld1 h)
 | ((with_reducible first | apply go_ldA h | apply go_rd h | apply go_rdN h | apply go_rlen h); rfl)
 | (with_reducible first | apply go_ldN h | apply go_lenL h)
 | ((with_reducible apply go_st h); intro _ h)
 | ((with_reducible apply go_stA h); rfl; rfl; (first | rfl | simp [OneV.o]); intro _ h)
 | ((with_reducible apply go_stN h); rfl; (first | rfl | simp [OneV.o]); intro _ h)
 | ((with_reducible apply go_box h); rfl; intro _ _ h)
 | ((with_reducible apply go_ix h); omega)
 | ((with_reducible first | apply go_elN h | apply go_f1 h | apply go_rf1 h | apply go_rel h); (case hi => omega); (try case hx => exact inferInstance); (try case hv => rfl))
 | ((with_reducible apply go_fa h); omega; omega)
))
    refine rcdrop_spec (id := id) (v := ptr q) (T := T) (cs := cs) (n := n) (next := next) (L := Cl q1 (cCtx c1 (svV sv1)).toArray 36 :: HoldB v n next (dropL id cs) T :: Pool T :: L) (by omega) H.asc (h.got) (fun hno => absurd e1 (hno _ hc1)) (fun c2 hc2 e2 sv2 hp2 w h => ?_)
    obtain rfl := asc_eq H.asc hc1 hc2 (e1.trans e2.symm)
    (repeat (first
 | (simp (disch := omega) only [evA, evB, evC, bAdd_i64, bSub_i64])
 | (with_reducible apply go_ld1 h)
 | ((with_reducible first | apply go_ldA h | apply go_rd h | apply go_rdN h | apply go_rlen h); rfl)
 | (with_reducible first | apply go_ldN h | apply go_lenL h)
 | ((with_reducible apply go_st h); intro _ h)
 | ((with_reducible apply go_stA h); rfl; rfl; (first | rfl | simp [OneV.o]); intro _ h)
 | ((with_reducible apply go_stN h); rfl; (first | rfl | simp [OneV.o]); intro _ h)
 | ((with_reducible apply go_box h); rfl; intro _ _ h)
 | ((with_reducible apply go_ix h); omega)
 | ((with_reducible first | apply go_elN h | apply go_f1 h | apply go_rf1 h | apply go_rel h); (case hi => omega); (try case hx => exact inferInstance); (try case hv => rfl))
 | ((with_reducible apply go_fa h); omega; omega)
))
    refine go_alloc h zc41 rfl fun q2 _ h => ?_
    (repeat (first
 | (simp (disch := omega) only [evA, evB, evC, bAdd_i64, bSub_i64])
 | (with_reducible apply go_ld1 h)
 | ((with_reducible first | apply go_ldA h | apply go_rd h | apply go_rdN h | apply go_rlen h); rfl)
 | (with_reducible first | apply go_ldN h | apply go_lenL h)
 | ((with_reducible apply go_st h); intro _ h)
 | ((with_reducible apply go_stA h); rfl; rfl; (first | rfl | simp [OneV.o]); intro _ h)
 | ((with_reducible apply go_stN h); rfl; (first | rfl | simp [OneV.o]); intro _ h)
 | ((with_reducible apply go_box h); rfl; intro _ _ h)
 | ((with_reducible apply go_ix h); omega)
 | ((with_reducible first | apply go_elN h | apply go_f1 h | apply go_rf1 h | apply go_rel h); (case hi => omega); (try case hx => exact inferInstance); (try case hv => rfl))
 | ((with_reducible apply go_fa h); omega; omega)
))
    refine fsame_spec (a := c1) (b := c1) (tv := svV sv1) (tv' := svV sv2) (by omega) (pool_rd (T := T) (y := (sv1, c1.times)) hp1 (by repeat (first | exact .here | apply Fnt.there))) (pool_rd (T := T) (y := (sv2, c1.times)) hp2 (by repeat (first | exact .here | apply Fnt.there))) h fun w h => ?_
    rw [decide_eq_true rfl]
    (repeat (first
 | (simp (disch := omega) only [evA, evB, evC, bAdd_i64, bSub_i64, Int.reduceEq])
 | (with_reducible apply go_ld1 h)
 | ((with_reducible first | apply go_ldA h | apply go_rd h | apply go_rdN h | apply go_rlen h); rfl)
 | (with_reducible first | apply go_ldN h | apply go_lenL h)
 | ((with_reducible apply go_st h); intro _ h)
 | ((with_reducible apply go_stA h); rfl; rfl; (first | rfl | simp [OneV.o]); intro _ h)
 | ((with_reducible apply go_stN h); rfl; (first | rfl | simp [OneV.o]); intro _ h)
 | ((with_reducible apply go_box h); rfl; intro _ _ h)
 | ((with_reducible apply go_ix h); omega)
 | ((with_reducible first | apply go_elN h | apply go_f1 h | apply go_rf1 h | apply go_rel h); (case hi => omega); (try case hx => exact inferInstance); (try case hv => rfl))
 | ((with_reducible apply go_fa h); omega; omega)
))
    exact hK next (dropL id cs) T _ (.inl (by omega)) (h.got)
theorem hdoes_dropf (h : Sat w0 (Cl pa (cHA a).toArray 39 :: Cl qc (cCtx a.c (svV sv)).toArray 36 :: LsH cI 1 3 (svV sv) a.c.times :: HoldB v n next cs T :: RefC (ptr q) n next cs T :: Pool T :: L) w)
    (hK : ∀ next' cs' T' w', (next' ≤ next + 1 ∨ next' ≤ 1152921504606846976) → Sat w0 (HoldB v n next' cs' T' :: RefC (ptr q) n next' cs' T' :: Pool T' :: L) w' → K (.bool true) w') : F8_16 v (ptr q) w K := by
  unfold F8_16 F8_16b
  obtain ⟨hn, m, I, M, H, hn1, hn2⟩ := holdB_inv (h.frt (A := HoldB v n next cs T))
  have hb := H.bd
  have hct : ∀ c ∈ cs, c.times.length ≤ 1073741824 := fun c hc => by have := (H.ok c hc).2.1.2.2.2; omega
  refine rcfirst_spec (v := ptr q) (T := T) (cs := cs) (n := n) (next := next) (L := HoldB v n next cs T :: L) (by omega) hct (h.got) (fun hno w h => ?_) (fun cf hcf sf w h => ?_)
  · (repeat (first
 | (simp (disch := omega) only [evA, evB, evC, bAdd_i64, bSub_i64])
 | (with_reducible apply go_ld1 h)
 | ((with_reducible first | apply go_ldA h | apply go_rd h | apply go_rdN h | apply go_rlen h); rfl)
 | (with_reducible first | apply go_ldN h | apply go_lenL h)
 | ((with_reducible apply go_st h); intro _ h)
 | ((with_reducible apply go_stA h); rfl; rfl; (first | rfl | simp [OneV.o]); intro _ h)
 | ((with_reducible apply go_stN h); rfl; (first | rfl | simp [OneV.o]); intro _ h)
 | ((with_reducible apply go_box h); rfl; intro _ _ h)
 | ((with_reducible apply go_ix h); omega)
 | ((with_reducible first | apply go_elN h | apply go_f1 h | apply go_rf1 h | apply go_rel h); (case hi => omega); (try case hx => exact inferInstance); (try case hv => rfl))
 | ((with_reducible apply go_fa h); omega; omega)
))
    refine go_alloc h zc41 rfl fun q0 _ h => ?_
    (repeat (first
 | (simp (disch := omega) only [evA, evB, evC, bAdd_i64, bSub_i64])
 | (with_reducible apply go_ld1 h)
 | ((with_reducible first | apply go_ldA h | apply go_rd h | apply go_rdN h | apply go_rlen h); rfl)
 | (with_reducible first | apply go_ldN h | apply go_lenL h)
 | ((with_reducible apply go_st h); intro _ h)
 | ((with_reducible apply go_stA h); rfl; rfl; (first | rfl | simp [OneV.o]); intro _ h)
 | ((with_reducible apply go_stN h); rfl; (first | rfl | simp [OneV.o]); intro _ h)
 | ((with_reducible apply go_box h); rfl; intro _ _ h)
 | ((with_reducible apply go_ix h); omega)
 | ((with_reducible first | apply go_elN h | apply go_f1 h | apply go_rf1 h | apply go_rel h); (case hi => omega); (try case hx => exact inferInstance); (try case hv => rfl))
 | ((with_reducible apply go_fa h); omega; omega)
))
    exact hK next cs T _ (.inl (by omega)) (h.got)
  (repeat (first
 | (simp (disch := omega) only [evA, evB, evC, bAdd_i64, bSub_i64])
 | (with_reducible apply go_ld1 h)
 | ((with_reducible first | apply go_ldA h | apply go_rd h | apply go_rdN h | apply go_rlen h); rfl)
 | (with_reducible first | apply go_ldN h | apply go_lenL h)
 | ((with_reducible apply go_st h); intro _ h)
 | ((with_reducible apply go_stA h); rfl; rfl; (first | rfl | simp [OneV.o]); intro _ h)
 | ((with_reducible apply go_stN h); rfl; (first | rfl | simp [OneV.o]); intro _ h)
 | ((with_reducible apply go_box h); rfl; intro _ _ h)
 | ((with_reducible apply go_ix h); omega)
 | ((with_reducible first | apply go_elN h | apply go_f1 h | apply go_rf1 h | apply go_rel h); (case hi => omega); (try case hx => exact inferInstance); (try case hv => rfl))
 | ((with_reducible apply go_fa h); omega; omega)
))
  refine go_alloc h zc41 rfl fun q0 _ h => ?_
  (repeat (first
 | (simp (disch := omega) only [evA, evB, evC, bAdd_i64, bSub_i64])
 | (with_reducible apply go_ld1 h)
 | ((with_reducible first | apply go_ldA h | apply go_rd h | apply go_rdN h | apply go_rlen h); rfl)
 | (with_reducible first | apply go_ldN h | apply go_lenL h)
 | ((with_reducible apply go_st h); intro _ h)
 | ((with_reducible apply go_stA h); rfl; rfl; (first | rfl | simp [OneV.o]); intro _ h)
 | ((with_reducible apply go_stN h); rfl; (first | rfl | simp [OneV.o]); intro _ h)
 | ((with_reducible apply go_box h); rfl; intro _ _ h)
 | ((with_reducible apply go_ix h); omega)
 | ((with_reducible first | apply go_elN h | apply go_f1 h | apply go_rf1 h | apply go_rel h); (case hi => omega); (try case hx => exact inferInstance); (try case hv => rfl))
 | ((with_reducible apply go_fa h); omega; omega)
))
  refine bdrop_spec (id := cf.id) (v := v) (T := T) (cs := cs) (n := n) (next := next) (L := Cl q0 (cCtx cf (svV sf)).toArray 36 :: RefC (ptr q) n next cs T :: Pool T :: L) (h.got) (fun hno => absurd rfl (hno _ hcf.1)) (fun c1 hc1 e1 sv1 hp1 w h => ?_)
  have hof := (H.ok _ hc1).2.1.2.2.2
  (repeat (first
 | (simp (disch := omega) only [evA, evB, evC, bAdd_i64, bSub_i64])
 | (with_reducible apply go_ld1 h)
 | ((with_reducible first | apply go_ldA h | apply go_rd h | apply go_rdN h | apply go_rlen h); rfl)
 | (with_reducible first | apply go_ldN h | apply go_lenL h)
 | ((with_reducible apply go_st h); intro _ h)
 | ((with_reducible apply go_stA h); rfl; rfl; (first | rfl | simp [OneV.o]); intro _ h)
 | ((with_reducible apply go_stN h); rfl; (first | rfl | simp [OneV.o]); intro _ h)
 | ((with_reducible apply go_box h); rfl; intro _ _ h)
 | ((with_reducible apply go_ix h); omega)
 | ((with_reducible first | apply go_elN h | apply go_f1 h | apply go_rf1 h | apply go_rel h); (case hi => omega); (try case hx => exact inferInstance); (try case hv => rfl))
 | ((with_reducible apply go_fa h); omega; omega)
))
  refine go_alloc h zc41 rfl fun q1 _ h => ?_
  (repeat (first
 | (simp (disch := omega) only [evA, evB, evC, bAdd_i64, bSub_i64])
 | (with_reducible apply go_ld1 h)
 | ((with_reducible first | apply go_ldA h | apply go_rd h | apply go_rdN h | apply go_rlen h); rfl)
 | (with_reducible first | apply go_ldN h | apply go_lenL h)
 | ((with_reducible apply go_st h); intro _ h)
 | ((with_reducible apply go_stA h); rfl; rfl; (first | rfl | simp [OneV.o]); intro _ h)
 | ((with_reducible apply go_stN h); rfl; (first | rfl | simp [OneV.o]); intro _ h)
 | ((with_reducible apply go_box h); rfl; intro _ _ h)
 | ((with_reducible apply go_ix h); omega)
 | ((with_reducible first | apply go_elN h | apply go_f1 h | apply go_rf1 h | apply go_rel h); (case hi => omega); (try case hx => exact inferInstance); (try case hv => rfl))
 | ((with_reducible apply go_fa h); omega; omega)
))
  refine rcdrop_spec (id := cf.id) (v := ptr q) (T := T) (cs := cs) (n := n) (next := next) (L := Cl q1 (cCtx c1 (svV sv1)).toArray 36 :: HoldB v n next (dropL cf.id cs) T :: Pool T :: L) (by omega) H.asc (h.got) (fun hno => absurd e1 (hno _ hc1)) (fun c2 hc2 e2 sv2 hp2 w h => ?_)
  obtain rfl := asc_eq H.asc hc1 hc2 (e1.trans e2.symm)
  (repeat (first
 | (simp (disch := omega) only [evA, evB, evC, bAdd_i64, bSub_i64])
 | (with_reducible apply go_ld1 h)
 | ((with_reducible first | apply go_ldA h | apply go_rd h | apply go_rdN h | apply go_rlen h); rfl)
 | (with_reducible first | apply go_ldN h | apply go_lenL h)
 | ((with_reducible apply go_st h); intro _ h)
 | ((with_reducible apply go_stA h); rfl; rfl; (first | rfl | simp [OneV.o]); intro _ h)
 | ((with_reducible apply go_stN h); rfl; (first | rfl | simp [OneV.o]); intro _ h)
 | ((with_reducible apply go_box h); rfl; intro _ _ h)
 | ((with_reducible apply go_ix h); omega)
 | ((with_reducible first | apply go_elN h | apply go_f1 h | apply go_rf1 h | apply go_rel h); (case hi => omega); (try case hx => exact inferInstance); (try case hv => rfl))
 | ((with_reducible apply go_fa h); omega; omega)
))
  refine go_alloc h zc41 rfl fun q2 _ h => ?_
  (repeat (first
 | (simp (disch := omega) only [evA, evB, evC, bAdd_i64, bSub_i64])
 | (with_reducible apply go_ld1 h)
 | ((with_reducible first | apply go_ldA h | apply go_rd h | apply go_rdN h | apply go_rlen h); rfl)
 | (with_reducible first | apply go_ldN h | apply go_lenL h)
 | ((with_reducible apply go_st h); intro _ h)
 | ((with_reducible apply go_stA h); rfl; rfl; (first | rfl | simp [OneV.o]); intro _ h)
 | ((with_reducible apply go_stN h); rfl; (first | rfl | simp [OneV.o]); intro _ h)
 | ((with_reducible apply go_box h); rfl; intro _ _ h)
 | ((with_reducible apply go_ix h); omega)
 | ((with_reducible first | apply go_elN h | apply go_f1 h | apply go_rf1 h | apply go_rel h); (case hi => omega); (try case hx => exact inferInstance); (try case hv => rfl))
 | ((with_reducible apply go_fa h); omega; omega)
))
  refine fsame_spec (a := c1) (b := c1) (tv := svV sv1) (tv' := svV sv2) (by omega) (pool_rd (T := T) (y := (sv1, c1.times)) hp1 (by repeat (first | exact .here | apply Fnt.there))) (pool_rd (T := T) (y := (sv2, c1.times)) hp2 (by repeat (first | exact .here | apply Fnt.there))) h fun w h => ?_
  rw [decide_eq_true rfl]
  (repeat (first
 | (simp (disch := omega) only [evA, evB, evC, bAdd_i64, bSub_i64, Int.reduceEq])
 | (with_reducible apply go_ld1 h)
 | ((with_reducible first | apply go_ldA h | apply go_rd h | apply go_rdN h | apply go_rlen h); rfl)
 | (with_reducible first | apply go_ldN h | apply go_lenL h)
 | ((with_reducible apply go_st h); intro _ h)
 | ((with_reducible apply go_stA h); rfl; rfl; (first | rfl | simp [OneV.o]); intro _ h)
 | ((with_reducible apply go_stN h); rfl; (first | rfl | simp [OneV.o]); intro _ h)
 | ((with_reducible apply go_box h); rfl; intro _ _ h)
 | ((with_reducible apply go_ix h); omega)
 | ((with_reducible first | apply go_elN h | apply go_f1 h | apply go_rf1 h | apply go_rel h); (case hi => omega); (try case hx => exact inferInstance); (try case hv => rfl))
 | ((with_reducible apply go_fa h); omega; omega)
))
  exact hK next (dropL cf.id cs) T _ (.inl (by omega)) (h.got)
theorem hdoes_fork (hf : a.c.fits) (hnx : next + 1 ≤ 4611686018427387904)
    (h : Sat w0 (Cl pa (cHA a).toArray 39 :: Cl qc (cCtx a.c (svV sv)).toArray 36 :: LsH cI 1 3 (svV sv) a.c.times :: HoldB v n next cs T :: RefC (ptr q) n next cs T :: Pool T :: L) w)
    (hK : ∀ next' cs' T' w', (next' ≤ next + 1 ∨ next' ≤ 1152921504606846976) → Sat w0 (HoldB v n next' cs' T' :: RefC (ptr q) n next' cs' T' :: Pool T' :: L) w' → K (.bool true) w') : F8_19 v (ptr q) (ptr qc) (.int .i64 id) w K := by
  unfold F8_19 F8_19b
  refine bfork_spec (v := v) (T := T) (cs := cs) (n := n) (next := next) (h.frt (A := HoldB v n next cs T)) fun f w h => ?_
  (repeat (first
 | (simp (disch := omega) only [evA, evB, evC, bAdd_i64, bSub_i64])
 | (refine go_some (bEq_nilp up23   ..) ?_)
 | (with_reducible apply go_ld1 h)
 | ((with_reducible first | apply go_ldA h | apply go_rd h | apply go_rdN h | apply go_rlen h); rfl)
 | (with_reducible first | apply go_ldN h | apply go_lenL h)
 | ((with_reducible apply go_st h); intro _ h)
 | ((with_reducible apply go_stA h); rfl; rfl; (first | rfl | simp [OneV.o]); intro _ h)
 | ((with_reducible apply go_stN h); rfl; (first | rfl | simp [OneV.o]); intro _ h)
 | ((with_reducible apply go_box h); rfl; intro _ _ h)
 | ((with_reducible apply go_ix h); omega)
 | ((with_reducible first | apply go_elN h | apply go_f1 h | apply go_rf1 h | apply go_rel h); (case hi => omega); (try case hx => exact inferInstance); (try case hv => rfl))
 | ((with_reducible apply go_fa h); omega; omega)
))
  refine hstands_spec (v := ptr f) (rv := ptr q) (T := T) (cs := cs) (n := n) (next := next) (c := a.c) (tv := svV sv) (L := Cl qc (cCtx a.c (svV sv)).toArray 36 :: LsH cI 1 3 (svV sv) a.c.times :: HoldB v n next cs T :: L) inferInstance (h.got) fun w h => ?_
  (repeat (first
 | (simp (disch := omega) only [evA, evB, evC, bAdd_i64, bSub_i64])
 | (with_reducible apply go_ld1 h)
 | ((with_reducible first | apply go_ldA h | apply go_rd h | apply go_rdN h | apply go_rlen h); rfl)
 | (with_reducible first | apply go_ldN h | apply go_lenL h)
 | ((with_reducible apply go_st h); intro _ h)
 | ((with_reducible apply go_stA h); rfl; rfl; (first | rfl | simp [OneV.o]); intro _ h)
 | ((with_reducible apply go_stN h); rfl; (first | rfl | simp [OneV.o]); intro _ h)
 | ((with_reducible apply go_box h); rfl; intro _ _ h)
 | ((with_reducible apply go_ix h); omega)
 | ((with_reducible first | apply go_elN h | apply go_f1 h | apply go_rf1 h | apply go_rel h); (case hi => omega); (try case hx => exact inferInstance); (try case hv => rfl))
 | ((with_reducible apply go_fa h); omega; omega)
))
  refine badd_spec (c := a.c) (tv := svV sv) (v := ptr f) (T := T) (cs := cs) (n := n) (next := next) (L := LsH cI 1 3 (svV sv) a.c.times :: HoldB v n next cs T :: RefC (ptr q) n next cs T :: L) hf hnx (RdL.of_ls inferInstance) (h.got) (fun hne w h => ?_) (fun he T1 w hT1 h => ?_)
  · refine bdrop_spec (id := id) (v := ptr f) h (fun _ w h => ?_) (fun _ _ _ _ _ w h => ?_)
    · exact hK next cs T _ (.inl (by omega)) (h.got)
    · exact hK next cs T _ (.inl (by omega)) (h.got)
  · refine bdrop_spec (id := id) (v := ptr f) h (fun _ w h => ?_) (fun _ _ _ _ _ w h => ?_)
    · have h1 := holdB_mono hT1 (h.frt (A := HoldB v n next cs T))
      have h2 := refC_mono hT1 (h1.frt (A := RefC (ptr q) n next cs T))
      exact hK next cs T1 _ (.inl (by omega)) (h2.got)
    · have h1 := holdB_mono hT1 (h.frt (A := HoldB v n next cs T))
      have h2 := refC_mono hT1 (h1.frt (A := RefC (ptr q) n next cs T))
      exact hK next cs T1 _ (.inl (by omega)) (h2.got)
theorem hdoes_back_end {sl : Value} {l : List (Ctx × SV)} (hfit : ∀ x ∈ l, x.1.fits) (hlen : l.length ≤ 65536) (hP : InP T l) (h : Sat w0 (LsH cX 11 36 sl l :: HoldB v n next cs T :: RefC (ptr q) n next cs T :: Pool T :: L) w)
    (hK : ∀ next' cs' T' w', (next' ≤ next + 1 ∨ next' ≤ 1152921504606846976) → Sat w0 (HoldB v n next' cs' T' :: RefC (ptr q) n next' cs' T' :: Pool T' :: L) w' → K (.bool true) w') : F8_24 v (ptr q) sl w K := by
  unfold F8_24 F8_24b
  replace h := h.frt (A := RefC (ptr q) n next cs T)
  replace h := refC_at h
  obtain ⟨s, ys, hy, hPy, h⟩ := h
  (repeat (first
 | (simp (disch := omega) only [evA, evB, evC, bAdd_i64, bSub_i64])
 | (with_reducible apply go_ld1 h)
 | ((with_reducible first | apply go_ldA h | apply go_rd h | apply go_rdN h | apply go_rlen h); rfl)
 | (with_reducible first | apply go_ldN h | apply go_lenL h)
 | ((with_reducible apply go_st h); intro _ h)
 | ((with_reducible apply go_stA h); rfl; rfl; (first | rfl | simp [OneV.o]); intro _ h)
 | ((with_reducible apply go_stN h); rfl; (first | rfl | simp [OneV.o]); intro _ h)
 | ((with_reducible apply go_box h); rfl; intro _ _ h)
 | ((with_reducible apply go_ix h); omega)
 | ((with_reducible first | apply go_elN h | apply go_f1 h | apply go_rf1 h | apply go_rel h); (case hi => omega); (try case hx => exact inferInstance); (try case hv => rfl))
 | ((with_reducible apply go_fa h); omega; omega)
))
  refine bload_spec (v := v) (l := l) (sv := sl) (T := T) (cs := cs) (n := n) (next0 := next) (next := next) (L := LsH cX 11 36 sl l :: RcC q n next s :: LsH cX 11 36 s ys :: L) hfit hlen (RdL.of_ls inferInstance) (RdT.pool hP) (h.drew.got) fun T1 w hT1 h => ?_
  (repeat (first
 | (simp (disch := omega) only [evA, evB, evC, bAdd_i64, bSub_i64])
 | (with_reducible apply go_ld1 h)
 | ((with_reducible first | apply go_ldA h | apply go_rd h | apply go_rdN h | apply go_rlen h); rfl)
 | (with_reducible first | apply go_ldN h | apply go_lenL h)
 | ((with_reducible apply go_st h); intro _ h)
 | ((with_reducible apply go_stA h); rfl; rfl; (first | rfl | simp [OneV.o]); intro _ h)
 | ((with_reducible apply go_stN h); rfl; (first | rfl | simp [OneV.o]); intro _ h)
 | ((with_reducible apply go_box h); rfl; intro _ _ h)
 | ((with_reducible apply go_ix h); omega)
 | ((with_reducible first | apply go_elN h | apply go_f1 h | apply go_rf1 h | apply go_rel h); (case hi => omega); (try case hx => exact inferInstance); (try case hv => rfl))
 | ((with_reducible apply go_fa h); omega; omega)
))
  obtain ⟨r, hr⟩ : ∃ r, loadA' n next cs (l.map Prod.fst) next = r := ⟨_, rfl⟩
  have hnx := loadA'_next (n := n) (next0 := next) (next := next) (cs := cs) (l := l.map Prod.fst)
  rw [hr] at h hnx ⊢
  have h2 : Sat w0 (RefC (ptr q) n next cs T1 :: HoldB v n r.2.1 r.2.2 T1 :: Pool T1 :: LsH cX 11 36 sl l :: L) w := refC_mk hy (hPy.mono hT1) (h.got)
  refine rcload_spec (v := ptr q) (l := l) (sv := sl) (T := T1) (cs := cs) (n := n) (next0 := next) (next := next) (L := LsH cX 11 36 sl l :: HoldB v n r.2.1 r.2.2 T1 :: L) hfit hlen (RdL.of_ls inferInstance) (RdT.pool (hP.mono hT1)) (h2.got) fun T2 w hT2 h => ?_
  rw [hr] at h ⊢
  (repeat (first
 | (simp (disch := omega) only [evA, evB, evC, bAdd_i64, bSub_i64])
 | (with_reducible apply go_ld1 h)
 | ((with_reducible first | apply go_ldA h | apply go_rd h | apply go_rdN h | apply go_rlen h); rfl)
 | (with_reducible first | apply go_ldN h | apply go_lenL h)
 | ((with_reducible apply go_st h); intro _ h)
 | ((with_reducible apply go_stA h); rfl; rfl; (first | rfl | simp [OneV.o]); intro _ h)
 | ((with_reducible apply go_stN h); rfl; (first | rfl | simp [OneV.o]); intro _ h)
 | ((with_reducible apply go_box h); rfl; intro _ _ h)
 | ((with_reducible apply go_ix h); omega)
 | ((with_reducible first | apply go_elN h | apply go_f1 h | apply go_rf1 h | apply go_rel h); (case hi => omega); (try case hx => exact inferInstance); (try case hv => rfl))
 | ((with_reducible apply go_fa h); omega; omega)
))
  have h3 := holdB_mono hT2 (h.frt (A := HoldB v n r.2.1 r.2.2 T1))
  exact hK r.2.1 r.2.2 T2 _ (by rcases hnx with g | g; exact .inl (by omega); exact .inr g) (h3.got)
theorem hdoes_back_loop {sl : Value} (hfit : ∀ x ∈ xs, x.1.fits) (hlen : xs.length ≤ 65536) (hP : InP T xs)
    (hK : ∀ next' cs' T' w', (next' ≤ next + 1 ∨ next' ≤ 1152921504606846976) → Sat w0 (HoldB v n next' cs' T' :: RefC (ptr q) n next' cs' T' :: Pool T' :: L) w' → K (.bool true) w') :
    ∀ (d k : Nat) (l : List (Ctx × SV)) (w : World), l.length - k < d → l.Perm xs → Sat w0 (LsH cX 11 36 sl l :: HoldB v n next cs T :: RefC (ptr q) n next cs T :: Pool T :: L) w → F8_23L d v (ptr q) sl (.int .i64 (k : Nat)) w K := by
  intro d
  induction d with
  | zero => intro k l w hd; omega
  | succ d ih =>
    intro k l w hd hp h
    have hle := hp.length_eq
    rw [F8_23L]
    unfold F8_23b
    have e1 : bQuo (.int .i64 ((l.length : Nat) : Int)) (.int .i64 2) = some (.int .i64 ((l.length / 2 : Nat) : Int)) := by
      rw [bQuo_int _ _ _ (by decide), Int.tdiv_eq_ediv_of_nonneg (by omega), wrap_id (by omega)]; congr 2
    by_cases g : k < l.length / 2
    · have g' : decide ((k : Int) < ((l.length / 2 : Nat) : Int)) = true := by simp; omega
      (repeat (first
 | (simp (disch := omega) only [evA, evB, evC, bAdd_i64, bSub_i64, e1, g'])
 | (with_reducible apply go_ld1 h)
 | ((with_reducible first | apply go_ldA h | apply go_rd h | apply go_rdN h | apply go_rlen h); rfl)
 | (with_reducible first | apply go_ldN h | apply go_lenL h)
 | ((with_reducible apply go_st h); intro _ h)
 | ((with_reducible apply go_stA h); rfl; rfl; (first | rfl | simp [OneV.o]); intro _ h)
 | ((with_reducible apply go_stN h); rfl; (first | rfl | simp [OneV.o]); intro _ h)
 | ((with_reducible apply go_box h); rfl; intro _ _ h)
 | ((with_reducible apply go_ix h); omega)
 | ((with_reducible first | apply go_elN h | apply go_f1 h | apply go_rf1 h | apply go_rel h); (case hi => omega); (try case hx => exact inferInstance); (try case hv => rfl))
 | ((with_reducible apply go_fa h); omega; omega)
))
      have hi : k < l.length := by omega
      obtain ⟨j, hj, ej⟩ : ∃ j : Nat, j < l.length ∧ (l.length : Int) - 1 - (k : Int) = (j : Int) := ⟨l.length - 1 - k, by omega, by omega⟩
      rw [ej]
      (repeat (first
 | (simp (disch := omega) only [evA, evB, evC, bAdd_i64, bSub_i64])
 | (with_reducible apply go_ld1 h)
 | ((with_reducible first | apply go_ldA h | apply go_rd h | apply go_rdN h | apply go_rlen h); rfl)
 | (with_reducible first | apply go_ldN h | apply go_lenL h)
 | ((with_reducible apply go_st h); intro _ h)
 | ((with_reducible apply go_stA h); rfl; rfl; (first | rfl | simp [OneV.o]); intro _ h)
 | ((with_reducible apply go_stN h); rfl; (first | rfl | simp [OneV.o]); intro _ h)
 | ((with_reducible apply go_box h); rfl; intro _ _ h)
 | ((with_reducible apply go_ix h); omega)
 | ((with_reducible first | apply go_elN h | apply go_f1 h | apply go_rf1 h | apply go_rel h); (case hi => omega); (try case hx => exact inferInstance); (try case hv => rfl))
 | ((with_reducible apply go_fa h); omega; omega)
))
      refine ls_st CX h.drew hi l[j] rfl fun w h => ?_
      have hi2 : j < (l.set k l[j]).length := by simpa using hj
      have hlen2 : (l.set k l[j]).length = l.length := List.length_set
      refine go_rlen h (by rw [hlen2]) ?_
      (repeat (first
 | (simp (disch := omega) only [evA, evB, evC, bAdd_i64, bSub_i64])
 | (with_reducible apply go_ld1 h)
 | ((with_reducible first | apply go_ldA h | apply go_rd h | apply go_rdN h | apply go_rlen h); rfl)
 | (with_reducible first | apply go_ldN h | apply go_lenL h)
 | ((with_reducible apply go_st h); intro _ h)
 | ((with_reducible apply go_stA h); rfl; rfl; (first | rfl | simp [OneV.o]); intro _ h)
 | ((with_reducible apply go_stN h); rfl; (first | rfl | simp [OneV.o]); intro _ h)
 | ((with_reducible apply go_box h); rfl; intro _ _ h)
 | ((with_reducible apply go_ix h); omega)
 | ((with_reducible first | apply go_elN h | apply go_f1 h | apply go_rf1 h | apply go_rel h); (case hi => omega); (try case hx => exact inferInstance); (try case hv => rfl))
 | ((with_reducible apply go_fa h); omega; omega)
))
      refine ls_st CX h hi2 l[k] rfl fun w h => ?_
      (repeat (first
 | (simp (disch := omega) only [evA, evB, evC, bAdd_i64, bSub_i64])
 | (with_reducible apply go_ld1 h)
 | ((with_reducible first | apply go_ldA h | apply go_rd h | apply go_rdN h | apply go_rlen h); rfl)
 | (with_reducible first | apply go_ldN h | apply go_lenL h)
 | ((with_reducible apply go_st h); intro _ h)
 | ((with_reducible apply go_stA h); rfl; rfl; (first | rfl | simp [OneV.o]); intro _ h)
 | ((with_reducible apply go_stN h); rfl; (first | rfl | simp [OneV.o]); intro _ h)
 | ((with_reducible apply go_box h); rfl; intro _ _ h)
 | ((with_reducible apply go_ix h); omega)
 | ((with_reducible first | apply go_elN h | apply go_f1 h | apply go_rf1 h | apply go_rel h); (case hi => omega); (try case hx => exact inferInstance); (try case hv => rfl))
 | ((with_reducible apply go_fa h); omega; omega)
))
      exact ih (k + 1) _ w (by simp; omega) ((swapX_perm hi hj).trans hp) h
    · have g' : decide ((k : Int) < ((l.length / 2 : Nat) : Int)) = false := by simp; omega
      (repeat (first
 | (simp (disch := omega) only [evA, evB, evC, bAdd_i64, bSub_i64, e1, g'])
 | (with_reducible apply go_ld1 h)
 | ((with_reducible first | apply go_ldA h | apply go_rd h | apply go_rdN h | apply go_rlen h); rfl)
 | (with_reducible first | apply go_ldN h | apply go_lenL h)
 | ((with_reducible apply go_st h); intro _ h)
 | ((with_reducible apply go_stA h); rfl; rfl; (first | rfl | simp [OneV.o]); intro _ h)
 | ((with_reducible apply go_stN h); rfl; (first | rfl | simp [OneV.o]); intro _ h)
 | ((with_reducible apply go_box h); rfl; intro _ _ h)
 | ((with_reducible apply go_ix h); omega)
 | ((with_reducible first | apply go_elN h | apply go_f1 h | apply go_rf1 h | apply go_rel h); (case hi => omega); (try case hx => exact inferInstance); (try case hv => rfl))
 | ((with_reducible apply go_fa h); omega; omega)
))
      exact hdoes_back_end (fun x hx => hfit x (hp.mem_iff.1 hx)) (by omega) (fun x hx => hP x (hp.mem_iff.1 hx)) h hK
theorem hdoes_back (h : Sat w0 (Cl pa (cHA a).toArray 39 :: Cl qc (cCtx a.c (svV sv)).toArray 36 :: LsH cI 1 3 (svV sv) a.c.times :: HoldB v n next cs T :: RefC (ptr q) n next cs T :: Pool T :: L) w)
    (hK : ∀ next' cs' T' w', (next' ≤ next + 1 ∨ next' ≤ 1152921504606846976) → Sat w0 (HoldB v n next' cs' T' :: RefC (ptr q) n next' cs' T' :: Pool T' :: L) w' → K (.bool true) w') : F8_22 v (ptr q) w K := by
  unfold F8_22 F8_22b
  obtain ⟨hn, m, I, M, H, hn1, hn2⟩ := holdB_inv (h.frt (A := HoldB v n next cs T))
  have hb := H.bd
  replace h := h.frt (A := RefC (ptr q) n next cs T)
  replace h := refC_at h
  obtain ⟨s, ys, hy, hPy, h⟩ := h
  have hyl : ys.length = cs.length := by rw [← hy]; simp
  refine go_lit0 CX h u37 (by kernel_rfl) fun s2 w h => ?_
  (repeat (first
 | (simp (disch := omega) only [evA, evB, evC, bAdd_i64, bSub_i64])
 | (with_reducible apply go_ld1 h)
 | ((with_reducible first | apply go_ldA h | apply go_rd h | apply go_rdN h | apply go_rlen h); rfl)
 | (with_reducible first | apply go_ldN h | apply go_lenL h)
 | ((with_reducible apply go_st h); intro _ h)
 | ((with_reducible apply go_stA h); rfl; rfl; (first | rfl | simp [OneV.o]); intro _ h)
 | ((with_reducible apply go_stN h); rfl; (first | rfl | simp [OneV.o]); intro _ h)
 | ((with_reducible apply go_box h); rfl; intro _ _ h)
 | ((with_reducible apply go_ix h); omega)
 | ((with_reducible first | apply go_elN h | apply go_f1 h | apply go_rf1 h | apply go_rel h); (case hi => omega); (try case hx => exact inferInstance); (try case hv => rfl))
 | ((with_reducible apply go_fa h); omega; omega)
))
  refine ls_app (l := []) (m := ys) CX h sl37 ss37 (ls_of h (.refl _) (inferInstance : LsIn s _ _ _ _ _ ys)) (by simp; omega) fun s3 w h => ?_
  rw [List.nil_append] at h
  unfold F8_23
  have h2 : Sat w0 (RefC (ptr q) n next cs T :: LsH cX 11 36 s3 ys :: HoldB v n next cs T :: Pool T :: L) w := refC_mk hy hPy (h.got)
  exact hdoes_back_loop (xs := ys) (fun x hx => (H.ok _ (by rw [← hy]; exact List.mem_map.2 ⟨x, hx, rfl⟩)).2.1) (by omega) hPy hK fuel 0 ys w (by unfold fuel; omega) (.refl _) (h2.got)
theorem hdoes_load {l : List (Ctx × SV)} (hrl : Rd w0 11 (svV a.lv) l.length (l.flatMap cX)) (hrt : ∀ x ∈ l, Rd w0 1 (svV x.2) x.1.times.length (x.1.times.flatMap cI)) (hfl : l.length ≤ 30 → ∀ x ∈ l, x.1.fits)
    (h : Sat w0 (Cl pa (cHA a).toArray 39 :: Cl qc (cCtx a.c (svV sv)).toArray 36 :: LsH cI 1 3 (svV sv) a.c.times :: HoldB v n next cs T :: RefC (ptr q) n next cs T :: Pool T :: L) w)
    (hK : ∀ next' cs' T' w', (next' ≤ next + 1 ∨ next' ≤ 1152921504606846976) → Sat w0 (HoldB v n next' cs' T' :: RefC (ptr q) n next' cs' T' :: Pool T' :: L) w' → K (.bool true) w') : F8_25 v (ptr q) (ptr pa) w K := by
  unfold F8_25 F8_25b
  have hlen : lenL (svV a.lv) = some (.int .i64 l.length) := hrl.len
  by_cases g : (l.length : Int) > 30
  · have g' : decide ((l.length : Int) > 30) = true := by simpa using g
    (repeat (first
 | (simp (disch := omega) only [evA, evB, evC, bAdd_i64, bSub_i64, hlen, g'])
 | (with_reducible apply go_ld1 h)
 | ((with_reducible first | apply go_ldA h | apply go_rd h | apply go_rdN h | apply go_rlen h); rfl)
 | (with_reducible first | apply go_ldN h | apply go_lenL h)
 | ((with_reducible apply go_st h); intro _ h)
 | ((with_reducible apply go_stA h); rfl; rfl; (first | rfl | simp [OneV.o]); intro _ h)
 | ((with_reducible apply go_stN h); rfl; (first | rfl | simp [OneV.o]); intro _ h)
 | ((with_reducible apply go_box h); rfl; intro _ _ h)
 | ((with_reducible apply go_ix h); omega)
 | ((with_reducible first | apply go_elN h | apply go_f1 h | apply go_rf1 h | apply go_rel h); (case hi => omega); (try case hx => exact inferInstance); (try case hv => rfl))
 | ((with_reducible apply go_fa h); omega; omega)
))
    exact hK next cs T _ (.inl (by omega)) (h.got)
  have g' : decide ((l.length : Int) > 30) = false := by simpa using g
  have hfit := hfl (by omega)
  (repeat (first
 | (simp (disch := omega) only [evA, evB, evC, bAdd_i64, bSub_i64, hlen, g'])
 | (with_reducible apply go_ld1 h)
 | ((with_reducible first | apply go_ldA h | apply go_rd h | apply go_rdN h | apply go_rlen h); rfl)
 | (with_reducible first | apply go_ldN h | apply go_lenL h)
 | ((with_reducible apply go_st h); intro _ h)
 | ((with_reducible apply go_stA h); rfl; rfl; (first | rfl | simp [OneV.o]); intro _ h)
 | ((with_reducible apply go_stN h); rfl; (first | rfl | simp [OneV.o]); intro _ h)
 | ((with_reducible apply go_box h); rfl; intro _ _ h)
 | ((with_reducible apply go_ix h); omega)
 | ((with_reducible first | apply go_elN h | apply go_f1 h | apply go_rf1 h | apply go_rel h); (case hi => omega); (try case hx => exact inferInstance); (try case hv => rfl))
 | ((with_reducible apply go_fa h); omega; omega)
))
  refine bload_spec (v := v) (l := l) (sv := svV a.lv) (T := T) (cs := cs) (n := n) (next0 := next) (next := a.n) (L := Cl pa (cHA a).toArray 39 :: RefC (ptr q) n next cs T :: L) hfit (by omega) (.of_arg hrl) (RdT.arg hrt) (h.drew.got) fun T1 w hT1 h => ?_
  (repeat (first
 | (simp (disch := omega) only [evA, evB, evC, bAdd_i64, bSub_i64])
 | (with_reducible apply go_ld1 h)
 | ((with_reducible first | apply go_ldA h | apply go_rd h | apply go_rdN h | apply go_rlen h); rfl)
 | (with_reducible first | apply go_ldN h | apply go_lenL h)
 | ((with_reducible apply go_st h); intro _ h)
 | ((with_reducible apply go_stA h); rfl; rfl; (first | rfl | simp [OneV.o]); intro _ h)
 | ((with_reducible apply go_stN h); rfl; (first | rfl | simp [OneV.o]); intro _ h)
 | ((with_reducible apply go_box h); rfl; intro _ _ h)
 | ((with_reducible apply go_ix h); omega)
 | ((with_reducible first | apply go_elN h | apply go_f1 h | apply go_rf1 h | apply go_rel h); (case hi => omega); (try case hx => exact inferInstance); (try case hv => rfl))
 | ((with_reducible apply go_fa h); omega; omega)
))
  obtain ⟨r, hr⟩ : ∃ r, loadA' n next cs (l.map Prod.fst) a.n = r := ⟨_, rfl⟩
  have hnx := loadA'_next (n := n) (next0 := next) (next := a.n) (cs := cs) (l := l.map Prod.fst)
  rw [hr] at h hnx ⊢
  have h2 := refC_mono hT1 (h.frt (A := RefC (ptr q) n next cs T))
  refine rcload_spec (v := ptr q) (l := l) (sv := svV a.lv) (T := T1) (cs := cs) (n := n) (next0 := next) (next := a.n) (L := HoldB v n r.2.1 r.2.2 T1 :: L) hfit (by omega) (.of_arg hrl) (RdT.arg hrt) (h2.got) fun T2 w hT2 h => ?_
  rw [hr] at h ⊢
  (repeat (first
 | (simp (disch := omega) only [evA, evB, evC, bAdd_i64, bSub_i64])
 | (with_reducible apply go_ld1 h)
 | ((with_reducible first | apply go_ldA h | apply go_rd h | apply go_rdN h | apply go_rlen h); rfl)
 | (with_reducible first | apply go_ldN h | apply go_lenL h)
 | ((with_reducible apply go_st h); intro _ h)
 | ((with_reducible apply go_stA h); rfl; rfl; (first | rfl | simp [OneV.o]); intro _ h)
 | ((with_reducible apply go_stN h); rfl; (first | rfl | simp [OneV.o]); intro _ h)
 | ((with_reducible apply go_box h); rfl; intro _ _ h)
 | ((with_reducible apply go_ix h); omega)
 | ((with_reducible first | apply go_elN h | apply go_f1 h | apply go_rf1 h | apply go_rel h); (case hi => omega); (try case hx => exact inferInstance); (try case hv => rfl))
 | ((with_reducible apply go_fa h); omega; omega)
))
  have h3 := holdB_mono hT2 (h.frt (A := HoldB v n r.2.1 r.2.2 T1))
  exact hK r.2.1 r.2.2 T2 _ (by rcases hnx with g | g; exact .inl (by omega); exact .inr g) (h3.got)
end
end Go.Proofs.Gong

/- Hs7 -/
namespace Go.Proofs.Gong
open Go Go.Sx Go.Proofs
set_option maxRecDepth 100000
def LB (c : Ctx) : Prop := c.node.length ≤ 140737488351232 ∧ c.key.length ≤ 140737488351232 ∧ c.e.node.length ≤ 140737488351232 ∧ c.e.cls.length ≤ 140737488351232 ∧ c.e.key.length ≤ 140737488351232 ∧ c.e.text.length ≤ 140737488351232
structure AOkH (W : World) (a : HAct) (l : List (Ctx × SV)) : Prop where
  lb : LB a.c
  tv : Rd W 1 (svV a.tv) a.c.times.length (a.c.times.flatMap cI)
  rd : Rd W 11 (svV a.lv) l.length (l.flatMap cX)
  all : ∀ x ∈ l, LB x.1 ∧ Rd W 1 (svV x.2) x.1.times.length (x.1.times.flatMap cI)
theorem bNe_bh (x y : Operand) (a c : Bool) : bNe Tryz.prog 4 x y (.bool a) (.bool c) = some (.bool (!(a == c))) := bNe_bool (by kernel_rfl) a c
attribute [local irreducible] fBuild fLook fZero eqv bEqv Cl MapH LsH SlH ld1 ldN st callP eBox eAlloc lenM lenL eMapSet eDelete eAppend eBuildSl eRange eNext
section
variable {w0 w : World} {L : List HP} {K : Value → World → Prop} {v : Value} {n next : Int} {cs : List Ctx} {T T' : TM} {p q : Nat} {a : HAct} {l : List (Ctx × SV)} {s1 : Value} {acts : List HAct}
theorem hdoes_spec (A : AOkH w0 a l) (hf : a.c.fits) (hfl : l.length ≤ 30 → ∀ x ∈ l, x.1.fits) (hnx : next + 1 ≤ 4611686018427387904) (h : Sat w0 (HoldB v n next cs T :: RefC (ptr q) n next cs T :: Pool T :: L) w)
    (hK : ∀ next' cs' T' w', (next' ≤ next + 1 ∨ next' ≤ 1152921504606846976) → Sat w0 (HoldB v n next' cs' T' :: RefC (ptr q) n next' cs' T' :: Pool T' :: L) w' → K (.bool true) w') : callP G8 [v, ptr q, hactV a] w K := by
  obtain ⟨hn, m, I, M, H, hn1, hn2⟩ := holdB_inv h
  have hb := H.bd
  have hct : a.c.times.length ≤ 1073741824 := by have := hf.2.2.2; omega
  refine c8 ?_
  unfold F8 F8_1 F8_1b
  have kinds : ∀ (pa qc : Nat) (sv : SV) (id : Int) (w : World), Sat w0 (Cl pa (cHA a).toArray 39 :: Cl qc (cCtx a.c (svV sv)).toArray 36 :: LsH cI 1 3 (svV sv) a.c.times :: HoldB v n next cs T :: RefC (ptr q) n next cs T :: Pool T :: L) w → F8_2 v (ptr q) (ptr pa) (ptr qc) (.int .i64 id) w K := by
    intro pa qc sv id w h
    unfold F8_2 F8_2b
    (repeat (first
 | (simp (disch := omega) only [evA, evB, evC, bAdd_i64, bSub_i64])
 | (with_reducible apply go_ld1 h)
 | ((with_reducible first | apply go_ldA h | apply go_rd h | apply go_rdN h | apply go_rlen h); rfl)
 | (with_reducible first | apply go_ldN h | apply go_lenL h)
 | ((with_reducible apply go_st h); intro _ h)
 | ((with_reducible apply go_stA h); rfl; rfl; (first | rfl | simp [OneV.o]); intro _ h)
 | ((with_reducible apply go_stN h); rfl; (first | rfl | simp [OneV.o]); intro _ h)
 | ((with_reducible apply go_box h); rfl; intro _ _ h)
 | ((with_reducible apply go_ix h); omega)
 | ((with_reducible first | apply go_elN h | apply go_f1 h | apply go_rf1 h | apply go_rel h); (case hi => omega); (try case hx => exact inferInstance); (try case hv => rfl))
 | ((with_reducible apply go_fa h); omega; omega)
))
    refine Below_spec (by decide) (by decide) fun k h1 h2 _ => ?_
    have hk : k = 0 ∨ k = 1 ∨ k = 2 ∨ k = 3 ∨ k = 4 ∨ k = 5 ∨ k = 6 := by omega
    unfold F8_3 F8_4 F8_4b
    rcases hk with rfl | rfl | rfl | rfl | rfl | rfl | rfl
    · (repeat (first
 | (simp (disch := omega) only [evA, evB, evC, bAdd_i64, bSub_i64, Int.reduceEq])
 | (with_reducible apply go_ld1 h)
 | ((with_reducible first | apply go_ldA h | apply go_rd h | apply go_rdN h | apply go_rlen h); rfl)
 | (with_reducible first | apply go_ldN h | apply go_lenL h)
 | ((with_reducible apply go_st h); intro _ h)
 | ((with_reducible apply go_stA h); rfl; rfl; (first | rfl | simp [OneV.o]); intro _ h)
 | ((with_reducible apply go_stN h); rfl; (first | rfl | simp [OneV.o]); intro _ h)
 | ((with_reducible apply go_box h); rfl; intro _ _ h)
 | ((with_reducible apply go_ix h); omega)
 | ((with_reducible first | apply go_elN h | apply go_f1 h | apply go_rf1 h | apply go_rel h); (case hi => omega); (try case hx => exact inferInstance); (try case hv => rfl))
 | ((with_reducible apply go_fa h); omega; omega)
))
      unfold F8_5
      (repeat (first
 | (simp (disch := omega) only [evA, evB, evC, bAdd_i64, bSub_i64])
 | (with_reducible apply go_ld1 h)
 | ((with_reducible first | apply go_ldA h | apply go_rd h | apply go_rdN h | apply go_rlen h); rfl)
 | (with_reducible first | apply go_ldN h | apply go_lenL h)
 | ((with_reducible apply go_st h); intro _ h)
 | ((with_reducible apply go_stA h); rfl; rfl; (first | rfl | simp [OneV.o]); intro _ h)
 | ((with_reducible apply go_stN h); rfl; (first | rfl | simp [OneV.o]); intro _ h)
 | ((with_reducible apply go_box h); rfl; intro _ _ h)
 | ((with_reducible apply go_ix h); omega)
 | ((with_reducible first | apply go_elN h | apply go_f1 h | apply go_rf1 h | apply go_rel h); (case hi => omega); (try case hx => exact inferInstance); (try case hv => rfl))
 | ((with_reducible apply go_fa h); omega; omega)
))
      exact hdoes_add hf A.tv hnx h hK
    · (repeat (first
 | (simp (disch := omega) only [evA, evB, evC, bAdd_i64, bSub_i64, Int.reduceEq])
 | (with_reducible apply go_ld1 h)
 | ((with_reducible first | apply go_ldA h | apply go_rd h | apply go_rdN h | apply go_rlen h); rfl)
 | (with_reducible first | apply go_ldN h | apply go_lenL h)
 | ((with_reducible apply go_st h); intro _ h)
 | ((with_reducible apply go_stA h); rfl; rfl; (first | rfl | simp [OneV.o]); intro _ h)
 | ((with_reducible apply go_stN h); rfl; (first | rfl | simp [OneV.o]); intro _ h)
 | ((with_reducible apply go_box h); rfl; intro _ _ h)
 | ((with_reducible apply go_ix h); omega)
 | ((with_reducible first | apply go_elN h | apply go_f1 h | apply go_rf1 h | apply go_rel h); (case hi => omega); (try case hx => exact inferInstance); (try case hv => rfl))
 | ((with_reducible apply go_fa h); omega; omega)
))
      unfold F8_5 F8_7 F8_7b
      (repeat (first
 | (simp (disch := omega) only [evA, evB, evC, bAdd_i64, bSub_i64, Int.reduceEq])
 | (with_reducible apply go_ld1 h)
 | ((with_reducible first | apply go_ldA h | apply go_rd h | apply go_rdN h | apply go_rlen h); rfl)
 | (with_reducible first | apply go_ldN h | apply go_lenL h)
 | ((with_reducible apply go_st h); intro _ h)
 | ((with_reducible apply go_stA h); rfl; rfl; (first | rfl | simp [OneV.o]); intro _ h)
 | ((with_reducible apply go_stN h); rfl; (first | rfl | simp [OneV.o]); intro _ h)
 | ((with_reducible apply go_box h); rfl; intro _ _ h)
 | ((with_reducible apply go_ix h); omega)
 | ((with_reducible first | apply go_elN h | apply go_f1 h | apply go_rf1 h | apply go_rel h); (case hi => omega); (try case hx => exact inferInstance); (try case hv => rfl))
 | ((with_reducible apply go_fa h); omega; omega)
))
      unfold F8_8
      (repeat (first
 | (simp (disch := omega) only [evA, evB, evC, bAdd_i64, bSub_i64])
 | (with_reducible apply go_ld1 h)
 | ((with_reducible first | apply go_ldA h | apply go_rd h | apply go_rdN h | apply go_rlen h); rfl)
 | (with_reducible first | apply go_ldN h | apply go_lenL h)
 | ((with_reducible apply go_st h); intro _ h)
 | ((with_reducible apply go_stA h); rfl; rfl; (first | rfl | simp [OneV.o]); intro _ h)
 | ((with_reducible apply go_stN h); rfl; (first | rfl | simp [OneV.o]); intro _ h)
 | ((with_reducible apply go_box h); rfl; intro _ _ h)
 | ((with_reducible apply go_ix h); omega)
 | ((with_reducible first | apply go_elN h | apply go_f1 h | apply go_rf1 h | apply go_rel h); (case hi => omega); (try case hx => exact inferInstance); (try case hv => rfl))
 | ((with_reducible apply go_fa h); omega; omega)
))
      exact hdoes_turn hf h hK
    · (repeat (first
 | (simp (disch := omega) only [evA, evB, evC, bAdd_i64, bSub_i64, Int.reduceEq])
 | (with_reducible apply go_ld1 h)
 | ((with_reducible first | apply go_ldA h | apply go_rd h | apply go_rdN h | apply go_rlen h); rfl)
 | (with_reducible first | apply go_ldN h | apply go_lenL h)
 | ((with_reducible apply go_st h); intro _ h)
 | ((with_reducible apply go_stA h); rfl; rfl; (first | rfl | simp [OneV.o]); intro _ h)
 | ((with_reducible apply go_stN h); rfl; (first | rfl | simp [OneV.o]); intro _ h)
 | ((with_reducible apply go_box h); rfl; intro _ _ h)
 | ((with_reducible apply go_ix h); omega)
 | ((with_reducible first | apply go_elN h | apply go_f1 h | apply go_rf1 h | apply go_rel h); (case hi => omega); (try case hx => exact inferInstance); (try case hv => rfl))
 | ((with_reducible apply go_fa h); omega; omega)
))
      unfold F8_5 F8_7 F8_7b
      (repeat (first
 | (simp (disch := omega) only [evA, evB, evC, bAdd_i64, bSub_i64, Int.reduceEq])
 | (with_reducible apply go_ld1 h)
 | ((with_reducible first | apply go_ldA h | apply go_rd h | apply go_rdN h | apply go_rlen h); rfl)
 | (with_reducible first | apply go_ldN h | apply go_lenL h)
 | ((with_reducible apply go_st h); intro _ h)
 | ((with_reducible apply go_stA h); rfl; rfl; (first | rfl | simp [OneV.o]); intro _ h)
 | ((with_reducible apply go_stN h); rfl; (first | rfl | simp [OneV.o]); intro _ h)
 | ((with_reducible apply go_box h); rfl; intro _ _ h)
 | ((with_reducible apply go_ix h); omega)
 | ((with_reducible first | apply go_elN h | apply go_f1 h | apply go_rf1 h | apply go_rel h); (case hi => omega); (try case hx => exact inferInstance); (try case hv => rfl))
 | ((with_reducible apply go_fa h); omega; omega)
))
      unfold F8_8 F8_11 F8_11b
      (repeat (first
 | (simp (disch := omega) only [evA, evB, evC, bAdd_i64, bSub_i64, Int.reduceEq])
 | (with_reducible apply go_ld1 h)
 | ((with_reducible first | apply go_ldA h | apply go_rd h | apply go_rdN h | apply go_rlen h); rfl)
 | (with_reducible first | apply go_ldN h | apply go_lenL h)
 | ((with_reducible apply go_st h); intro _ h)
 | ((with_reducible apply go_stA h); rfl; rfl; (first | rfl | simp [OneV.o]); intro _ h)
 | ((with_reducible apply go_stN h); rfl; (first | rfl | simp [OneV.o]); intro _ h)
 | ((with_reducible apply go_box h); rfl; intro _ _ h)
 | ((with_reducible apply go_ix h); omega)
 | ((with_reducible first | apply go_elN h | apply go_f1 h | apply go_rf1 h | apply go_rel h); (case hi => omega); (try case hx => exact inferInstance); (try case hv => rfl))
 | ((with_reducible apply go_fa h); omega; omega)
))
      unfold F8_12
      (repeat (first
 | (simp (disch := omega) only [evA, evB, evC, bAdd_i64, bSub_i64])
 | (with_reducible apply go_ld1 h)
 | ((with_reducible first | apply go_ldA h | apply go_rd h | apply go_rdN h | apply go_rlen h); rfl)
 | (with_reducible first | apply go_ldN h | apply go_lenL h)
 | ((with_reducible apply go_st h); intro _ h)
 | ((with_reducible apply go_stA h); rfl; rfl; (first | rfl | simp [OneV.o]); intro _ h)
 | ((with_reducible apply go_stN h); rfl; (first | rfl | simp [OneV.o]); intro _ h)
 | ((with_reducible apply go_box h); rfl; intro _ _ h)
 | ((with_reducible apply go_ix h); omega)
 | ((with_reducible first | apply go_elN h | apply go_f1 h | apply go_rf1 h | apply go_rel h); (case hi => omega); (try case hx => exact inferInstance); (try case hv => rfl))
 | ((with_reducible apply go_fa h); omega; omega)
))
      exact hdoes_drop h hK
    · (repeat (first
 | (simp (disch := omega) only [evA, evB, evC, bAdd_i64, bSub_i64, Int.reduceEq])
 | (with_reducible apply go_ld1 h)
 | ((with_reducible first | apply go_ldA h | apply go_rd h | apply go_rdN h | apply go_rlen h); rfl)
 | (with_reducible first | apply go_ldN h | apply go_lenL h)
 | ((with_reducible apply go_st h); intro _ h)
 | ((with_reducible apply go_stA h); rfl; rfl; (first | rfl | simp [OneV.o]); intro _ h)
 | ((with_reducible apply go_stN h); rfl; (first | rfl | simp [OneV.o]); intro _ h)
 | ((with_reducible apply go_box h); rfl; intro _ _ h)
 | ((with_reducible apply go_ix h); omega)
 | ((with_reducible first | apply go_elN h | apply go_f1 h | apply go_rf1 h | apply go_rel h); (case hi => omega); (try case hx => exact inferInstance); (try case hv => rfl))
 | ((with_reducible apply go_fa h); omega; omega)
))
      unfold F8_5 F8_7 F8_7b
      (repeat (first
 | (simp (disch := omega) only [evA, evB, evC, bAdd_i64, bSub_i64, Int.reduceEq])
 | (with_reducible apply go_ld1 h)
 | ((with_reducible first | apply go_ldA h | apply go_rd h | apply go_rdN h | apply go_rlen h); rfl)
 | (with_reducible first | apply go_ldN h | apply go_lenL h)
 | ((with_reducible apply go_st h); intro _ h)
 | ((with_reducible apply go_stA h); rfl; rfl; (first | rfl | simp [OneV.o]); intro _ h)
 | ((with_reducible apply go_stN h); rfl; (first | rfl | simp [OneV.o]); intro _ h)
 | ((with_reducible apply go_box h); rfl; intro _ _ h)
 | ((with_reducible apply go_ix h); omega)
 | ((with_reducible first | apply go_elN h | apply go_f1 h | apply go_rf1 h | apply go_rel h); (case hi => omega); (try case hx => exact inferInstance); (try case hv => rfl))
 | ((with_reducible apply go_fa h); omega; omega)
))
      unfold F8_8 F8_11 F8_11b
      (repeat (first
 | (simp (disch := omega) only [evA, evB, evC, bAdd_i64, bSub_i64, Int.reduceEq])
 | (with_reducible apply go_ld1 h)
 | ((with_reducible first | apply go_ldA h | apply go_rd h | apply go_rdN h | apply go_rlen h); rfl)
 | (with_reducible first | apply go_ldN h | apply go_lenL h)
 | ((with_reducible apply go_st h); intro _ h)
 | ((with_reducible apply go_stA h); rfl; rfl; (first | rfl | simp [OneV.o]); intro _ h)
 | ((with_reducible apply go_stN h); rfl; (first | rfl | simp [OneV.o]); intro _ h)
 | ((with_reducible apply go_box h); rfl; intro _ _ h)
 | ((with_reducible apply go_ix h); omega)
 | ((with_reducible first | apply go_elN h | apply go_f1 h | apply go_rf1 h | apply go_rel h); (case hi => omega); (try case hx => exact inferInstance); (try case hv => rfl))
 | ((with_reducible apply go_fa h); omega; omega)
))
      unfold F8_12 F8_14 F8_14b
      (repeat (first
 | (simp (disch := omega) only [evA, evB, evC, bAdd_i64, bSub_i64, Int.reduceEq])
 | (with_reducible apply go_ld1 h)
 | ((with_reducible first | apply go_ldA h | apply go_rd h | apply go_rdN h | apply go_rlen h); rfl)
 | (with_reducible first | apply go_ldN h | apply go_lenL h)
 | ((with_reducible apply go_st h); intro _ h)
 | ((with_reducible apply go_stA h); rfl; rfl; (first | rfl | simp [OneV.o]); intro _ h)
 | ((with_reducible apply go_stN h); rfl; (first | rfl | simp [OneV.o]); intro _ h)
 | ((with_reducible apply go_box h); rfl; intro _ _ h)
 | ((with_reducible apply go_ix h); omega)
 | ((with_reducible first | apply go_elN h | apply go_f1 h | apply go_rf1 h | apply go_rel h); (case hi => omega); (try case hx => exact inferInstance); (try case hv => rfl))
 | ((with_reducible apply go_fa h); omega; omega)
))
      unfold F8_15
      (repeat (first
 | (simp (disch := omega) only [evA, evB, evC, bAdd_i64, bSub_i64])
 | (with_reducible apply go_ld1 h)
 | ((with_reducible first | apply go_ldA h | apply go_rd h | apply go_rdN h | apply go_rlen h); rfl)
 | (with_reducible first | apply go_ldN h | apply go_lenL h)
 | ((with_reducible apply go_st h); intro _ h)
 | ((with_reducible apply go_stA h); rfl; rfl; (first | rfl | simp [OneV.o]); intro _ h)
 | ((with_reducible apply go_stN h); rfl; (first | rfl | simp [OneV.o]); intro _ h)
 | ((with_reducible apply go_box h); rfl; intro _ _ h)
 | ((with_reducible apply go_ix h); omega)
 | ((with_reducible first | apply go_elN h | apply go_f1 h | apply go_rf1 h | apply go_rel h); (case hi => omega); (try case hx => exact inferInstance); (try case hv => rfl))
 | ((with_reducible apply go_fa h); omega; omega)
))
      exact hdoes_dropf h hK
    · (repeat (first
 | (simp (disch := omega) only [evA, evB, evC, bAdd_i64, bSub_i64, Int.reduceEq])
 | (with_reducible apply go_ld1 h)
 | ((with_reducible first | apply go_ldA h | apply go_rd h | apply go_rdN h | apply go_rlen h); rfl)
 | (with_reducible first | apply go_ldN h | apply go_lenL h)
 | ((with_reducible apply go_st h); intro _ h)
 | ((with_reducible apply go_stA h); rfl; rfl; (first | rfl | simp [OneV.o]); intro _ h)
 | ((with_reducible apply go_stN h); rfl; (first | rfl | simp [OneV.o]); intro _ h)
 | ((with_reducible apply go_box h); rfl; intro _ _ h)
 | ((with_reducible apply go_ix h); omega)
 | ((with_reducible first | apply go_elN h | apply go_f1 h | apply go_rf1 h | apply go_rel h); (case hi => omega); (try case hx => exact inferInstance); (try case hv => rfl))
 | ((with_reducible apply go_fa h); omega; omega)
))
      unfold F8_5 F8_7 F8_7b
      (repeat (first
 | (simp (disch := omega) only [evA, evB, evC, bAdd_i64, bSub_i64, Int.reduceEq])
 | (with_reducible apply go_ld1 h)
 | ((with_reducible first | apply go_ldA h | apply go_rd h | apply go_rdN h | apply go_rlen h); rfl)
 | (with_reducible first | apply go_ldN h | apply go_lenL h)
 | ((with_reducible apply go_st h); intro _ h)
 | ((with_reducible apply go_stA h); rfl; rfl; (first | rfl | simp [OneV.o]); intro _ h)
 | ((with_reducible apply go_stN h); rfl; (first | rfl | simp [OneV.o]); intro _ h)
 | ((with_reducible apply go_box h); rfl; intro _ _ h)
 | ((with_reducible apply go_ix h); omega)
 | ((with_reducible first | apply go_elN h | apply go_f1 h | apply go_rf1 h | apply go_rel h); (case hi => omega); (try case hx => exact inferInstance); (try case hv => rfl))
 | ((with_reducible apply go_fa h); omega; omega)
))
      unfold F8_8 F8_11 F8_11b
      (repeat (first
 | (simp (disch := omega) only [evA, evB, evC, bAdd_i64, bSub_i64, Int.reduceEq])
 | (with_reducible apply go_ld1 h)
 | ((with_reducible first | apply go_ldA h | apply go_rd h | apply go_rdN h | apply go_rlen h); rfl)
 | (with_reducible first | apply go_ldN h | apply go_lenL h)
 | ((with_reducible apply go_st h); intro _ h)
 | ((with_reducible apply go_stA h); rfl; rfl; (first | rfl | simp [OneV.o]); intro _ h)
 | ((with_reducible apply go_stN h); rfl; (first | rfl | simp [OneV.o]); intro _ h)
 | ((with_reducible apply go_box h); rfl; intro _ _ h)
 | ((with_reducible apply go_ix h); omega)
 | ((with_reducible first | apply go_elN h | apply go_f1 h | apply go_rf1 h | apply go_rel h); (case hi => omega); (try case hx => exact inferInstance); (try case hv => rfl))
 | ((with_reducible apply go_fa h); omega; omega)
))
      unfold F8_12 F8_14 F8_14b
      (repeat (first
 | (simp (disch := omega) only [evA, evB, evC, bAdd_i64, bSub_i64, Int.reduceEq])
 | (with_reducible apply go_ld1 h)
 | ((with_reducible first | apply go_ldA h | apply go_rd h | apply go_rdN h | apply go_rlen h); rfl)
 | (with_reducible first | apply go_ldN h | apply go_lenL h)
 | ((with_reducible apply go_st h); intro _ h)
 | ((with_reducible apply go_stA h); rfl; rfl; (first | rfl | simp [OneV.o]); intro _ h)
 | ((with_reducible apply go_stN h); rfl; (first | rfl | simp [OneV.o]); intro _ h)
 | ((with_reducible apply go_box h); rfl; intro _ _ h)
 | ((with_reducible apply go_ix h); omega)
 | ((with_reducible first | apply go_elN h | apply go_f1 h | apply go_rf1 h | apply go_rel h); (case hi => omega); (try case hx => exact inferInstance); (try case hv => rfl))
 | ((with_reducible apply go_fa h); omega; omega)
))
      unfold F8_15 F8_17 F8_17b
      (repeat (first
 | (simp (disch := omega) only [evA, evB, evC, bAdd_i64, bSub_i64, Int.reduceEq])
 | (with_reducible apply go_ld1 h)
 | ((with_reducible first | apply go_ldA h | apply go_rd h | apply go_rdN h | apply go_rlen h); rfl)
 | (with_reducible first | apply go_ldN h | apply go_lenL h)
 | ((with_reducible apply go_st h); intro _ h)
 | ((with_reducible apply go_stA h); rfl; rfl; (first | rfl | simp [OneV.o]); intro _ h)
 | ((with_reducible apply go_stN h); rfl; (first | rfl | simp [OneV.o]); intro _ h)
 | ((with_reducible apply go_box h); rfl; intro _ _ h)
 | ((with_reducible apply go_ix h); omega)
 | ((with_reducible first | apply go_elN h | apply go_f1 h | apply go_rf1 h | apply go_rel h); (case hi => omega); (try case hx => exact inferInstance); (try case hv => rfl))
 | ((with_reducible apply go_fa h); omega; omega)
))
      unfold F8_18
      (repeat (first
 | (simp (disch := omega) only [evA, evB, evC, bAdd_i64, bSub_i64])
 | (with_reducible apply go_ld1 h)
 | ((with_reducible first | apply go_ldA h | apply go_rd h | apply go_rdN h | apply go_rlen h); rfl)
 | (with_reducible first | apply go_ldN h | apply go_lenL h)
 | ((with_reducible apply go_st h); intro _ h)
 | ((with_reducible apply go_stA h); rfl; rfl; (first | rfl | simp [OneV.o]); intro _ h)
 | ((with_reducible apply go_stN h); rfl; (first | rfl | simp [OneV.o]); intro _ h)
 | ((with_reducible apply go_box h); rfl; intro _ _ h)
 | ((with_reducible apply go_ix h); omega)
 | ((with_reducible first | apply go_elN h | apply go_f1 h | apply go_rf1 h | apply go_rel h); (case hi => omega); (try case hx => exact inferInstance); (try case hv => rfl))
 | ((with_reducible apply go_fa h); omega; omega)
))
      exact hdoes_fork hf hnx h hK
    · (repeat (first
 | (simp (disch := omega) only [evA, evB, evC, bAdd_i64, bSub_i64, Int.reduceEq])
 | (with_reducible apply go_ld1 h)
 | ((with_reducible first | apply go_ldA h | apply go_rd h | apply go_rdN h | apply go_rlen h); rfl)
 | (with_reducible first | apply go_ldN h | apply go_lenL h)
 | ((with_reducible apply go_st h); intro _ h)
 | ((with_reducible apply go_stA h); rfl; rfl; (first | rfl | simp [OneV.o]); intro _ h)
 | ((with_reducible apply go_stN h); rfl; (first | rfl | simp [OneV.o]); intro _ h)
 | ((with_reducible apply go_box h); rfl; intro _ _ h)
 | ((with_reducible apply go_ix h); omega)
 | ((with_reducible first | apply go_elN h | apply go_f1 h | apply go_rf1 h | apply go_rel h); (case hi => omega); (try case hx => exact inferInstance); (try case hv => rfl))
 | ((with_reducible apply go_fa h); omega; omega)
))
      unfold F8_5 F8_7 F8_7b
      (repeat (first
 | (simp (disch := omega) only [evA, evB, evC, bAdd_i64, bSub_i64, Int.reduceEq])
 | (with_reducible apply go_ld1 h)
 | ((with_reducible first | apply go_ldA h | apply go_rd h | apply go_rdN h | apply go_rlen h); rfl)
 | (with_reducible first | apply go_ldN h | apply go_lenL h)
 | ((with_reducible apply go_st h); intro _ h)
 | ((with_reducible apply go_stA h); rfl; rfl; (first | rfl | simp [OneV.o]); intro _ h)
 | ((with_reducible apply go_stN h); rfl; (first | rfl | simp [OneV.o]); intro _ h)
 | ((with_reducible apply go_box h); rfl; intro _ _ h)
 | ((with_reducible apply go_ix h); omega)
 | ((with_reducible first | apply go_elN h | apply go_f1 h | apply go_rf1 h | apply go_rel h); (case hi => omega); (try case hx => exact inferInstance); (try case hv => rfl))
 | ((with_reducible apply go_fa h); omega; omega)
))
      unfold F8_8 F8_11 F8_11b
      (repeat (first
 | (simp (disch := omega) only [evA, evB, evC, bAdd_i64, bSub_i64, Int.reduceEq])
 | (with_reducible apply go_ld1 h)
 | ((with_reducible first | apply go_ldA h | apply go_rd h | apply go_rdN h | apply go_rlen h); rfl)
 | (with_reducible first | apply go_ldN h | apply go_lenL h)
 | ((with_reducible apply go_st h); intro _ h)
 | ((with_reducible apply go_stA h); rfl; rfl; (first | rfl | simp [OneV.o]); intro _ h)
 | ((with_reducible apply go_stN h); rfl; (first | rfl | simp [OneV.o]); intro _ h)
 | ((with_reducible apply go_box h); rfl; intro _ _ h)
 | ((with_reducible apply go_ix h); omega)
 | ((with_reducible first | apply go_elN h | apply go_f1 h | apply go_rf1 h | apply go_rel h); (case hi => omega); (try case hx => exact inferInstance); (try case hv => rfl))
 | ((with_reducible apply go_fa h); omega; omega)
))
      unfold F8_12 F8_14 F8_14b
      (repeat (first
 | (simp (disch := omega) only [evA, evB, evC, bAdd_i64, bSub_i64, Int.reduceEq])
 | (with_reducible apply go_ld1 h)
 | ((with_reducible first | apply go_ldA h | apply go_rd h | apply go_rdN h | apply go_rlen h); rfl)
 | (with_reducible first | apply go_ldN h | apply go_lenL h)
 | ((with_reducible apply go_st h); intro _ h)
 | ((with_reducible apply go_stA h); rfl; rfl; (first | rfl | simp [OneV.o]); intro _ h)
 | ((with_reducible apply go_stN h); rfl; (first | rfl | simp [OneV.o]); intro _ h)
 | ((with_reducible apply go_box h); rfl; intro _ _ h)
 | ((with_reducible apply go_ix h); omega)
 | ((with_reducible first | apply go_elN h | apply go_f1 h | apply go_rf1 h | apply go_rel h); (case hi => omega); (try case hx => exact inferInstance); (try case hv => rfl))
 | ((with_reducible apply go_fa h); omega; omega)
))
      unfold F8_15 F8_17 F8_17b
      (repeat (first
 | (simp (disch := omega) only [evA, evB, evC, bAdd_i64, bSub_i64, Int.reduceEq])
 | (with_reducible apply go_ld1 h)
 | ((with_reducible first | apply go_ldA h | apply go_rd h | apply go_rdN h | apply go_rlen h); rfl)
 | (with_reducible first | apply go_ldN h | apply go_lenL h)
 | ((with_reducible apply go_st h); intro _ h)
 | ((with_reducible apply go_stA h); rfl; rfl; (first | rfl | simp [OneV.o]); intro _ h)
 | ((with_reducible apply go_stN h); rfl; (first | rfl | simp [OneV.o]); intro _ h)
 | ((with_reducible apply go_box h); rfl; intro _ _ h)
 | ((with_reducible apply go_ix h); omega)
 | ((with_reducible first | apply go_elN h | apply go_f1 h | apply go_rf1 h | apply go_rel h); (case hi => omega); (try case hx => exact inferInstance); (try case hv => rfl))
 | ((with_reducible apply go_fa h); omega; omega)
))
      unfold F8_18 F8_20 F8_20b
      (repeat (first
 | (simp (disch := omega) only [evA, evB, evC, bAdd_i64, bSub_i64, Int.reduceEq])
 | (with_reducible apply go_ld1 h)
 | ((with_reducible first | apply go_ldA h | apply go_rd h | apply go_rdN h | apply go_rlen h); rfl)
 | (with_reducible first | apply go_ldN h | apply go_lenL h)
 | ((with_reducible apply go_st h); intro _ h)
 | ((with_reducible apply go_stA h); rfl; rfl; (first | rfl | simp [OneV.o]); intro _ h)
 | ((with_reducible apply go_stN h); rfl; (first | rfl | simp [OneV.o]); intro _ h)
 | ((with_reducible apply go_box h); rfl; intro _ _ h)
 | ((with_reducible apply go_ix h); omega)
 | ((with_reducible first | apply go_elN h | apply go_f1 h | apply go_rf1 h | apply go_rel h); (case hi => omega); (try case hx => exact inferInstance); (try case hv => rfl))
 | ((with_reducible apply go_fa h); omega; omega)
))
      unfold F8_21
      (repeat (first
 | (simp (disch := omega) only [evA, evB, evC, bAdd_i64, bSub_i64])
 | (with_reducible apply go_ld1 h)
 | ((with_reducible first | apply go_ldA h | apply go_rd h | apply go_rdN h | apply go_rlen h); rfl)
 | (with_reducible first | apply go_ldN h | apply go_lenL h)
 | ((with_reducible apply go_st h); intro _ h)
 | ((with_reducible apply go_stA h); rfl; rfl; (first | rfl | simp [OneV.o]); intro _ h)
 | ((with_reducible apply go_stN h); rfl; (first | rfl | simp [OneV.o]); intro _ h)
 | ((with_reducible apply go_box h); rfl; intro _ _ h)
 | ((with_reducible apply go_ix h); omega)
 | ((with_reducible first | apply go_elN h | apply go_f1 h | apply go_rf1 h | apply go_rel h); (case hi => omega); (try case hx => exact inferInstance); (try case hv => rfl))
 | ((with_reducible apply go_fa h); omega; omega)
))
      exact hdoes_back h hK
    · (repeat (first
 | (simp (disch := omega) only [evA, evB, evC, bAdd_i64, bSub_i64, Int.reduceEq])
 | (with_reducible apply go_ld1 h)
 | ((with_reducible first | apply go_ldA h | apply go_rd h | apply go_rdN h | apply go_rlen h); rfl)
 | (with_reducible first | apply go_ldN h | apply go_lenL h)
 | ((with_reducible apply go_st h); intro _ h)
 | ((with_reducible apply go_stA h); rfl; rfl; (first | rfl | simp [OneV.o]); intro _ h)
 | ((with_reducible apply go_stN h); rfl; (first | rfl | simp [OneV.o]); intro _ h)
 | ((with_reducible apply go_box h); rfl; intro _ _ h)
 | ((with_reducible apply go_ix h); omega)
 | ((with_reducible first | apply go_elN h | apply go_f1 h | apply go_rf1 h | apply go_rel h); (case hi => omega); (try case hx => exact inferInstance); (try case hv => rfl))
 | ((with_reducible apply go_fa h); omega; omega)
))
      unfold F8_5 F8_7 F8_7b
      (repeat (first
 | (simp (disch := omega) only [evA, evB, evC, bAdd_i64, bSub_i64, Int.reduceEq])
 | (with_reducible apply go_ld1 h)
 | ((with_reducible first | apply go_ldA h | apply go_rd h | apply go_rdN h | apply go_rlen h); rfl)
 | (with_reducible first | apply go_ldN h | apply go_lenL h)
 | ((with_reducible apply go_st h); intro _ h)
 | ((with_reducible apply go_stA h); rfl; rfl; (first | rfl | simp [OneV.o]); intro _ h)
 | ((with_reducible apply go_stN h); rfl; (first | rfl | simp [OneV.o]); intro _ h)
 | ((with_reducible apply go_box h); rfl; intro _ _ h)
 | ((with_reducible apply go_ix h); omega)
 | ((with_reducible first | apply go_elN h | apply go_f1 h | apply go_rf1 h | apply go_rel h); (case hi => omega); (try case hx => exact inferInstance); (try case hv => rfl))
 | ((with_reducible apply go_fa h); omega; omega)
))
      unfold F8_8 F8_11 F8_11b
      (repeat (first
 | (simp (disch := omega) only [evA, evB, evC, bAdd_i64, bSub_i64, Int.reduceEq])
 | (with_reducible apply go_ld1 h)
 | ((with_reducible first | apply go_ldA h | apply go_rd h | apply go_rdN h | apply go_rlen h); rfl)
 | (with_reducible first | apply go_ldN h | apply go_lenL h)
 | ((with_reducible apply go_st h); intro _ h)
 | ((with_reducible apply go_stA h); rfl; rfl; (first | rfl | simp [OneV.o]); intro _ h)
 | ((with_reducible apply go_stN h); rfl; (first | rfl | simp [OneV.o]); intro _ h)
 | ((with_reducible apply go_box h); rfl; intro _ _ h)
 | ((with_reducible apply go_ix h); omega)
 | ((with_reducible first | apply go_elN h | apply go_f1 h | apply go_rf1 h | apply go_rel h); (case hi => omega); (try case hx => exact inferInstance); (try case hv => rfl))
 | ((with_reducible apply go_fa h); omega; omega)
))
      unfold F8_12 F8_14 F8_14b
      (repeat (first
 | (simp (disch := omega) only [evA, evB, evC, bAdd_i64, bSub_i64, Int.reduceEq])
 | (with_reducible apply go_ld1 h)
 | ((with_reducible first | apply go_ldA h | apply go_rd h | apply go_rdN h | apply go_rlen h); rfl)
 | (with_reducible first | apply go_ldN h | apply go_lenL h)
 | ((with_reducible apply go_st h); intro _ h)
 | ((with_reducible apply go_stA h); rfl; rfl; (first | rfl | simp [OneV.o]); intro _ h)
 | ((with_reducible apply go_stN h); rfl; (first | rfl | simp [OneV.o]); intro _ h)
 | ((with_reducible apply go_box h); rfl; intro _ _ h)
 | ((with_reducible apply go_ix h); omega)
 | ((with_reducible first | apply go_elN h | apply go_f1 h | apply go_rf1 h | apply go_rel h); (case hi => omega); (try case hx => exact inferInstance); (try case hv => rfl))
 | ((with_reducible apply go_fa h); omega; omega)
))
      unfold F8_15 F8_17 F8_17b
      (repeat (first
 | (simp (disch := omega) only [evA, evB, evC, bAdd_i64, bSub_i64, Int.reduceEq])
 | (with_reducible apply go_ld1 h)
 | ((with_reducible first | apply go_ldA h | apply go_rd h | apply go_rdN h | apply go_rlen h); rfl)
 | (with_reducible first | apply go_ldN h | apply go_lenL h)
 | ((with_reducible apply go_st h); intro _ h)
 | ((with_reducible apply go_stA h); rfl; rfl; (first | rfl | simp [OneV.o]); intro _ h)
 | ((with_reducible apply go_stN h); rfl; (first | rfl | simp [OneV.o]); intro _ h)
 | ((with_reducible apply go_box h); rfl; intro _ _ h)
 | ((with_reducible apply go_ix h); omega)
 | ((with_reducible first | apply go_elN h | apply go_f1 h | apply go_rf1 h | apply go_rel h); (case hi => omega); (try case hx => exact inferInstance); (try case hv => rfl))
 | ((with_reducible apply go_fa h); omega; omega)
))
      unfold F8_18 F8_20 F8_20b
      (repeat (first
 | (simp (disch := omega) only [evA, evB, evC, bAdd_i64, bSub_i64, Int.reduceEq])
 | (with_reducible apply go_ld1 h)
 | ((with_reducible first | apply go_ldA h | apply go_rd h | apply go_rdN h | apply go_rlen h); rfl)
 | (with_reducible first | apply go_ldN h | apply go_lenL h)
 | ((with_reducible apply go_st h); intro _ h)
 | ((with_reducible apply go_stA h); rfl; rfl; (first | rfl | simp [OneV.o]); intro _ h)
 | ((with_reducible apply go_stN h); rfl; (first | rfl | simp [OneV.o]); intro _ h)
 | ((with_reducible apply go_box h); rfl; intro _ _ h)
 | ((with_reducible apply go_ix h); omega)
 | ((with_reducible first | apply go_elN h | apply go_f1 h | apply go_rf1 h | apply go_rel h); (case hi => omega); (try case hx => exact inferInstance); (try case hv => rfl))
 | ((with_reducible apply go_fa h); omega; omega)
))
      unfold F8_21
      (repeat (first
 | (simp (disch := omega) only [evA, evB, evC, bAdd_i64, bSub_i64])
 | (with_reducible apply go_ld1 h)
 | ((with_reducible first | apply go_ldA h | apply go_rd h | apply go_rdN h | apply go_rlen h); rfl)
 | (with_reducible first | apply go_ldN h | apply go_lenL h)
 | ((with_reducible apply go_st h); intro _ h)
 | ((with_reducible apply go_stA h); rfl; rfl; (first | rfl | simp [OneV.o]); intro _ h)
 | ((with_reducible apply go_stN h); rfl; (first | rfl | simp [OneV.o]); intro _ h)
 | ((with_reducible apply go_box h); rfl; intro _ _ h)
 | ((with_reducible apply go_ix h); omega)
 | ((with_reducible first | apply go_elN h | apply go_f1 h | apply go_rf1 h | apply go_rel h); (case hi => omega); (try case hx => exact inferInstance); (try case hv => rfl))
 | ((with_reducible apply go_fa h); omega; omega)
))
      exact hdoes_load A.rd (fun x hx => (A.all x hx).2) hfl h hK
  refine eBox_sat h fun pa w h => ?_
  simp only [cells_agg] at h
  (repeat (first
 | (simp (disch := omega) only [evA, evB, evC, bAdd_i64, bSub_i64])
 | (with_reducible apply go_ld1 h)
 | ((with_reducible first | apply go_ldA h | apply go_rd h | apply go_rdN h | apply go_rlen h); rfl)
 | (with_reducible first | apply go_ldN h | apply go_lenL h)
 | ((with_reducible apply go_st h); intro _ h)
 | ((with_reducible apply go_stA h); rfl; rfl; (first | rfl | simp [OneV.o]); intro _ h)
 | ((with_reducible apply go_stN h); rfl; (first | rfl | simp [OneV.o]); intro _ h)
 | ((with_reducible apply go_box h); rfl; intro _ _ h)
 | ((with_reducible apply go_ix h); omega)
 | ((with_reducible first | apply go_elN h | apply go_f1 h | apply go_rf1 h | apply go_rel h); (case hi => omega); (try case hx => exact inferInstance); (try case hv => rfl))
 | ((with_reducible apply go_fa h); omega; omega)
))
  refine copied_spec (c := a.c) (tv := svV a.tv) hct (.of_arg A.tv) inferInstance h fun sv w h => ?_
  refine go_alloc h zc41 rfl fun qc _ h => ?_
  replace h := h.frt (A := RefC (ptr q) n next cs T)
  replace h := refC_at h
  obtain ⟨s, ys, hy, hP, h⟩ := h
  have hyl : ys.length = cs.length := by rw [← hy]; simp
  have fin : ∀ {w : World} {L' : List HP}, Sat w0 L' w → Get L' (RcC q n next s :: LsH cX 11 36 s ys :: Cl pa (cHA a).toArray 39 :: Cl qc (cCtx a.c (svV sv)).toArray 36 :: LsH cI 1 3 (svV sv) a.c.times :: HoldB v n next cs T :: Pool T :: L) → ∀ id, F8_2 v (ptr q) (ptr pa) (ptr qc) (.int .i64 id) w K := fun h g id => by
    have h2 := refC_mk (T := T) hy hP (h.get g)
    exact kinds pa qc sv id _ (h2.got)
  by_cases g1 : (ys.length : Int) > 0
  · have g1' : decide ((ys.length : Int) > 0) = true := by simpa using g1
    (repeat (first
 | (simp (disch := omega) only [evA, evB, evC, bAdd_i64, bSub_i64, g1'])
 | (with_reducible apply go_ld1 h)
 | ((with_reducible first | apply go_ldA h | apply go_rd h | apply go_rdN h | apply go_rlen h); rfl)
 | (with_reducible first | apply go_ldN h | apply go_lenL h)
 | ((with_reducible apply go_st h); intro _ h)
 | ((with_reducible apply go_stA h); rfl; rfl; (first | rfl | simp [OneV.o]); intro _ h)
 | ((with_reducible apply go_stN h); rfl; (first | rfl | simp [OneV.o]); intro _ h)
 | ((with_reducible apply go_box h); rfl; intro _ _ h)
 | ((with_reducible apply go_ix h); omega)
 | ((with_reducible first | apply go_elN h | apply go_f1 h | apply go_rf1 h | apply go_rel h); (case hi => omega); (try case hx => exact inferInstance); (try case hv => rfl))
 | ((with_reducible apply go_fa h); omega; omega)
))
    refine go_some (bRem_int _ _ _ (by decide)) ?_
    cases g2 : decide (a.n.tmod 5 = 0)
    · (repeat (first
 | (simp (disch := omega) only [evA, evB, evC, bAdd_i64, bSub_i64, g2])
 | (with_reducible apply go_ld1 h)
 | ((with_reducible first | apply go_ldA h | apply go_rd h | apply go_rdN h | apply go_rlen h); rfl)
 | (with_reducible first | apply go_ldN h | apply go_lenL h)
 | ((with_reducible apply go_st h); intro _ h)
 | ((with_reducible apply go_stA h); rfl; rfl; (first | rfl | simp [OneV.o]); intro _ h)
 | ((with_reducible apply go_stN h); rfl; (first | rfl | simp [OneV.o]); intro _ h)
 | ((with_reducible apply go_box h); rfl; intro _ _ h)
 | ((with_reducible apply go_ix h); omega)
 | ((with_reducible first | apply go_elN h | apply go_f1 h | apply go_rf1 h | apply go_rel h); (case hi => omega); (try case hx => exact inferInstance); (try case hv => rfl))
 | ((with_reducible apply go_fa h); omega; omega)
))
      refine Below_spec (by omega) (by omega) fun k h1 h2 _ => ?_
      obtain ⟨j, rfl⟩ : ∃ j : Nat, k = j := ⟨k.toNat, by omega⟩
      have hj : j < ys.length := by omega
      (repeat (first
 | (simp (disch := omega) only [evA, evB, evC, bAdd_i64, bSub_i64])
 | (with_reducible apply go_ld1 h)
 | ((with_reducible first | apply go_ldA h | apply go_rd h | apply go_rdN h | apply go_rlen h); rfl)
 | (with_reducible first | apply go_ldN h | apply go_lenL h)
 | ((with_reducible apply go_st h); intro _ h)
 | ((with_reducible apply go_stA h); rfl; rfl; (first | rfl | simp [OneV.o]); intro _ h)
 | ((with_reducible apply go_stN h); rfl; (first | rfl | simp [OneV.o]); intro _ h)
 | ((with_reducible apply go_box h); rfl; intro _ _ h)
 | ((with_reducible apply go_ix h); omega)
 | ((with_reducible first | apply go_elN h | apply go_f1 h | apply go_rf1 h | apply go_rel h); (case hi => omega); (try case hx => exact inferInstance); (try case hv => rfl))
 | ((with_reducible apply go_fa h); omega; omega)
))
      exact fin h.drew (by (repeat (first | exact .done | (refine .pick (by repeat (first | exact .here | apply Fnt.there)) ?_) | refine .skip ?_))) _
    · (repeat (first
 | (simp (disch := omega) only [evA, evB, evC, bAdd_i64, bSub_i64, g2])
 | (with_reducible apply go_ld1 h)
 | ((with_reducible first | apply go_ldA h | apply go_rd h | apply go_rdN h | apply go_rlen h); rfl)
 | (with_reducible first | apply go_ldN h | apply go_lenL h)
 | ((with_reducible apply go_st h); intro _ h)
 | ((with_reducible apply go_stA h); rfl; rfl; (first | rfl | simp [OneV.o]); intro _ h)
 | ((with_reducible apply go_stN h); rfl; (first | rfl | simp [OneV.o]); intro _ h)
 | ((with_reducible apply go_box h); rfl; intro _ _ h)
 | ((with_reducible apply go_ix h); omega)
 | ((with_reducible first | apply go_elN h | apply go_f1 h | apply go_rf1 h | apply go_rel h); (case hi => omega); (try case hx => exact inferInstance); (try case hv => rfl))
 | ((with_reducible apply go_fa h); omega; omega)
))
      exact fin h (by (repeat (first | exact .done | (refine .pick (by repeat (first | exact .here | apply Fnt.there)) ?_) | refine .skip ?_))) _
  · have g1' : decide ((ys.length : Int) > 0) = false := by simpa using g1
    (repeat (first
 | (simp (disch := omega) only [evA, evB, evC, bAdd_i64, bSub_i64, g1'])
 | (with_reducible apply go_ld1 h)
 | ((with_reducible first | apply go_ldA h | apply go_rd h | apply go_rdN h | apply go_rlen h); rfl)
 | (with_reducible first | apply go_ldN h | apply go_lenL h)
 | ((with_reducible apply go_st h); intro _ h)
 | ((with_reducible apply go_stA h); rfl; rfl; (first | rfl | simp [OneV.o]); intro _ h)
 | ((with_reducible apply go_stN h); rfl; (first | rfl | simp [OneV.o]); intro _ h)
 | ((with_reducible apply go_box h); rfl; intro _ _ h)
 | ((with_reducible apply go_ix h); omega)
 | ((with_reducible first | apply go_elN h | apply go_f1 h | apply go_rf1 h | apply go_rel h); (case hi => omega); (try case hx => exact inferInstance); (try case hv => rfl))
 | ((with_reducible apply go_fa h); omega; omega)
))
    exact fin h (by (repeat (first | exact .done | (refine .pick (by repeat (first | exact .here | apply Fnt.there)) ?_) | refine .skip ?_))) _
theorem hsmall_loop {s5 s7 : Value} {i : Nat} {R3 : Value → Value → Value → Value → World → Prop} [hrd : RdIn w0 L s1 HAct cHA 15 acts] (hi : i < acts.length) (A : AOkH w0 acts[i] l)
    (hE : ∀ b w', (b = true → smallC acts[i].c = true ∧ (l.length ≤ 40 → ∀ x ∈ l, smallC x.1 = true)) → Sat w0 L w' → F3_9 s1 s5 s7 (.int .i64 i) (.bool b) w' K R3) :
    ∀ (d k : Nat) (b : Bool) (w : World), 40 - k < d → k ≤ 40 → (b = true → smallC acts[i].c = true ∧ ∀ x ∈ l.take k, smallC x.1 = true) → Sat w0 L w → F3_8L d s1 s5 s7 (.int .i64 (i : Nat)) (.bool b) (.int .i64 (k : Nat)) w K R3 := by
  intro d
  induction d with
  | zero => intro k _ _ hd; omega
  | succ d ih =>
    intro k b w hd hk hb h
    rw [F3_8L]
    unfold F3_8b
    have hlen : lenL (svV acts[i].lv) = some (.int .i64 l.length) := A.rd.len
    by_cases g : k < l.length
    case neg =>
      have g' : decide ((k : Int) < (l.length : Int)) = false := by simpa using g
      (repeat (first
 | (simp (disch := omega) only [evA, evB, evC, bAdd_i64, bSub_i64, hlen, g'])
 | (with_reducible apply go_ld1 h)
 | ((with_reducible first | apply go_ldA h | apply go_rd h | apply go_rdN h); rfl)
 | (with_reducible first | apply go_ldN h | apply go_lenR h)
 | ((with_reducible apply go_st h); intro _ h)
 | ((with_reducible apply go_stA h); rfl; rfl; (first | rfl | simp [OneV.o]); intro _ h)
 | ((with_reducible apply go_stN h); rfl; (first | rfl | simp [OneV.o]); intro _ h)
 | ((with_reducible apply go_box h); rfl; intro _ _ h)
 | ((with_reducible apply go_ixR h); omega)
 | ((with_reducible first | apply go_elR h | apply go_f1R h | apply go_rf1R h | apply go_relR h | apply go_e1R h | apply go_re1R h); (case hc => exact inferInstance); (case hi => omega); (try case hx => exact inferInstance); (try case hv => rfl))
 | ((with_reducible apply go_fNR h); (case hc => exact inferInstance); (case hi => omega); (try case hp => exact inferInstance); (try case hv => rfl))
 | ((with_reducible apply go_faR h); (case hc => exact inferInstance); omega; omega)
 | ((with_reducible apply go_rlenR h); rfl)
))
      refine hE b _ (fun e => ⟨(hb e).1, fun _ x hx => (hb e).2 x ?_⟩) h
      rw [List.take_of_length_le (by omega)]; exact hx
    have g' : decide ((k : Int) < (l.length : Int)) = true := by simpa using g
    by_cases g2 : k < 40
    case neg =>
      have g2' : decide ((k : Int) < 40) = false := by simp; omega
      (repeat (first
 | (simp (disch := omega) only [evA, evB, evC, bAdd_i64, bSub_i64, hlen, g', g2'])
 | (with_reducible apply go_ld1 h)
 | ((with_reducible first | apply go_ldA h | apply go_rd h | apply go_rdN h); rfl)
 | (with_reducible first | apply go_ldN h | apply go_lenR h)
 | ((with_reducible apply go_st h); intro _ h)
 | ((with_reducible apply go_stA h); rfl; rfl; (first | rfl | simp [OneV.o]); intro _ h)
 | ((with_reducible apply go_stN h); rfl; (first | rfl | simp [OneV.o]); intro _ h)
 | ((with_reducible apply go_box h); rfl; intro _ _ h)
 | ((with_reducible apply go_ixR h); omega)
 | ((with_reducible first | apply go_elR h | apply go_f1R h | apply go_rf1R h | apply go_relR h | apply go_e1R h | apply go_re1R h); (case hc => exact inferInstance); (case hi => omega); (try case hx => exact inferInstance); (try case hv => rfl))
 | ((with_reducible apply go_fNR h); (case hc => exact inferInstance); (case hi => omega); (try case hp => exact inferInstance); (try case hv => rfl))
 | ((with_reducible apply go_faR h); (case hc => exact inferInstance); omega; omega)
 | ((with_reducible apply go_rlenR h); rfl)
))
      exact hE b _ (fun e => ⟨(hb e).1, fun hle x hx => by omega⟩) h
    have g2' : decide ((k : Int) < 40) = true := by simp; omega
    cases b
    · (repeat (first
 | (simp (disch := omega) only [evA, evB, evC, bAdd_i64, bSub_i64, hlen, g', g2'])
 | (with_reducible apply go_ld1 h)
 | ((with_reducible first | apply go_ldA h | apply go_rd h | apply go_rdN h); rfl)
 | (with_reducible first | apply go_ldN h | apply go_lenR h)
 | ((with_reducible apply go_st h); intro _ h)
 | ((with_reducible apply go_stA h); rfl; rfl; (first | rfl | simp [OneV.o]); intro _ h)
 | ((with_reducible apply go_stN h); rfl; (first | rfl | simp [OneV.o]); intro _ h)
 | ((with_reducible apply go_box h); rfl; intro _ _ h)
 | ((with_reducible apply go_ixR h); omega)
 | ((with_reducible first | apply go_elR h | apply go_f1R h | apply go_rf1R h | apply go_relR h | apply go_e1R h | apply go_re1R h); (case hc => exact inferInstance); (case hi => omega); (try case hx => exact inferInstance); (try case hv => rfl))
 | ((with_reducible apply go_fNR h); (case hc => exact inferInstance); (case hi => omega); (try case hp => exact inferInstance); (try case hv => rfl))
 | ((with_reducible apply go_faR h); (case hc => exact inferInstance); omega; omega)
 | ((with_reducible apply go_rlenR h); rfl)
))
      exact ih (k + 1) false _ (by omega) (by omega) (by simp) h
    · have i9 : RdIn w0 L (svV acts[i].lv) (Ctx × SV) cX 11 l := RdIn.arg A.rd
      (repeat (first
 | (simp (disch := omega) only [evA, evB, evC, bAdd_i64, bSub_i64, hlen, g', g2'])
 | (with_reducible apply go_ld1 h)
 | ((with_reducible first | apply go_ldA h | apply go_rd h | apply go_rdN h); rfl)
 | (with_reducible first | apply go_ldN h | apply go_lenR h)
 | ((with_reducible apply go_st h); intro _ h)
 | ((with_reducible apply go_stA h); rfl; rfl; (first | rfl | simp [OneV.o]); intro _ h)
 | ((with_reducible apply go_stN h); rfl; (first | rfl | simp [OneV.o]); intro _ h)
 | ((with_reducible apply go_box h); rfl; intro _ _ h)
 | ((with_reducible apply go_ixR h); omega)
 | ((with_reducible first | apply go_elR h | apply go_f1R h | apply go_rf1R h | apply go_relR h | apply go_e1R h | apply go_re1R h); (case hc => exact inferInstance); (case hi => omega); (try case hx => exact inferInstance); (try case hv => rfl))
 | ((with_reducible apply go_fNR h); (case hc => exact inferInstance); (case hi => omega); (try case hp => exact inferInstance); (try case hv => rfl))
 | ((with_reducible apply go_faR h); (case hc => exact inferInstance); omega; omega)
 | ((with_reducible apply go_rlenR h); rfl)
))
      have hx := A.all _ (List.getElem_mem g)
      refine small_spec (c := l[k].1) (tv := svV l[k].2) hx.1 (.of_arg hx.2) h fun w h => ?_
      (repeat (first
 | (simp (disch := omega) only [evA, evB, evC, bAdd_i64, bSub_i64])
 | (with_reducible apply go_ld1 h)
 | ((with_reducible first | apply go_ldA h | apply go_rd h | apply go_rdN h | apply go_rlen h); rfl)
 | (with_reducible first | apply go_ldN h | apply go_lenL h)
 | ((with_reducible apply go_st h); intro _ h)
 | ((with_reducible apply go_stA h); rfl; rfl; (first | rfl | simp [OneV.o]); intro _ h)
 | ((with_reducible apply go_stN h); rfl; (first | rfl | simp [OneV.o]); intro _ h)
 | ((with_reducible apply go_box h); rfl; intro _ _ h)
 | ((with_reducible apply go_ix h); omega)
 | ((with_reducible first | apply go_elN h | apply go_f1 h | apply go_rf1 h | apply go_rel h); (case hi => omega); (try case hx => exact inferInstance); (try case hv => rfl))
 | ((with_reducible apply go_fa h); omega; omega)
))
      refine ih (k + 1) (smallC l[k].1) _ (by omega) (by omega) (fun e => ⟨(hb rfl).1, fun x hx => ?_⟩) h
      rw [List.take_succ_eq_append_getElem g] at hx
      rcases List.mem_append.1 hx with hx | hx
      · exact (hb rfl).2 x hx
      · simp at hx; subst hx; exact e
theorem hplays_step {i : Nat} {R3 : Value → Value → Value → Value → World → Prop} (hrd : Rd w0 15 s1 acts.length (acts.flatMap cHA)) (hok : ∀ a ∈ acts, ∃ l, AOkH w0 a l) (hi : i < acts.length) (hnx : next + 1 ≤ 4611686018427387904)
    (h : Sat w0 (HoldB (ptr p) n next cs T :: RefC (ptr q) n next cs T :: Pool T :: L) w)
    (hE : ∀ next' cs' T' w', (next' ≤ next + 1 ∨ next' ≤ 1152921504606846976) → Sat w0 (HoldB (ptr p) n next' cs' T' :: RefC (ptr q) n next' cs' T' :: Pool T' :: L) w' → F3_6 s1 (ptr p) (ptr q) (.int .i64 i) w' K R3) :
    F3_5 s1 (ptr p) (ptr q) (.int .i64 (i : Nat)) w K R3 := by
  unfold F3_5 F3_7 F3_7b
  obtain ⟨l, A⟩ := hok _ (List.getElem_mem hi)
  have i0 : RdIn w0 (HoldB (ptr p) n next cs T :: RefC (ptr q) n next cs T :: Pool T :: L) s1 HAct cHA 15 acts := RdIn.arg hrd
  (repeat (first
 | (simp (disch := omega) only [evA, evB, evC, bAdd_i64, bSub_i64])
 | (with_reducible apply go_ld1 h)
 | ((with_reducible first | apply go_ldA h | apply go_rd h | apply go_rdN h); rfl)
 | (with_reducible first | apply go_ldN h | apply go_lenR h)
 | ((with_reducible apply go_st h); intro _ h)
 | ((with_reducible apply go_stA h); rfl; rfl; (first | rfl | simp [OneV.o]); intro _ h)
 | ((with_reducible apply go_stN h); rfl; (first | rfl | simp [OneV.o]); intro _ h)
 | ((with_reducible apply go_box h); rfl; intro _ _ h)
 | ((with_reducible apply go_ixR h); omega)
 | ((with_reducible first | apply go_elR h | apply go_f1R h | apply go_rf1R h | apply go_relR h | apply go_e1R h | apply go_re1R h); (case hc => exact inferInstance); (case hi => omega); (try case hx => exact inferInstance); (try case hv => rfl))
 | ((with_reducible apply go_fNR h); (case hc => exact inferInstance); (case hi => omega); (try case hp => exact inferInstance); (try case hv => rfl))
 | ((with_reducible apply go_faR h); (case hc => exact inferInstance); omega; omega)
 | ((with_reducible apply go_rlenR h); rfl)
))
  refine small_spec (c := acts[i].c) (tv := svV acts[i].tv) A.lb (.of_arg A.tv) h fun w h => ?_
  unfold F3_8
  refine hsmall_loop (l := l) (acts := acts) (i := i) hi A (fun b w hb h => ?_) fuel 0 (smallC acts[i].c) w (by unfold fuel; omega) (by omega) (fun e => ⟨e, by simp⟩) h
  unfold F3_9 F3_9b
  cases b
  · (repeat (first
 | (simp (disch := omega) only [evA, evB, evC, bAdd_i64, bSub_i64])
 | (with_reducible apply go_ld1 h)
 | ((with_reducible first | apply go_ldA h | apply go_rd h | apply go_rdN h | apply go_rlen h); rfl)
 | (with_reducible first | apply go_ldN h | apply go_lenL h)
 | ((with_reducible apply go_st h); intro _ h)
 | ((with_reducible apply go_stA h); rfl; rfl; (first | rfl | simp [OneV.o]); intro _ h)
 | ((with_reducible apply go_stN h); rfl; (first | rfl | simp [OneV.o]); intro _ h)
 | ((with_reducible apply go_box h); rfl; intro _ _ h)
 | ((with_reducible apply go_ix h); omega)
 | ((with_reducible first | apply go_elN h | apply go_f1 h | apply go_rf1 h | apply go_rel h); (case hi => omega); (try case hx => exact inferInstance); (try case hv => rfl))
 | ((with_reducible apply go_fa h); omega; omega)
))
    exact hE next cs T _ (.inl (by omega)) h
  obtain ⟨b1, b2⟩ := hb rfl
  have hf := (small_fits b1).1
  (repeat (first
 | (simp (disch := omega) only [evA, evB, evC, bAdd_i64, bSub_i64])
 | (with_reducible apply go_ld1 h)
 | ((with_reducible first | apply go_ldA h | apply go_rd h | apply go_rdN h); rfl)
 | (with_reducible first | apply go_ldN h | apply go_lenR h)
 | ((with_reducible apply go_st h); intro _ h)
 | ((with_reducible apply go_stA h); rfl; rfl; (first | rfl | simp [OneV.o]); intro _ h)
 | ((with_reducible apply go_stN h); rfl; (first | rfl | simp [OneV.o]); intro _ h)
 | ((with_reducible apply go_box h); rfl; intro _ _ h)
 | ((with_reducible apply go_ixR h); omega)
 | ((with_reducible first | apply go_elR h | apply go_f1R h | apply go_rf1R h | apply go_relR h | apply go_e1R h | apply go_re1R h); (case hc => exact inferInstance); (case hi => omega); (try case hx => exact inferInstance); (try case hv => rfl))
 | ((with_reducible apply go_fNR h); (case hc => exact inferInstance); (case hi => omega); (try case hp => exact inferInstance); (try case hv => rfl))
 | ((with_reducible apply go_faR h); (case hc => exact inferInstance); omega; omega)
 | ((with_reducible apply go_rlenR h); rfl)
))
  refine hdoes_spec (a := acts[i]) (l := l) (v := ptr p) (q := q) (cs := cs) (T := T) (n := n) (next := next) A hf (fun hle x hx => (small_fits (b2 (by omega) x hx)).1) hnx h fun next' cs' T' w h1 h => ?_
  have i1 : RdIn w0 (HoldB (ptr p) n next' cs' T' :: RefC (ptr q) n next' cs' T' :: Pool T' :: L) s1 HAct cHA 15 acts := RdIn.arg hrd
  (repeat (first
 | (simp (disch := omega) only [evA, evB, evC, bAdd_i64, bSub_i64])
 | (with_reducible apply go_ld1 h)
 | ((with_reducible first | apply go_ldA h | apply go_rd h | apply go_rdN h); rfl)
 | (with_reducible first | apply go_ldN h | apply go_lenR h)
 | ((with_reducible apply go_st h); intro _ h)
 | ((with_reducible apply go_stA h); rfl; rfl; (first | rfl | simp [OneV.o]); intro _ h)
 | ((with_reducible apply go_stN h); rfl; (first | rfl | simp [OneV.o]); intro _ h)
 | ((with_reducible apply go_box h); rfl; intro _ _ h)
 | ((with_reducible apply go_ixR h); omega)
 | ((with_reducible first | apply go_elR h | apply go_f1R h | apply go_rf1R h | apply go_relR h | apply go_e1R h | apply go_re1R h); (case hc => exact inferInstance); (case hi => omega); (try case hx => exact inferInstance); (try case hv => rfl))
 | ((with_reducible apply go_fNR h); (case hc => exact inferInstance); (case hi => omega); (try case hp => exact inferInstance); (try case hv => rfl))
 | ((with_reducible apply go_faR h); (case hc => exact inferInstance); omega; omega)
 | ((with_reducible apply go_rlenR h); rfl)
))
  refine hstands_spec (c := acts[i].c) (tv := svV acts[i].tv) (v := ptr p) (rv := ptr q) inferInstance h fun w h => ?_
  (repeat (first
 | (simp (disch := omega) only [evA, evB, evC, bAdd_i64, bSub_i64])
 | (with_reducible apply go_ld1 h)
 | ((with_reducible first | apply go_ldA h | apply go_rd h | apply go_rdN h); rfl)
 | (with_reducible first | apply go_ldN h | apply go_lenR h)
 | ((with_reducible apply go_st h); intro _ h)
 | ((with_reducible apply go_stA h); rfl; rfl; (first | rfl | simp [OneV.o]); intro _ h)
 | ((with_reducible apply go_stN h); rfl; (first | rfl | simp [OneV.o]); intro _ h)
 | ((with_reducible apply go_box h); rfl; intro _ _ h)
 | ((with_reducible apply go_ixR h); omega)
 | ((with_reducible first | apply go_elR h | apply go_f1R h | apply go_rf1R h | apply go_relR h | apply go_e1R h | apply go_re1R h); (case hc => exact inferInstance); (case hi => omega); (try case hx => exact inferInstance); (try case hv => rfl))
 | ((with_reducible apply go_fNR h); (case hc => exact inferInstance); (case hi => omega); (try case hp => exact inferInstance); (try case hv => rfl))
 | ((with_reducible apply go_faR h); (case hc => exact inferInstance); omega; omega)
 | ((with_reducible apply go_rlenR h); rfl)
))
  exact hE next' cs' T' _ h1 h
theorem hplays_loop (hrd : Rd w0 15 s1 acts.length (acts.flatMap cHA)) (hok : ∀ a ∈ acts, ∃ l, AOkH w0 a l) (hK : ∀ w', Sat w0 L w' → K (.bool true) w') :
    ∀ (d i : Nat) (next : Int) (cs : List Ctx) (T : TM) (w : World), 60 - i < d → i ≤ 60 → next ≤ 1152921504606846976 + i → Sat w0 (HoldB (ptr p) n next cs T :: RefC (ptr q) n next cs T :: Pool T :: L) w →
      F3_2L d s1 (ptr p) (ptr q) (.int .i64 (i : Nat)) w K := by
  intro d
  induction d with
  | zero => intro i _ _ _ _ hd; omega
  | succ d ih =>
    intro i next cs T w hd hi hnx h
    rw [F3_2L]
    unfold F3_4 F3_4b
    have hlen := hrd.len
    have fin : F3_3 w K := by
      unfold F3_3 F3_3b
      exact hK _ (h.got)
    by_cases g1 : i < acts.length
    case neg =>
      have g' : decide ((i : Int) < (acts.length : Int)) = false := by simpa using g1
      (repeat (first
 | (simp (disch := omega) only [evA, evB, evC, bAdd_i64, bSub_i64, hlen, g'])
 | (refine go_some (bNe_nilp up27   ..) ?_)
 | (with_reducible apply go_ld1 h)
 | ((with_reducible first | apply go_ldA h | apply go_rd h | apply go_rdN h | apply go_rlen h); rfl)
 | (with_reducible first | apply go_ldN h | apply go_lenL h)
 | ((with_reducible apply go_st h); intro _ h)
 | ((with_reducible apply go_stA h); rfl; rfl; (first | rfl | simp [OneV.o]); intro _ h)
 | ((with_reducible apply go_stN h); rfl; (first | rfl | simp [OneV.o]); intro _ h)
 | ((with_reducible apply go_box h); rfl; intro _ _ h)
 | ((with_reducible apply go_ix h); omega)
 | ((with_reducible first | apply go_elN h | apply go_f1 h | apply go_rf1 h | apply go_rel h); (case hi => omega); (try case hx => exact inferInstance); (try case hv => rfl))
 | ((with_reducible apply go_fa h); omega; omega)
))
      exact fin
    have g' : decide ((i : Int) < (acts.length : Int)) = true := by simpa using g1
    by_cases g2 : i < 60
    case neg =>
      have g2' : decide ((i : Int) < 60) = false := by simp; omega
      (repeat (first
 | (simp (disch := omega) only [evA, evB, evC, bAdd_i64, bSub_i64, hlen, g', g2'])
 | (refine go_some (bNe_nilp up27   ..) ?_)
 | (with_reducible apply go_ld1 h)
 | ((with_reducible first | apply go_ldA h | apply go_rd h | apply go_rdN h | apply go_rlen h); rfl)
 | (with_reducible first | apply go_ldN h | apply go_lenL h)
 | ((with_reducible apply go_st h); intro _ h)
 | ((with_reducible apply go_stA h); rfl; rfl; (first | rfl | simp [OneV.o]); intro _ h)
 | ((with_reducible apply go_stN h); rfl; (first | rfl | simp [OneV.o]); intro _ h)
 | ((with_reducible apply go_box h); rfl; intro _ _ h)
 | ((with_reducible apply go_ix h); omega)
 | ((with_reducible first | apply go_elN h | apply go_f1 h | apply go_rf1 h | apply go_rel h); (case hi => omega); (try case hx => exact inferInstance); (try case hv => rfl))
 | ((with_reducible apply go_fa h); omega; omega)
))
      exact fin
    have g2' : decide ((i : Int) < 60) = true := by simp; omega
    (repeat (first
 | (simp (disch := omega) only [evA, evB, evC, bAdd_i64, bSub_i64, hlen, g', g2'])
 | (refine go_some (bNe_nilp up27   ..) ?_)
 | (with_reducible apply go_ld1 h)
 | ((with_reducible first | apply go_ldA h | apply go_rd h | apply go_rdN h | apply go_rlen h); rfl)
 | (with_reducible first | apply go_ldN h | apply go_lenL h)
 | ((with_reducible apply go_st h); intro _ h)
 | ((with_reducible apply go_stA h); rfl; rfl; (first | rfl | simp [OneV.o]); intro _ h)
 | ((with_reducible apply go_stN h); rfl; (first | rfl | simp [OneV.o]); intro _ h)
 | ((with_reducible apply go_box h); rfl; intro _ _ h)
 | ((with_reducible apply go_ix h); omega)
 | ((with_reducible first | apply go_elN h | apply go_f1 h | apply go_rf1 h | apply go_rel h); (case hi => omega); (try case hx => exact inferInstance); (try case hv => rfl))
 | ((with_reducible apply go_fa h); omega; omega)
))
    refine hplays_step hrd hok g1 (by omega) h fun next' cs' T' w h1 h => ?_
    unfold F3_6 F3_6b
    (repeat (first
 | (simp (disch := omega) only [evA, evB, evC, bAdd_i64, bSub_i64])
 | (with_reducible apply go_ld1 h)
 | ((with_reducible first | apply go_ldA h | apply go_rd h | apply go_rdN h | apply go_rlen h); rfl)
 | (with_reducible first | apply go_ldN h | apply go_lenL h)
 | ((with_reducible apply go_st h); intro _ h)
 | ((with_reducible apply go_stA h); rfl; rfl; (first | rfl | simp [OneV.o]); intro _ h)
 | ((with_reducible apply go_stN h); rfl; (first | rfl | simp [OneV.o]); intro _ h)
 | ((with_reducible apply go_box h); rfl; intro _ _ h)
 | ((with_reducible apply go_ix h); omega)
 | ((with_reducible first | apply go_elN h | apply go_f1 h | apply go_rf1 h | apply go_rel h); (case hi => omega); (try case hx => exact inferInstance); (try case hv => rfl))
 | ((with_reducible apply go_fa h); omega; omega)
))
    exact ih (i + 1) next' cs' T' w (by omega) (by omega) (by omega) h
theorem holdPlays_spec (hrd : Rd w0 15 s1 acts.length (acts.flatMap cHA)) (hok : ∀ a ∈ acts, ∃ l, AOkH w0 a l) (h : Sat w0 L w) (hK : ∀ w', Sat w0 L w' → K (.bool true) w') : callP G3 [.int .i64 n, s1] w K := by
  refine c3 ?_
  unfold F3 F3_1 F3_1b
  refine bnew_hspec h (fun hn => ?_) fun n1 n2 p w h => ?_
  · (repeat (first
 | (simp (disch := omega) only [evA, evB, evC, bAdd_i64, bSub_i64])
 | (with_reducible apply go_ld1 h)
 | ((with_reducible first | apply go_ldA h | apply go_rd h | apply go_rdN h | apply go_rlen h); rfl)
 | (with_reducible first | apply go_ldN h | apply go_lenL h)
 | ((with_reducible apply go_st h); intro _ h)
 | ((with_reducible apply go_stA h); rfl; rfl; (first | rfl | simp [OneV.o]); intro _ h)
 | ((with_reducible apply go_stN h); rfl; (first | rfl | simp [OneV.o]); intro _ h)
 | ((with_reducible apply go_box h); rfl; intro _ _ h)
 | ((with_reducible apply go_ix h); omega)
 | ((with_reducible first | apply go_elN h | apply go_f1 h | apply go_rf1 h | apply go_rel h); (case hi => omega); (try case hx => exact inferInstance); (try case hv => rfl))
 | ((with_reducible apply go_fa h); omega; omega)
))
    refine rcnew_spec (T := []) h (fun _ => ?_) fun n1 n2 p w h => by omega
    (repeat (first
 | (simp (disch := omega) only [evA, evB, evC, bAdd_i64, bSub_i64, bNe_bh, Option.isNone_none, beq_self_eq_true])
 | (refine go_some (bEq_nilp up23   ..) ?_)
 | (refine go_some (bEq_nilp up27   ..) ?_)
 | (with_reducible apply go_ld1 h)
 | ((with_reducible first | apply go_ldA h | apply go_rd h | apply go_rdN h | apply go_rlen h); rfl)
 | (with_reducible first | apply go_ldN h | apply go_lenL h)
 | ((with_reducible apply go_st h); intro _ h)
 | ((with_reducible apply go_stA h); rfl; rfl; (first | rfl | simp [OneV.o]); intro _ h)
 | ((with_reducible apply go_stN h); rfl; (first | rfl | simp [OneV.o]); intro _ h)
 | ((with_reducible apply go_box h); rfl; intro _ _ h)
 | ((with_reducible apply go_ix h); omega)
 | ((with_reducible first | apply go_elN h | apply go_f1 h | apply go_rf1 h | apply go_rel h); (case hi => omega); (try case hx => exact inferInstance); (try case hv => rfl))
 | ((with_reducible apply go_fa h); omega; omega)
))
    refine works21_spec h fun w h => ?_
    (repeat (first
 | (simp (disch := omega) only [evA, evB, evC, bAdd_i64, bSub_i64])
 | (with_reducible apply go_ld1 h)
 | ((with_reducible first | apply go_ldA h | apply go_rd h | apply go_rdN h | apply go_rlen h); rfl)
 | (with_reducible first | apply go_ldN h | apply go_lenL h)
 | ((with_reducible apply go_st h); intro _ h)
 | ((with_reducible apply go_stA h); rfl; rfl; (first | rfl | simp [OneV.o]); intro _ h)
 | ((with_reducible apply go_stN h); rfl; (first | rfl | simp [OneV.o]); intro _ h)
 | ((with_reducible apply go_box h); rfl; intro _ _ h)
 | ((with_reducible apply go_ix h); omega)
 | ((with_reducible first | apply go_elN h | apply go_f1 h | apply go_rf1 h | apply go_rel h); (case hi => omega); (try case hx => exact inferInstance); (try case hv => rfl))
 | ((with_reducible apply go_fa h); omega; omega)
))
    unfold F3_2
    show F3_2L (fuel - 1 + 1) _ _ _ _ _ _
    rw [F3_2L]
    unfold F3_4 F3_4b F3_3 F3_3b
    refine go_some (bNe_nilp up27 _) ?_
    (repeat (first
 | (simp (disch := omega) only [evA, evB, evC, bAdd_i64, bSub_i64])
 | (with_reducible apply go_ld1 h)
 | ((with_reducible first | apply go_ldA h | apply go_rd h | apply go_rdN h | apply go_rlen h); rfl)
 | (with_reducible first | apply go_ldN h | apply go_lenL h)
 | ((with_reducible apply go_st h); intro _ h)
 | ((with_reducible apply go_stA h); rfl; rfl; (first | rfl | simp [OneV.o]); intro _ h)
 | ((with_reducible apply go_stN h); rfl; (first | rfl | simp [OneV.o]); intro _ h)
 | ((with_reducible apply go_box h); rfl; intro _ _ h)
 | ((with_reducible apply go_ix h); omega)
 | ((with_reducible first | apply go_elN h | apply go_f1 h | apply go_rf1 h | apply go_rel h); (case hi => omega); (try case hx => exact inferInstance); (try case hv => rfl))
 | ((with_reducible apply go_fa h); omega; omega)
))
    exact hK _ h
  · (repeat (first
 | (simp (disch := omega) only [evA, evB, evC, bAdd_i64, bSub_i64])
 | (with_reducible apply go_ld1 h)
 | ((with_reducible first | apply go_ldA h | apply go_rd h | apply go_rdN h | apply go_rlen h); rfl)
 | (with_reducible first | apply go_ldN h | apply go_lenL h)
 | ((with_reducible apply go_st h); intro _ h)
 | ((with_reducible apply go_stA h); rfl; rfl; (first | rfl | simp [OneV.o]); intro _ h)
 | ((with_reducible apply go_stN h); rfl; (first | rfl | simp [OneV.o]); intro _ h)
 | ((with_reducible apply go_box h); rfl; intro _ _ h)
 | ((with_reducible apply go_ix h); omega)
 | ((with_reducible first | apply go_elN h | apply go_f1 h | apply go_rf1 h | apply go_rel h); (case hi => omega); (try case hx => exact inferInstance); (try case hv => rfl))
 | ((with_reducible apply go_fa h); omega; omega)
))
    refine rcnew_spec (T := []) h (fun hn => by omega) fun _ _ q w h => ?_
    (repeat (first
 | (simp (disch := omega) only [evA, evB, evC, bAdd_i64, bSub_i64, bNe_bh, Option.isNone_some, beq_self_eq_true])
 | (refine go_some (bEq_nilp up23   ..) ?_)
 | (refine go_some (bEq_nilp up27   ..) ?_)
 | (with_reducible apply go_ld1 h)
 | ((with_reducible first | apply go_ldA h | apply go_rd h | apply go_rdN h | apply go_rlen h); rfl)
 | (with_reducible first | apply go_ldN h | apply go_lenL h)
 | ((with_reducible apply go_st h); intro _ h)
 | ((with_reducible apply go_stA h); rfl; rfl; (first | rfl | simp [OneV.o]); intro _ h)
 | ((with_reducible apply go_stN h); rfl; (first | rfl | simp [OneV.o]); intro _ h)
 | ((with_reducible apply go_box h); rfl; intro _ _ h)
 | ((with_reducible apply go_ix h); omega)
 | ((with_reducible first | apply go_elN h | apply go_f1 h | apply go_rf1 h | apply go_rel h); (case hi => omega); (try case hx => exact inferInstance); (try case hv => rfl))
 | ((with_reducible apply go_fa h); omega; omega)
))
    refine works21_spec h fun w h => ?_
    (repeat (first
 | (simp (disch := omega) only [evA, evB, evC, bAdd_i64, bSub_i64])
 | (with_reducible apply go_ld1 h)
 | ((with_reducible first | apply go_ldA h | apply go_rd h | apply go_rdN h | apply go_rlen h); rfl)
 | (with_reducible first | apply go_ldN h | apply go_lenL h)
 | ((with_reducible apply go_st h); intro _ h)
 | ((with_reducible apply go_stA h); rfl; rfl; (first | rfl | simp [OneV.o]); intro _ h)
 | ((with_reducible apply go_stN h); rfl; (first | rfl | simp [OneV.o]); intro _ h)
 | ((with_reducible apply go_box h); rfl; intro _ _ h)
 | ((with_reducible apply go_ix h); omega)
 | ((with_reducible first | apply go_elN h | apply go_f1 h | apply go_rf1 h | apply go_rel h); (case hi => omega); (try case hx => exact inferInstance); (try case hv => rfl))
 | ((with_reducible apply go_fa h); omega; omega)
))
    exact hplays_loop hrd hok hK fuel 0 1 [] [] w (by unfold fuel; omega) (by omega) (by omega) (h.got)
end
abbrev ckCtxH : List CK2 := [.int .i64, .int .i64, .str, .str, .int .i64, .str, .str, .str, .int .i64, .str, .sl 1 [.int .i64]]
abbrev ckHA : List CK2 := [.int .i64, .int .i64, .bool, .int .i64, .int .i64, .str, .str, .int .i64, .str, .str, .str, .int .i64, .str, .sl 1 [.int .i64], .sl 11 ckCtxH]
theorem fit_ctxX {W : World} {c : List Value} (h : FitL2 W 140737488351232 ckCtxH c) : ∃ x : Ctx × SV, c = cX x ∧ (LB x.1 ∧ Rd W 1 (svV x.2) x.1.times.length (x.1.times.flatMap cI)) := by
  obtain ⟨c, tv, rfl, hl, rd⟩ := fit_ctx (show FitL2 W 140737488351232 ckCtx c from h)
  obtain ⟨a1, c1, rfl, _⟩ := rd.cap
  exact ⟨(c, (a1, c.times.length, c1)), rfl, hl, rd⟩
theorem fit_hact {W : World} {c : List Value} (h : FitL2 W 140737488351232 ckHA c) : ∃ a : HAct, c = cHA a ∧ ∃ l, AOkH W a l := by
  obtain ⟨q1, vs, rfl, _, h⟩ := fitL2_int h
  obtain ⟨q2, vs, rfl, _, h⟩ := fitL2_int h
  obtain ⟨q3, vs, rfl, h'⟩ := fitL2_bool h
  clear h
  obtain ⟨id, vs, rfl, _, h⟩ := fitL2_int h'
  clear h'
  obtain ⟨wa, vs, rfl, _, h⟩ := fitL2_int h
  obtain ⟨node, vs, rfl, h1, h⟩ := fitL2_str h
  obtain ⟨key, vs, rfl, h2, h⟩ := fitL2_str h
  obtain ⟨t, vs, rfl, _, h⟩ := fitL2_int h
  obtain ⟨en, vs, rfl, h3, h⟩ := fitL2_str h
  obtain ⟨ec, vs, rfl, h4, h⟩ := fitL2_str h
  obtain ⟨ek, vs, rfl, h5, h⟩ := fitL2_str h
  obtain ⟨el, vs, rfl, _, h⟩ := fitL2_int h
  obtain ⟨et, vs, rfl, h6, h⟩ := fitL2_str h
  obtain ⟨tv, vs, rfl, ⟨n, ds, rd, hn, hd⟩, h⟩ := fitL2_sl h
  obtain ⟨lv, vs, rfl, ⟨n2, ds2, rd2, hn2, hd2⟩, h⟩ := fitL2_sl h
  rw [fitL2_nil h]
  obtain ⟨l, rfl, rfl, _⟩ := fit_list2 (fun c h => fit_int1 h) n ds rd.length hd
  obtain ⟨l2, rfl, rfl, hg⟩ := fit_list2 (fun c h => fit_ctxX h) n2 ds2 rd2.length hd2
  obtain ⟨a1, c1, rfl, _⟩ := rd.cap
  obtain ⟨a2, c2, rfl, _⟩ := rd2.cap
  exact ⟨⟨q1, q2, q3, ⟨id, wa, node, key, t, ⟨en, ec, ek, el, et⟩, l⟩, (a1, l.length, c1), (a2, l2.length, c2)⟩, rfl, l2, ⟨h1, h2, h3, h4, h5, h6⟩, rd, rd2, hg⟩
theorem lawHoldPlays {W : World} (a : Int) (_ : (Lit.int .i64 a).wf = true) {v : Value} {n : Nat} {cs : List Value} (rd : Rd W 15 v n cs) (_ : n ≤ 140737488351232) (ft : ∀ i, i < n → FitL2 W 140737488351232 ckHA ((cs.drop (i * 15)).take 15)) :
    callP G3 [.int .i64 a, v] W fun v w' => v = .bool true ∧ Sat W [] w' := by
  obtain ⟨l, rfl, rfl, hg⟩ := fit_list2 (fun c h => fit_hact h) n cs rd.length ft
  exact holdPlays_spec rd hg (Sat.start W) fun w' h => ⟨rfl, h⟩
end Go.Proofs.Gong
