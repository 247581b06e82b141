/- A part of the proofs: what stands below it, told in lemmas. No condition. -/
import Derived.Test.YtpbfmiphjcmjjaaP4
import Derived.Test.YtpbfmiphjcmjjaaP3
import Derived.Test.YtpbfmiphjcmjjaaP1
import Derived.Test.YtpbfmiphjcmjjaaP2
set_option linter.all false

/- Ho3 -/
namespace Go.Proofs.Gong
open Go Go.Sx Go.Proofs
set_option maxRecDepth 100000
abbrev kH (n : Int) : Value := .int .i64 n
theorem eqvSgn (a d : Int) (b c e f : ByteArray) : eqv Try.prog Op.maxDepth 122 (.agg #[.int .i64 a, .string b, .string c]) (.agg #[.int .i64 d, .string e, .string f]) = andO (some (a == d)) (andO (some (sEq b e)) (andO (some (sEq c f)) (some true))) := by kernel_rfl
theorem KSgn : KeyT Try.prog 122 sgnV where
  u := by kernel_rfl
  ck := fun k => by kernel_rfl
  eq := fun a b => by
    unfold sgnV cSgn
    rw [eqvSgn]
    simp only [andO_some, Option.some.injEq]
    rw [Bool.eq_iff_iff]
    obtain ⟨a1, a2, a3⟩ := a
    obtain ⟨b1, b2, b3⟩ := b
    simp [sEq_eq]
  sb := fun a => by
    unfold sgnV cSgn
    simp [Instr.sameBits]
theorem KIh : KeyT Try.prog 3 kH := KeyT.int (by kernel_rfl)
attribute [local irreducible] fBuild fLook fZero eqv bEqv Cl MapH LsH SlH ld1 ldN st callP eBox eAlloc lenM lenL eMapSet eDelete eAppend eBuildSl eRange eNext
abbrev Held := List (Int × (Ctx × Value))
abbrev ctxE (x : Ctx × Value) : Value := ctxV x.1 x.2
def heldP (x : Int × (Ctx × Value)) : HP := LsH cI 1 3 x.2.2 x.2.1.times
def bag (m : Held) : HP := HS (m.map heldP)
def HoldI (v : Value) (n next hn : Int) (m : Held) (I : List (Sgn × Int)) (M : List It) : HP := HEx fun p => HEx fun dp => HEx fun ml => HEx fun mi =>
  HPr (v = ptr p) (HS [Cl p #[dp, .int .i64 n, .int .i64 next, ml, mi] 159, HeapH dp hn M, MapH kH ctxE ml m, MapH sgnV kH mi I, bag m])
theorem _root_.Go.Sx.Sat.subp {w0 w : World} {L L' D : List HP} (h : Sat w0 L w) (p : (D ++ L').Perm L) : Sat w0 L' w := Sat.drops (h.perm p.symm)
section
variable {w0 w : World} {L : List HP} {K : Value → World → Prop} {v : Value} {n next hn : Int} {m : Held} {I : List (Sgn × Int)} {M : List It} {c : Ctx} {tv : Value}
theorem hold_iff : Sat w0 (HoldI v n next hn m I M :: L) w ↔ ∃ p dp ml mi, v = ptr p ∧ Sat w0 (Cl p #[dp, .int .i64 n, .int .i64 next, ml, mi] 159 :: HeapH dp hn M :: MapH kH ctxE ml m :: MapH sgnV kH mi I :: bag m :: L) w := by
  simp only [HoldI, Sat.ex_iff, Sat.pr_iff, Sat.hs_iff, List.cons_append, List.nil_append]
theorem bag_iff : Sat w0 (bag m :: L) w ↔ Sat w0 (m.map heldP ++ L) w := Sat.hs_iff
theorem bag_set {k : Int} {s : Value} (h : Sat w0 (LsH cI 1 3 s c.times :: bag m :: L) w) : Sat w0 (bag (aSet k (c, s) m) :: L) w := by
  have h1 := bag_iff.1 h.f1
  have key : ∀ m : Held, ∃ D, (D ++ (aSet k (c, s) m).map heldP).Perm (heldP (k, (c, s)) :: m.map heldP) := by
    intro m
    induction m with
    | nil => exact ⟨[], by simp [aSet]⟩
    | cons y r ih =>
      by_cases e : k = y.1
      · refine ⟨[heldP y], ?_⟩
        simp only [aSet, if_pos e, List.map_cons, List.cons_append, List.nil_append]
        exact .swap _ _ _
      · obtain ⟨D, hD⟩ := ih
        refine ⟨D, ?_⟩
        simp only [aSet, if_neg e, List.map_cons]
        exact List.perm_middle.trans ((hD.cons _).trans (.swap _ _ _))
  obtain ⟨D, hD⟩ := key m
  have h2 : Sat w0 (heldP (k, (c, s)) :: (m.map heldP ++ L)) w := h1.perm List.perm_middle
  refine bag_iff.2 (h2.subp (D := D) ?_)
  rw [← List.append_assoc, ← List.cons_append]
  exact hD.append_right L
theorem own_spec (hl : c.times.length ≤ 1000000) (hr : RdL w0 L cI 1 tv c.times) (h : Sat w0 L w) (hK : ∀ s w', Sat w0 (LsH cI 1 3 s c.times :: L) w' → K (ctxV c s) w') : callP G105 [ctxV c tv] w K := by
  refine c105 ?_
  unfold F105
  have zc : fZero Try.prog 41 = some (ctxV ⟨0, 0, [], [], 0, ⟨[], [], [], 0, []⟩, []⟩ (.slice none 0 0)) := z41
  (repeat (first
 | (simp (disch := omega) only [evA, evB, bAdd_i64, bSub_i64, ptr, Nat.zero_add, Bool.not_true, Bool.not_false, Option.isNone_some, Option.isNone_none, Option.isSome_some, Option.isSome_none, decide_true, decide_false, eq_self, true_and, and_assoc])
 | ((with_reducible apply go_ld1 h))
 | ((with_reducible apply go_ldA h); (rfl))
 | ((with_reducible apply go_ldN h))
 | ((with_reducible apply go_st h); intro _ h)
 | ((with_reducible apply go_stA h); (rfl); (rfl); (first | rfl | simp [OneV.o]); intro _ h)
 | ((with_reducible apply go_stN h); (rfl); (first | rfl | simp [OneV.o]); intro _ h)
 | ((with_reducible apply go_box h); rfl; intro _ _ h)
 | ((with_reducible apply go_rd h); (rfl))
 | ((with_reducible apply go_rdN h); (rfl))
 | ((with_reducible apply go_rlen h); (rfl))
 | ((with_reducible apply go_lenL h))
 | ((with_reducible apply go_ix h); (omega))
 | ((with_reducible apply go_elN h); (case hi => omega))
 | ((with_reducible apply go_fa h); (omega); (omega))
 | ((with_reducible apply go_f1 h); (case hi => omega); (case hx => exact inferInstance))
 | ((with_reducible apply go_rf1 h); (case hi => omega); (case hx => exact inferInstance); (case hv => rfl))
 | ((with_reducible apply go_rel h); (case hi => omega); (case hv => rfl))
))
  refine go_alloc h zc rfl fun _ _ h => ?_
  (repeat (first
 | (simp (disch := omega) only [evA, evB, bAdd_i64, bSub_i64, ptr, Nat.zero_add, Bool.not_true, Bool.not_false, Option.isNone_some, Option.isNone_none, Option.isSome_some, Option.isSome_none, decide_true, decide_false, eq_self, true_and, and_assoc])
 | ((with_reducible apply go_ld1 h))
 | ((with_reducible apply go_ldA h); (rfl))
 | ((with_reducible apply go_ldN h))
 | ((with_reducible apply go_st h); intro _ h)
 | ((with_reducible apply go_stA h); (rfl); (rfl); (first | rfl | simp [OneV.o]); intro _ h)
 | ((with_reducible apply go_stN h); (rfl); (first | rfl | simp [OneV.o]); intro _ h)
 | ((with_reducible apply go_box h); rfl; intro _ _ h)
 | ((with_reducible apply go_rd h); (rfl))
 | ((with_reducible apply go_rdN h); (rfl))
 | ((with_reducible apply go_rlen h); (rfl))
 | ((with_reducible apply go_lenL h))
 | ((with_reducible apply go_ix h); (omega))
 | ((with_reducible apply go_elN h); (case hi => omega))
 | ((with_reducible apply go_fa h); (omega); (omega))
 | ((with_reducible apply go_f1 h); (case hi => omega); (case hx => exact inferInstance))
 | ((with_reducible apply go_rf1 h); (case hi => omega); (case hx => exact inferInstance); (case hv => rfl))
 | ((with_reducible apply go_rel h); (case hi => omega); (case hv => rfl))
))
  refine clI_spec (l := c.times) hl hr.cons.cons h fun s w h => ?_
  have := ls_one h
  (repeat (first
 | (simp (disch := omega) only [evA, evB, bAdd_i64, bSub_i64, ptr, Nat.zero_add, Bool.not_true, Bool.not_false, Option.isNone_some, Option.isNone_none, Option.isSome_some, Option.isSome_none, decide_true, decide_false, eq_self, true_and, and_assoc])
 | ((with_reducible apply go_ld1 h))
 | ((with_reducible apply go_ldA h); (rfl))
 | ((with_reducible apply go_ldN h))
 | ((with_reducible apply go_st h); intro _ h)
 | ((with_reducible apply go_stA h); (rfl); (rfl); (first | rfl | simp [OneV.o]); intro _ h)
 | ((with_reducible apply go_stN h); (rfl); (first | rfl | simp [OneV.o]); intro _ h)
 | ((with_reducible apply go_box h); rfl; intro _ _ h)
 | ((with_reducible apply go_rd h); (rfl))
 | ((with_reducible apply go_rdN h); (rfl))
 | ((with_reducible apply go_rlen h); (rfl))
 | ((with_reducible apply go_lenL h))
 | ((with_reducible apply go_ix h); (omega))
 | ((with_reducible apply go_elN h); (case hi => omega))
 | ((with_reducible apply go_fa h); (omega); (omega))
 | ((with_reducible apply go_f1 h); (case hi => omega); (case hx => exact inferInstance))
 | ((with_reducible apply go_rf1 h); (case hi => omega); (case hx => exact inferInstance); (case hv => rfl))
 | ((with_reducible apply go_rel h); (case hi => omega); (case hv => rfl))
))
  exact hK s _ (h.get (by (repeat (first | exact .done | (refine .pick (by repeat (first | exact .here | apply Fnt.there)) ?_) | refine .skip ?_))))
theorem until_spec {dp : Value} (h : Sat w0 (HeapH dp hn M :: L) w) (hK : ∀ w', Sat w0 (HeapH dp hn (setR hn c.id c.at' M).2 :: L) w' → K (.tuple #[]) w') : callP G131 [.agg #[dp], ctxV c tv] w K := by
  refine c131 ?_
  unfold F131
  obtain ⟨d, rfl⟩ := heap_ptr h
  (repeat (first
 | (simp (disch := omega) only [evA, evB, bAdd_i64, bSub_i64, ptr, Nat.zero_add, Bool.not_true, Bool.not_false, Option.isNone_some, Option.isNone_none, Option.isSome_some, Option.isSome_none, decide_true, decide_false, eq_self, true_and, and_assoc])
 | ((with_reducible apply go_ld1 h))
 | ((with_reducible apply go_ldA h); (rfl))
 | ((with_reducible apply go_ldN h))
 | ((with_reducible apply go_st h); intro _ h)
 | ((with_reducible apply go_stA h); (rfl); (rfl); (first | rfl | simp [OneV.o]); intro _ h)
 | ((with_reducible apply go_stN h); (rfl); (first | rfl | simp [OneV.o]); intro _ h)
 | ((with_reducible apply go_box h); rfl; intro _ _ h)
 | ((with_reducible apply go_rd h); (rfl))
 | ((with_reducible apply go_rdN h); (rfl))
 | ((with_reducible apply go_rlen h); (rfl))
 | ((with_reducible apply go_lenL h))
 | ((with_reducible apply go_ix h); (omega))
 | ((with_reducible apply go_elN h); (case hi => omega))
 | ((with_reducible apply go_fa h); (omega); (omega))
 | ((with_reducible apply go_f1 h); (case hi => omega); (case hx => exact inferInstance))
 | ((with_reducible apply go_rf1 h); (case hi => omega); (case hx => exact inferInstance); (case hv => rfl))
 | ((with_reducible apply go_rel h); (case hi => omega); (case hv => rfl))
))
  refine set_spec (M := M) (n := hn) (h.front (by repeat (first | exact .here | apply Fnt.there))) fun w h => ?_
  exact hK _ (h.get (by (repeat (first | exact .done | (refine .pick (by repeat (first | exact .here | apply Fnt.there)) ?_) | refine .skip ?_))))
theorem hput_spec (hl : c.times.length ≤ 1000000) (hr : RdL w0 L cI 1 tv c.times) (h : Sat w0 (HoldI v n next hn m I M :: L) w)
    (hK : ∀ s w', Sat w0 (HoldI v n next hn (aSet c.id (c, s) m) (aSet (sgnOf c) c.id I) (setR hn c.id c.at' M).2 :: L) w' → K (.tuple #[]) w') : callP G106 [v, ctxV c tv] w K := by
  refine c106 ?_
  unfold F106
  replace h := hold_iff.1 h
  obtain ⟨p, dp, ml, mi, rfl, h⟩ := h
  have := map_one (h.front (A := MapH kH ctxE ml m) (by repeat (first | exact .here | apply Fnt.there)))
  have := map_one (h.front (A := MapH sgnV kH mi I) (by repeat (first | exact .here | apply Fnt.there)))
  (repeat (first
 | (simp (disch := omega) only [evA, evB, bAdd_i64, bSub_i64, ptr, Nat.zero_add, Bool.not_true, Bool.not_false, Option.isNone_some, Option.isNone_none, Option.isSome_some, Option.isSome_none, decide_true, decide_false, eq_self, true_and, and_assoc])
 | ((with_reducible apply go_ld1 h))
 | ((with_reducible apply go_ldA h); (rfl))
 | ((with_reducible apply go_ldN h))
 | ((with_reducible apply go_st h); intro _ h)
 | ((with_reducible apply go_stA h); (rfl); (rfl); (first | rfl | simp [OneV.o]); intro _ h)
 | ((with_reducible apply go_stN h); (rfl); (first | rfl | simp [OneV.o]); intro _ h)
 | ((with_reducible apply go_box h); rfl; intro _ _ h)
 | ((with_reducible apply go_rd h); (rfl))
 | ((with_reducible apply go_rdN h); (rfl))
 | ((with_reducible apply go_rlen h); (rfl))
 | ((with_reducible apply go_lenL h))
 | ((with_reducible apply go_ix h); (omega))
 | ((with_reducible apply go_elN h); (case hi => omega))
 | ((with_reducible apply go_fa h); (omega); (omega))
 | ((with_reducible apply go_f1 h); (case hi => omega); (case hx => exact inferInstance))
 | ((with_reducible apply go_rf1 h); (case hi => omega); (case hx => exact inferInstance); (case hv => rfl))
 | ((with_reducible apply go_rel h); (case hi => omega); (case hv => rfl))
))
  refine own_spec (c := c) hl (hr.get (by (repeat (first | exact .done | (refine .pick (by repeat (first | exact .here | apply Fnt.there)) ?_) | refine .skip ?_)))) h.drew fun s w h => ?_
  (repeat (first
 | (simp (disch := omega) only [evA, evB, bAdd_i64, bSub_i64, ptr, Nat.zero_add, Bool.not_true, Bool.not_false, Option.isNone_some, Option.isNone_none, Option.isSome_some, Option.isSome_none, decide_true, decide_false, eq_self, true_and, and_assoc])
 | ((with_reducible apply go_ld1 h))
 | ((with_reducible apply go_ldA h); (rfl))
 | ((with_reducible apply go_ldN h))
 | ((with_reducible apply go_st h); intro _ h)
 | ((with_reducible apply go_stA h); (rfl); (rfl); (first | rfl | simp [OneV.o]); intro _ h)
 | ((with_reducible apply go_stN h); (rfl); (first | rfl | simp [OneV.o]); intro _ h)
 | ((with_reducible apply go_box h); rfl; intro _ _ h)
 | ((with_reducible apply go_rd h); (rfl))
 | ((with_reducible apply go_rdN h); (rfl))
 | ((with_reducible apply go_rlen h); (rfl))
 | ((with_reducible apply go_lenL h))
 | ((with_reducible apply go_ix h); (omega))
 | ((with_reducible apply go_elN h); (case hi => omega))
 | ((with_reducible apply go_fa h); (omega); (omega))
 | ((with_reducible apply go_f1 h); (case hi => omega); (case hx => exact inferInstance))
 | ((with_reducible apply go_rf1 h); (case hi => omega); (case hx => exact inferInstance); (case hv => rfl))
 | ((with_reducible apply go_rel h); (case hi => omega); (case hv => rfl))
))
  refine eMapSet_sat (h.front (by repeat (first | exact .here | apply Fnt.there))) KIh um156 c.id (c, s) fun w h => ?_
  (repeat (first
 | (simp (disch := omega) only [evA, evB, bAdd_i64, bSub_i64, ptr, Nat.zero_add, Bool.not_true, Bool.not_false, Option.isNone_some, Option.isNone_none, Option.isSome_some, Option.isSome_none, decide_true, decide_false, eq_self, true_and, and_assoc])
 | ((with_reducible apply go_ld1 h))
 | ((with_reducible apply go_ldA h); (rfl))
 | ((with_reducible apply go_ldN h))
 | ((with_reducible apply go_st h); intro _ h)
 | ((with_reducible apply go_stA h); (rfl); (rfl); (first | rfl | simp [OneV.o]); intro _ h)
 | ((with_reducible apply go_stN h); (rfl); (first | rfl | simp [OneV.o]); intro _ h)
 | ((with_reducible apply go_box h); rfl; intro _ _ h)
 | ((with_reducible apply go_rd h); (rfl))
 | ((with_reducible apply go_rdN h); (rfl))
 | ((with_reducible apply go_rlen h); (rfl))
 | ((with_reducible apply go_lenL h))
 | ((with_reducible apply go_ix h); (omega))
 | ((with_reducible apply go_elN h); (case hi => omega))
 | ((with_reducible apply go_fa h); (omega); (omega))
 | ((with_reducible apply go_f1 h); (case hi => omega); (case hx => exact inferInstance))
 | ((with_reducible apply go_rf1 h); (case hi => omega); (case hx => exact inferInstance); (case hv => rfl))
 | ((with_reducible apply go_rel h); (case hi => omega); (case hv => rfl))
))
  refine hof_spec (a := c) h.drew fun w h => ?_
  (repeat (first
 | (simp (disch := omega) only [evA, evB, bAdd_i64, bSub_i64, ptr, Nat.zero_add, Bool.not_true, Bool.not_false, Option.isNone_some, Option.isNone_none, Option.isSome_some, Option.isSome_none, decide_true, decide_false, eq_self, true_and, and_assoc])
 | ((with_reducible apply go_ld1 h))
 | ((with_reducible apply go_ldA h); (rfl))
 | ((with_reducible apply go_ldN h))
 | ((with_reducible apply go_st h); intro _ h)
 | ((with_reducible apply go_stA h); (rfl); (rfl); (first | rfl | simp [OneV.o]); intro _ h)
 | ((with_reducible apply go_stN h); (rfl); (first | rfl | simp [OneV.o]); intro _ h)
 | ((with_reducible apply go_box h); rfl; intro _ _ h)
 | ((with_reducible apply go_rd h); (rfl))
 | ((with_reducible apply go_rdN h); (rfl))
 | ((with_reducible apply go_rlen h); (rfl))
 | ((with_reducible apply go_lenL h))
 | ((with_reducible apply go_ix h); (omega))
 | ((with_reducible apply go_elN h); (case hi => omega))
 | ((with_reducible apply go_fa h); (omega); (omega))
 | ((with_reducible apply go_f1 h); (case hi => omega); (case hx => exact inferInstance))
 | ((with_reducible apply go_rf1 h); (case hi => omega); (case hx => exact inferInstance); (case hv => rfl))
 | ((with_reducible apply go_rel h); (case hi => omega); (case hv => rfl))
))
  refine eMapSet_sat (h.front (by repeat (first | exact .here | apply Fnt.there))) KSgn um157 (sgnOf c) c.id fun w h => ?_
  (repeat (first
 | (simp (disch := omega) only [evA, evB, bAdd_i64, bSub_i64, ptr, Nat.zero_add, Bool.not_true, Bool.not_false, Option.isNone_some, Option.isNone_none, Option.isSome_some, Option.isSome_none, decide_true, decide_false, eq_self, true_and, and_assoc])
 | ((with_reducible apply go_ld1 h))
 | ((with_reducible apply go_ldA h); (rfl))
 | ((with_reducible apply go_ldN h))
 | ((with_reducible apply go_st h); intro _ h)
 | ((with_reducible apply go_stA h); (rfl); (rfl); (first | rfl | simp [OneV.o]); intro _ h)
 | ((with_reducible apply go_stN h); (rfl); (first | rfl | simp [OneV.o]); intro _ h)
 | ((with_reducible apply go_box h); rfl; intro _ _ h)
 | ((with_reducible apply go_rd h); (rfl))
 | ((with_reducible apply go_rdN h); (rfl))
 | ((with_reducible apply go_rlen h); (rfl))
 | ((with_reducible apply go_lenL h))
 | ((with_reducible apply go_ix h); (omega))
 | ((with_reducible apply go_elN h); (case hi => omega))
 | ((with_reducible apply go_fa h); (omega); (omega))
 | ((with_reducible apply go_f1 h); (case hi => omega); (case hx => exact inferInstance))
 | ((with_reducible apply go_rf1 h); (case hi => omega); (case hx => exact inferInstance); (case hv => rfl))
 | ((with_reducible apply go_rel h); (case hi => omega); (case hv => rfl))
))
  refine until_spec (c := c) (M := M) (hn := hn) (h.drew.front (by repeat (first | exact .here | apply Fnt.there))) fun w h => ?_
  (repeat (first
 | (simp (disch := omega) only [evA, evB, bAdd_i64, bSub_i64, ptr, Nat.zero_add, Bool.not_true, Bool.not_false, Option.isNone_some, Option.isNone_none, Option.isSome_some, Option.isSome_none, decide_true, decide_false, eq_self, true_and, and_assoc])
 | ((with_reducible apply go_ld1 h))
 | ((with_reducible apply go_ldA h); (rfl))
 | ((with_reducible apply go_ldN h))
 | ((with_reducible apply go_st h); intro _ h)
 | ((with_reducible apply go_stA h); (rfl); (rfl); (first | rfl | simp [OneV.o]); intro _ h)
 | ((with_reducible apply go_stN h); (rfl); (first | rfl | simp [OneV.o]); intro _ h)
 | ((with_reducible apply go_box h); rfl; intro _ _ h)
 | ((with_reducible apply go_rd h); (rfl))
 | ((with_reducible apply go_rdN h); (rfl))
 | ((with_reducible apply go_rlen h); (rfl))
 | ((with_reducible apply go_lenL h))
 | ((with_reducible apply go_ix h); (omega))
 | ((with_reducible apply go_elN h); (case hi => omega))
 | ((with_reducible apply go_fa h); (omega); (omega))
 | ((with_reducible apply go_f1 h); (case hi => omega); (case hx => exact inferInstance))
 | ((with_reducible apply go_rf1 h); (case hi => omega); (case hx => exact inferInstance); (case hv => rfl))
 | ((with_reducible apply go_rel h); (case hi => omega); (case hv => rfl))
))
  refine hK s _ (hold_iff.2 ⟨p, dp, ml, mi, rfl, ?_⟩)
  have h2 : Sat w0 (LsH cI 1 3 s c.times :: bag m :: Cl p #[dp, .int .i64 n, .int .i64 next, ml, mi] 159 :: HeapH dp hn (setR hn c.id c.at' M).2 :: MapH kH ctxE ml (aSet c.id (c, s) m) :: MapH sgnV kH mi (aSet (sgnOf c) c.id I) :: L) w := h.get (by (repeat (first | exact .done | (refine .pick (by repeat (first | exact .here | apply Fnt.there)) ?_) | refine .skip ?_)))
  exact (bag_set h2).get (by (repeat (first | exact .done | (refine .pick (by repeat (first | exact .here | apply Fnt.there)) ?_) | refine .skip ?_)))
/-- the code of an Add -/
def addC (n : Int) (m : Held) (I : List (Sgn × Int)) (c : Ctx) : Int := if okC c = false then 4 else if (aGet (sgnOf c) I).isSome = true then 6 else if n ≤ (m.length : Int) then 200 else 0
theorem okC_id (c : Ctx) (i : Int) : okC { c with id := i } = okC c := rfl
theorem hadd_spec (hf : c.fits) (hn0 : 0 ≤ next ∧ next ≤ 4611686018427387904) (hr : RdL w0 L cI 1 tv c.times) (h : Sat w0 (HoldI v n next hn m I M :: L) w)
    (hK0 : addC n m I c ≠ 0 → ∀ w', Sat w0 (HoldI v n next hn m I M :: L) w' → K (.tuple #[.int .i64 0, .int .i64 (addC n m I c)]) w')
    (hK1 : addC n m I c = 0 → ∀ s w', Sat w0 (HoldI v n (next + 1) hn (aSet next ({ c with id := next }, s) m) (aSet (sgnOf c) next I) (setR hn next c.at' M).2 :: L) w' → K (.tuple #[.int .i64 next, .int .i64 0]) w') : callP G53 [v, ctxV c tv] w K := by
  refine c53 ?_
  unfold F53
  replace h := hold_iff.1 h
  obtain ⟨p, dp, ml, mi, rfl, h⟩ := h
  have close : ∀ {w : World} {L' : List HP}, Sat w0 L' w → Get L' (Cl p #[dp, .int .i64 n, .int .i64 next, ml, mi] 159 :: HeapH dp hn M :: MapH kH ctxE ml m :: MapH sgnV kH mi I :: bag m :: L) → Sat w0 (HoldI (ptr p) n next hn m I M :: L) w := fun h g => hold_iff.2 ⟨p, dp, ml, mi, rfl, h.get g⟩
  have := map_one (h.front (A := MapH kH ctxE ml m) (by repeat (first | exact .here | apply Fnt.there)))
  have := map_one (h.front (A := MapH sgnV kH mi I) (by repeat (first | exact .here | apply Fnt.there)))
  (repeat (first
 | (simp (disch := omega) only [evA, evB, bAdd_i64, bSub_i64, ptr, Nat.zero_add, Bool.not_true, Bool.not_false, Option.isNone_some, Option.isNone_none, Option.isSome_some, Option.isSome_none, decide_true, decide_false, eq_self, true_and, and_assoc])
 | ((with_reducible apply go_ld1 h))
 | ((with_reducible apply go_ldA h); (rfl))
 | ((with_reducible apply go_ldN h))
 | ((with_reducible apply go_st h); intro _ h)
 | ((with_reducible apply go_stA h); (rfl); (rfl); (first | rfl | simp [OneV.o]); intro _ h)
 | ((with_reducible apply go_stN h); (rfl); (first | rfl | simp [OneV.o]); intro _ h)
 | ((with_reducible apply go_box h); rfl; intro _ _ h)
 | ((with_reducible apply go_rd h); (rfl))
 | ((with_reducible apply go_rdN h); (rfl))
 | ((with_reducible apply go_rlen h); (rfl))
 | ((with_reducible apply go_lenL h))
 | ((with_reducible apply go_ix h); (omega))
 | ((with_reducible apply go_elN h); (case hi => omega))
 | ((with_reducible apply go_fa h); (omega); (omega))
 | ((with_reducible apply go_f1 h); (case hi => omega); (case hx => exact inferInstance))
 | ((with_reducible apply go_rf1 h); (case hi => omega); (case hx => exact inferInstance); (case hv => rfl))
 | ((with_reducible apply go_rel h); (case hi => omega); (case hv => rfl))
))
  refine hof_spec (a := c) h.drew fun w h => ?_
  (repeat (first
 | (simp (disch := omega) only [evA, evB, bAdd_i64, bSub_i64, ptr, Nat.zero_add, Bool.not_true, Bool.not_false, Option.isNone_some, Option.isNone_none, Option.isSome_some, Option.isSome_none, decide_true, decide_false, eq_self, true_and, and_assoc])
 | ((with_reducible apply go_ld1 h))
 | ((with_reducible apply go_ldA h); (rfl))
 | ((with_reducible apply go_ldN h))
 | ((with_reducible apply go_st h); intro _ h)
 | ((with_reducible apply go_stA h); (rfl); (rfl); (first | rfl | simp [OneV.o]); intro _ h)
 | ((with_reducible apply go_stN h); (rfl); (first | rfl | simp [OneV.o]); intro _ h)
 | ((with_reducible apply go_box h); rfl; intro _ _ h)
 | ((with_reducible apply go_rd h); (rfl))
 | ((with_reducible apply go_rdN h); (rfl))
 | ((with_reducible apply go_rlen h); (rfl))
 | ((with_reducible apply go_lenL h))
 | ((with_reducible apply go_ix h); (omega))
 | ((with_reducible apply go_elN h); (case hi => omega))
 | ((with_reducible apply go_fa h); (omega); (omega))
 | ((with_reducible apply go_f1 h); (case hi => omega); (case hx => exact inferInstance))
 | ((with_reducible apply go_rf1 h); (case hi => omega); (case hx => exact inferInstance); (case hv => rfl))
 | ((with_reducible apply go_rel h); (case hi => omega); (case hv => rfl))
))
  refine go_look2 h (by repeat (first | exact .here | apply Fnt.there)) KSgn um157 z3 (sgnOf c) ?_
  (repeat (first
 | (simp (disch := omega) only [evA, evB, bAdd_i64, bSub_i64, ptr, Nat.zero_add, Bool.not_true, Bool.not_false, Option.isNone_some, Option.isNone_none, Option.isSome_some, Option.isSome_none, decide_true, decide_false, eq_self, true_and, and_assoc])
 | ((with_reducible apply go_ld1 h))
 | ((with_reducible apply go_ldA h); (rfl))
 | ((with_reducible apply go_ldN h))
 | ((with_reducible apply go_st h); intro _ h)
 | ((with_reducible apply go_stA h); (rfl); (rfl); (first | rfl | simp [OneV.o]); intro _ h)
 | ((with_reducible apply go_stN h); (rfl); (first | rfl | simp [OneV.o]); intro _ h)
 | ((with_reducible apply go_box h); rfl; intro _ _ h)
 | ((with_reducible apply go_rd h); (rfl))
 | ((with_reducible apply go_rdN h); (rfl))
 | ((with_reducible apply go_rlen h); (rfl))
 | ((with_reducible apply go_lenL h))
 | ((with_reducible apply go_ix h); (omega))
 | ((with_reducible apply go_elN h); (case hi => omega))
 | ((with_reducible apply go_fa h); (omega); (omega))
 | ((with_reducible apply go_f1 h); (case hi => omega); (case hx => exact inferInstance))
 | ((with_reducible apply go_rf1 h); (case hi => omega); (case hx => exact inferInstance); (case hv => rfl))
 | ((with_reducible apply go_rel h); (case hi => omega); (case hv => rfl))
))
  refine hcheck_spec (c := c) hf (hr.get (by (repeat (first | exact .done | (refine .pick (by repeat (first | exact .here | apply Fnt.there)) ?_) | refine .skip ?_)))) h fun w h => ?_
  unfold chkC
  unfold addC at hK0 hK1
  cases g1 : okC c
  · rw [g1] at hK0
    have d4 : decide ((4 : Int) = 0) = false := by decide
    (repeat (first
 | (simp (disch := omega) only [evA, evB, bAdd_i64, bSub_i64, ptr, Nat.zero_add, Bool.not_true, Bool.not_false, Option.isNone_some, Option.isNone_none, Option.isSome_some, Option.isSome_none, decide_true, decide_false, eq_self, true_and, and_assoc, Bool.false_eq_true, if_false, d4])
 | ((with_reducible apply go_ld1 h))
 | ((with_reducible apply go_ldA h); (rfl))
 | ((with_reducible apply go_ldN h))
 | ((with_reducible apply go_st h); intro _ h)
 | ((with_reducible apply go_stA h); (rfl); (rfl); (first | rfl | simp [OneV.o]); intro _ h)
 | ((with_reducible apply go_stN h); (rfl); (first | rfl | simp [OneV.o]); intro _ h)
 | ((with_reducible apply go_box h); rfl; intro _ _ h)
 | ((with_reducible apply go_rd h); (rfl))
 | ((with_reducible apply go_rdN h); (rfl))
 | ((with_reducible apply go_rlen h); (rfl))
 | ((with_reducible apply go_lenL h))
 | ((with_reducible apply go_ix h); (omega))
 | ((with_reducible apply go_elN h); (case hi => omega))
 | ((with_reducible apply go_fa h); (omega); (omega))
 | ((with_reducible apply go_f1 h); (case hi => omega); (case hx => exact inferInstance))
 | ((with_reducible apply go_rf1 h); (case hi => omega); (case hx => exact inferInstance); (case hv => rfl))
 | ((with_reducible apply go_rel h); (case hi => omega); (case hv => rfl))
))
    exact hK0 (by simp) _ (close h (by (repeat (first | exact .done | (refine .pick (by repeat (first | exact .here | apply Fnt.there)) ?_) | refine .skip ?_))))
  rw [g1] at hK0 hK1
  (repeat (first
 | (simp (disch := omega) only [evA, evB, bAdd_i64, bSub_i64, ptr, Nat.zero_add, Bool.not_true, Bool.not_false, Option.isNone_some, Option.isNone_none, Option.isSome_some, Option.isSome_none, decide_true, decide_false, eq_self, true_and, and_assoc, if_true])
 | ((with_reducible apply go_ld1 h))
 | ((with_reducible apply go_ldA h); (rfl))
 | ((with_reducible apply go_ldN h))
 | ((with_reducible apply go_st h); intro _ h)
 | ((with_reducible apply go_stA h); (rfl); (rfl); (first | rfl | simp [OneV.o]); intro _ h)
 | ((with_reducible apply go_stN h); (rfl); (first | rfl | simp [OneV.o]); intro _ h)
 | ((with_reducible apply go_box h); rfl; intro _ _ h)
 | ((with_reducible apply go_rd h); (rfl))
 | ((with_reducible apply go_rdN h); (rfl))
 | ((with_reducible apply go_rlen h); (rfl))
 | ((with_reducible apply go_lenL h))
 | ((with_reducible apply go_ix h); (omega))
 | ((with_reducible apply go_elN h); (case hi => omega))
 | ((with_reducible apply go_fa h); (omega); (omega))
 | ((with_reducible apply go_f1 h); (case hi => omega); (case hx => exact inferInstance))
 | ((with_reducible apply go_rf1 h); (case hi => omega); (case hx => exact inferInstance); (case hv => rfl))
 | ((with_reducible apply go_rel h); (case hi => omega); (case hv => rfl))
))
  cases g2 : (aGet (sgnOf c) I).isSome
  · rw [g2] at hK0 hK1
    simp only [Bool.true_eq_false, Bool.false_eq_true, if_false] at hK0 hK1
    (repeat (first
 | (simp (disch := omega) only [evA, evB, bAdd_i64, bSub_i64, ptr, Nat.zero_add, Bool.not_true, Bool.not_false, Option.isNone_some, Option.isNone_none, Option.isSome_some, Option.isSome_none, decide_true, decide_false, eq_self, true_and, and_assoc])
 | ((with_reducible apply go_ld1 h))
 | ((with_reducible apply go_ldA h); (rfl))
 | ((with_reducible apply go_ldN h))
 | ((with_reducible apply go_st h); intro _ h)
 | ((with_reducible apply go_stA h); (rfl); (rfl); (first | rfl | simp [OneV.o]); intro _ h)
 | ((with_reducible apply go_stN h); (rfl); (first | rfl | simp [OneV.o]); intro _ h)
 | ((with_reducible apply go_box h); rfl; intro _ _ h)
 | ((with_reducible apply go_rd h); (rfl))
 | ((with_reducible apply go_rdN h); (rfl))
 | ((with_reducible apply go_rlen h); (rfl))
 | ((with_reducible apply go_lenL h))
 | ((with_reducible apply go_ix h); (omega))
 | ((with_reducible apply go_elN h); (case hi => omega))
 | ((with_reducible apply go_fa h); (omega); (omega))
 | ((with_reducible apply go_f1 h); (case hi => omega); (case hx => exact inferInstance))
 | ((with_reducible apply go_rf1 h); (case hi => omega); (case hx => exact inferInstance); (case hv => rfl))
 | ((with_reducible apply go_rel h); (case hi => omega); (case hv => rfl))
))
    refine go_lenM h (by repeat (first | exact .here | apply Fnt.there)) ?_
    by_cases g3 : n ≤ (m.length : Int)
    · have g3' : decide ((m.length : Int) ≥ n) = true := by simpa using g3
      rw [if_pos g3] at hK0
      (repeat (first
 | (simp (disch := omega) only [evA, evB, bAdd_i64, bSub_i64, ptr, Nat.zero_add, Bool.not_true, Bool.not_false, Option.isNone_some, Option.isNone_none, Option.isSome_some, Option.isSome_none, decide_true, decide_false, eq_self, true_and, and_assoc, g3'])
 | ((with_reducible apply go_ld1 h))
 | ((with_reducible apply go_ldA h); (rfl))
 | ((with_reducible apply go_ldN h))
 | ((with_reducible apply go_st h); intro _ h)
 | ((with_reducible apply go_stA h); (rfl); (rfl); (first | rfl | simp [OneV.o]); intro _ h)
 | ((with_reducible apply go_stN h); (rfl); (first | rfl | simp [OneV.o]); intro _ h)
 | ((with_reducible apply go_box h); rfl; intro _ _ h)
 | ((with_reducible apply go_rd h); (rfl))
 | ((with_reducible apply go_rdN h); (rfl))
 | ((with_reducible apply go_rlen h); (rfl))
 | ((with_reducible apply go_lenL h))
 | ((with_reducible apply go_ix h); (omega))
 | ((with_reducible apply go_elN h); (case hi => omega))
 | ((with_reducible apply go_fa h); (omega); (omega))
 | ((with_reducible apply go_f1 h); (case hi => omega); (case hx => exact inferInstance))
 | ((with_reducible apply go_rf1 h); (case hi => omega); (case hx => exact inferInstance); (case hv => rfl))
 | ((with_reducible apply go_rel h); (case hi => omega); (case hv => rfl))
))
      exact hK0 (by simp) _ (close h.drew (by (repeat (first | exact .done | (refine .pick (by repeat (first | exact .here | apply Fnt.there)) ?_) | refine .skip ?_))))
    · have g3' : decide ((m.length : Int) ≥ n) = false := by simpa using g3
      rw [if_neg g3] at hK1
      (repeat (first
 | (simp (disch := omega) only [evA, evB, bAdd_i64, bSub_i64, ptr, Nat.zero_add, Bool.not_true, Bool.not_false, Option.isNone_some, Option.isNone_none, Option.isSome_some, Option.isSome_none, decide_true, decide_false, eq_self, true_and, and_assoc, g3'])
 | ((with_reducible apply go_ld1 h))
 | ((with_reducible apply go_ldA h); (rfl))
 | ((with_reducible apply go_ldN h))
 | ((with_reducible apply go_st h); intro _ h)
 | ((with_reducible apply go_stA h); (rfl); (rfl); (first | rfl | simp [OneV.o]); intro _ h)
 | ((with_reducible apply go_stN h); (rfl); (first | rfl | simp [OneV.o]); intro _ h)
 | ((with_reducible apply go_box h); rfl; intro _ _ h)
 | ((with_reducible apply go_rd h); (rfl))
 | ((with_reducible apply go_rdN h); (rfl))
 | ((with_reducible apply go_rlen h); (rfl))
 | ((with_reducible apply go_lenL h))
 | ((with_reducible apply go_ix h); (omega))
 | ((with_reducible apply go_elN h); (case hi => omega))
 | ((with_reducible apply go_fa h); (omega); (omega))
 | ((with_reducible apply go_f1 h); (case hi => omega); (case hx => exact inferInstance))
 | ((with_reducible apply go_rf1 h); (case hi => omega); (case hx => exact inferInstance); (case hv => rfl))
 | ((with_reducible apply go_rel h); (case hi => omega); (case hv => rfl))
))
      refine hput_spec (v := ptr p) (n := n) (next := next + 1) (hn := hn) (m := m) (I := I) (M := M) (c := { c with id := next }) (L := _ :: L) ?_ ?_ (hold_iff.2 ⟨p, dp, ml, mi, rfl, h.get (by (repeat (first | exact .done | (refine .pick (by repeat (first | exact .here | apply Fnt.there)) ?_) | refine .skip ?_)))⟩) fun s w h => ?_
      · have := hf.2.2.2; show c.times.length ≤ _; omega
      · exact hr.cons
      (repeat (first
 | (simp (disch := omega) only [evA, evB, bAdd_i64, bSub_i64, ptr, Nat.zero_add, Bool.not_true, Bool.not_false, Option.isNone_some, Option.isNone_none, Option.isSome_some, Option.isSome_none, decide_true, decide_false, eq_self, true_and, and_assoc])
 | ((with_reducible apply go_ld1 h))
 | ((with_reducible apply go_ldA h); (rfl))
 | ((with_reducible apply go_ldN h))
 | ((with_reducible apply go_st h); intro _ h)
 | ((with_reducible apply go_stA h); (rfl); (rfl); (first | rfl | simp [OneV.o]); intro _ h)
 | ((with_reducible apply go_stN h); (rfl); (first | rfl | simp [OneV.o]); intro _ h)
 | ((with_reducible apply go_box h); rfl; intro _ _ h)
 | ((with_reducible apply go_rd h); (rfl))
 | ((with_reducible apply go_rdN h); (rfl))
 | ((with_reducible apply go_rlen h); (rfl))
 | ((with_reducible apply go_lenL h))
 | ((with_reducible apply go_ix h); (omega))
 | ((with_reducible apply go_elN h); (case hi => omega))
 | ((with_reducible apply go_fa h); (omega); (omega))
 | ((with_reducible apply go_f1 h); (case hi => omega); (case hx => exact inferInstance))
 | ((with_reducible apply go_rf1 h); (case hi => omega); (case hx => exact inferInstance); (case hv => rfl))
 | ((with_reducible apply go_rel h); (case hi => omega); (case hv => rfl))
))
      exact hK1 rfl s _ (h.get (by (repeat (first | exact .done | (refine .pick (by repeat (first | exact .here | apply Fnt.there)) ?_) | refine .skip ?_))))
  · rw [g2] at hK0
    simp only [Bool.true_eq_false, if_true, if_false] at hK0
    (repeat (first
 | (simp (disch := omega) only [evA, evB, bAdd_i64, bSub_i64, ptr, Nat.zero_add, Bool.not_true, Bool.not_false, Option.isNone_some, Option.isNone_none, Option.isSome_some, Option.isSome_none, decide_true, decide_false, eq_self, true_and, and_assoc])
 | ((with_reducible apply go_ld1 h))
 | ((with_reducible apply go_ldA h); (rfl))
 | ((with_reducible apply go_ldN h))
 | ((with_reducible apply go_st h); intro _ h)
 | ((with_reducible apply go_stA h); (rfl); (rfl); (first | rfl | simp [OneV.o]); intro _ h)
 | ((with_reducible apply go_stN h); (rfl); (first | rfl | simp [OneV.o]); intro _ h)
 | ((with_reducible apply go_box h); rfl; intro _ _ h)
 | ((with_reducible apply go_rd h); (rfl))
 | ((with_reducible apply go_rdN h); (rfl))
 | ((with_reducible apply go_rlen h); (rfl))
 | ((with_reducible apply go_lenL h))
 | ((with_reducible apply go_ix h); (omega))
 | ((with_reducible apply go_elN h); (case hi => omega))
 | ((with_reducible apply go_fa h); (omega); (omega))
 | ((with_reducible apply go_f1 h); (case hi => omega); (case hx => exact inferInstance))
 | ((with_reducible apply go_rf1 h); (case hi => omega); (case hx => exact inferInstance); (case hv => rfl))
 | ((with_reducible apply go_rel h); (case hi => omega); (case hv => rfl))
))
    exact hK0 (by simp) _ (close h (by (repeat (first | exact .done | (refine .pick (by repeat (first | exact .here | apply Fnt.there)) ?_) | refine .skip ?_))))
theorem hlen_spec (h : Sat w0 (HoldI v n next hn m I M :: L) w) (hK : K (.int .i64 m.length) w) : callP G58 [v] w K := by
  refine c58 ?_
  unfold F58
  replace h := hold_iff.1 h
  obtain ⟨p, dp, ml, mi, rfl, h⟩ := h
  (repeat (first
 | (simp (disch := omega) only [evA, evB, bAdd_i64, bSub_i64, ptr, Nat.zero_add, Bool.not_true, Bool.not_false, Option.isNone_some, Option.isNone_none, Option.isSome_some, Option.isSome_none, decide_true, decide_false, eq_self, true_and, and_assoc])
 | ((with_reducible apply go_ld1 h))
 | ((with_reducible apply go_ldA h); (rfl))
 | ((with_reducible apply go_ldN h))
 | ((with_reducible apply go_st h); intro _ h)
 | ((with_reducible apply go_stA h); (rfl); (rfl); (first | rfl | simp [OneV.o]); intro _ h)
 | ((with_reducible apply go_stN h); (rfl); (first | rfl | simp [OneV.o]); intro _ h)
 | ((with_reducible apply go_box h); rfl; intro _ _ h)
 | ((with_reducible apply go_rd h); (rfl))
 | ((with_reducible apply go_rdN h); (rfl))
 | ((with_reducible apply go_rlen h); (rfl))
 | ((with_reducible apply go_lenL h))
 | ((with_reducible apply go_ix h); (omega))
 | ((with_reducible apply go_elN h); (case hi => omega))
 | ((with_reducible apply go_fa h); (omega); (omega))
 | ((with_reducible apply go_f1 h); (case hi => omega); (case hx => exact inferInstance))
 | ((with_reducible apply go_rf1 h); (case hi => omega); (case hx => exact inferInstance); (case hv => rfl))
 | ((with_reducible apply go_rel h); (case hi => omega); (case hv => rfl))
))
  refine go_lenM h (by repeat (first | exact .here | apply Fnt.there)) ?_
  exact hK
theorem hempty_spec (h1 : 1 ≤ n) (h2 : n ≤ 65536) (h : Sat w0 L w) (hK : ∀ p w', Sat w0 (HoldI (ptr p) n next n [] [] [] :: L) w' → K (ptr p) w') : callP G104 [.int .i64 n, .int .i64 next] w K := by
  refine c104 ?_
  unfold F104
  refine new_spec h (fun h => by omega) fun d w _ _ h => ?_
  (repeat (first
 | (simp (disch := omega) only [evA, evB, bAdd_i64, bSub_i64, ptr, Nat.zero_add, Bool.not_true, Bool.not_false, Option.isNone_some, Option.isNone_none, Option.isSome_some, Option.isSome_none, decide_true, decide_false, eq_self, true_and, and_assoc])
 | (refine go_some (fb155_0 ..) ?_)
 | ((with_reducible apply go_ld1 h))
 | ((with_reducible apply go_ldA h); (rfl))
 | ((with_reducible apply go_ldN h))
 | ((with_reducible apply go_st h); intro _ h)
 | ((with_reducible apply go_stA h); (rfl); (rfl); (first | rfl | simp [OneV.o]); intro _ h)
 | ((with_reducible apply go_stN h); (rfl); (first | rfl | simp [OneV.o]); intro _ h)
 | ((with_reducible apply go_box h); rfl; intro _ _ h)
 | ((with_reducible apply go_rd h); (rfl))
 | ((with_reducible apply go_rdN h); (rfl))
 | ((with_reducible apply go_rlen h); (rfl))
 | ((with_reducible apply go_lenL h))
 | ((with_reducible apply go_ix h); (omega))
 | ((with_reducible apply go_elN h); (case hi => omega))
 | ((with_reducible apply go_fa h); (omega); (omega))
 | ((with_reducible apply go_f1 h); (case hi => omega); (case hx => exact inferInstance))
 | ((with_reducible apply go_rf1 h); (case hi => omega); (case hx => exact inferInstance); (case hv => rfl))
 | ((with_reducible apply go_rel h); (case hi => omega); (case hv => rfl))
))
  refine eMakeMap_sat kH ctxE h fun ml w h => ?_
  obtain ⟨r1, _, _, ⟨e1, _⟩, _⟩ := map_iff.1 h
  refine eMakeMap_sat sgnV kH h fun mi w h => ?_
  obtain ⟨r2, _, _, ⟨e2, _⟩, _⟩ := map_iff.1 h
  subst e1 e2
  have close : ∀ q w', Sat w0 (Cl q #[ptr d, .int .i64 n, .int .i64 next, .map (some r1), .map (some r2)] 159 :: MapH sgnV kH (.map (some r2)) [] :: MapH kH ctxE (.map (some r1)) [] :: HeapH (ptr d) n [] :: L) w' → Sat w0 (HoldI (ptr q) n next n [] [] [] :: L) w' := by
    intro q w' h
    have h3 : Sat w0 (bag [] :: _) w' := bag_iff.2 h
    exact hold_iff.2 ⟨q, ptr d, .map (some r1), .map (some r2), rfl, h3.get (by (repeat (first | exact .done | (refine .pick (by repeat (first | exact .here | apply Fnt.there)) ?_) | refine .skip ?_)))⟩
  (repeat (first
 | (simp (disch := omega) only [evA, evB, bAdd_i64, bSub_i64, ptr, Nat.zero_add, Bool.not_true, Bool.not_false, Option.isNone_some, Option.isNone_none, Option.isSome_some, Option.isSome_none, decide_true, decide_false, eq_self, true_and, and_assoc])
 | (refine go_some (fb159_0_1_2_3_4 ..) ?_)
 | ((with_reducible apply go_ld1 h))
 | ((with_reducible apply go_ldA h); (rfl))
 | ((with_reducible apply go_ldN h))
 | ((with_reducible apply go_st h); intro _ h)
 | ((with_reducible apply go_stA h); (rfl); (rfl); (first | rfl | simp [OneV.o]); intro _ h)
 | ((with_reducible apply go_stN h); (rfl); (first | rfl | simp [OneV.o]); intro _ h)
 | ((with_reducible apply go_box h); rfl; intro _ _ h)
 | ((with_reducible apply go_rd h); (rfl))
 | ((with_reducible apply go_rdN h); (rfl))
 | ((with_reducible apply go_rlen h); (rfl))
 | ((with_reducible apply go_lenL h))
 | ((with_reducible apply go_ix h); (omega))
 | ((with_reducible apply go_elN h); (case hi => omega))
 | ((with_reducible apply go_fa h); (omega); (omega))
 | ((with_reducible apply go_f1 h); (case hi => omega); (case hx => exact inferInstance))
 | ((with_reducible apply go_rf1 h); (case hi => omega); (case hx => exact inferInstance); (case hv => rfl))
 | ((with_reducible apply go_rel h); (case hi => omega); (case hv => rfl))
))
  exact hK _ _ (close _ _ h)
theorem hnew_spec (h1 : 1 ≤ n) (h2 : n ≤ 65536) (h : Sat w0 L w) (hK : ∀ p w', Sat w0 (HoldI (ptr p) n 1 n [] [] [] :: L) w' → K (.tuple #[ptr p, .int .i64 0]) w') : callP G50 [.int .i64 n] w K := by
  refine c50 ?_
  unfold F50
  have e1 : decide (n < 1) = false := by simp; omega
  have e2 : decide (n > 65536) = false := by simp; omega
  (repeat (first
 | (simp (disch := omega) only [evA, evB, bAdd_i64, bSub_i64, ptr, Nat.zero_add, Bool.not_true, Bool.not_false, Option.isNone_some, Option.isNone_none, Option.isSome_some, Option.isSome_none, decide_true, decide_false, eq_self, true_and, and_assoc, e1, e2])
 | ((with_reducible apply go_ld1 h))
 | ((with_reducible apply go_ldA h); (rfl))
 | ((with_reducible apply go_ldN h))
 | ((with_reducible apply go_st h); intro _ h)
 | ((with_reducible apply go_stA h); (rfl); (rfl); (first | rfl | simp [OneV.o]); intro _ h)
 | ((with_reducible apply go_stN h); (rfl); (first | rfl | simp [OneV.o]); intro _ h)
 | ((with_reducible apply go_box h); rfl; intro _ _ h)
 | ((with_reducible apply go_rd h); (rfl))
 | ((with_reducible apply go_rdN h); (rfl))
 | ((with_reducible apply go_rlen h); (rfl))
 | ((with_reducible apply go_lenL h))
 | ((with_reducible apply go_ix h); (omega))
 | ((with_reducible apply go_elN h); (case hi => omega))
 | ((with_reducible apply go_fa h); (omega); (omega))
 | ((with_reducible apply go_f1 h); (case hi => omega); (case hx => exact inferInstance))
 | ((with_reducible apply go_rf1 h); (case hi => omega); (case hx => exact inferInstance); (case hv => rfl))
 | ((with_reducible apply go_rel h); (case hi => omega); (case hv => rfl))
))
  exact hempty_spec h1 h2 h fun p w h => hK p w h
end
end Go.Proofs.Gong

/- Ho4 -/
namespace Go.Proofs.Gong
open Go Go.Sx Go.Proofs
set_option maxRecDepth 100000
attribute [local irreducible] fBuild fLook fZero eqv bEqv Cl MapH LsH SlH ld1 ldN st callP eBox eAlloc lenM lenL eMapSet eDelete eAppend eBuildSl eRange eNext
def ctxN (ch : UInt8) : Ctx := ⟨0, 0, [ch], [], 0, ⟨[], [], [], 0, []⟩, []⟩
theorem okN_a : okC (ctxN 97) = true := by decide +kernel
theorem okN_b : okC (ctxN 98) = true := by decide +kernel
theorem fitsN (ch : UInt8) : (ctxN ch).fits := by unfold Ctx.fits Evt.fits ctxN; simp
section
variable {w0 w : World} {L : List HP} {K : Value → World → Prop}
theorem rdNil {α : Type} {f : α → List Value} {es : Nat} : RdL w0 L f es (.slice none 0 0) ([] : List α) := fun _ _ => .emp _ _
theorem works21_spec (h : Sat w0 L w) (hK : ∀ w', Sat w0 L w' → K (.bool true) w') : callP G21 [] w K := by
  refine c21 ?_
  unfold F21
  refine hnew_spec (n := 9) (by omega) (by omega) h fun p w h => ?_
  (repeat (first
 | (simp (disch := omega) only [evA, evB, bAdd_i64, bSub_i64, ptr, Nat.zero_add, Bool.not_true, Bool.not_false, Option.isNone_some, Option.isNone_none, Option.isSome_some, Option.isSome_none, decide_true, decide_false, eq_self, true_and, and_assoc])
 | (refine go_some (bEq_nilp up93 ..) ?_)
 | (refine go_some (fb41_2 ..) ?_)
 | ((with_reducible apply go_ld1 h))
 | ((with_reducible apply go_ldA h); (rfl))
 | ((with_reducible apply go_ldN h))
 | ((with_reducible apply go_st h); intro _ h)
 | ((with_reducible apply go_stA h); (rfl); (rfl); (first | rfl | simp [OneV.o]); intro _ h)
 | ((with_reducible apply go_stN h); (rfl); (first | rfl | simp [OneV.o]); intro _ h)
 | ((with_reducible apply go_box h); rfl; intro _ _ h)
 | ((with_reducible apply go_rd h); (rfl))
 | ((with_reducible apply go_rdN h); (rfl))
 | ((with_reducible apply go_rlen h); (rfl))
 | ((with_reducible apply go_lenL h))
 | ((with_reducible apply go_ix h); (omega))
 | ((with_reducible apply go_elN h); (case hi => omega))
 | ((with_reducible apply go_fa h); (omega); (omega))
 | ((with_reducible apply go_f1 h); (case hi => omega); (case hx => exact inferInstance))
 | ((with_reducible apply go_rf1 h); (case hi => omega); (case hx => exact inferInstance); (case hv => rfl))
 | ((with_reducible apply go_rel h); (case hi => omega); (case hv => rfl))
))
  have a1 : addC 9 [] [] (ctxN 97) = 0 := by unfold addC; rw [okN_a]; simp [aGet]
  refine hadd_spec (c := ctxN 97) (tv := .slice none 0 0) (n := 9) (next := 1) (hn := 9) (m := []) (I := []) (M := []) (fitsN 97) (by omega) rdNil h (fun hne => absurd a1 hne) fun _ s w h => ?_
  (repeat (first
 | (simp (disch := omega) only [evA, evB, bAdd_i64, bSub_i64, ptr, Nat.zero_add, Bool.not_true, Bool.not_false, Option.isNone_some, Option.isNone_none, Option.isSome_some, Option.isSome_none, decide_true, decide_false, eq_self, true_and, and_assoc])
 | (refine go_some (fb41_2 ..) ?_)
 | ((with_reducible apply go_ld1 h))
 | ((with_reducible apply go_ldA h); (rfl))
 | ((with_reducible apply go_ldN h))
 | ((with_reducible apply go_st h); intro _ h)
 | ((with_reducible apply go_stA h); (rfl); (rfl); (first | rfl | simp [OneV.o]); intro _ h)
 | ((with_reducible apply go_stN h); (rfl); (first | rfl | simp [OneV.o]); intro _ h)
 | ((with_reducible apply go_box h); rfl; intro _ _ h)
 | ((with_reducible apply go_rd h); (rfl))
 | ((with_reducible apply go_rdN h); (rfl))
 | ((with_reducible apply go_rlen h); (rfl))
 | ((with_reducible apply go_lenL h))
 | ((with_reducible apply go_ix h); (omega))
 | ((with_reducible apply go_elN h); (case hi => omega))
 | ((with_reducible apply go_fa h); (omega); (omega))
 | ((with_reducible apply go_f1 h); (case hi => omega); (case hx => exact inferInstance))
 | ((with_reducible apply go_rf1 h); (case hi => omega); (case hx => exact inferInstance); (case hv => rfl))
 | ((with_reducible apply go_rel h); (case hi => omega); (case hv => rfl))
))
  have a2 : ∀ x, addC 9 (aSet 1 x []) (aSet (sgnOf (ctxN 97)) 1 []) (ctxN 98) = 0 := by
    intro x; unfold addC; rw [okN_b]; simp [aGet, aSet, sgnOf, ctxN]
  refine hadd_spec (c := ctxN 98) (tv := .slice none 0 0) (n := 9) (next := 2) (hn := 9) (fitsN 98) (by omega) rdNil h (fun hne => absurd (a2 _) hne) fun _ s2 w h => ?_
  (repeat (first
 | (simp (disch := omega) only [evA, evB, bAdd_i64, bSub_i64, ptr, Nat.zero_add, Bool.not_true, Bool.not_false, Option.isNone_some, Option.isNone_none, Option.isSome_some, Option.isSome_none, decide_true, decide_false, eq_self, true_and, and_assoc])
 | (refine go_some (fb41_2 ..) ?_)
 | ((with_reducible apply go_ld1 h))
 | ((with_reducible apply go_ldA h); (rfl))
 | ((with_reducible apply go_ldN h))
 | ((with_reducible apply go_st h); intro _ h)
 | ((with_reducible apply go_stA h); (rfl); (rfl); (first | rfl | simp [OneV.o]); intro _ h)
 | ((with_reducible apply go_stN h); (rfl); (first | rfl | simp [OneV.o]); intro _ h)
 | ((with_reducible apply go_box h); rfl; intro _ _ h)
 | ((with_reducible apply go_rd h); (rfl))
 | ((with_reducible apply go_rdN h); (rfl))
 | ((with_reducible apply go_rlen h); (rfl))
 | ((with_reducible apply go_lenL h))
 | ((with_reducible apply go_ix h); (omega))
 | ((with_reducible apply go_elN h); (case hi => omega))
 | ((with_reducible apply go_fa h); (omega); (omega))
 | ((with_reducible apply go_f1 h); (case hi => omega); (case hx => exact inferInstance))
 | ((with_reducible apply go_rf1 h); (case hi => omega); (case hx => exact inferInstance); (case hv => rfl))
 | ((with_reducible apply go_rel h); (case hi => omega); (case hv => rfl))
))
  have a3 : ∀ x y, addC 9 (aSet 2 y (aSet 1 x [])) (aSet (sgnOf (ctxN 98)) 2 (aSet (sgnOf (ctxN 97)) 1 [])) (ctxN 97) = 6 := by
    intro x y; unfold addC; rw [okN_a]; simp [aGet, aSet, sgnOf, ctxN]
  refine hadd_spec (c := ctxN 97) (tv := .slice none 0 0) (n := 9) (next := 3) (hn := 9) (fitsN 97) (by omega) rdNil h (fun _ w h => ?_) (fun he => absurd (a3 _ _) (by rw [he]; decide))
  rw [a3]
  (repeat (first
 | (simp (disch := omega) only [evA, evB, bAdd_i64, bSub_i64, ptr, Nat.zero_add, Bool.not_true, Bool.not_false, Option.isNone_some, Option.isNone_none, Option.isSome_some, Option.isSome_none, decide_true, decide_false, eq_self, true_and, and_assoc])
 | ((with_reducible apply go_ld1 h))
 | ((with_reducible apply go_ldA h); (rfl))
 | ((with_reducible apply go_ldN h))
 | ((with_reducible apply go_st h); intro _ h)
 | ((with_reducible apply go_stA h); (rfl); (rfl); (first | rfl | simp [OneV.o]); intro _ h)
 | ((with_reducible apply go_stN h); (rfl); (first | rfl | simp [OneV.o]); intro _ h)
 | ((with_reducible apply go_box h); rfl; intro _ _ h)
 | ((with_reducible apply go_rd h); (rfl))
 | ((with_reducible apply go_rdN h); (rfl))
 | ((with_reducible apply go_rlen h); (rfl))
 | ((with_reducible apply go_lenL h))
 | ((with_reducible apply go_ix h); (omega))
 | ((with_reducible apply go_elN h); (case hi => omega))
 | ((with_reducible apply go_fa h); (omega); (omega))
 | ((with_reducible apply go_f1 h); (case hi => omega); (case hx => exact inferInstance))
 | ((with_reducible apply go_rf1 h); (case hi => omega); (case hx => exact inferInstance); (case hv => rfl))
 | ((with_reducible apply go_rel h); (case hi => omega); (case hv => rfl))
))
  refine hlen_spec (n := 9) (next := 3) (hn := 9) h ?_
  have hlen : ∀ x y : Ctx × Value, ((aSet 2 y (aSet 1 x []) : Held).length : Int) = 2 := by intro x y; simp [aSet]
  (repeat (first
 | (simp (disch := omega) only [evA, evB, bAdd_i64, bSub_i64, ptr, Nat.zero_add, Bool.not_true, Bool.not_false, Option.isNone_some, Option.isNone_none, Option.isSome_some, Option.isSome_none, decide_true, decide_false, eq_self, true_and, and_assoc, hlen])
 | ((with_reducible apply go_ld1 h))
 | ((with_reducible apply go_ldA h); (rfl))
 | ((with_reducible apply go_ldN h))
 | ((with_reducible apply go_st h); intro _ h)
 | ((with_reducible apply go_stA h); (rfl); (rfl); (first | rfl | simp [OneV.o]); intro _ h)
 | ((with_reducible apply go_stN h); (rfl); (first | rfl | simp [OneV.o]); intro _ h)
 | ((with_reducible apply go_box h); rfl; intro _ _ h)
 | ((with_reducible apply go_rd h); (rfl))
 | ((with_reducible apply go_rdN h); (rfl))
 | ((with_reducible apply go_rlen h); (rfl))
 | ((with_reducible apply go_lenL h))
 | ((with_reducible apply go_ix h); (omega))
 | ((with_reducible apply go_elN h); (case hi => omega))
 | ((with_reducible apply go_fa h); (omega); (omega))
 | ((with_reducible apply go_f1 h); (case hi => omega); (case hx => exact inferInstance))
 | ((with_reducible apply go_rf1 h); (case hi => omega); (case hx => exact inferInstance); (case hv => rfl))
 | ((with_reducible apply go_rel h); (case hi => omega); (case hv => rfl))
))
  exact hK _ h.drop
def smallC (c : Ctx) : Bool := decide ((c.node.length : Int) + c.key.length + c.e.node.length + c.e.cls.length + c.e.key.length + c.e.text.length < 3000) && decide ((c.times.length : Int) < 1100)
theorem small_spec {c : Ctx} {tv : Value} (hl : c.node.length ≤ 140737488351232 ∧ c.key.length ≤ 140737488351232 ∧ c.e.node.length ≤ 140737488351232 ∧ c.e.cls.length ≤ 140737488351232 ∧ c.e.key.length ≤ 140737488351232 ∧ c.e.text.length ≤ 140737488351232)
    (hr : RdL w0 L cI 1 tv c.times) (h : Sat w0 L w) (hK : ∀ w', Sat w0 L w' → K (.bool (smallC c)) w') : callP G20 [ctxV c tv] w K := by
  refine c20 ?_
  unfold F20
  have hlen := (hr _ h).len
  unfold smallC at hK
  (repeat (first
 | (simp (disch := omega) only [evA, evB, bAdd_i64, bSub_i64, ptr, Nat.zero_add, Bool.not_true, Bool.not_false, Option.isNone_some, Option.isNone_none, Option.isSome_some, Option.isSome_none, decide_true, decide_false, eq_self, true_and, and_assoc])
 | ((with_reducible apply go_ld1 h))
 | ((with_reducible apply go_ldA h); (rfl))
 | ((with_reducible apply go_ldN h))
 | ((with_reducible apply go_st h); intro _ h)
 | ((with_reducible apply go_stA h); (rfl); (rfl); (first | rfl | simp [OneV.o]); intro _ h)
 | ((with_reducible apply go_stN h); (rfl); (first | rfl | simp [OneV.o]); intro _ h)
 | ((with_reducible apply go_box h); rfl; intro _ _ h)
 | ((with_reducible apply go_rd h); (rfl))
 | ((with_reducible apply go_rdN h); (rfl))
 | ((with_reducible apply go_rlen h); (rfl))
 | ((with_reducible apply go_lenL h))
 | ((with_reducible apply go_ix h); (omega))
 | ((with_reducible apply go_elN h); (case hi => omega))
 | ((with_reducible apply go_fa h); (omega); (omega))
 | ((with_reducible apply go_f1 h); (case hi => omega); (case hx => exact inferInstance))
 | ((with_reducible apply go_rf1 h); (case hi => omega); (case hx => exact inferInstance); (case hv => rfl))
 | ((with_reducible apply go_rel h); (case hi => omega); (case hv => rfl))
))
  have := hK _ (h.get (by (repeat (first | exact .done | (refine .pick (by repeat (first | exact .here | apply Fnt.there)) ?_) | refine .skip ?_))))
  cases g : decide ((c.node.length : Int) + c.key.length + c.e.node.length + c.e.cls.length + c.e.key.length + c.e.text.length < 3000)
  · rw [g] at this
    (repeat (first
 | (simp (disch := omega) only [evA, evB, bAdd_i64, bSub_i64, ptr, Nat.zero_add, Bool.not_true, Bool.not_false, Option.isNone_some, Option.isNone_none, Option.isSome_some, Option.isSome_none, decide_true, decide_false, eq_self, true_and, and_assoc])
 | ((with_reducible apply go_ld1 h))
 | ((with_reducible apply go_ldA h); (rfl))
 | ((with_reducible apply go_ldN h))
 | ((with_reducible apply go_st h); intro _ h)
 | ((with_reducible apply go_stA h); (rfl); (rfl); (first | rfl | simp [OneV.o]); intro _ h)
 | ((with_reducible apply go_stN h); (rfl); (first | rfl | simp [OneV.o]); intro _ h)
 | ((with_reducible apply go_box h); rfl; intro _ _ h)
 | ((with_reducible apply go_rd h); (rfl))
 | ((with_reducible apply go_rdN h); (rfl))
 | ((with_reducible apply go_rlen h); (rfl))
 | ((with_reducible apply go_lenL h))
 | ((with_reducible apply go_ix h); (omega))
 | ((with_reducible apply go_elN h); (case hi => omega))
 | ((with_reducible apply go_fa h); (omega); (omega))
 | ((with_reducible apply go_f1 h); (case hi => omega); (case hx => exact inferInstance))
 | ((with_reducible apply go_rf1 h); (case hi => omega); (case hx => exact inferInstance); (case hv => rfl))
 | ((with_reducible apply go_rel h); (case hi => omega); (case hv => rfl))
))
    exact this
  · rw [g] at this
    (repeat (first
 | (simp (disch := omega) only [evA, evB, bAdd_i64, bSub_i64, ptr, Nat.zero_add, Bool.not_true, Bool.not_false, Option.isNone_some, Option.isNone_none, Option.isSome_some, Option.isSome_none, decide_true, decide_false, eq_self, true_and, and_assoc, hlen])
 | ((with_reducible apply go_ld1 h))
 | ((with_reducible apply go_ldA h); (rfl))
 | ((with_reducible apply go_ldN h))
 | ((with_reducible apply go_st h); intro _ h)
 | ((with_reducible apply go_stA h); (rfl); (rfl); (first | rfl | simp [OneV.o]); intro _ h)
 | ((with_reducible apply go_stN h); (rfl); (first | rfl | simp [OneV.o]); intro _ h)
 | ((with_reducible apply go_box h); rfl; intro _ _ h)
 | ((with_reducible apply go_rd h); (rfl))
 | ((with_reducible apply go_rdN h); (rfl))
 | ((with_reducible apply go_rlen h); (rfl))
 | ((with_reducible apply go_lenL h))
 | ((with_reducible apply go_ix h); (omega))
 | ((with_reducible apply go_elN h); (case hi => omega))
 | ((with_reducible apply go_fa h); (omega); (omega))
 | ((with_reducible apply go_f1 h); (case hi => omega); (case hx => exact inferInstance))
 | ((with_reducible apply go_rf1 h); (case hi => omega); (case hx => exact inferInstance); (case hv => rfl))
 | ((with_reducible apply go_rel h); (case hi => omega); (case hv => rfl))
))
    exact this
theorem small_fits {c : Ctx} (h : smallC c = true) : c.fits ∧ c.times.length ≤ 1000000 := by
  unfold smallC at h
  simp only [Bool.and_eq_true, decide_eq_true_eq] at h
  unfold Ctx.fits Evt.fits
  omega
theorem holdChecks_spec {a b : Ctx} {tv tv' : Value} (hl : a.node.length ≤ 140737488351232 ∧ a.key.length ≤ 140737488351232 ∧ a.e.node.length ≤ 140737488351232 ∧ a.e.cls.length ≤ 140737488351232 ∧ a.e.key.length ≤ 140737488351232 ∧ a.e.text.length ≤ 140737488351232)
    (hl' : b.node.length ≤ 140737488351232 ∧ b.key.length ≤ 140737488351232 ∧ b.e.node.length ≤ 140737488351232 ∧ b.e.cls.length ≤ 140737488351232 ∧ b.e.key.length ≤ 140737488351232 ∧ b.e.text.length ≤ 140737488351232)
    (hr : RdL w0 L cI 1 tv a.times) (hr' : RdL w0 L cI 1 tv' b.times) (ho : OneV tv) (ho' : OneV tv') (h : Sat w0 L w) (hK : ∀ w', Sat w0 L w' → K (.bool true) w') : callP G5 [ctxV a tv, ctxV b tv'] w K := by
  refine c5 ?_
  unfold F5
  (repeat (first
 | (simp (disch := omega) only [evA, evB, bAdd_i64, bSub_i64, ptr, Nat.zero_add, Bool.not_true, Bool.not_false, Option.isNone_some, Option.isNone_none, Option.isSome_some, Option.isSome_none, decide_true, decide_false, eq_self, true_and, and_assoc])
 | ((with_reducible apply go_ld1 h))
 | ((with_reducible apply go_ldA h); (rfl))
 | ((with_reducible apply go_ldN h))
 | ((with_reducible apply go_st h); intro _ h)
 | ((with_reducible apply go_stA h); (rfl); (rfl); (first | rfl | simp [OneV.o]); intro _ h)
 | ((with_reducible apply go_stN h); (rfl); (first | rfl | simp [OneV.o]); intro _ h)
 | ((with_reducible apply go_box h); rfl; intro _ _ h)
 | ((with_reducible apply go_rd h); (rfl))
 | ((with_reducible apply go_rdN h); (rfl))
 | ((with_reducible apply go_rlen h); (rfl))
 | ((with_reducible apply go_lenL h))
 | ((with_reducible apply go_ix h); (omega))
 | ((with_reducible apply go_elN h); (case hi => omega))
 | ((with_reducible apply go_fa h); (omega); (omega))
 | ((with_reducible apply go_f1 h); (case hi => omega); (case hx => exact inferInstance))
 | ((with_reducible apply go_rf1 h); (case hi => omega); (case hx => exact inferInstance); (case hv => rfl))
 | ((with_reducible apply go_rel h); (case hi => omega); (case hv => rfl))
))
  refine small_spec (c := a) hl hr.cons.cons h fun w h => ?_
  cases g1 : smallC a
  · (repeat (first
 | (simp (disch := omega) only [evA, evB, bAdd_i64, bSub_i64, ptr, Nat.zero_add, Bool.not_true, Bool.not_false, Option.isNone_some, Option.isNone_none, Option.isSome_some, Option.isSome_none, decide_true, decide_false, eq_self, true_and, and_assoc])
 | ((with_reducible apply go_ld1 h))
 | ((with_reducible apply go_ldA h); (rfl))
 | ((with_reducible apply go_ldN h))
 | ((with_reducible apply go_st h); intro _ h)
 | ((with_reducible apply go_stA h); (rfl); (rfl); (first | rfl | simp [OneV.o]); intro _ h)
 | ((with_reducible apply go_stN h); (rfl); (first | rfl | simp [OneV.o]); intro _ h)
 | ((with_reducible apply go_box h); rfl; intro _ _ h)
 | ((with_reducible apply go_rd h); (rfl))
 | ((with_reducible apply go_rdN h); (rfl))
 | ((with_reducible apply go_rlen h); (rfl))
 | ((with_reducible apply go_lenL h))
 | ((with_reducible apply go_ix h); (omega))
 | ((with_reducible apply go_elN h); (case hi => omega))
 | ((with_reducible apply go_fa h); (omega); (omega))
 | ((with_reducible apply go_f1 h); (case hi => omega); (case hx => exact inferInstance))
 | ((with_reducible apply go_rf1 h); (case hi => omega); (case hx => exact inferInstance); (case hv => rfl))
 | ((with_reducible apply go_rel h); (case hi => omega); (case hv => rfl))
))
    refine works21_spec h fun w h => ?_
    exact hK _ (h.get (by (repeat (first | exact .done | (refine .pick (by repeat (first | exact .here | apply Fnt.there)) ?_) | refine .skip ?_))))
  (repeat (first
 | (simp (disch := omega) only [evA, evB, bAdd_i64, bSub_i64, ptr, Nat.zero_add, Bool.not_true, Bool.not_false, Option.isNone_some, Option.isNone_none, Option.isSome_some, Option.isSome_none, decide_true, decide_false, eq_self, true_and, and_assoc])
 | ((with_reducible apply go_ld1 h))
 | ((with_reducible apply go_ldA h); (rfl))
 | ((with_reducible apply go_ldN h))
 | ((with_reducible apply go_st h); intro _ h)
 | ((with_reducible apply go_stA h); (rfl); (rfl); (first | rfl | simp [OneV.o]); intro _ h)
 | ((with_reducible apply go_stN h); (rfl); (first | rfl | simp [OneV.o]); intro _ h)
 | ((with_reducible apply go_box h); rfl; intro _ _ h)
 | ((with_reducible apply go_rd h); (rfl))
 | ((with_reducible apply go_rdN h); (rfl))
 | ((with_reducible apply go_rlen h); (rfl))
 | ((with_reducible apply go_lenL h))
 | ((with_reducible apply go_ix h); (omega))
 | ((with_reducible apply go_elN h); (case hi => omega))
 | ((with_reducible apply go_fa h); (omega); (omega))
 | ((with_reducible apply go_f1 h); (case hi => omega); (case hx => exact inferInstance))
 | ((with_reducible apply go_rf1 h); (case hi => omega); (case hx => exact inferInstance); (case hv => rfl))
 | ((with_reducible apply go_rel h); (case hi => omega); (case hv => rfl))
))
  refine small_spec (c := b) hl' hr'.cons.cons h fun w h => ?_
  cases g2 : smallC b
  · (repeat (first
 | (simp (disch := omega) only [evA, evB, bAdd_i64, bSub_i64, ptr, Nat.zero_add, Bool.not_true, Bool.not_false, Option.isNone_some, Option.isNone_none, Option.isSome_some, Option.isSome_none, decide_true, decide_false, eq_self, true_and, and_assoc])
 | ((with_reducible apply go_ld1 h))
 | ((with_reducible apply go_ldA h); (rfl))
 | ((with_reducible apply go_ldN h))
 | ((with_reducible apply go_st h); intro _ h)
 | ((with_reducible apply go_stA h); (rfl); (rfl); (first | rfl | simp [OneV.o]); intro _ h)
 | ((with_reducible apply go_stN h); (rfl); (first | rfl | simp [OneV.o]); intro _ h)
 | ((with_reducible apply go_box h); rfl; intro _ _ h)
 | ((with_reducible apply go_rd h); (rfl))
 | ((with_reducible apply go_rdN h); (rfl))
 | ((with_reducible apply go_rlen h); (rfl))
 | ((with_reducible apply go_lenL h))
 | ((with_reducible apply go_ix h); (omega))
 | ((with_reducible apply go_elN h); (case hi => omega))
 | ((with_reducible apply go_fa h); (omega); (omega))
 | ((with_reducible apply go_f1 h); (case hi => omega); (case hx => exact inferInstance))
 | ((with_reducible apply go_rf1 h); (case hi => omega); (case hx => exact inferInstance); (case hv => rfl))
 | ((with_reducible apply go_rel h); (case hi => omega); (case hv => rfl))
))
    refine works21_spec h fun w h => ?_
    exact hK _ (h.get (by (repeat (first | exact .done | (refine .pick (by repeat (first | exact .here | apply Fnt.there)) ?_) | refine .skip ?_))))
  obtain ⟨fa, la⟩ := small_fits g1
  (repeat (first
 | (simp (disch := omega) only [evA, evB, bAdd_i64, bSub_i64, ptr, Nat.zero_add, Bool.not_true, Bool.not_false, Option.isNone_some, Option.isNone_none, Option.isSome_some, Option.isSome_none, decide_true, decide_false, eq_self, true_and, and_assoc])
 | ((with_reducible apply go_ld1 h))
 | ((with_reducible apply go_ldA h); (rfl))
 | ((with_reducible apply go_ldN h))
 | ((with_reducible apply go_st h); intro _ h)
 | ((with_reducible apply go_stA h); (rfl); (rfl); (first | rfl | simp [OneV.o]); intro _ h)
 | ((with_reducible apply go_stN h); (rfl); (first | rfl | simp [OneV.o]); intro _ h)
 | ((with_reducible apply go_box h); rfl; intro _ _ h)
 | ((with_reducible apply go_rd h); (rfl))
 | ((with_reducible apply go_rdN h); (rfl))
 | ((with_reducible apply go_rlen h); (rfl))
 | ((with_reducible apply go_lenL h))
 | ((with_reducible apply go_ix h); (omega))
 | ((with_reducible apply go_elN h); (case hi => omega))
 | ((with_reducible apply go_fa h); (omega); (omega))
 | ((with_reducible apply go_f1 h); (case hi => omega); (case hx => exact inferInstance))
 | ((with_reducible apply go_rf1 h); (case hi => omega); (case hx => exact inferInstance); (case hv => rfl))
 | ((with_reducible apply go_rel h); (case hi => omega); (case hv => rfl))
))
  refine hcheck_spec (c := a) fa hr.cons.cons h.drew fun w h => ?_
  (repeat (first
 | (simp (disch := omega) only [evA, evB, bAdd_i64, bSub_i64, ptr, Nat.zero_add, Bool.not_true, Bool.not_false, Option.isNone_some, Option.isNone_none, Option.isSome_some, Option.isSome_none, decide_true, decide_false, eq_self, true_and, and_assoc])
 | ((with_reducible apply go_ld1 h))
 | ((with_reducible apply go_ldA h); (rfl))
 | ((with_reducible apply go_ldN h))
 | ((with_reducible apply go_st h); intro _ h)
 | ((with_reducible apply go_stA h); (rfl); (rfl); (first | rfl | simp [OneV.o]); intro _ h)
 | ((with_reducible apply go_stN h); (rfl); (first | rfl | simp [OneV.o]); intro _ h)
 | ((with_reducible apply go_box h); rfl; intro _ _ h)
 | ((with_reducible apply go_rd h); (rfl))
 | ((with_reducible apply go_rdN h); (rfl))
 | ((with_reducible apply go_rlen h); (rfl))
 | ((with_reducible apply go_lenL h))
 | ((with_reducible apply go_ix h); (omega))
 | ((with_reducible apply go_elN h); (case hi => omega))
 | ((with_reducible apply go_fa h); (omega); (omega))
 | ((with_reducible apply go_f1 h); (case hi => omega); (case hx => exact inferInstance))
 | ((with_reducible apply go_rf1 h); (case hi => omega); (case hx => exact inferInstance); (case hv => rfl))
 | ((with_reducible apply go_rel h); (case hi => omega); (case hv => rfl))
))
  refine fhcheck_spec (c := a) fa hr.cons.cons h fun w h => ?_
  (repeat (first
 | (simp (disch := omega) only [evA, evB, bAdd_i64, bSub_i64, ptr, Nat.zero_add, Bool.not_true, Bool.not_false, Option.isNone_some, Option.isNone_none, Option.isSome_some, Option.isSome_none, decide_true, decide_false, eq_self, true_and, and_assoc])
 | ((with_reducible apply go_ld1 h))
 | ((with_reducible apply go_ldA h); (rfl))
 | ((with_reducible apply go_ldN h))
 | ((with_reducible apply go_st h); intro _ h)
 | ((with_reducible apply go_stA h); (rfl); (rfl); (first | rfl | simp [OneV.o]); intro _ h)
 | ((with_reducible apply go_stN h); (rfl); (first | rfl | simp [OneV.o]); intro _ h)
 | ((with_reducible apply go_box h); rfl; intro _ _ h)
 | ((with_reducible apply go_rd h); (rfl))
 | ((with_reducible apply go_rdN h); (rfl))
 | ((with_reducible apply go_rlen h); (rfl))
 | ((with_reducible apply go_lenL h))
 | ((with_reducible apply go_ix h); (omega))
 | ((with_reducible apply go_elN h); (case hi => omega))
 | ((with_reducible apply go_fa h); (omega); (omega))
 | ((with_reducible apply go_f1 h); (case hi => omega); (case hx => exact inferInstance))
 | ((with_reducible apply go_rf1 h); (case hi => omega); (case hx => exact inferInstance); (case hv => rfl))
 | ((with_reducible apply go_rel h); (case hi => omega); (case hv => rfl))
))
  refine same_spec (a := a) (b := b) la hr.cons.cons hr'.cons.cons h fun w h => ?_
  (repeat (first
 | (simp (disch := omega) only [evA, evB, bAdd_i64, bSub_i64, ptr, Nat.zero_add, Bool.not_true, Bool.not_false, Option.isNone_some, Option.isNone_none, Option.isSome_some, Option.isSome_none, decide_true, decide_false, eq_self, true_and, and_assoc])
 | ((with_reducible apply go_ld1 h))
 | ((with_reducible apply go_ldA h); (rfl))
 | ((with_reducible apply go_ldN h))
 | ((with_reducible apply go_st h); intro _ h)
 | ((with_reducible apply go_stA h); (rfl); (rfl); (first | rfl | simp [OneV.o]); intro _ h)
 | ((with_reducible apply go_stN h); (rfl); (first | rfl | simp [OneV.o]); intro _ h)
 | ((with_reducible apply go_box h); rfl; intro _ _ h)
 | ((with_reducible apply go_rd h); (rfl))
 | ((with_reducible apply go_rdN h); (rfl))
 | ((with_reducible apply go_rlen h); (rfl))
 | ((with_reducible apply go_lenL h))
 | ((with_reducible apply go_ix h); (omega))
 | ((with_reducible apply go_elN h); (case hi => omega))
 | ((with_reducible apply go_fa h); (omega); (omega))
 | ((with_reducible apply go_f1 h); (case hi => omega); (case hx => exact inferInstance))
 | ((with_reducible apply go_rf1 h); (case hi => omega); (case hx => exact inferInstance); (case hv => rfl))
 | ((with_reducible apply go_rel h); (case hi => omega); (case hv => rfl))
))
  refine fsame_spec (a := a) (b := b) la hr.cons.cons hr'.cons.cons h fun w h => ?_
  have eqb : ∀ (x y : Operand) (d : Bool), bEq Try.prog 4 x y (.bool d) (.bool d) = some (.bool true) := fun x y d => by rw [bEq_bool ub4]; simp
  (repeat (first
 | (simp (disch := omega) only [evA, evB, bAdd_i64, bSub_i64, ptr, Nat.zero_add, Bool.not_true, Bool.not_false, Option.isNone_some, Option.isNone_none, Option.isSome_some, Option.isSome_none, decide_true, decide_false, eq_self, true_and, and_assoc, eqb])
 | ((with_reducible apply go_ld1 h))
 | ((with_reducible apply go_ldA h); (rfl))
 | ((with_reducible apply go_ldN h))
 | ((with_reducible apply go_st h); intro _ h)
 | ((with_reducible apply go_stA h); (rfl); (rfl); (first | rfl | simp [OneV.o]); intro _ h)
 | ((with_reducible apply go_stN h); (rfl); (first | rfl | simp [OneV.o]); intro _ h)
 | ((with_reducible apply go_box h); rfl; intro _ _ h)
 | ((with_reducible apply go_rd h); (rfl))
 | ((with_reducible apply go_rdN h); (rfl))
 | ((with_reducible apply go_rlen h); (rfl))
 | ((with_reducible apply go_lenL h))
 | ((with_reducible apply go_ix h); (omega))
 | ((with_reducible apply go_elN h); (case hi => omega))
 | ((with_reducible apply go_fa h); (omega); (omega))
 | ((with_reducible apply go_f1 h); (case hi => omega); (case hx => exact inferInstance))
 | ((with_reducible apply go_rf1 h); (case hi => omega); (case hx => exact inferInstance); (case hv => rfl))
 | ((with_reducible apply go_rel h); (case hi => omega); (case hv => rfl))
))
  refine same_spec (a := a) (b := a) la hr.cons.cons hr.cons.cons h fun w h => ?_
  rw [decide_eq_true rfl]
  (repeat (first
 | (simp (disch := omega) only [evA, evB, bAdd_i64, bSub_i64, ptr, Nat.zero_add, Bool.not_true, Bool.not_false, Option.isNone_some, Option.isNone_none, Option.isSome_some, Option.isSome_none, decide_true, decide_false, eq_self, true_and, and_assoc])
 | ((with_reducible apply go_ld1 h))
 | ((with_reducible apply go_ldA h); (rfl))
 | ((with_reducible apply go_ldN h))
 | ((with_reducible apply go_st h); intro _ h)
 | ((with_reducible apply go_stA h); (rfl); (rfl); (first | rfl | simp [OneV.o]); intro _ h)
 | ((with_reducible apply go_stN h); (rfl); (first | rfl | simp [OneV.o]); intro _ h)
 | ((with_reducible apply go_box h); rfl; intro _ _ h)
 | ((with_reducible apply go_rd h); (rfl))
 | ((with_reducible apply go_rdN h); (rfl))
 | ((with_reducible apply go_rlen h); (rfl))
 | ((with_reducible apply go_lenL h))
 | ((with_reducible apply go_ix h); (omega))
 | ((with_reducible apply go_elN h); (case hi => omega))
 | ((with_reducible apply go_fa h); (omega); (omega))
 | ((with_reducible apply go_f1 h); (case hi => omega); (case hx => exact inferInstance))
 | ((with_reducible apply go_rf1 h); (case hi => omega); (case hx => exact inferInstance); (case hv => rfl))
 | ((with_reducible apply go_rel h); (case hi => omega); (case hv => rfl))
))
  refine works21_spec h fun w h => ?_
  (repeat (first
 | (simp (disch := omega) only [evA, evB, bAdd_i64, bSub_i64, ptr, Nat.zero_add, Bool.not_true, Bool.not_false, Option.isNone_some, Option.isNone_none, Option.isSome_some, Option.isSome_none, decide_true, decide_false, eq_self, true_and, and_assoc])
 | ((with_reducible apply go_ld1 h))
 | ((with_reducible apply go_ldA h); (rfl))
 | ((with_reducible apply go_ldN h))
 | ((with_reducible apply go_st h); intro _ h)
 | ((with_reducible apply go_stA h); (rfl); (rfl); (first | rfl | simp [OneV.o]); intro _ h)
 | ((with_reducible apply go_stN h); (rfl); (first | rfl | simp [OneV.o]); intro _ h)
 | ((with_reducible apply go_box h); rfl; intro _ _ h)
 | ((with_reducible apply go_rd h); (rfl))
 | ((with_reducible apply go_rdN h); (rfl))
 | ((with_reducible apply go_rlen h); (rfl))
 | ((with_reducible apply go_lenL h))
 | ((with_reducible apply go_ix h); (omega))
 | ((with_reducible apply go_elN h); (case hi => omega))
 | ((with_reducible apply go_fa h); (omega); (omega))
 | ((with_reducible apply go_f1 h); (case hi => omega); (case hx => exact inferInstance))
 | ((with_reducible apply go_rf1 h); (case hi => omega); (case hx => exact inferInstance); (case hv => rfl))
 | ((with_reducible apply go_rel h); (case hi => omega); (case hv => rfl))
))
  exact hK _ (h.get (by (repeat (first | exact .done | (refine .pick (by repeat (first | exact .here | apply Fnt.there)) ?_) | refine .skip ?_))))
end
def ckCtx : List CK2 := [.int .i64, .int .i64, .str, .str, .int .i64, .str, .str, .str, .int .i64, .str, .sl 1 [.int .i64]]
theorem fit_int1 {W : World} {B : Nat} {c : List Value} (h : FitL2 W B [.int .i64] c) : ∃ n : Int, c = cI n ∧ True := by
  obtain ⟨n, vs, rfl, _, h2⟩ := fitL2_int h
  rw [fitL2_nil h2]; exact ⟨n, rfl, trivial⟩
theorem fit_ctx {W : World} {B : Nat} {cs : List Value} (h : FitL2 W B ckCtx cs) : ∃ (c : Ctx) (tv : Value), cs = cCtx c tv ∧ (c.node.length ≤ B ∧ c.key.length ≤ B ∧ c.e.node.length ≤ B ∧ c.e.cls.length ≤ B ∧ c.e.key.length ≤ B ∧ c.e.text.length ≤ B) ∧ Rd W 1 tv c.times.length (c.times.flatMap cI) := by
  unfold ckCtx at h
  obtain ⟨id, _, rfl, _, g0⟩ := fitL2_int h
  obtain ⟨wa, _, rfl, _, g1⟩ := fitL2_int g0
  obtain ⟨node, _, rfl, h1, g2⟩ := fitL2_str g1
  obtain ⟨key, _, rfl, h2, g3⟩ := fitL2_str g2
  obtain ⟨t, _, rfl, _, g4⟩ := fitL2_int g3
  obtain ⟨en, _, rfl, h3, g5⟩ := fitL2_str g4
  obtain ⟨ec, _, rfl, h4, g6⟩ := fitL2_str g5
  obtain ⟨ek, _, rfl, h5, g7⟩ := fitL2_str g6
  obtain ⟨el, _, rfl, _, g8⟩ := fitL2_int g7
  obtain ⟨et, _, rfl, h6, g9⟩ := fitL2_str g8
  obtain ⟨tv, _, rfl, ⟨n, ds, rd, hn, hd⟩, g10⟩ := fitL2_sl g9
  obtain rfl := fitL2_nil g10
  obtain ⟨l, rfl, rfl, _⟩ := fit_list2 (fun c h => fit_int1 h) n ds rd.length hd
  exact ⟨⟨id, wa, node, key, t, ⟨en, ec, ek, el, et⟩, l⟩, tv, rfl, ⟨h1, h2, h3, h4, h5, h6⟩, rd⟩
theorem lawHoldChecks {W : World} {cs cs' : List Value} (hf : FitL2 W 140737488351232 ckCtx cs) (hf' : FitL2 W 140737488351232 ckCtx cs') : callP G5 [.agg cs.toArray, .agg cs'.toArray] W fun v w' => v = .bool true ∧ Sat W [] w' := by
  obtain ⟨a, tv, rfl, hl, rd⟩ := fit_ctx hf
  obtain ⟨b, tv', rfl, hl', rd'⟩ := fit_ctx hf'
  exact holdChecks_spec hl hl' (.of_arg rd) (.of_arg rd') rd.one rd'.one (Sat.start W) fun w' h => ⟨rfl, h⟩
end Go.Proofs.Gong

/- Ho5 -/
namespace Go.Proofs.Gong
open Go Go.Sx Go.Proofs
set_option maxRecDepth 100000
/-! a hold, told by the list of its contexts: plainly -/
section
variable {κ ν : Type} [DecidableEq κ] {k : κ} {x : ν} {m : List (κ × ν)}
theorem aGet_none {k : κ} : ∀ {m : List (κ × ν)}, aGet k m = none → ∀ y, (k, y) ∉ m
  | [], _, _, h => by simp at h
  | z :: r, h, y, hm => by
    unfold aGet at h
    by_cases hk : k = z.1
    · simp [hk] at h
    · simp only [hk, if_false] at h
      rcases List.mem_cons.1 hm with rfl | hm
      · exact hk rfl
      · exact aGet_none h y hm
theorem aGet_none_of {k : κ} {m : List (κ × ν)} (h : ∀ y, (k, y) ∉ m) : aGet k m = none := by
  cases hg : aGet k m with
  | none => rfl
  | some y => exact absurd (aGet_mem hg) (h y)
theorem aSet_new {k : κ} {x : ν} : ∀ {m : List (κ × ν)}, aGet k m = none → aSet k x m = m ++ [(k, x)]
  | [], _ => rfl
  | z :: r, h => by
    unfold aGet at h
    by_cases hk : k = z.1
    · simp [hk] at h
    · simp only [hk, if_false] at h
      simp [aSet, hk, aSet_new h]
theorem aDel_perm {k : κ} {x : ν} : ∀ {m : List (κ × ν)}, aGet k m = some x → ((k, x) :: aDel k m).Perm m
  | [], h => by simp [aGet] at h
  | z :: r, h => by
    unfold aGet at h
    by_cases hk : k = z.1
    · simp only [hk, if_true, Option.some.injEq] at h
      subst h
      simp [aDel, hk]
    · simp only [hk, if_false] at h
      simp only [aDel, hk, if_false]
      exact (List.Perm.swap _ _ _).trans ((aDel_perm h).cons z)
theorem aSet_perm {k : κ} {x y : ν} : ∀ {m : List (κ × ν)}, aGet k m = some y → (aSet k x m).Perm ((k, x) :: aDel k m)
  | [], h => by simp [aGet] at h
  | z :: r, h => by
    unfold aGet at h
    by_cases hk : k = z.1
    · simp [aSet, aDel, hk]
    · simp only [hk, if_false] at h
      simp only [aDel, aSet, hk, if_false]
      exact ((aSet_perm h).cons z).trans (List.Perm.swap _ _ _)
theorem aSet_id {k : κ} {x : ν} : ∀ {m : List (κ × ν)}, aGet k m = some x → aSet k x m = m
  | [], h => by simp [aGet] at h
  | z :: r, h => by
    unfold aGet at h
    by_cases hk : k = z.1
    · simp only [hk, if_true, Option.some.injEq] at h
      subst h
      simp [aSet, hk]
    · simp only [hk, if_false] at h
      simp [aSet, hk, aSet_id h]
end
structure HInv (n next hn : Int) (m : Held) (I : List (Sgn × Int)) (M : List It) (cs : List Ctx) : Prop where
  pm : (m.map fun x => x.2.1).Perm cs
  key : ∀ x ∈ m, x.1 = x.2.1.id
  asc : cs.Pairwise fun a b => a.id < b.id
  pI : I.Perm (cs.map fun c => (sgnOf c, c.id))
  sg : cs.Pairwise fun a b => sgnOf a ≠ sgnOf b
  pM : M.Perm (cs.map fun c => (c.id, c.at'))
  aM : Asc M
  bd : (cs.length : Int) ≤ n ∧ 1 ≤ n ∧ n ≤ hn ∧ hn ≤ 65536
  ok : ∀ c ∈ cs, okC c = true ∧ c.fits ∧ 1 ≤ c.id ∧ c.id < next
def turnL (c : Ctx) (cs : List Ctx) : List Ctx := cs.map fun d => if d.id = c.id then c else d
def dropL (id : Int) (cs : List Ctx) : List Ctx := cs.filter fun d => decide (d.id ≠ id)
def FirstC (c : Ctx) (cs : List Ctx) : Prop := c ∈ cs ∧ ∀ d ∈ cs, itLt (d.id, d.at') (c.id, c.at') = false
section
variable {n next hn : Int} {m : Held} {I : List (Sgn × Int)} {M : List It} {cs : List Ctx} {c d : Ctx} {s : Value}
theorem asc_split (h : cs.Pairwise fun a b => a.id < b.id) (hc : c ∈ cs) : ∃ l r, cs = l ++ c :: r ∧ (∀ d ∈ l, d.id ≠ c.id) ∧ (∀ d ∈ r, d.id ≠ c.id) := by
  obtain ⟨l, r, rfl⟩ := List.append_of_mem hc
  rw [List.pairwise_append] at h
  obtain ⟨_, h2, h3⟩ := h
  refine ⟨l, r, rfl, fun d hd e => ?_, fun d hd e => ?_⟩
  · have := h3 d hd c (by simp); omega
  · have := (List.pairwise_cons.1 h2).1 d hd; omega
theorem dropL_split {l r : List Ctx} (h1 : ∀ d ∈ l, d.id ≠ c.id) (h2 : ∀ d ∈ r, d.id ≠ c.id) : dropL c.id (l ++ c :: r) = l ++ r := by
  unfold dropL
  rw [List.filter_append, List.filter_cons, List.filter_eq_self.2 (fun d hd => by simpa using h1 d hd), List.filter_eq_self.2 (fun d hd => by simpa using h2 d hd)]
  simp
theorem turnL_split {l r : List Ctx} {b : Ctx} (e : b.id = c.id) (h1 : ∀ d ∈ l, d.id ≠ c.id) (h2 : ∀ d ∈ r, d.id ≠ c.id) : turnL b (l ++ c :: r) = l ++ b :: r := by
  unfold turnL
  rw [List.map_append, List.map_cons]
  congr 1
  · conv => rhs; rw [← List.map_id l]
    exact List.map_congr_left fun d hd => by rw [if_neg (by rw [e]; exact h1 d hd)]; rfl
  · rw [if_pos e.symm]
    congr 1
    conv => rhs; rw [← List.map_id r]
    exact List.map_congr_left fun d hd => by rw [if_neg (by rw [e]; exact h2 d hd)]; rfl
theorem asc_eq (h : cs.Pairwise fun a b => a.id < b.id) (hc : c ∈ cs) (hd : d ∈ cs) (e : c.id = d.id) : c = d := by
  obtain ⟨l, r, rfl, h1, h2⟩ := asc_split h hc
  rcases List.mem_append.1 hd with g | g
  · exact absurd e.symm (h1 d g)
  · rcases List.mem_cons.1 g with rfl | g
    · rfl
    · exact absurd e.symm (h2 d g)
theorem sg_eq (h : cs.Pairwise fun a b => sgnOf a ≠ sgnOf b) (hc : c ∈ cs) (hd : d ∈ cs) (e : sgnOf c = sgnOf d) : c = d := by
  obtain ⟨l, r, rfl⟩ := List.append_of_mem hc
  rw [List.pairwise_append] at h
  obtain ⟨_, h2, h3⟩ := h
  rcases List.mem_append.1 hd with g | g
  · exact absurd e.symm (h3 d g c (by simp))
  · rcases List.mem_cons.1 g with rfl | g
    · rfl
    · exact absurd e ((List.pairwise_cons.1 h2).1 d g)
variable (H : HInv n next hn m I M cs)
include H
theorem HInv.len : m.length = cs.length := by
  have := H.pm.length_eq; simpa using this
theorem HInv.mem {k : Int} (hg : aGet k m = some (c, s)) : c ∈ cs ∧ c.id = k := by
  have hm := aGet_mem hg
  refine ⟨H.pm.mem_iff.1 (List.mem_map.2 ⟨_, hm, rfl⟩), ?_⟩
  exact (H.key _ hm).symm
theorem HInv.keys : (m.map Prod.fst).Nodup := by
  have e : m.map Prod.fst = (m.map fun x => x.2.1).map (·.id) := by
    rw [List.map_map]
    exact List.map_congr_left fun x hx => H.key x hx
  rw [e]
  refine ((H.pm.map (·.id)).nodup_iff).2 ?_
  exact List.pairwise_map.2 (H.asc.imp fun h e => by omega)
theorem HInv.get (hc : c ∈ cs) : ∃ s, aGet c.id m = some (c, s) := by
  obtain ⟨x, hx, rfl⟩ := List.mem_map.1 (H.pm.mem_iff.2 hc)
  refine ⟨x.2.2, mem_aGet H.keys ?_⟩
  have := H.key x hx
  rw [← this]; exact hx
theorem HInv.get_none {k : Int} (h : ∀ c ∈ cs, c.id ≠ k) : aGet k m = none := aGet_none_of fun y hy => by
  have h1 := H.key _ hy
  exact h y.1 (H.pm.mem_iff.1 (List.mem_map.2 ⟨_, hy, rfl⟩)) h1.symm
theorem HInv.sgs : (I.map Prod.fst).Nodup := by
  refine ((H.pI.map Prod.fst).nodup_iff).2 ?_
  rw [List.map_map]
  exact List.pairwise_map.2 (H.sg.imp fun h => h)
theorem HInv.sget (hc : c ∈ cs) : aGet (sgnOf c) I = some c.id := mem_aGet H.sgs (H.pI.mem_iff.2 (List.mem_map.2 ⟨c, hc, rfl⟩))
theorem HInv.smem {g : Sgn} {k : Int} (h : aGet g I = some k) : ∃ c ∈ cs, sgnOf c = g ∧ c.id = k := by
  obtain ⟨c, hc, e⟩ := List.mem_map.1 (H.pI.mem_iff.1 (aGet_mem h))
  simp only [Prod.mk.injEq] at e
  exact ⟨c, hc, e.1, e.2⟩
theorem HInv.snone {g : Sgn} (h : ∀ c ∈ cs, sgnOf c ≠ g) : aGet g I = none := aGet_none_of fun y hy => by
  obtain ⟨c, hc, e⟩ := List.mem_map.1 (H.pI.mem_iff.1 hy)
  simp only [Prod.mk.injEq] at e
  exact h c hc e.1
theorem HInv.mids : (M.map (·.1)).Nodup := by
  refine ((H.pM.map (·.1)).nodup_iff).2 ?_
  rw [List.map_map]
  exact List.pairwise_map.2 (H.asc.imp fun h e => by simp at e; omega)
theorem HInv.mlen : M.length = cs.length := by
  have := H.pM.length_eq; simpa using this
omit H in
theorem okC_time (h : okC c = true) : 0 ≤ c.at' ∧ c.at' ≤ 2305843009213693952 := by
  unfold okC timeP at h
  simp only [Bool.and_eq_true, decide_eq_true_eq] at h
  exact h.2
omit H in
theorem HInv.add (H : HInv n next hn m I M cs) (ho : okC c = true) (hf : c.fits) (hs : ∀ d ∈ cs, sgnOf d ≠ sgnOf c) (hl : (cs.length : Int) < n) (hid : 1 ≤ next) :
    HInv n (next + 1) hn (aSet next ({ c with id := next }, s) m) (aSet (sgnOf c) next I) (setR hn next c.at' M).2 (cs ++ [{ c with id := next }]) := by
  have hnew : ∀ d ∈ cs, d.id ≠ next := fun d hd e => by have := (H.ok d hd).2.2.2; omega
  have g1 := H.get_none hnew
  have g2 := H.snone hs
  have g3 : ∀ t, (next, t) ∉ M := fun t ht => by
    obtain ⟨d, hd, e⟩ := List.mem_map.1 (H.pM.mem_iff.1 ht)
    simp only [Prod.mk.injEq] at e
    exact hnew d hd e.1
  have hb := H.bd
  have ht := okC_time ho
  have hM : (setR hn next c.at' M).2 = setM next c.at' M := by
    unfold setR
    rw [if_neg (by omega), if_neg (by rw [H.mlen]; omega)]
  rw [aSet_new g1, aSet_new g2, hM]
  refine ⟨?_, ?_, ?_, ?_, ?_, ?_, ?_, ?_, ?_⟩
  · rw [List.map_append]
    exact H.pm.append_right _
  · intro x hx
    rcases List.mem_append.1 hx with hx | hx
    · exact H.key x hx
    · simp at hx; subst hx; rfl
  · rw [List.pairwise_append]
    refine ⟨H.asc, by simp, fun a ha b hb => ?_⟩
    simp at hb; subst hb
    exact (H.ok a ha).2.2.2
  · rw [List.map_append]
    exact H.pI.append_right _
  · rw [List.pairwise_append]
    refine ⟨H.sg, by simp, fun a ha b hb => ?_⟩
    simp at hb; subst hb
    exact hs a ha
  · unfold setM
    rw [List.map_append]
    refine (insM_perm _ _).trans ?_
    rw [drop_absent g3]
    exact (H.pM.cons _).trans (List.perm_append_comm (l₁ := [(next, c.at')]))
  · exact (H.aM.drop _).ins _
  · simp; omega
  · intro d hd
    rcases List.mem_append.1 hd with hd | hd
    · have := H.ok d hd
      exact ⟨this.1, this.2.1, this.2.2.1, by omega⟩
    · simp at hd; subst hd
      exact ⟨(okC_id c next).trans ho, hf, hid, by show next < next + 1; omega⟩
omit H in
theorem HInv.turn (H : HInv n next hn m I M cs) (ho : okC c = true) (hf : c.fits) {b : Ctx} (hb : b ∈ cs) (e : b.id = c.id) (hs : sgnOf b = sgnOf c) :
    HInv n next hn (aSet c.id (c, s) m) (aSet (sgnOf c) c.id I) (setR hn c.id c.at' M).2 (turnL c cs) := by
  obtain ⟨s0, g1⟩ := H.get hb
  rw [e] at g1
  have g2 := H.sget hb
  rw [hs, e] at g2
  rw [aSet_id g2]
  have ht := okC_time ho
  have hbm : (c.id, b.at') ∈ M := H.pM.mem_iff.2 (List.mem_map.2 ⟨b, hb, by rw [e]⟩)
  have hM : (setR hn c.id c.at' M).2 = setM c.id c.at' M := by
    unfold setR
    rw [if_neg (by omega), if_neg (by rw [find_of H.mids hbm]; simp)]
  rw [hM]
  obtain ⟨l, r, rfl, h1, h2⟩ := asc_split H.asc hb
  rw [turnL_split e.symm h1 h2]
  have hp := aDel_perm g1
  have hpm : ((aDel c.id m).map fun x => x.2.1).Perm (l ++ r) := by
    have := ((hp.map fun x => x.2.1).trans H.pm).trans List.perm_middle
    exact List.Perm.cons_inv this
  refine ⟨?_, ?_, ?_, ?_, ?_, ?_, ?_, ?_, ?_⟩
  · refine ((aSet_perm g1).map _).trans ?_
    rw [List.map_cons]
    exact (hpm.cons c).trans List.perm_middle.symm
  · intro x hx
    rcases List.mem_cons.1 ((aSet_perm g1).mem_iff.1 hx) with rfl | hx
    · rfl
    · exact H.key x (hp.mem_iff.1 (List.mem_cons_of_mem _ hx))
  · have := H.asc
    rw [List.pairwise_append, List.pairwise_cons] at this ⊢
    refine ⟨this.1, ⟨fun x hx => by rw [← e]; exact this.2.1.1 x hx, this.2.1.2⟩, fun x hx y hy => ?_⟩
    rcases List.mem_cons.1 hy with rfl | hy
    · rw [← e]; exact this.2.2 x hx b (by simp)
    · exact this.2.2 x hx y (by simp [hy])
  · have := H.pI
    rw [List.map_append, List.map_cons] at this ⊢
    rw [hs, e] at this
    exact this
  · have := H.sg
    rw [List.pairwise_append, List.pairwise_cons] at this ⊢
    refine ⟨this.1, ⟨fun x hx => by rw [← hs]; exact this.2.1.1 x hx, this.2.1.2⟩, fun x hx y hy => ?_⟩
    rcases List.mem_cons.1 hy with rfl | hy
    · rw [← hs]; exact this.2.2 x hx b (by simp)
    · exact this.2.2 x hx y (by simp [hy])
  · unfold setM
    refine (insM_perm _ _).trans ?_
    have hq := (drop_perm H.mids hbm).trans H.pM
    rw [List.map_append, List.map_cons] at hq ⊢
    rw [e] at hq
    have hq2 := List.Perm.cons_inv (hq.trans List.perm_middle)
    exact (hq2.cons _).trans List.perm_middle.symm
  · exact (H.aM.drop _).ins _
  · have := H.bd; simpa using this
  · intro d hd
    rcases List.mem_append.1 hd with hd | hd
    · exact H.ok d (by simp [hd])
    · rcases List.mem_cons.1 hd with rfl | hd
      · have := H.ok b (by simp)
        rw [e] at this
        exact ⟨ho, hf, this.2.2⟩
      · exact H.ok d (by simp [hd])
omit H in
theorem HInv.drop (H : HInv n next hn m I M cs) (hc : c ∈ cs) : HInv n next hn (aDel c.id m) (aDel (sgnOf c) I) (dropM c.id M) (dropL c.id cs) := by
  obtain ⟨s0, g1⟩ := H.get hc
  have g2 := H.sget hc
  have hbm : (c.id, c.at') ∈ M := H.pM.mem_iff.2 (List.mem_map.2 ⟨c, hc, rfl⟩)
  obtain ⟨l, r, rfl, h1, h2⟩ := asc_split H.asc hc
  rw [dropL_split h1 h2]
  have hp := aDel_perm g1
  have sub : List.Sublist (l ++ r) (l ++ c :: r) := List.Sublist.append_left (List.sublist_cons_self _ _) _
  refine ⟨?_, ?_, H.asc.sublist sub, ?_, H.sg.sublist sub, ?_, H.aM.drop _, ?_, ?_⟩
  · have := ((hp.map fun x => x.2.1).trans H.pm).trans List.perm_middle
    exact List.Perm.cons_inv this
  · intro x hx
    exact H.key x (hp.mem_iff.1 (List.mem_cons_of_mem _ hx))
  · have hq := (aDel_perm g2).trans H.pI
    rw [List.map_append, List.map_cons] at hq
    rw [List.map_append]
    exact List.Perm.cons_inv (hq.trans List.perm_middle)
  · have hq := (drop_perm H.mids hbm).trans H.pM
    rw [List.map_append, List.map_cons] at hq
    rw [List.map_append]
    exact List.Perm.cons_inv (hq.trans List.perm_middle)
  · have := H.bd; simp at this ⊢; omega
  · exact fun d hd => H.ok d (sub.subset hd)
theorem HInv.first {x : It} (h : M.head? = some x) : ∃ c, FirstC c cs ∧ c.id = x.1 ∧ c.at' = x.2 := by
  obtain ⟨y, R, rfl⟩ : ∃ y R, M = y :: R := by
    cases M with
    | nil => simp at h
    | cons y R => exact ⟨y, R, rfl⟩
  obtain rfl : y = x := by simpa using h
  obtain ⟨c, hc, e⟩ := List.mem_map.1 (H.pM.mem_iff.1 (List.mem_cons_self ..))
  refine ⟨c, ⟨hc, fun d hd => ?_⟩, by rw [← e], by rw [← e]⟩
  rw [e]
  have hm := H.pM.mem_iff.2 (List.mem_map.2 ⟨d, hd, rfl⟩)
  rcases List.mem_cons.1 hm with h1 | h1
  · rw [h1]; exact itSWO.irr _
  · exact (List.pairwise_cons.1 H.aM).1 _ h1
theorem HInv.empty_iff : M.head? = none ↔ cs = [] := by
  rw [List.head?_eq_none_iff]
  have := H.mlen
  constructor
  · intro e; rw [e] at this; exact List.eq_nil_of_length_eq_zero this.symm
  · intro e; rw [e] at this; exact List.eq_nil_of_length_eq_zero this
end
theorem FirstC.eq {c d : Ctx} {cs : List Ctx} (h : cs.Pairwise fun a b => a.id < b.id) (hc : FirstC c cs) (hd : FirstC d cs) : c = d := by
  have := itTot (c.id, c.at') (d.id, d.at') (hd.2 c hc.1) (hc.2 d hd.1)
  exact asc_eq h hc.1 hd.1 (Prod.mk.inj this).1
theorem HInv.start {n : Int} (h1 : 1 ≤ n) (h2 : n ≤ 65536) (next : Int) : HInv n next n [] [] [] [] :=
  ⟨.nil, by simp, .nil, .nil, .nil, .nil, .nil, ⟨by simp; omega, h1, by omega, h2⟩, by simp⟩
end Go.Proofs.Gong

/- Hold2 -/
namespace Go.Proofs.Gong
open Go Go.Sx Go.Proofs
set_option linter.all false
set_option maxRecDepth 100000
-- 51 gong/gonglaw21.context
def T51 : List (Nat × FnT) := [(15, G15)]
def F51 (x0 : Value) (w : World) (K : Value → World → Prop) : Prop :=
eAlloc Try.prog 41 w fun v2 w1 =>
callP G15 [x0, (.int .i64 1048576)] w1 fun v4 w3 =>
bindP (bRem v4 (.int .i64 3)) fun v5 =>
bindP (bQuo v4 (.int .i64 3)) fun v6 =>
bindP (bRem v6 (.int .i64 4)) fun v7 =>
bindP (bAdd (.int .i64 97) v7) fun v8 =>
bindP (cInt .u8 v8) fun v9 =>
bindP (bQuo v4 (.int .i64 12)) fun v10 =>
bindP (bRem v10 (.int .i64 2)) fun v11 =>
bindP (pSliceS (.string ⟨#[107]⟩) none (some v11)) fun v12 =>
bindP (bQuo v4 (.int .i64 24)) fun v13 =>
bindP (bRem v13 (.int .i64 50)) fun v14 =>
eBuildSl Try.prog 29 1 [(0, v9)] w3.drew fun v16 w15 =>
bindP (cBytes v16 w15) fun v17 =>
bindP (fBuild Try.prog 41 [(1, v5), (2, v17), (3, v12), (4, v14)]) fun v18 =>
bindW (st 11 v2 v18 w15) fun w19 =>
bindP (ldN 11 v2 w19) fun v21 =>
K v21 w19

def G51 : FnT := fun args w K => on1 (fun x0 => F51 x0 w K) args
theorem c51 {x0 : Value} {w : World} {K : Value → World → Prop} (h : F51 x0 w K) : callP G51 [x0] w K := callP_intro (on1_mk (p := fun x0 => F51 x0 w K) h)
theorem ok51 : OkF Try.prog 51 G51 := by
  refine okF_of (tab_ok (l := T51) ⟨ok15, trivial⟩) mixed (n := fuel) Try.func51 Try.call51 fun args w K h => ?_
  obtain ⟨x0, rfl, hh⟩ := of_on1 h
  exact fnD_list (c := bodyOf Try.f51) (by kernel_rfl) (by kernel_rfl) (Eq.mp (by kernel_rfl) hh)

-- 52 (*gong/hold.Hold).Find
def T52 : List (Nat × FnT) := [(105, G105)]
def F52 (x0 : Value) (x1 : Value) (x2 : Value) (x3 : Value) (w : World) (K : Value → World → Prop) : Prop :=
eAlloc Try.prog 41 w fun v2 w1 =>
bindP (pNil x0) fun v3 =>
bindP (pFieldAddr 4 v3) fun v4 =>
bindP (ld1 v4 w1) fun v5 =>
bindP (fBuild Try.prog 122 [(0, x1), (1, x2), (2, x3)]) fun v6 =>
bindP (fLook Try.prog 157 v5 v6 true w1) fun v7 =>
bindP (pTuple v7 0) fun v8 =>
bindP (pTuple v7 1) fun v9 =>
bindP (uNot v9) fun v10 =>
ifB v10 (
bindP (fBuild Try.prog 41 []) fun v11 =>
bindW (st 11 v2 v11 w1) fun w12 =>
bindP (ldN 11 v2 w12) fun v14 =>
K (.tuple #[v14, (.bool false)]) w12) (
bindP (pNil x0) fun v15 =>
bindP (pFieldAddr 3 v15) fun v16 =>
bindP (ld1 v16 w1) fun v17 =>
bindP (fLook Try.prog 156 v17 v8 false w1) fun v18 =>
callP G105 [v18] w1 fun v20 w19 =>
bindW (st 11 v2 v20 w19) fun w21 =>
bindP (ldN 11 v2 w21) fun v23 =>
K (.tuple #[v23, (.bool true)]) w21)

def G52 : FnT := fun args w K => on4 (fun x0 x1 x2 x3 => F52 x0 x1 x2 x3 w K) args
theorem c52 {x0 x1 x2 x3 : Value} {w : World} {K : Value → World → Prop} (h : F52 x0 x1 x2 x3 w K) : callP G52 [x0, x1, x2, x3] w K := callP_intro (on4_mk (p := fun x0 x1 x2 x3 => F52 x0 x1 x2 x3 w K) h)
theorem ok52 : OkF Try.prog 52 G52 := by
  refine okF_of (tab_ok (l := T52) ⟨ok105, trivial⟩) mixed (n := fuel) Try.func52 Try.call52 fun args w K h => ?_
  obtain ⟨x0, x1, x2, x3, rfl, hh⟩ := of_on4 h
  exact fnD_list (c := bodyOf Try.f52) (by kernel_rfl) (by kernel_rfl) (Eq.mp (by kernel_rfl) hh)

-- 107 slices.Sorted[int]
def LayK108_ren : Go.Shelf.Ren := ⟨fun | 7 => 108 | 10 => 134 | n => n, fun | 23 => 156 | 26 => 3 | 3 => 41 | 28 => 164 | 0 => 0 | 27 => 163 | 33 => 51 | 4 => 4 | n => n, fun | n => n⟩
theorem LayK108 : Go.Proofs.SlLaysZI.n7 Try.prog LayK108_ren := {
  mixed := by kernel_rfl
  f7 := ⟨Try.f108.name, by decide, Try.func108.trans (congrArg some (by kernel_rfl))⟩
  f10 := ⟨Try.f134.name, by decide, Try.func134.trans (congrArg some (by kernel_rfl))⟩
  t0 := Try.underlying0
  a0 := Try.isAgg0
  z0 := Try.sizeOf0
  v0 := Try.zeroValue0
  t4 := Try.underlying4
  a4 := Try.isAgg4
  z4 := Try.sizeOf4
  v4 := Try.zeroValue4
  t23 := Try.underlying156
  a23 := Try.isAgg156
  z23 := Try.sizeOf156
  v23 := Try.zeroValue156
  t26 := Try.underlying3
  a26 := Try.isAgg3
  z26 := Try.sizeOf3
  v26 := Try.zeroValue3
  t27 := Try.underlying163
  a27 := Try.isAgg163
  z27 := Try.sizeOf163
  v27 := Try.zeroValue163
  t28 := Try.underlying164
  a28 := Try.isAgg164
  z28 := Try.sizeOf164
  v28 := Try.zeroValue164
  t33 := Try.underlying51
  a33 := Try.isAgg51
  z33 := Try.sizeOf51
  v33 := Try.zeroValue51 }
def LayS107_ren : Go.Shelf.Ren := ⟨fun | 6 => 107 | 8 => 132 | 9 => 133 | 11 => 159 | 13 => 115 | 12 => 160 | 23 => 148 | 24 => 149 | 14 => 172 | 15 => 173 | 16 => 174 | 17 => 175 | 18 => 176 | 19 => 177 | 20 => 113 | 21 => 178 | 22 => 179 | 25 => 188 | 26 => 165 | 27 => 166 | 28 => 189 | 29 => 190 | 30 => 139 | 31 => 191 | n => n, fun | 26 => 3 | 28 => 164 | 24 => 22 | 0 => 0 | 3 => 3 | 37 => 171 | 48 => 197 | 50 => 199 | 4 => 4 | 40 => 191 | 39 => 190 | 45 => 112 | 5 => 5 | 9 => 9 | 51 => 211 | 55 => 215 | 57 => 228 | 58 => 224 | 33 => 51 | n => n, fun | n => n⟩
theorem LayS107 : Go.Proofs.SlLaysZI.n6 Try.prog LayS107_ren := {
  mixed := by kernel_rfl
  f6 := ⟨Try.f107.name, by decide, Try.func107.trans (congrArg some (by kernel_rfl))⟩
  f8 := ⟨Try.f132.name, by decide, Try.func132.trans (congrArg some (by kernel_rfl))⟩
  f11 := ⟨Try.f159.name, by decide, Try.func159.trans (congrArg some (by kernel_rfl))⟩
  t0 := Try.underlying0
  a0 := Try.isAgg0
  z0 := Try.sizeOf0
  v0 := Try.zeroValue0
  t24 := Try.underlying22
  a24 := Try.isAgg22
  z24 := Try.sizeOf22
  v24 := Try.zeroValue22
  t26 := Try.underlying3
  a26 := Try.isAgg3
  z26 := Try.sizeOf3
  v26 := Try.zeroValue3
  t28 := Try.underlying164
  a28 := Try.isAgg164
  z28 := Try.sizeOf164
  v28 := Try.zeroValue164
  i26 := by kernel_rfl }
def LayM133_ren : Go.Shelf.Ren := ⟨fun | 5 => 133 | 8 => 115 | 7 => 160 | 19 => 148 | 20 => 149 | 10 => 172 | 11 => 173 | 12 => 174 | 13 => 175 | 14 => 176 | 15 => 177 | 16 => 113 | 17 => 178 | 18 => 179 | 30 => 188 | 31 => 165 | 32 => 166 | 33 => 189 | 34 => 190 | 35 => 139 | 40 => 191 | n => n, fun | 23 => 22 | 25 => 3 | 3 => 3 | 32 => 171 | 22 => 22 | 0 => 0 | 44 => 197 | 46 => 199 | 4 => 4 | 36 => 191 | 35 => 190 | 41 => 112 | 5 => 5 | 9 => 9 | 53 => 211 | 57 => 215 | 63 => 228 | 64 => 224 | n => n, fun | n => n⟩
theorem LayM133 : Go.Proofs.SlLaysM.n5 Try.prog LayM133_ren := {
  mixed := by kernel_rfl
  f5 := ⟨Try.f133.name, by decide, Try.func133.trans (congrArg some (by kernel_rfl))⟩
  f7 := ⟨Try.f160.name, by decide, Try.func160.trans (congrArg some (by kernel_rfl))⟩
  f8 := Try.func115.trans (congrArg some (by kernel_rfl))
  f10 := ⟨Try.f172.name, by decide, Try.func172.trans (congrArg some (by kernel_rfl))⟩
  f11 := ⟨Try.f173.name, by decide, Try.func173.trans (congrArg some (by kernel_rfl))⟩
  f12 := ⟨Try.f174.name, by decide, Try.func174.trans (congrArg some (by kernel_rfl))⟩
  f13 := ⟨Try.f175.name, by decide, Try.func175.trans (congrArg some (by kernel_rfl))⟩
  f14 := ⟨Try.f176.name, by decide, Try.func176.trans (congrArg some (by kernel_rfl))⟩
  f15 := ⟨Try.f177.name, by decide, Try.func177.trans (congrArg some (by kernel_rfl))⟩
  f16 := ⟨Try.f113.name, by decide, Try.func113.trans (congrArg some (by kernel_rfl))⟩
  f17 := ⟨Try.f178.name, by decide, Try.func178.trans (congrArg some (by kernel_rfl))⟩
  f18 := ⟨Try.f179.name, by decide, Try.func179.trans (congrArg some (by kernel_rfl))⟩
  f19 := Try.func148.trans (congrArg some (by kernel_rfl))
  f20 := Try.func149.trans (congrArg some (by kernel_rfl))
  f30 := ⟨Try.f188.name, by decide, Try.func188.trans (congrArg some (by kernel_rfl))⟩
  f31 := Try.func165.trans (congrArg some (by kernel_rfl))
  f32 := Try.func166.trans (congrArg some (by kernel_rfl))
  f33 := ⟨Try.f189.name, by decide, Try.func189.trans (congrArg some (by kernel_rfl))⟩
  f34 := ⟨Try.f190.name, by decide, Try.func190.trans (congrArg some (by kernel_rfl))⟩
  f35 := ⟨Try.f139.name, by decide, Try.func139.trans (congrArg some (by kernel_rfl))⟩
  f40 := ⟨Try.f191.name, by decide, Try.func191.trans (congrArg some (by kernel_rfl))⟩
  t0 := Try.underlying0
  a0 := Try.isAgg0
  z0 := Try.sizeOf0
  v0 := Try.zeroValue0
  t3 := Try.underlying3
  a3 := Try.isAgg3
  z3 := Try.sizeOf3
  v3 := Try.zeroValue3
  t4 := Try.underlying4
  a4 := Try.isAgg4
  z4 := Try.sizeOf4
  v4 := Try.zeroValue4
  t5 := Try.underlying5
  a5 := Try.isAgg5
  z5 := Try.sizeOf5
  v5 := Try.zeroValue5
  t9 := Try.underlying9
  a9 := Try.isAgg9
  z9 := Try.sizeOf9
  v9 := Try.zeroValue9
  t22 := Try.underlying22
  a22 := Try.isAgg22
  z22 := Try.sizeOf22
  v22 := Try.zeroValue22
  t23 := Try.underlying22
  a23 := Try.isAgg22
  z23 := Try.sizeOf22
  v23 := Try.zeroValue22
  t25 := Try.underlying3
  a25 := Try.isAgg3
  z25 := Try.sizeOf3
  v25 := Try.zeroValue3
  t32 := Try.underlying171
  a32 := Try.isAgg171
  z32 := Try.sizeOf171
  v32 := Try.zeroValue171
  t35 := Try.underlying190
  a35 := Try.isAgg190
  z35 := Try.sizeOf190
  v35 := Try.zeroValue190
  t36 := Try.underlying191
  a36 := Try.isAgg191
  z36 := Try.sizeOf191
  v36 := Try.zeroValue191
  t41 := Try.underlying112
  a41 := Try.isAgg112
  z41 := Try.sizeOf112
  v41 := Try.zeroValue112
  t44 := Try.underlying197
  a44 := Try.isAgg197
  z44 := Try.sizeOf197
  v44 := Try.zeroValue197
  t46 := Try.underlying199
  a46 := Try.isAgg199
  z46 := Try.sizeOf199
  v46 := Try.zeroValue199
  t53 := Try.underlying211
  a53 := Try.isAgg211
  z53 := Try.sizeOf211
  v53 := Try.zeroValue211
  t57 := Try.underlying215
  a57 := Try.isAgg215
  z57 := Try.sizeOf215
  v57 := Try.zeroValue215
  t63 := Try.underlying228
  a63 := Try.isAgg228
  z63 := Try.sizeOf228
  v63 := Try.zeroValue228
  t64 := Try.underlying224
  a64 := Try.isAgg224
  z64 := Try.sizeOf224
  v64 := Try.zeroValue224 }
def G107 : FnT := gSortedI 134 3
theorem ok107 : OkF Try.prog 107 G107 := okSortedI (f := 107) (g := 134) (ty := 3) LayK108 LayS107 LayM133 rfl rfl rfl rfl Try.call107 Try.call133 Try.call134

-- 108 maps.Keys[map[int]gong/api.Context,int,gong/api.Context]
def T108 : List (Nat × FnT) := []
def F108 (x0 : Value) (w : World) (K : Value → World → Prop) : Prop :=
eBox 156 x0 w fun v2 w1 =>
bindP (some (.func (.func 134) #[] #[v2])) fun v3 =>
K v3 w1

def G108 : FnT := fun args w K => on1 (fun x0 => F108 x0 w K) args
theorem c108 {x0 : Value} {w : World} {K : Value → World → Prop} (h : F108 x0 w K) : callP G108 [x0] w K := callP_intro (on1_mk (p := fun x0 => F108 x0 w K) h)
theorem ok108 : OkF Try.prog 108 G108 := by
  refine okF_of (tab_ok (l := T108) trivial) mixed (n := fuel) Try.func108 Try.call108 fun args w K h => ?_
  obtain ⟨x0, rfl, hh⟩ := of_on1 h
  exact fnD_list (c := bodyOf Try.f108) (by kernel_rfl) (by kernel_rfl) (Eq.mp (by kernel_rfl) hh)

-- 54 (*gong/hold.Hold).All
def T54 : List (Nat × FnT) := [(105, G105), (107, G107), (108, G108)]
def F54_3b (s3 : Value) (w : World) (K : Value → World → Prop) : Prop :=
K s3 w

def F54_3 (s3 : Value) (w : World) (K : Value → World → Prop) : Prop := F54_3b s3 w K

theorem ok54_3 {K : Value → World → Prop} {kn kr : Env → World → Prop} {ke : Nat → Env → World → Prop}
    (hn : ∀ e w, (fun e w => K (e 2) w) e w → kn e w) (hr : ∀ e w, endD Try.prog [.tmp 2] K e w → kr e w) (he : ∀ i e w, noE i e w → ke i e w) :
    ∀ e w, F54_3 (e 3) w K → denL Try.prog (tabOf T54) 29 fuel ((flat (bodyOf Try.f54)).drop 4) e w kn kr ke := by
  intro e w h
  unfold F54_3 at h
  have e1 : ∀ (_ : Unit), F54_3b (e 3) w K = denL Try.prog (tabOf T54) 29 fuel ((flat (bodyOf Try.f54)).drop 4) e w (fun e w => K (e 2) w) (endD Try.prog [.tmp 2] K) noE := by intro _; kernel_rfl
  exact seg_end (Eq.mp (e1 ()) h) hn hr he

def F54_2b (s0 : Value) (s3 : Value) (s11 : Value) (s12 : Value) (s13 : Value) (w : World) (_K : Value → World → Prop) (Y0 : Value → Value → Value → Value → Value → World → Prop) (Y1 : Value → World → Prop) : Prop :=
bindP (bLt s13 s12) fun v1 =>
ifB v1 (
bindP (pIndexL 1 s11 s13) fun v2 =>
bindP (ld1 v2 w) fun v3 =>
bindP (pNil s0) fun v4 =>
bindP (pFieldAddr 3 v4) fun v5 =>
bindP (ld1 v5 w) fun v6 =>
bindP (fLook Try.prog 156 v6 v3 false w) fun v7 =>
callP G105 [v7] w fun v9 w8 =>
eBuildSl Try.prog 101 1 [(0, v9)] w8 fun v11 w10 =>
eAppend Try.prog 101 101 s3 v11 w10 fun v13 w12 =>
bindP (bAdd s13 (.int .i64 1)) fun v14 =>
Y0 s0 v13 s11 s12 v14 w12) (
Y1 s3 w)

def F54_2L : Nat → Value → Value → Value → Value → Value → World → (Value → World → Prop) → Prop
  | 0, _, _, _, _, _, _, _ => False
  | n + 1, s0, s3, s11, s12, s13, w, K => F54_2b s0 s3 s11 s12 s13 w K (fun a0 a3 a11 a12 a13 w => F54_2L n a0 a3 a11 a12 a13 w K) (fun a3 w => F54_3 a3 w K)

def F54_2 (s0 : Value) (s3 : Value) (s11 : Value) (s12 : Value) (s13 : Value) (w : World) (K : Value → World → Prop) : Prop := F54_2L fuel s0 s3 s11 s12 s13 w K

theorem ok54_2 {K : Value → World → Prop} {kn kr : Env → World → Prop} {ke : Nat → Env → World → Prop}
    (hn : ∀ e w, (fun e w => K (e 2) w) e w → kn e w) (hr : ∀ e w, endD Try.prog [.tmp 2] K e w → kr e w) (he : ∀ i e w, noE i e w → ke i e w) :
    ∀ e w, F54_2 (e 0) (e 3) (e 11) (e 12) (e 13) w K → denL Try.prog (tabOf T54) 29 fuel ((flat (bodyOf Try.f54)).drop 3) e w kn kr ke := by
  intro e w h
  unfold F54_2 at h
  refine seg_loop (id := 0) (body := (loopB (blkB (nthC (flat (bodyOf Try.f54)) 3)))) (l2 := (flat (bodyOf Try.f54)).drop 4) (by kernel_rfl) ?_
  refine loop_ok (FL := fun m e w => F54_2L m (e 0) (e 3) (e 11) (e 12) (e 13) w K) (fr := endD Try.prog [.tmp 2] K) (fe := (blkK 0 (fun e w => F54_3 (e 3) w K) noE)) (fun _ _ h => h) ?_ hr (blkK_mono (fun e w h => ok54_3 hn hr he e w h) he) fuel e w h
  intro m e w h
  have h : F54_2L (m + 1) (e 0) (e 3) (e 11) (e 12) (e 13) w K := h
  rw [F54_2L] at h
  have e1 : ∀ (Y0 : Value → Value → Value → Value → Value → World → Prop) (Y1 : Value → World → Prop), F54_2b (e 0) (e 3) (e 11) (e 12) (e 13) w K Y0 Y1 = denL Try.prog (tabOf T54) 29 fuel (flat (loopB (blkB (nthC (flat (bodyOf Try.f54)) 3)))) e w (fun e w => Y0 (e 0) (e 3) (e 11) (e 12) (e 13) w) (endD Try.prog [.tmp 2] K) (blkK 0 (fun e w => Y1 (e 3) w) noE) := by intro Y0 Y1; kernel_rfl
  exact Eq.mp (e1 (fun a0 a3 a11 a12 a13 w => F54_2L m a0 a3 a11 a12 a13 w K) (fun a3 w => F54_3 a3 w K)) h

def F54_1b (s0 : Value) (w : World) (_K : Value → World → Prop) (Y0 : Value → Value → Value → Value → Value → World → Prop) : Prop :=
bindP (pNil s0) fun v15 =>
bindP (pFieldAddr 3 v15) fun v16 =>
bindP (ld1 v16 w) fun v17 =>
callP G108 [v17] w fun v19 w18 =>
callP G107 [v19] w18 fun v21 w20 =>
bindP (lenL v21) fun v22 =>
Y0 s0 (.slice none 0 0) v21 v22 (.int .i64 0) w20

def F54_1 (s0 : Value) (w : World) (K : Value → World → Prop) : Prop := F54_1b s0 w K (fun a0 a3 a11 a12 a13 w => F54_2 a0 a3 a11 a12 a13 w K)

theorem ok54_1 {K : Value → World → Prop} {kn kr : Env → World → Prop} {ke : Nat → Env → World → Prop}
    (hn : ∀ e w, (fun e w => K (e 2) w) e w → kn e w) (hr : ∀ e w, endD Try.prog [.tmp 2] K e w → kr e w) (he : ∀ i e w, noE i e w → ke i e w) :
    ∀ e w, F54_1 (e 0) w K → denL Try.prog (tabOf T54) 29 fuel ((flat (bodyOf Try.f54)).drop 0) e w kn kr ke := by
  intro e w h
  unfold F54_1 at h
  have e1 : ∀ (Y0 : Value → Value → Value → Value → Value → World → Prop), F54_1b (e 0) w K Y0 = denL Try.prog (tabOf T54) 29 fuel (((flat (bodyOf Try.f54)).drop 0).take 3) e w (fun e w => Y0 (e 0) (e 3) (e 11) (e 12) (e 13) w) (endD Try.prog [.tmp 2] K) noE := by intro Y0; kernel_rfl
  exact seg 3 (Eq.mp (e1 (fun a0 a3 a11 a12 a13 w => F54_2 a0 a3 a11 a12 a13 w K)) h) (fun e w h => ok54_2 hn hr he e w h) hr he

def F54 (x0 : Value) (w : World) (K : Value → World → Prop) : Prop := F54_1 x0 w K

def G54 : FnT := fun args w K => on1 (fun x0 => F54 x0 w K) args
theorem c54 {x0 : Value} {w : World} {K : Value → World → Prop} (h : F54 x0 w K) : callP G54 [x0] w K := callP_intro (on1_mk (p := fun x0 => F54 x0 w K) h)
theorem ok54 : OkF Try.prog 54 G54 := by
  refine okF_of (tab_ok (l := T54) ⟨ok105, ok107, ok108, trivial⟩) mixed (n := fuel) Try.func54 Try.call54 fun args w K h => ?_
  obtain ⟨x0, rfl, hh⟩ := of_on1 h
  unfold F54 at hh
  exact fnD_list (c := bodyOf Try.f54) (by kernel_rfl) (by kernel_rfl) (ok54_1 (fun _ _ h => h) (fun _ _ h => h) (fun _ _ _ h => h) (initE [x0]) w hh)

-- 55 (*gong/hold.Hold).Turn
def T55 : List (Nat × FnT) := [(22, G22), (73, G73), (106, G106)]
def F55 (x0 : Value) (x1 : Value) (w : World) (K : Value → World → Prop) : Prop :=
eBox 41 x1 w fun v2 w1 =>
bindP (pNil x0) fun v3 =>
bindP (pFieldAddr 3 v3) fun v4 =>
bindP (ld1 v4 w1.drew) fun v5 =>
bindP (pFieldAddr 0 v2) fun v6 =>
bindP (ld1 v6 w1.drew) fun v7 =>
bindP (fLook Try.prog 156 v5 v7 true w1.drew) fun v8 =>
bindP (pTuple v8 0) fun v9 =>
bindP (pTuple v8 1) fun v10 =>
eAlloc Try.prog 41 w1.drew fun v12 w11 =>
(fok true (ld1 v4 w11) v5 ∧ fok true (ld1 v6 w11) v7 ∧ fok true (fLook Try.prog 156 v5 v7 true w11) v8) ∧ (bindW (st 11 v12 v9 w11) fun w13 =>
bindP (ldN 11 v2 w13) fun v15 =>
callP G22 [v15] w13 fun v17 w16 =>
bindP (bNe Try.prog 24 (.tmp 19) (.const (.int .i64 0)) v17 (.int .i64 0)) fun v18 =>
ifB v18 (
K (.int .i64 4) w16) (
bindP (uNot v10) fun v19 =>
ifB v19 (
K (.int .i64 5) w16) (
bindP (ldN 11 v12 w16.drew) fun v20 =>
bindP (ldN 11 v2 w16.drew) fun v21 =>
callP G73 [v20] w16.drew fun v23 w22 =>
fok true (ldN 11 v2 w22) v21 ∧ (callP G73 [v21] w22 fun v25 w24 =>
bindP (bNe Try.prog 122 (.tmp 26) (.tmp 28) v23 v25) fun v26 =>
ifB v26 (
K (.int .i64 4) w24) (
bindP (ldN 11 v2 w24) fun v27 =>
callP G106 [x0, v27] w24 fun _ w28 =>
K (.int .i64 0) w28)))))

def G55 : FnT := fun args w K => on2 (fun x0 x1 => F55 x0 x1 w K) args
theorem c55 {x0 x1 : Value} {w : World} {K : Value → World → Prop} (h : F55 x0 x1 w K) : callP G55 [x0, x1] w K := callP_intro (on2_mk (p := fun x0 x1 => F55 x0 x1 w K) h)
theorem ok55 : OkF Try.prog 55 G55 := by
  refine okF_of (tab_ok (l := T55) ⟨ok22, ok73, ok106, trivial⟩) mixed (n := fuel) Try.func55 Try.call55 fun args w K h => ?_
  obtain ⟨x0, x1, rfl, hh⟩ := of_on2 h
  exact fnD_list (c := bodyOf Try.f55) (by kernel_rfl) (by kernel_rfl) (Eq.mp (by kernel_rfl) hh)

-- 109 (gong/hold.due).soonest
def T109 : List (Nat × FnT) := [(83, G83)]
def F109 (x0 : Value) (w : World) (K : Value → World → Prop) : Prop :=
eBox 155 x0 w fun v2 w1 =>
bindP (pFieldAddr 0 v2) fun v3 =>
bindP (ld1 v3 w1) fun v4 =>
callP G83 [v4] w1 fun v6 w5 =>
bindP (pTuple v6 0) fun v7 =>
bindP (pTuple v6 1) fun v8 =>
eAlloc Try.prog 55 w5 fun v10 w9 =>
bindW (st 2 v10 v7 w9) fun w11 =>
bindP (pFieldAddr 0 v10) fun v13 =>
bindP (ld1 v13 w11) fun v14 =>
K (.tuple #[v14, v8]) w11

def G109 : FnT := fun args w K => on1 (fun x0 => F109 x0 w K) args
theorem c109 {x0 : Value} {w : World} {K : Value → World → Prop} (h : F109 x0 w K) : callP G109 [x0] w K := callP_intro (on1_mk (p := fun x0 => F109 x0 w K) h)
theorem ok109 : OkF Try.prog 109 G109 := by
  refine okF_of (tab_ok (l := T109) ⟨ok83, trivial⟩) mixed (n := fuel) Try.func109 Try.call109 fun args w K h => ?_
  obtain ⟨x0, rfl, hh⟩ := of_on1 h
  exact fnD_list (c := bodyOf Try.f109) (by kernel_rfl) (by kernel_rfl) (Eq.mp (by kernel_rfl) hh)

-- 56 (*gong/hold.Hold).First
def T56 : List (Nat × FnT) := [(105, G105), (109, G109)]
def F56 (x0 : Value) (w : World) (K : Value → World → Prop) : Prop :=
eAlloc Try.prog 41 w fun v2 w1 =>
bindP (pNil x0) fun v3 =>
bindP (pFieldAddr 0 v3) fun v4 =>
bindP (ldN 1 v4 w1) fun v5 =>
callP G109 [v5] w1 fun v7 w6 =>
bindP (pTuple v7 0) fun v8 =>
bindP (pTuple v7 1) fun v9 =>
bindP (uNot v9) fun v10 =>
ifB v10 (
bindP (fBuild Try.prog 41 []) fun v11 =>
bindW (st 11 v2 v11 w6) fun w12 =>
bindP (ldN 11 v2 w12) fun v14 =>
K (.tuple #[v14, (.bool false)]) w12) (
bindP (pNil x0) fun v15 =>
bindP (pFieldAddr 3 v15) fun v16 =>
bindP (ld1 v16 w6) fun v17 =>
bindP (fLook Try.prog 156 v17 v8 false w6) fun v18 =>
callP G105 [v18] w6 fun v20 w19 =>
bindW (st 11 v2 v20 w19) fun w21 =>
bindP (ldN 11 v2 w21) fun v23 =>
K (.tuple #[v23, (.bool true)]) w21)

def G56 : FnT := fun args w K => on1 (fun x0 => F56 x0 w K) args
theorem c56 {x0 : Value} {w : World} {K : Value → World → Prop} (h : F56 x0 w K) : callP G56 [x0] w K := callP_intro (on1_mk (p := fun x0 => F56 x0 w K) h)
theorem ok56 : OkF Try.prog 56 G56 := by
  refine okF_of (tab_ok (l := T56) ⟨ok105, ok109, trivial⟩) mixed (n := fuel) Try.func56 Try.call56 fun args w K h => ?_
  obtain ⟨x0, rfl, hh⟩ := of_on1 h
  exact fnD_list (c := bodyOf Try.f56) (by kernel_rfl) (by kernel_rfl) (Eq.mp (by kernel_rfl) hh)

-- 110 (gong/hold.due).never
def T110 : List (Nat × FnT) := [(29, G29)]
def F110 (x0 : Value) (x1 : Value) (w : World) (K : Value → World → Prop) : Prop :=
eBox 155 x0 w fun v2 w1 =>
bindP (pFieldAddr 0 v2) fun v3 =>
bindP (ld1 v3 w1) fun v4 =>
callP G29 [v4, x1] w1 fun _ w5 =>
K (.tuple #[]) w5

def G110 : FnT := fun args w K => on2 (fun x0 x1 => F110 x0 x1 w K) args
theorem c110 {x0 x1 : Value} {w : World} {K : Value → World → Prop} (h : F110 x0 x1 w K) : callP G110 [x0, x1] w K := callP_intro (on2_mk (p := fun x0 x1 => F110 x0 x1 w K) h)
theorem ok110 : OkF Try.prog 110 G110 := by
  refine okF_of (tab_ok (l := T110) ⟨ok29, trivial⟩) mixed (n := fuel) Try.func110 Try.call110 fun args w K h => ?_
  obtain ⟨x0, x1, rfl, hh⟩ := of_on2 h
  exact fnD_list (c := bodyOf Try.f110) (by kernel_rfl) (by kernel_rfl) (Eq.mp (by kernel_rfl) hh)

-- 57 (*gong/hold.Hold).Drop
def T57 : List (Nat × FnT) := [(73, G73), (110, G110)]
def F57 (x0 : Value) (x1 : Value) (w : World) (K : Value → World → Prop) : Prop :=
eAlloc Try.prog 41 w fun v2 w1 =>
bindP (pNil x0) fun v3 =>
bindP (pFieldAddr 3 v3) fun v4 =>
bindP (ld1 v4 w1) fun v5 =>
bindP (fLook Try.prog 156 v5 x1 true w1) fun v6 =>
bindP (pTuple v6 0) fun v7 =>
bindP (pTuple v6 1) fun v8 =>
eAlloc Try.prog 41 w1 fun v10 w9 =>
bindW (st 11 v10 v7 w9) fun w11 =>
bindP (uNot v8) fun v13 =>
ifB v13 (
bindP (fBuild Try.prog 41 []) fun v14 =>
bindW (st 11 v2 v14 w11) fun w15 =>
bindP (ldN 11 v2 w15) fun v17 =>
K (.tuple #[v17, (.int .i64 5)]) w15) (
bindP (pNil x0) fun v18 =>
bindP (pFieldAddr 3 v18) fun v19 =>
bindP (ld1 v19 w11) fun v20 =>
eDelete Try.prog 156 v20 x1 w11 fun _ w21 =>
bindP (pNil x0) fun v23 =>
bindP (pFieldAddr 4 v23) fun v24 =>
bindP (ld1 v24 w21.drew) fun v25 =>
bindP (ldN 11 v10 w21.drew) fun v26 =>
callP G73 [v26] w21.drew fun v28 w27 =>
fok true (ld1 v24 w27) v25 ∧ (eDelete Try.prog 157 v25 v28 w27 fun _ w29 =>
bindP (pNil x0) fun v31 =>
bindP (pFieldAddr 0 v31) fun v32 =>
bindP (ldN 1 v32 w29) fun v33 =>
callP G110 [v33, x1] w29 fun _ w34 =>
bindP (ldN 11 v10 w34) fun v36 =>
bindW (st 11 v2 v36 w34) fun w37 =>
bindP (ldN 11 v2 w37) fun v39 =>
K (.tuple #[v39, (.int .i64 0)]) w37))

def G57 : FnT := fun args w K => on2 (fun x0 x1 => F57 x0 x1 w K) args
theorem c57 {x0 x1 : Value} {w : World} {K : Value → World → Prop} (h : F57 x0 x1 w K) : callP G57 [x0, x1] w K := callP_intro (on2_mk (p := fun x0 x1 => F57 x0 x1 w K) h)
theorem ok57 : OkF Try.prog 57 G57 := by
  refine okF_of (tab_ok (l := T57) ⟨ok73, ok110, trivial⟩) mixed (n := fuel) Try.func57 Try.call57 fun args w K h => ?_
  obtain ⟨x0, x1, rfl, hh⟩ := of_on2 h
  exact fnD_list (c := bodyOf Try.f57) (by kernel_rfl) (by kernel_rfl) (Eq.mp (by kernel_rfl) hh)

-- 59 (*gong/hold.Hold).Next
def T59 : List (Nat × FnT) := []
def F59 (x0 : Value) (w : World) (K : Value → World → Prop) : Prop :=
bindP (pNil x0) fun v1 =>
bindP (pFieldAddr 2 v1) fun v2 =>
bindP (ld1 v2 w) fun v3 =>
K v3 w

def G59 : FnT := fun args w K => on1 (fun x0 => F59 x0 w K) args
theorem c59 {x0 : Value} {w : World} {K : Value → World → Prop} (h : F59 x0 w K) : callP G59 [x0] w K := callP_intro (on1_mk (p := fun x0 => F59 x0 w K) h)
theorem ok59 : OkF Try.prog 59 G59 := by
  refine okF_of (tab_ok (l := T59) trivial) mixed (n := fuel) Try.func59 Try.call59 fun args w K h => ?_
  obtain ⟨x0, rfl, hh⟩ := of_on1 h
  exact fnD_list (c := bodyOf Try.f59) (by kernel_rfl) (by kernel_rfl) (Eq.mp (by kernel_rfl) hh)

-- 11 gong/gonglaw21.HoldOrder
def T11 : List (Nat × FnT) := [(15, G15), (21, G21), (24, G24), (50, G50), (51, G51), (52, G52), (53, G53), (54, G54), (55, G55), (56, G56), (57, G57), (58, G58), (59, G59)]
def F11_7b (s5 : Value) (s7 : Value) (w : World) (K : Value → World → Prop) : Prop :=
callP G56 [s5] w fun v2 w1 =>
bindP (pTuple v2 0) fun v3 =>
bindP (pTuple v2 1) fun v4 =>
eAlloc Try.prog 41 w1 fun v6 w5 =>
bindW (st 11 v6 v3 w5) fun w7 =>
bindP (uNot v4) fun v9 =>
stepM (gd true v9) s5 fun v10 =>
stepE (gd true v9) (fun k => callP G58 [v10] w7 k) w7 fun v12 w11 =>
Sx.stepG (gd true v9) (bEq Try.prog 3 (.tmp 172) (.const (.int .i64 0)) v12 (.int .i64 0)) fun v13 =>
bindP (pPick v9 v13 (.bool false)) fun v14 =>
stepM (gd true v14) s5 fun v15 =>
stepE (gd true v14) (fun k => callP G59 [v15] w11 k) w11 fun v17 w16 =>
stepM (gd true v14) s7 fun v18 =>
Sx.stepG (gd true v14) (bAdd v18 (.int .i64 1)) fun v19 =>
Sx.stepG (gd true v14) (bEq Try.prog 3 (.tmp 177) (.tmp 179) v17 v19) fun v20 =>
bindP (pPick v14 v20 (.bool false)) fun v21 =>
K v21 w16

def F11_7 (s5 : Value) (s7 : Value) (w : World) (K : Value → World → Prop) : Prop := F11_7b s5 s7 w K

theorem ok11_7 {K : Value → World → Prop} {kn kr : Env → World → Prop} {ke : Nat → Env → World → Prop}
    (hn : ∀ e w, (fun e w => K (e 4) w) e w → kn e w) (hr : ∀ e w, endD Try.prog [.tmp 4] K e w → kr e w) (he : ∀ i e w, noE i e w → ke i e w) :
    ∀ e w, F11_7 (e 5) (e 7) w K → denL Try.prog (tabOf T11) 182 fuel ((flat (bodyOf Try.f11)).drop 13) e w kn kr ke := by
  intro e w h
  unfold F11_7 at h
  have e1 : ∀ (_ : Unit), F11_7b (e 5) (e 7) w K = denL Try.prog (tabOf T11) 182 fuel ((flat (bodyOf Try.f11)).drop 13) e w (fun e w => K (e 4) w) (endD Try.prog [.tmp 4] K) noE := by intro _; kernel_rfl
  exact seg_end (Eq.mp (e1 ()) h) hn hr he

def F11_6b (s5 : Value) (s7 : Value) (s17 : Value) (s18 : Value) (s115 : Value) (s116 : Value) (w : World) (K : Value → World → Prop) (Y0 : Value → Value → Value → Value → Value → Value → World → Prop) (Y1 : Value → Value → World → Prop) : Prop :=
bindP (bLt s116 s115) fun v22 =>
ifB v22 (
callP G56 [s5] w fun v24 w23 =>
bindP (pTuple v24 0) fun v25 =>
bindP (pTuple v24 1) fun v26 =>
eAlloc Try.prog 41 w23 fun v28 w27 =>
bindW (st 11 v28 v25 w27) fun w29 =>
bindP (uNot v26) fun v31 =>
Sx.stepG (gd false v31) (pFieldAddr 4 v28) fun v32 =>
Sx.stepG (gd false v31) (ld1 v32 w29) fun v33 =>
stepM (gd false v31) s17 fun v34 =>
Sx.stepG (gd false v31) (bLt v33 v34) fun v35 =>
bindP (pPick v31 (.bool true) v35) fun v36 =>
Sx.stepG (gd false v36) (pFieldAddr 4 v28) fun v37 =>
Sx.stepG (gd false v36) (ld1 v37 w29) fun v38 =>
stepM (gd false v36) s17 fun v39 =>
Sx.stepG (gd false v36) (bEq Try.prog 3 (.tmp 133) (.tmp 134) v38 v39) fun v40 =>
stepM (gd false v36) v40 fun v41 =>
Sx.stepG (gd true v41) (pFieldAddr 0 v28) fun v42 =>
Sx.stepG (gd true v41) (ld1 v42 w29) fun v43 =>
stepM (gd true v41) s18 fun v44 =>
Sx.stepG (gd true v41) (bLe v43 v44) fun v45 =>
Sx.stepG (gd false v36) (pPick v41 v45 (.bool false)) fun v46 =>
bindP (pPick v36 (.bool true) v46) fun v47 =>
ifB v47 (
K (.bool false) w29) (
bindP (pFieldAddr 4 v28) fun v48 =>
bindP (ld1 v48 w29.drew) fun v49 =>
bindP (pFieldAddr 0 v28) fun v50 =>
bindP (ld1 v50 w29.drew) fun v51 =>
bindP (pFieldAddr 0 v28) fun v52 =>
bindP (ld1 v52 w29.drew) fun v53 =>
callP G57 [s5, v53] w29.drew fun v55 w54 =>
bindP (pTuple v55 0) fun v56 =>
bindP (pTuple v55 1) fun v57 =>
eAlloc Try.prog 41 w54 fun v59 w58 =>
bindW (st 11 v59 v56 w58) fun w60 =>
bindP (bNe Try.prog 24 (.tmp 154) (.const (.int .i64 0)) v57 (.int .i64 0)) fun v62 =>
Sx.stepG (gd false v62) (ldN 11 v28 w60) fun v63 =>
Sx.stepG (gd false v62) (ldN 11 v59 w60) fun v64 =>
stepE (gd false v62) (fun k => callP G24 [v63, v64] w60 k) w60 fun v66 w65 =>
Sx.stepG (gd false v62) (uNot v66) fun v67 =>
bindP (pPick v62 (.bool true) v67) fun v68 =>
ifB v68 (
K (.bool false) w65) (
bindP (bAdd s116 (.int .i64 1)) fun v69 =>
Y0 s5 s7 v49 v51 s115 v69 w65))) (
Y1 s5 s7 w)

def F11_6L : Nat → Value → Value → Value → Value → Value → Value → World → (Value → World → Prop) → Prop
  | 0, _, _, _, _, _, _, _, _ => False
  | n + 1, s5, s7, s17, s18, s115, s116, w, K => F11_6b s5 s7 s17 s18 s115 s116 w K (fun a5 a7 a17 a18 a115 a116 w => F11_6L n a5 a7 a17 a18 a115 a116 w K) (fun a5 a7 w => F11_7 a5 a7 w K)

def F11_6 (s5 : Value) (s7 : Value) (s17 : Value) (s18 : Value) (s115 : Value) (s116 : Value) (w : World) (K : Value → World → Prop) : Prop := F11_6L fuel s5 s7 s17 s18 s115 s116 w K

theorem ok11_6 {K : Value → World → Prop} {kn kr : Env → World → Prop} {ke : Nat → Env → World → Prop}
    (hn : ∀ e w, (fun e w => K (e 4) w) e w → kn e w) (hr : ∀ e w, endD Try.prog [.tmp 4] K e w → kr e w) (he : ∀ i e w, noE i e w → ke i e w) :
    ∀ e w, F11_6 (e 5) (e 7) (e 17) (e 18) (e 115) (e 116) w K → denL Try.prog (tabOf T11) 182 fuel ((flat (bodyOf Try.f11)).drop 12) e w kn kr ke := by
  intro e w h
  unfold F11_6 at h
  refine seg_loop (id := 4) (body := (loopB (blkB (nthC (flat (bodyOf Try.f11)) 12)))) (l2 := (flat (bodyOf Try.f11)).drop 13) (by kernel_rfl) ?_
  refine loop_ok (FL := fun m e w => F11_6L m (e 5) (e 7) (e 17) (e 18) (e 115) (e 116) w K) (fr := endD Try.prog [.tmp 4] K) (fe := (blkK 4 (fun e w => F11_7 (e 5) (e 7) w K) noE)) (fun _ _ h => h) ?_ hr (blkK_mono (fun e w h => ok11_7 hn hr he e w h) he) fuel e w h
  intro m e w h
  have h : F11_6L (m + 1) (e 5) (e 7) (e 17) (e 18) (e 115) (e 116) w K := h
  rw [F11_6L] at h
  have e1 : ∀ (Y0 : Value → Value → Value → Value → Value → Value → World → Prop) (Y1 : Value → Value → World → Prop), F11_6b (e 5) (e 7) (e 17) (e 18) (e 115) (e 116) w K Y0 Y1 = denL Try.prog (tabOf T11) 182 fuel (flat (loopB (blkB (nthC (flat (bodyOf Try.f11)) 12)))) e w (fun e w => Y0 (e 5) (e 7) (e 17) (e 18) (e 115) (e 116) w) (endD Try.prog [.tmp 4] K) (blkK 4 (fun e w => Y1 (e 5) (e 7) w) noE) := by intro Y0 Y1; kernel_rfl
  exact Eq.mp (e1 (fun a5 a7 a17 a18 a115 a116 w => F11_6L m a5 a7 a17 a18 a115 a116 w K) (fun a5 a7 w => F11_7 a5 a7 w K)) h

def F11_5b (s5 : Value) (s7 : Value) (w : World) (_K : Value → World → Prop) (Y0 : Value → Value → Value → Value → Value → Value → World → Prop) : Prop :=
Y0 s5 s7 (.int .i64 (-1)) (.int .i64 0) s7 (.int .i64 0) w

def F11_5 (s5 : Value) (s7 : Value) (w : World) (K : Value → World → Prop) : Prop := F11_5b s5 s7 w K (fun a5 a7 a17 a18 a115 a116 w => F11_6 a5 a7 a17 a18 a115 a116 w K)

theorem ok11_5 {K : Value → World → Prop} {kn kr : Env → World → Prop} {ke : Nat → Env → World → Prop}
    (hn : ∀ e w, (fun e w => K (e 4) w) e w → kn e w) (hr : ∀ e w, endD Try.prog [.tmp 4] K e w → kr e w) (he : ∀ i e w, noE i e w → ke i e w) :
    ∀ e w, F11_5 (e 5) (e 7) w K → denL Try.prog (tabOf T11) 182 fuel ((flat (bodyOf Try.f11)).drop 10) e w kn kr ke := by
  intro e w h
  unfold F11_5 at h
  have e1 : ∀ (Y0 : Value → Value → Value → Value → Value → Value → World → Prop), F11_5b (e 5) (e 7) w K Y0 = denL Try.prog (tabOf T11) 182 fuel (((flat (bodyOf Try.f11)).drop 10).take 2) e w (fun e w => Y0 (e 5) (e 7) (e 17) (e 18) (e 115) (e 116) w) (endD Try.prog [.tmp 4] K) noE := by intro Y0; kernel_rfl
  exact seg 2 (Eq.mp (e1 (fun a5 a7 a17 a18 a115 a116 w => F11_6 a5 a7 a17 a18 a115 a116 w K)) h) (fun e w h => ok11_6 hn hr he e w h) hr he

def F11_4b (s1 : Value) (s5 : Value) (s7 : Value) (s14 : Value) (s15 : Value) (w : World) (K : Value → World → Prop) (Y0 : Value → Value → Value → Value → Value → World → Prop) (Y1 : Value → Value → World → Prop) : Prop :=
bindP (lenL s1) fun v70 =>
bindP (bLt s15 v70) fun v71 =>
stepM (gd true v71) s15 fun v72 =>
stepM (gd true v71) s14 fun v73 =>
Sx.stepG (gd true v71) (lenL v73) fun v74 =>
Sx.stepG (gd true v71) (bLt v72 v74) fun v75 =>
bindP (pPick v71 v75 (.bool false)) fun v76 =>
ifB v76 (
bindP (pIndexL 11 s14 s15) fun v77 =>
bindP (ldN 11 v77 w) fun v78 =>
eAlloc Try.prog 41 w fun v80 w79 =>
bindW (st 11 v80 v78 w79) fun w81 =>
bindP (pIndexL 1 s1 s15) fun v83 =>
bindP (ld1 v83 w81) fun v84 =>
callP G15 [v84, (.int .i64 50)] w81 fun v86 w85 =>
bindP (pFieldAddr 4 v80) fun v87 =>
bindW (st 1 v87 v86 w85) fun w88 =>
bindP (ldN 11 v80 w88) fun v90 =>
callP G55 [s5, v90] w88 fun v92 w91 =>
bindP (bNe Try.prog 24 (.tmp 113) (.const (.int .i64 0)) v92 (.int .i64 0)) fun v93 =>
ifB v93 (
K (.bool false) w91) (
bindP (bAdd s15 (.int .i64 1)) fun v94 =>
Y0 s1 s5 s7 s14 v94 w91)) (
Y1 s5 s7 w)

def F11_4L : Nat → Value → Value → Value → Value → Value → World → (Value → World → Prop) → Prop
  | 0, _, _, _, _, _, _, _ => False
  | n + 1, s1, s5, s7, s14, s15, w, K => F11_4b s1 s5 s7 s14 s15 w K (fun a1 a5 a7 a14 a15 w => F11_4L n a1 a5 a7 a14 a15 w K) (fun a5 a7 w => F11_5 a5 a7 w K)

def F11_4 (s1 : Value) (s5 : Value) (s7 : Value) (s14 : Value) (s15 : Value) (w : World) (K : Value → World → Prop) : Prop := F11_4L fuel s1 s5 s7 s14 s15 w K

theorem ok11_4 {K : Value → World → Prop} {kn kr : Env → World → Prop} {ke : Nat → Env → World → Prop}
    (hn : ∀ e w, (fun e w => K (e 4) w) e w → kn e w) (hr : ∀ e w, endD Try.prog [.tmp 4] K e w → kr e w) (he : ∀ i e w, noE i e w → ke i e w) :
    ∀ e w, F11_4 (e 1) (e 5) (e 7) (e 14) (e 15) w K → denL Try.prog (tabOf T11) 182 fuel ((flat (bodyOf Try.f11)).drop 9) e w kn kr ke := by
  intro e w h
  unfold F11_4 at h
  refine seg_loop (id := 2) (body := (loopB (blkB (nthC (flat (bodyOf Try.f11)) 9)))) (l2 := (flat (bodyOf Try.f11)).drop 10) (by kernel_rfl) ?_
  refine loop_ok (FL := fun m e w => F11_4L m (e 1) (e 5) (e 7) (e 14) (e 15) w K) (fr := endD Try.prog [.tmp 4] K) (fe := (blkK 2 (fun e w => F11_5 (e 5) (e 7) w K) noE)) (fun _ _ h => h) ?_ hr (blkK_mono (fun e w h => ok11_5 hn hr he e w h) he) fuel e w h
  intro m e w h
  have h : F11_4L (m + 1) (e 1) (e 5) (e 7) (e 14) (e 15) w K := h
  rw [F11_4L] at h
  have e1 : ∀ (Y0 : Value → Value → Value → Value → Value → World → Prop) (Y1 : Value → Value → World → Prop), F11_4b (e 1) (e 5) (e 7) (e 14) (e 15) w K Y0 Y1 = denL Try.prog (tabOf T11) 182 fuel (flat (loopB (blkB (nthC (flat (bodyOf Try.f11)) 9)))) e w (fun e w => Y0 (e 1) (e 5) (e 7) (e 14) (e 15) w) (endD Try.prog [.tmp 4] K) (blkK 2 (fun e w => Y1 (e 5) (e 7) w) noE) := by intro Y0 Y1; kernel_rfl
  exact Eq.mp (e1 (fun a1 a5 a7 a14 a15 w => F11_4L m a1 a5 a7 a14 a15 w K) (fun a5 a7 w => F11_5 a5 a7 w K)) h

def F11_3b (s1 : Value) (s5 : Value) (s7 : Value) (w : World) (_K : Value → World → Prop) (Y0 : Value → Value → Value → Value → Value → World → Prop) : Prop :=
callP G54 [s5] w fun v96 w95 =>
Y0 s1 s5 s7 v96 (.int .i64 0) w95

def F11_3 (s1 : Value) (s5 : Value) (s7 : Value) (w : World) (K : Value → World → Prop) : Prop := F11_3b s1 s5 s7 w K (fun a1 a5 a7 a14 a15 w => F11_4 a1 a5 a7 a14 a15 w K)

theorem ok11_3 {K : Value → World → Prop} {kn kr : Env → World → Prop} {ke : Nat → Env → World → Prop}
    (hn : ∀ e w, (fun e w => K (e 4) w) e w → kn e w) (hr : ∀ e w, endD Try.prog [.tmp 4] K e w → kr e w) (he : ∀ i e w, noE i e w → ke i e w) :
    ∀ e w, F11_3 (e 1) (e 5) (e 7) w K → denL Try.prog (tabOf T11) 182 fuel ((flat (bodyOf Try.f11)).drop 7) e w kn kr ke := by
  intro e w h
  unfold F11_3 at h
  have e1 : ∀ (Y0 : Value → Value → Value → Value → Value → World → Prop), F11_3b (e 1) (e 5) (e 7) w K Y0 = denL Try.prog (tabOf T11) 182 fuel (((flat (bodyOf Try.f11)).drop 7).take 2) e w (fun e w => Y0 (e 1) (e 5) (e 7) (e 14) (e 15) w) (endD Try.prog [.tmp 4] K) noE := by intro Y0; kernel_rfl
  exact seg 2 (Eq.mp (e1 (fun a1 a5 a7 a14 a15 w => F11_4 a1 a5 a7 a14 a15 w K)) h) (fun e w h => ok11_4 hn hr he e w h) hr he

def F11_9b (s0 : Value) (s1 : Value) (s5 : Value) (s7 : Value) (s8 : Value) (w : World) (_K : Value → World → Prop) (R7 : Value → Value → Value → Value → Value → World → Prop) : Prop :=
bindP (bAdd s8 (.int .i64 1)) fun v97 =>
R7 s0 s1 s5 s7 v97 w

def F11_9 (s0 : Value) (s1 : Value) (s5 : Value) (s7 : Value) (s8 : Value) (w : World) (K : Value → World → Prop) (R7 : Value → Value → Value → Value → Value → World → Prop) : Prop := F11_9b s0 s1 s5 s7 s8 w K R7

theorem ok11_9 (R7 : Value → Value → Value → Value → Value → World → Prop) {K : Value → World → Prop} {kn kr : Env → World → Prop} {ke : Nat → Env → World → Prop}
    (hn : ∀ e w, (fun e w => R7 (e 0) (e 1) (e 5) (e 7) (e 8) w) e w → kn e w) (hr : ∀ e w, endD Try.prog [.tmp 4] K e w → kr e w) (he : ∀ i e w, (blkK 0 (fun e w => F11_3 (e 1) (e 5) (e 7) w K) noE) i e w → ke i e w) :
    ∀ e w, F11_9 (e 0) (e 1) (e 5) (e 7) (e 8) w K R7 → denL Try.prog (tabOf T11) 182 fuel ((flat (loopB (blkB (nthC (flat (bodyOf Try.f11)) 6)))).drop 3) e w kn kr ke := by
  intro e w h
  unfold F11_9 at h
  have e1 : ∀ (_ : Unit), F11_9b (e 0) (e 1) (e 5) (e 7) (e 8) w K R7 = denL Try.prog (tabOf T11) 182 fuel ((flat (loopB (blkB (nthC (flat (bodyOf Try.f11)) 6)))).drop 3) e w (fun e w => R7 (e 0) (e 1) (e 5) (e 7) (e 8) w) (endD Try.prog [.tmp 4] K) (blkK 0 (fun e w => F11_3 (e 1) (e 5) (e 7) w K) noE) := by intro _; kernel_rfl
  exact seg_end (Eq.mp (e1 ()) h) hn hr he

def F11_8b (s0 : Value) (s1 : Value) (s5 : Value) (s7 : Value) (s8 : Value) (w : World) (K : Value → World → Prop) (R7 : Value → Value → Value → Value → Value → World → Prop) (Y0 : Value → Value → Value → Value → Value → World → Prop) (Y1 : Value → Value → Value → World → Prop) : Prop :=
bindP (lenL s0) fun v98 =>
bindP (bLt s8 v98) fun v99 =>
stepM (gd true v99) s8 fun v100 =>
Sx.stepG (gd true v99) (bLt v100 (.int .i64 100)) fun v101 =>
bindP (pPick v99 v101 (.bool false)) fun v102 =>
ifB v102 (
bindP (pIndexL 1 s0 s8) fun v103 =>
bindP (ld1 v103 w) fun v104 =>
callP G51 [v104] w fun v106 w105 =>
eAlloc Try.prog 41 w105 fun v108 w107 =>
bindW (st 11 v108 v106 w107) fun w109 =>
bindP (pFieldAddr 1 v108) fun v111 =>
bindP (ld1 v111 w109) fun v112 =>
bindP (pFieldAddr 2 v108) fun v113 =>
bindP (ld1 v113 w109) fun v114 =>
bindP (pFieldAddr 3 v108) fun v115 =>
bindP (ld1 v115 w109) fun v116 =>
callP G52 [s5, v112, v114, v116] w109 fun v118 w117 =>
bindP (pTuple v118 0) fun v119 =>
bindP (pTuple v118 1) fun v120 =>
eAlloc Try.prog 41 w117 fun v122 w121 =>
bindW (st 11 v122 v119 w121) fun w123 =>
bindP (ldN 11 v108 w123) fun v125 =>
callP G53 [s5, v125] w123 fun v127 w126 =>
bindP (pTuple v127 0) fun _ =>
bindP (pTuple v127 1) fun v129 =>
bindP (bEq Try.prog 24 (.tmp 71) (.const (.int .i64 6)) v129 (.int .i64 6)) fun v130 =>
bindP (bNe Try.prog 4 (.tmp 72) (.tmp 73) v130 v120) fun v131 =>
stepM (gd false v131) v129 fun v132 =>
Sx.stepG (gd false v131) (bNe Try.prog 24 (.tmp 76) (.const (.int .i64 0)) v132 (.int .i64 0)) fun v133 =>
stepM (gd false v131) v133 fun v134 =>
stepM (gd true v134) v129 fun v135 =>
Sx.stepG (gd true v134) (bNe Try.prog 24 (.tmp 79) (.const (.int .i64 6)) v135 (.int .i64 6)) fun v136 =>
Sx.stepG (gd false v131) (pPick v134 v136 (.bool false)) fun v137 =>
bindP (pPick v131 (.bool true) v137) fun v138 =>
ifB v138 (
K (.bool false) w126) (
bindP (bEq Try.prog 24 (.tmp 83) (.const (.int .i64 0)) v129 (.int .i64 0)) fun v139 =>
ifB v139 (
bindP (bAdd s7 (.int .i64 1)) fun v140 =>
Y0 s0 s1 s5 v140 s8 w126) (
Y0 s0 s1 s5 s7 s8 w126))) (
Y1 s1 s5 s7 w)

def F11_8 (s0 : Value) (s1 : Value) (s5 : Value) (s7 : Value) (s8 : Value) (w : World) (K : Value → World → Prop) (R7 : Value → Value → Value → Value → Value → World → Prop) : Prop := F11_8b s0 s1 s5 s7 s8 w K R7 (fun a0 a1 a5 a7 a8 w => F11_9 a0 a1 a5 a7 a8 w K R7) (fun a1 a5 a7 w => F11_3 a1 a5 a7 w K)

theorem ok11_8 (R7 : Value → Value → Value → Value → Value → World → Prop) {K : Value → World → Prop} {kn kr : Env → World → Prop} {ke : Nat → Env → World → Prop}
    (hn : ∀ e w, (fun e w => R7 (e 0) (e 1) (e 5) (e 7) (e 8) w) e w → kn e w) (hr : ∀ e w, endD Try.prog [.tmp 4] K e w → kr e w) (he : ∀ i e w, (blkK 0 (fun e w => F11_3 (e 1) (e 5) (e 7) w K) noE) i e w → ke i e w) :
    ∀ e w, F11_8 (e 0) (e 1) (e 5) (e 7) (e 8) w K R7 → denL Try.prog (tabOf T11) 182 fuel ((flat (loopB (blkB (nthC (flat (bodyOf Try.f11)) 6)))).drop 0) e w kn kr ke := by
  intro e w h
  unfold F11_8 at h
  have e1 : ∀ (Y0 : Value → Value → Value → Value → Value → World → Prop) (Y1 : Value → Value → Value → World → Prop), F11_8b (e 0) (e 1) (e 5) (e 7) (e 8) w K R7 Y0 Y1 = denL Try.prog (tabOf T11) 182 fuel (((flat (loopB (blkB (nthC (flat (bodyOf Try.f11)) 6)))).drop 0).take 3) e w (fun e w => Y0 (e 0) (e 1) (e 5) (e 7) (e 8) w) (endD Try.prog [.tmp 4] K) (blkK 0 (fun e w => Y1 (e 1) (e 5) (e 7) w) noE) := by intro Y0 Y1; kernel_rfl
  exact seg 3 (Eq.mp (e1 (fun a0 a1 a5 a7 a8 w => F11_9 a0 a1 a5 a7 a8 w K R7) (fun a1 a5 a7 w => F11_3 a1 a5 a7 w K)) h) (fun e w h => ok11_9 R7 hn hr he e w h) hr he

def F11_2L : Nat → Value → Value → Value → Value → Value → World → (Value → World → Prop) → Prop
  | 0, _, _, _, _, _, _, _ => False
  | n + 1, s0, s1, s5, s7, s8, w, K => F11_8 s0 s1 s5 s7 s8 w K (fun a0 a1 a5 a7 a8 w => F11_2L n a0 a1 a5 a7 a8 w K)

def F11_2 (s0 : Value) (s1 : Value) (s5 : Value) (s7 : Value) (s8 : Value) (w : World) (K : Value → World → Prop) : Prop := F11_2L fuel s0 s1 s5 s7 s8 w K

theorem ok11_2 {K : Value → World → Prop} {kn kr : Env → World → Prop} {ke : Nat → Env → World → Prop}
    (hn : ∀ e w, (fun e w => K (e 4) w) e w → kn e w) (hr : ∀ e w, endD Try.prog [.tmp 4] K e w → kr e w) (he : ∀ i e w, noE i e w → ke i e w) :
    ∀ e w, F11_2 (e 0) (e 1) (e 5) (e 7) (e 8) w K → denL Try.prog (tabOf T11) 182 fuel ((flat (bodyOf Try.f11)).drop 6) e w kn kr ke := by
  intro e w h
  unfold F11_2 at h
  refine seg_loop (id := 0) (body := (loopB (blkB (nthC (flat (bodyOf Try.f11)) 6)))) (l2 := (flat (bodyOf Try.f11)).drop 7) (by kernel_rfl) ?_
  refine loop_ok (FL := fun m e w => F11_2L m (e 0) (e 1) (e 5) (e 7) (e 8) w K) (fr := endD Try.prog [.tmp 4] K) (fe := (blkK 0 (fun e w => F11_3 (e 1) (e 5) (e 7) w K) noE)) (fun _ _ h => h) ?_ hr (blkK_mono (fun e w h => ok11_3 hn hr he e w h) he) fuel e w h
  intro m e w h
  have h : F11_2L (m + 1) (e 0) (e 1) (e 5) (e 7) (e 8) w K := h
  rw [F11_2L] at h
  exact ok11_8 (fun a0 a1 a5 a7 a8 w => F11_2L m a0 a1 a5 a7 a8 w K) (fun _ _ h => h) (fun _ _ h => h) (fun _ _ _ h => h) e w h

def F11_1b (s0 : Value) (s1 : Value) (w : World) (K : Value → World → Prop) (Y0 : Value → Value → Value → Value → Value → World → Prop) : Prop :=
callP G50 [(.int .i64 100)] w fun v142 w141 =>
bindP (pTuple v142 0) fun v143 =>
bindP (pTuple v142 1) fun v144 =>
bindP (bEq Try.prog 93 (.tmp 29) (.const (.pointer none)) v143 (.pointer none)) fun v145 =>
stepM (gd false v145) v144 fun v146 =>
Sx.stepG (gd false v145) (bNe Try.prog 24 (.tmp 32) (.const (.int .i64 0)) v146 (.int .i64 0)) fun v147 =>
bindP (pPick v145 (.bool true) v147) fun v148 =>
stepE (gd false v148) (fun k => callP G21 [] w141 k) w141 fun v150 w149 =>
Sx.stepG (gd false v148) (uNot v150) fun v151 =>
bindP (pPick v148 (.bool true) v151) fun v152 =>
ifB v152 (
K (.bool false) w149) (
Y0 s0 s1 v143 (.int .i64 0) (.int .i64 0) w149)

def F11_1 (s0 : Value) (s1 : Value) (w : World) (K : Value → World → Prop) : Prop := F11_1b s0 s1 w K (fun a0 a1 a5 a7 a8 w => F11_2 a0 a1 a5 a7 a8 w K)

theorem ok11_1 {K : Value → World → Prop} {kn kr : Env → World → Prop} {ke : Nat → Env → World → Prop}
    (hn : ∀ e w, (fun e w => K (e 4) w) e w → kn e w) (hr : ∀ e w, endD Try.prog [.tmp 4] K e w → kr e w) (he : ∀ i e w, noE i e w → ke i e w) :
    ∀ e w, F11_1 (e 0) (e 1) w K → denL Try.prog (tabOf T11) 182 fuel ((flat (bodyOf Try.f11)).drop 0) e w kn kr ke := by
  intro e w h
  unfold F11_1 at h
  have e1 : ∀ (Y0 : Value → Value → Value → Value → Value → World → Prop), F11_1b (e 0) (e 1) w K Y0 = denL Try.prog (tabOf T11) 182 fuel (((flat (bodyOf Try.f11)).drop 0).take 6) e w (fun e w => Y0 (e 0) (e 1) (e 5) (e 7) (e 8) w) (endD Try.prog [.tmp 4] K) noE := by intro Y0; kernel_rfl
  exact seg 6 (Eq.mp (e1 (fun a0 a1 a5 a7 a8 w => F11_2 a0 a1 a5 a7 a8 w K)) h) (fun e w h => ok11_2 hn hr he e w h) hr he

def F11 (x0 : Value) (x1 : Value) (w : World) (K : Value → World → Prop) : Prop := F11_1 x0 x1 w K

def G11 : FnT := fun args w K => on2 (fun x0 x1 => F11 x0 x1 w K) args
theorem c11 {x0 x1 : Value} {w : World} {K : Value → World → Prop} (h : F11 x0 x1 w K) : callP G11 [x0, x1] w K := callP_intro (on2_mk (p := fun x0 x1 => F11 x0 x1 w K) h)
theorem ok11 : OkF Try.prog 11 G11 := by
  refine okF_of (tab_ok (l := T11) ⟨ok15, ok21, ok24, ok50, ok51, ok52, ok53, ok54, ok55, ok56, ok57, ok58, ok59, trivial⟩) mixed (n := fuel) Try.func11 Try.call11 fun args w K h => ?_
  obtain ⟨x0, x1, rfl, hh⟩ := of_on2 h
  unfold F11 at hh
  exact fnD_list (c := bodyOf Try.f11) (by kernel_rfl) (by kernel_rfl) (ok11_1 (fun _ _ h => h) (fun _ _ h => h) (fun _ _ _ h => h) (initE [x0, x1]) w hh)

-- 60 (*gong/hold.Hold).Load
def T60 : List (Nat × FnT) := [(22, G22), (73, G73), (104, G104), (106, G106)]
def F60_3b (s0 : Value) (s1 : Value) (s7 : Value) (w : World) (K : Value → World → Prop) : Prop :=
bindP (lenL s1) fun v1 =>
bindP (pNil s0) fun v2 =>
bindP (pFieldAddr 1 v2) fun v3 =>
bindP (ld1 v3 w) fun v4 =>
bindP (bGt v1 v4) fun v5 =>
ifB v5 (
K (.int .i64 200) w) (
bindP (pNil s0) fun v6 =>
bindP (pFieldAddr 1 v6) fun v7 =>
bindP (ld1 v7 w) fun v8 =>
bindP (pNil s7) fun v9 =>
bindP (pFieldAddr 1 v9) fun v10 =>
bindW (st 1 v10 v8 w) fun w11 =>
bindP (pNil s7) fun v13 =>
bindP (ldN 5 v13 w11) fun v14 =>
bindP (pNil s0) fun v15 =>
bindW (st 5 v15 v14 w11) fun w16 =>
K (.int .i64 0) w16)

def F60_3 (s0 : Value) (s1 : Value) (s7 : Value) (w : World) (K : Value → World → Prop) : Prop := F60_3b s0 s1 s7 w K

theorem ok60_3 {K : Value → World → Prop} {kn kr : Env → World → Prop} {ke : Nat → Env → World → Prop}
    (hn : ∀ e w, (fun e w => K (e 6) w) e w → kn e w) (hr : ∀ e w, endD Try.prog [.tmp 6] K e w → kr e w) (he : ∀ i e w, noE i e w → ke i e w) :
    ∀ e w, F60_3 (e 0) (e 1) (e 7) w K → denL Try.prog (tabOf T60) 94 fuel ((flat (bodyOf Try.f60)).drop 6) e w kn kr ke := by
  intro e w h
  unfold F60_3 at h
  have e1 : ∀ (_ : Unit), F60_3b (e 0) (e 1) (e 7) w K = denL Try.prog (tabOf T60) 94 fuel ((flat (bodyOf Try.f60)).drop 6) e w (fun e w => K (e 6) w) (endD Try.prog [.tmp 6] K) noE := by intro _; kernel_rfl
  exact seg_end (Eq.mp (e1 ()) h) hn hr he

def F60_5b (s0 : Value) (s1 : Value) (s2 : Value) (s7 : Value) (s22 : Value) (s23 : Value) (s24 : Value) (w : World) (_K : Value → World → Prop) (R3 : Value → Value → Value → Value → Value → Value → Value → World → Prop) : Prop :=
bindP (bAdd s24 (.int .i64 1)) fun v18 =>
R3 s0 s1 s2 s7 s22 s23 v18 w

def F60_5 (s0 : Value) (s1 : Value) (s2 : Value) (s7 : Value) (s22 : Value) (s23 : Value) (s24 : Value) (w : World) (K : Value → World → Prop) (R3 : Value → Value → Value → Value → Value → Value → Value → World → Prop) : Prop := F60_5b s0 s1 s2 s7 s22 s23 s24 w K R3

theorem ok60_5 (R3 : Value → Value → Value → Value → Value → Value → Value → World → Prop) {K : Value → World → Prop} {kn kr : Env → World → Prop} {ke : Nat → Env → World → Prop}
    (hn : ∀ e w, (fun e w => R3 (e 0) (e 1) (e 2) (e 7) (e 22) (e 23) (e 24) w) e w → kn e w) (hr : ∀ e w, endD Try.prog [.tmp 6] K e w → kr e w) (he : ∀ i e w, (blkK 0 (fun e w => F60_3 (e 0) (e 1) (e 7) w K) noE) i e w → ke i e w) :
    ∀ e w, F60_5 (e 0) (e 1) (e 2) (e 7) (e 22) (e 23) (e 24) w K R3 → denL Try.prog (tabOf T60) 94 fuel ((flat (loopB (blkB (nthC (flat (bodyOf Try.f60)) 5)))).drop 3) e w kn kr ke := by
  intro e w h
  unfold F60_5 at h
  have e1 : ∀ (_ : Unit), F60_5b (e 0) (e 1) (e 2) (e 7) (e 22) (e 23) (e 24) w K R3 = denL Try.prog (tabOf T60) 94 fuel ((flat (loopB (blkB (nthC (flat (bodyOf Try.f60)) 5)))).drop 3) e w (fun e w => R3 (e 0) (e 1) (e 2) (e 7) (e 22) (e 23) (e 24) w) (endD Try.prog [.tmp 6] K) (blkK 0 (fun e w => F60_3 (e 0) (e 1) (e 7) w K) noE) := by intro _; kernel_rfl
  exact seg_end (Eq.mp (e1 ()) h) hn hr he

def F60_4b (s0 : Value) (s1 : Value) (s2 : Value) (s7 : Value) (s22 : Value) (s23 : Value) (s24 : Value) (w : World) (K : Value → World → Prop) (R3 : Value → Value → Value → Value → Value → Value → Value → World → Prop) (Y0 : Value → Value → Value → Value → Value → Value → Value → World → Prop) (Y1 : Value → Value → Value → World → Prop) : Prop :=
bindP (bLt s24 s23) fun v19 =>
ifB v19 (
bindP (pIndexL 11 s22 s24) fun v20 =>
bindP (ldN 11 v20 w) fun v21 =>
eAlloc Try.prog 41 w fun v23 w22 =>
bindW (st 11 v23 v21 w22) fun w24 =>
bindP (pNil s7) fun v26 =>
bindP (pFieldAddr 3 v26) fun v27 =>
bindP (ld1 v27 w24.drew) fun v28 =>
bindP (pFieldAddr 0 v23) fun v29 =>
bindP (ld1 v29 w24.drew) fun v30 =>
bindP (fLook Try.prog 156 v28 v30 true w24.drew) fun v31 =>
bindP (pTuple v31 0) fun v32 =>
bindP (pTuple v31 1) fun v33 =>
eAlloc Try.prog 41 w24.drew fun v35 w34 =>
(fok true (ld1 v27 w34) v28 ∧ fok true (ld1 v29 w34) v30 ∧ fok true (fLook Try.prog 156 v28 v30 true w34) v31) ∧ (bindW (st 11 v35 v32 w34) fun w36 =>
bindP (pNil s7) fun v38 =>
bindP (pFieldAddr 4 v38) fun v39 =>
bindP (ld1 v39 w36.drew) fun v40 =>
bindP (ldN 11 v23 w36.drew) fun v41 =>
callP G73 [v41] w36.drew fun v43 w42 =>
fok true (ld1 v39 w42) v40 ∧ (bindP (fLook Try.prog 157 v40 v43 true w42) fun v44 =>
bindP (pTuple v44 0) fun _ =>
bindP (pTuple v44 1) fun v46 =>
bindP (ldN 11 v23 w42) fun v47 =>
callP G22 [v47] w42 fun v49 w48 =>
bindP (bNe Try.prog 24 (.tmp 50) (.const (.int .i64 0)) v49 (.int .i64 0)) fun v50 =>
Sx.stepG (gd false v50) (pFieldAddr 0 v23) fun v51 =>
Sx.stepG (gd false v50) (ld1 v51 w48) fun v52 =>
Sx.stepG (gd false v50) (bLt v52 (.int .i64 1)) fun v53 =>
bindP (pPick v50 (.bool true) v53) fun v54 =>
Sx.stepG (gd false v54) (pFieldAddr 0 v23) fun v55 =>
Sx.stepG (gd false v54) (ld1 v55 w48) fun v56 =>
stepM (gd false v54) s2 fun v57 =>
Sx.stepG (gd false v54) (bGe v56 v57) fun v58 =>
bindP (pPick v54 (.bool true) v58) fun v59 =>
stepM (gd false v59) v33 fun v60 =>
bindP (pPick v59 (.bool true) v60) fun v61 =>
stepM (gd false v61) v46 fun v62 =>
bindP (pPick v61 (.bool true) v62) fun v63 =>
ifB v63 (
K (.int .i64 4) w48) (
bindP (bLt s24 (.int .i64 65536)) fun v64 =>
ifB v64 (
bindP (ldN 11 v23 w48) fun v65 =>
callP G106 [s7, v65] w48 fun _ w66 =>
Y0 s0 s1 s2 s7 s22 s23 s24 w66) (
Y0 s0 s1 s2 s7 s22 s23 s24 w48))))) (
Y1 s0 s1 s7 w)

def F60_4 (s0 : Value) (s1 : Value) (s2 : Value) (s7 : Value) (s22 : Value) (s23 : Value) (s24 : Value) (w : World) (K : Value → World → Prop) (R3 : Value → Value → Value → Value → Value → Value → Value → World → Prop) : Prop := F60_4b s0 s1 s2 s7 s22 s23 s24 w K R3 (fun a0 a1 a2 a7 a22 a23 a24 w => F60_5 a0 a1 a2 a7 a22 a23 a24 w K R3) (fun a0 a1 a7 w => F60_3 a0 a1 a7 w K)

theorem ok60_4 (R3 : Value → Value → Value → Value → Value → Value → Value → World → Prop) {K : Value → World → Prop} {kn kr : Env → World → Prop} {ke : Nat → Env → World → Prop}
    (hn : ∀ e w, (fun e w => R3 (e 0) (e 1) (e 2) (e 7) (e 22) (e 23) (e 24) w) e w → kn e w) (hr : ∀ e w, endD Try.prog [.tmp 6] K e w → kr e w) (he : ∀ i e w, (blkK 0 (fun e w => F60_3 (e 0) (e 1) (e 7) w K) noE) i e w → ke i e w) :
    ∀ e w, F60_4 (e 0) (e 1) (e 2) (e 7) (e 22) (e 23) (e 24) w K R3 → denL Try.prog (tabOf T60) 94 fuel ((flat (loopB (blkB (nthC (flat (bodyOf Try.f60)) 5)))).drop 0) e w kn kr ke := by
  intro e w h
  unfold F60_4 at h
  have e1 : ∀ (Y0 : Value → Value → Value → Value → Value → Value → Value → World → Prop) (Y1 : Value → Value → Value → World → Prop), F60_4b (e 0) (e 1) (e 2) (e 7) (e 22) (e 23) (e 24) w K R3 Y0 Y1 = denL Try.prog (tabOf T60) 94 fuel (((flat (loopB (blkB (nthC (flat (bodyOf Try.f60)) 5)))).drop 0).take 3) e w (fun e w => Y0 (e 0) (e 1) (e 2) (e 7) (e 22) (e 23) (e 24) w) (endD Try.prog [.tmp 6] K) (blkK 0 (fun e w => Y1 (e 0) (e 1) (e 7) w) noE) := by intro Y0 Y1; kernel_rfl
  exact seg 3 (Eq.mp (e1 (fun a0 a1 a2 a7 a22 a23 a24 w => F60_5 a0 a1 a2 a7 a22 a23 a24 w K R3) (fun a0 a1 a7 w => F60_3 a0 a1 a7 w K)) h) (fun e w h => ok60_5 R3 hn hr he e w h) hr he

def F60_2L : Nat → Value → Value → Value → Value → Value → Value → Value → World → (Value → World → Prop) → Prop
  | 0, _, _, _, _, _, _, _, _, _ => False
  | n + 1, s0, s1, s2, s7, s22, s23, s24, w, K => F60_4 s0 s1 s2 s7 s22 s23 s24 w K (fun a0 a1 a2 a7 a22 a23 a24 w => F60_2L n a0 a1 a2 a7 a22 a23 a24 w K)

def F60_2 (s0 : Value) (s1 : Value) (s2 : Value) (s7 : Value) (s22 : Value) (s23 : Value) (s24 : Value) (w : World) (K : Value → World → Prop) : Prop := F60_2L fuel s0 s1 s2 s7 s22 s23 s24 w K

theorem ok60_2 {K : Value → World → Prop} {kn kr : Env → World → Prop} {ke : Nat → Env → World → Prop}
    (hn : ∀ e w, (fun e w => K (e 6) w) e w → kn e w) (hr : ∀ e w, endD Try.prog [.tmp 6] K e w → kr e w) (he : ∀ i e w, noE i e w → ke i e w) :
    ∀ e w, F60_2 (e 0) (e 1) (e 2) (e 7) (e 22) (e 23) (e 24) w K → denL Try.prog (tabOf T60) 94 fuel ((flat (bodyOf Try.f60)).drop 5) e w kn kr ke := by
  intro e w h
  unfold F60_2 at h
  refine seg_loop (id := 0) (body := (loopB (blkB (nthC (flat (bodyOf Try.f60)) 5)))) (l2 := (flat (bodyOf Try.f60)).drop 6) (by kernel_rfl) ?_
  refine loop_ok (FL := fun m e w => F60_2L m (e 0) (e 1) (e 2) (e 7) (e 22) (e 23) (e 24) w K) (fr := endD Try.prog [.tmp 6] K) (fe := (blkK 0 (fun e w => F60_3 (e 0) (e 1) (e 7) w K) noE)) (fun _ _ h => h) ?_ hr (blkK_mono (fun e w h => ok60_3 hn hr he e w h) he) fuel e w h
  intro m e w h
  have h : F60_2L (m + 1) (e 0) (e 1) (e 2) (e 7) (e 22) (e 23) (e 24) w K := h
  rw [F60_2L] at h
  exact ok60_4 (fun a0 a1 a2 a7 a22 a23 a24 w => F60_2L m a0 a1 a2 a7 a22 a23 a24 w K) (fun _ _ h => h) (fun _ _ h => h) (fun _ _ _ h => h) e w h

def F60_1b (s0 : Value) (s1 : Value) (s2 : Value) (w : World) (K : Value → World → Prop) (Y0 : Value → Value → Value → Value → Value → Value → Value → World → Prop) : Prop :=
bindP (bLt s2 (.int .i64 1)) fun v68 =>
stepM (gd false v68) s2 fun v69 =>
Sx.stepG (gd false v68) (bGt v69 (.int .i64 1152921504606846976)) fun v70 =>
bindP (pPick v68 (.bool true) v70) fun v71 =>
ifB v71 (
K (.int .i64 4) w) (
callP G104 [(.int .i64 65536), s2] w fun v73 w72 =>
bindP (lenL s1) fun v74 =>
Y0 s0 s1 s2 v73 s1 v74 (.int .i64 0) w72)

def F60_1 (s0 : Value) (s1 : Value) (s2 : Value) (w : World) (K : Value → World → Prop) : Prop := F60_1b s0 s1 s2 w K (fun a0 a1 a2 a7 a22 a23 a24 w => F60_2 a0 a1 a2 a7 a22 a23 a24 w K)

theorem ok60_1 {K : Value → World → Prop} {kn kr : Env → World → Prop} {ke : Nat → Env → World → Prop}
    (hn : ∀ e w, (fun e w => K (e 6) w) e w → kn e w) (hr : ∀ e w, endD Try.prog [.tmp 6] K e w → kr e w) (he : ∀ i e w, noE i e w → ke i e w) :
    ∀ e w, F60_1 (e 0) (e 1) (e 2) w K → denL Try.prog (tabOf T60) 94 fuel ((flat (bodyOf Try.f60)).drop 0) e w kn kr ke := by
  intro e w h
  unfold F60_1 at h
  have e1 : ∀ (Y0 : Value → Value → Value → Value → Value → Value → Value → World → Prop), F60_1b (e 0) (e 1) (e 2) w K Y0 = denL Try.prog (tabOf T60) 94 fuel (((flat (bodyOf Try.f60)).drop 0).take 5) e w (fun e w => Y0 (e 0) (e 1) (e 2) (e 7) (e 22) (e 23) (e 24) w) (endD Try.prog [.tmp 6] K) noE := by intro Y0; kernel_rfl
  exact seg 5 (Eq.mp (e1 (fun a0 a1 a2 a7 a22 a23 a24 w => F60_2 a0 a1 a2 a7 a22 a23 a24 w K)) h) (fun e w h => ok60_2 hn hr he e w h) hr he

def F60 (x0 : Value) (x1 : Value) (x2 : Value) (w : World) (K : Value → World → Prop) : Prop := F60_1 x0 x1 x2 w K

def G60 : FnT := fun args w K => on3 (fun x0 x1 x2 => F60 x0 x1 x2 w K) args
theorem c60 {x0 x1 x2 : Value} {w : World} {K : Value → World → Prop} (h : F60 x0 x1 x2 w K) : callP G60 [x0, x1, x2] w K := callP_intro (on3_mk (p := fun x0 x1 x2 => F60 x0 x1 x2 w K) h)
theorem ok60 : OkF Try.prog 60 G60 := by
  refine okF_of (tab_ok (l := T60) ⟨ok22, ok73, ok104, ok106, trivial⟩) mixed (n := fuel) Try.func60 Try.call60 fun args w K h => ?_
  obtain ⟨x0, x1, x2, rfl, hh⟩ := of_on3 h
  unfold F60 at hh
  exact fnD_list (c := bodyOf Try.f60) (by kernel_rfl) (by kernel_rfl) (ok60_1 (fun _ _ h => h) (fun _ _ h => h) (fun _ _ _ h => h) (initE [x0, x1, x2]) w hh)

-- 12 gong/gonglaw21.HoldLoads
def T12 : List (Nat × FnT) := [(15, G15), (21, G21), (24, G24), (50, G50), (51, G51), (53, G53), (54, G54), (56, G56), (57, G57), (59, G59), (60, G60)]
def F12_7b (w : World) (K : Value → World → Prop) : Prop :=
K (.bool true) w

def F12_7 (w : World) (K : Value → World → Prop) : Prop := F12_7b w K

theorem ok12_7 {K : Value → World → Prop} {kn kr : Env → World → Prop} {ke : Nat → Env → World → Prop}
    (hn : ∀ e w, (fun e w => K (e 6) w) e w → kn e w) (hr : ∀ e w, endD Try.prog [.tmp 6] K e w → kr e w) (he : ∀ i e w, noE i e w → ke i e w) :
    ∀ e w, F12_7 w K → denL Try.prog (tabOf T12) 207 fuel ((flat (bodyOf Try.f12)).drop 18) e w kn kr ke := by
  intro e w h
  unfold F12_7 at h
  have e1 : ∀ (_ : Unit), F12_7b w K = denL Try.prog (tabOf T12) 207 fuel ((flat (bodyOf Try.f12)).drop 18) e w (fun e w => K (e 6) w) (endD Try.prog [.tmp 6] K) noE := by intro _; kernel_rfl
  exact seg_end (Eq.mp (e1 ()) h) hn hr he

def F12_6b (s23 : Value) (s24 : Value) (s192 : Value) (s193 : Value) (w : World) (K : Value → World → Prop) (Y0 : Value → Value → Value → Value → World → Prop) (Y1 : World → Prop) : Prop :=
bindP (bLt s193 s192) fun v1 =>
ifB v1 (
bindP (pIndexL 11 s23 s193) fun v2 =>
bindP (ldN 11 v2 w.drew) fun v3 =>
bindP (pIndexL 11 s24 s193) fun v4 =>
bindP (ldN 11 v4 w.drew) fun v5 =>
callP G24 [v3, v5] w.drew fun v7 w6 =>
bindP (uNot v7) fun v8 =>
ifB v8 (
K (.bool false) w6) (
bindP (bAdd s193 (.int .i64 1)) fun v9 =>
Y0 s23 s24 s192 v9 w6)) (
Y1 w)

def F12_6L : Nat → Value → Value → Value → Value → World → (Value → World → Prop) → Prop
  | 0, _, _, _, _, _, _ => False
  | n + 1, s23, s24, s192, s193, w, K => F12_6b s23 s24 s192 s193 w K (fun a23 a24 a192 a193 w => F12_6L n a23 a24 a192 a193 w K) (fun w => F12_7 w K)

def F12_6 (s23 : Value) (s24 : Value) (s192 : Value) (s193 : Value) (w : World) (K : Value → World → Prop) : Prop := F12_6L fuel s23 s24 s192 s193 w K

theorem ok12_6 {K : Value → World → Prop} {kn kr : Env → World → Prop} {ke : Nat → Env → World → Prop}
    (hn : ∀ e w, (fun e w => K (e 6) w) e w → kn e w) (hr : ∀ e w, endD Try.prog [.tmp 6] K e w → kr e w) (he : ∀ i e w, noE i e w → ke i e w) :
    ∀ e w, F12_6 (e 23) (e 24) (e 192) (e 193) w K → denL Try.prog (tabOf T12) 207 fuel ((flat (bodyOf Try.f12)).drop 17) e w kn kr ke := by
  intro e w h
  unfold F12_6 at h
  refine seg_loop (id := 4) (body := (loopB (blkB (nthC (flat (bodyOf Try.f12)) 17)))) (l2 := (flat (bodyOf Try.f12)).drop 18) (by kernel_rfl) ?_
  refine loop_ok (FL := fun m e w => F12_6L m (e 23) (e 24) (e 192) (e 193) w K) (fr := endD Try.prog [.tmp 6] K) (fe := (blkK 4 (fun e w => F12_7 w K) noE)) (fun _ _ h => h) ?_ hr (blkK_mono (fun e w h => ok12_7 hn hr he e w h) he) fuel e w h
  intro m e w h
  have h : F12_6L (m + 1) (e 23) (e 24) (e 192) (e 193) w K := h
  rw [F12_6L] at h
  have e1 : ∀ (Y0 : Value → Value → Value → Value → World → Prop) (Y1 : World → Prop), F12_6b (e 23) (e 24) (e 192) (e 193) w K Y0 Y1 = denL Try.prog (tabOf T12) 207 fuel (flat (loopB (blkB (nthC (flat (bodyOf Try.f12)) 17)))) e w (fun e w => Y0 (e 23) (e 24) (e 192) (e 193) w) (endD Try.prog [.tmp 6] K) (blkK 4 (fun e w => Y1 w) noE) := by intro Y0 Y1; kernel_rfl
  exact Eq.mp (e1 (fun a23 a24 a192 a193 w => F12_6L m a23 a24 a192 a193 w K) (fun w => F12_7 w K)) h

def F12_5b (s7 : Value) (s9 : Value) (w : World) (K : Value → World → Prop) (Y0 : Value → Value → Value → Value → World → Prop) : Prop :=
callP G54 [s7] w fun v11 w10 =>
callP G54 [s9] w10 fun v13 w12 =>
bindP (lenL v11) fun v14 =>
bindP (lenL v13) fun v15 =>
bindP (bNe Try.prog 3 (.tmp 180) (.tmp 182) v14 v15) fun v16 =>
stepM (gd false v16) s7 fun v17 =>
stepE (gd false v16) (fun k => callP G59 [v17] w12 k) w12 fun v19 w18 =>
stepM (gd false v16) s9 fun v20 =>
stepE (gd false v16) (fun k => callP G59 [v20] w18 k) w18 fun v22 w21 =>
Sx.stepG (gd false v16) (bNe Try.prog 3 (.tmp 186) (.tmp 188) v19 v22) fun v23 =>
bindP (pPick v16 (.bool true) v23) fun v24 =>
ifB v24 (
K (.bool false) w21) (
bindP (lenL v11) fun v25 =>
Y0 v11 v13 v25 (.int .i64 0) w21)

def F12_5 (s7 : Value) (s9 : Value) (w : World) (K : Value → World → Prop) : Prop := F12_5b s7 s9 w K (fun a23 a24 a192 a193 w => F12_6 a23 a24 a192 a193 w K)

theorem ok12_5 {K : Value → World → Prop} {kn kr : Env → World → Prop} {ke : Nat → Env → World → Prop}
    (hn : ∀ e w, (fun e w => K (e 6) w) e w → kn e w) (hr : ∀ e w, endD Try.prog [.tmp 6] K e w → kr e w) (he : ∀ i e w, noE i e w → ke i e w) :
    ∀ e w, F12_5 (e 7) (e 9) w K → denL Try.prog (tabOf T12) 207 fuel ((flat (bodyOf Try.f12)).drop 13) e w kn kr ke := by
  intro e w h
  unfold F12_5 at h
  have e1 : ∀ (Y0 : Value → Value → Value → Value → World → Prop), F12_5b (e 7) (e 9) w K Y0 = denL Try.prog (tabOf T12) 207 fuel (((flat (bodyOf Try.f12)).drop 13).take 4) e w (fun e w => Y0 (e 23) (e 24) (e 192) (e 193) w) (endD Try.prog [.tmp 6] K) noE := by intro Y0; kernel_rfl
  exact seg 4 (Eq.mp (e1 (fun a23 a24 a192 a193 w => F12_6 a23 a24 a192 a193 w K)) h) (fun e w h => ok12_6 hn hr he e w h) hr he

def F12_9b (s1 : Value) (s7 : Value) (s9 : Value) (s14 : Value) (w : World) (_K : Value → World → Prop) (R7 : Value → Value → Value → Value → World → Prop) : Prop :=
bindP (bAdd s14 (.int .i64 1)) fun v26 =>
R7 s1 s7 s9 v26 w

def F12_9 (s1 : Value) (s7 : Value) (s9 : Value) (s14 : Value) (w : World) (K : Value → World → Prop) (R7 : Value → Value → Value → Value → World → Prop) : Prop := F12_9b s1 s7 s9 s14 w K R7

theorem ok12_9 (R7 : Value → Value → Value → Value → World → Prop) {K : Value → World → Prop} {kn kr : Env → World → Prop} {ke : Nat → Env → World → Prop}
    (hn : ∀ e w, (fun e w => R7 (e 1) (e 7) (e 9) (e 14) w) e w → kn e w) (hr : ∀ e w, endD Try.prog [.tmp 6] K e w → kr e w) (he : ∀ i e w, (blkK 2 (fun e w => F12_5 (e 7) (e 9) w K) noE) i e w → ke i e w) :
    ∀ e w, F12_9 (e 1) (e 7) (e 9) (e 14) w K R7 → denL Try.prog (tabOf T12) 207 fuel ((flat (loopB (blkB (nthC (flat (bodyOf Try.f12)) 12)))).drop 3) e w kn kr ke := by
  intro e w h
  unfold F12_9 at h
  have e1 : ∀ (_ : Unit), F12_9b (e 1) (e 7) (e 9) (e 14) w K R7 = denL Try.prog (tabOf T12) 207 fuel ((flat (loopB (blkB (nthC (flat (bodyOf Try.f12)) 12)))).drop 3) e w (fun e w => R7 (e 1) (e 7) (e 9) (e 14) w) (endD Try.prog [.tmp 6] K) (blkK 2 (fun e w => F12_5 (e 7) (e 9) w K) noE) := by intro _; kernel_rfl
  exact seg_end (Eq.mp (e1 ()) h) hn hr he

def F12_8b (s1 : Value) (s7 : Value) (s9 : Value) (s14 : Value) (w : World) (K : Value → World → Prop) (R7 : Value → Value → Value → Value → World → Prop) (Y0 : Value → Value → Value → Value → World → Prop) (Y1 : Value → Value → World → Prop) : Prop :=
bindP (lenL s1) fun v27 =>
bindP (bLt s14 v27) fun v28 =>
stepM (gd true v28) s14 fun v29 =>
Sx.stepG (gd true v28) (bLt v29 (.int .i64 60)) fun v30 =>
bindP (pPick v28 v30 (.bool false)) fun v31 =>
ifB v31 (
bindP (pIndexL 1 s1 s14) fun v32 =>
bindP (ld1 v32 w) fun v33 =>
callP G51 [v33] w fun v35 w34 =>
callP G53 [s7, v35] w34 fun v37 w36 =>
bindP (pTuple v37 0) fun v38 =>
bindP (pTuple v37 1) fun v39 =>
bindP (pIndexL 1 s1 s14) fun v40 =>
bindP (ld1 v40 w36) fun v41 =>
callP G51 [v41] w36 fun v43 w42 =>
callP G53 [s9, v43] w42 fun v45 w44 =>
bindP (pTuple v45 0) fun v46 =>
bindP (pTuple v45 1) fun v47 =>
bindP (bNe Try.prog 3 (.tmp 134) (.tmp 135) v38 v46) fun v48 =>
stepM (gd false v48) v39 fun v49 =>
stepM (gd false v48) v47 fun v50 =>
Sx.stepG (gd false v48) (bNe Try.prog 24 (.tmp 138) (.tmp 139) v49 v50) fun v51 =>
bindP (pPick v48 (.bool true) v51) fun v52 =>
ifB v52 (
K (.bool false) w44) (
bindP (pIndexL 1 s1 s14) fun v53 =>
bindP (ld1 v53 w44) fun v54 =>
bindP (bRem v54 (.int .i64 3)) fun v55 =>
bindP (bEq Try.prog 3 (.tmp 146) (.const (.int .i64 0)) v55 (.int .i64 0)) fun v56 =>
ifB v56 (
callP G56 [s7] w44 fun v58 w57 =>
bindP (pTuple v58 0) fun v59 =>
bindP (pTuple v58 1) fun v60 =>
eAlloc Try.prog 41 w57 fun v62 w61 =>
bindW (st 11 v62 v59 w61) fun w63 =>
callP G56 [s9] w63 fun v66 w65 =>
bindP (pTuple v66 0) fun v67 =>
bindP (pTuple v66 1) fun v68 =>
eAlloc Try.prog 41 w65 fun v70 w69 =>
bindW (st 11 v70 v67 w69) fun w71 =>
bindP (pFieldAddr 0 v62) fun v73 =>
bindP (ld1 v73 w71) fun v74 =>
callP G57 [s7, v74] w71 fun _ w75 =>
bindP (pFieldAddr 0 v70) fun v77 =>
bindP (ld1 v77 w75) fun v78 =>
callP G57 [s9, v78] w75 fun _ w79 =>
bindP (ldN 11 v62 w79) fun v81 =>
bindP (ldN 11 v70 w79) fun v82 =>
callP G24 [v81, v82] w79 fun v84 w83 =>
bindP (uNot v84) fun v85 =>
stepM (gd false v85) v60 fun v86 =>
stepM (gd false v85) v68 fun v87 =>
Sx.stepG (gd false v85) (bNe Try.prog 4 (.tmp 171) (.tmp 172) v86 v87) fun v88 =>
bindP (pPick v85 (.bool true) v88) fun v89 =>
ifB v89 (
K (.bool false) w83) (
Y0 s1 s7 s9 s14 w83)) (
Y0 s1 s7 s9 s14 w44))) (
Y1 s7 s9 w)

def F12_8 (s1 : Value) (s7 : Value) (s9 : Value) (s14 : Value) (w : World) (K : Value → World → Prop) (R7 : Value → Value → Value → Value → World → Prop) : Prop := F12_8b s1 s7 s9 s14 w K R7 (fun a1 a7 a9 a14 w => F12_9 a1 a7 a9 a14 w K R7) (fun a7 a9 w => F12_5 a7 a9 w K)

theorem ok12_8 (R7 : Value → Value → Value → Value → World → Prop) {K : Value → World → Prop} {kn kr : Env → World → Prop} {ke : Nat → Env → World → Prop}
    (hn : ∀ e w, (fun e w => R7 (e 1) (e 7) (e 9) (e 14) w) e w → kn e w) (hr : ∀ e w, endD Try.prog [.tmp 6] K e w → kr e w) (he : ∀ i e w, (blkK 2 (fun e w => F12_5 (e 7) (e 9) w K) noE) i e w → ke i e w) :
    ∀ e w, F12_8 (e 1) (e 7) (e 9) (e 14) w K R7 → denL Try.prog (tabOf T12) 207 fuel ((flat (loopB (blkB (nthC (flat (bodyOf Try.f12)) 12)))).drop 0) e w kn kr ke := by
  intro e w h
  unfold F12_8 at h
  have e1 : ∀ (Y0 : Value → Value → Value → Value → World → Prop) (Y1 : Value → Value → World → Prop), F12_8b (e 1) (e 7) (e 9) (e 14) w K R7 Y0 Y1 = denL Try.prog (tabOf T12) 207 fuel (((flat (loopB (blkB (nthC (flat (bodyOf Try.f12)) 12)))).drop 0).take 3) e w (fun e w => Y0 (e 1) (e 7) (e 9) (e 14) w) (endD Try.prog [.tmp 6] K) (blkK 2 (fun e w => Y1 (e 7) (e 9) w) noE) := by intro Y0 Y1; kernel_rfl
  exact seg 3 (Eq.mp (e1 (fun a1 a7 a9 a14 w => F12_9 a1 a7 a9 a14 w K R7) (fun a7 a9 w => F12_5 a7 a9 w K)) h) (fun e w h => ok12_9 R7 hn hr he e w h) hr he

def F12_4L : Nat → Value → Value → Value → Value → World → (Value → World → Prop) → Prop
  | 0, _, _, _, _, _, _ => False
  | n + 1, s1, s7, s9, s14, w, K => F12_8 s1 s7 s9 s14 w K (fun a1 a7 a9 a14 w => F12_4L n a1 a7 a9 a14 w K)

def F12_4 (s1 : Value) (s7 : Value) (s9 : Value) (s14 : Value) (w : World) (K : Value → World → Prop) : Prop := F12_4L fuel s1 s7 s9 s14 w K

theorem ok12_4 {K : Value → World → Prop} {kn kr : Env → World → Prop} {ke : Nat → Env → World → Prop}
    (hn : ∀ e w, (fun e w => K (e 6) w) e w → kn e w) (hr : ∀ e w, endD Try.prog [.tmp 6] K e w → kr e w) (he : ∀ i e w, noE i e w → ke i e w) :
    ∀ e w, F12_4 (e 1) (e 7) (e 9) (e 14) w K → denL Try.prog (tabOf T12) 207 fuel ((flat (bodyOf Try.f12)).drop 12) e w kn kr ke := by
  intro e w h
  unfold F12_4 at h
  refine seg_loop (id := 2) (body := (loopB (blkB (nthC (flat (bodyOf Try.f12)) 12)))) (l2 := (flat (bodyOf Try.f12)).drop 13) (by kernel_rfl) ?_
  refine loop_ok (FL := fun m e w => F12_4L m (e 1) (e 7) (e 9) (e 14) w K) (fr := endD Try.prog [.tmp 6] K) (fe := (blkK 2 (fun e w => F12_5 (e 7) (e 9) w K) noE)) (fun _ _ h => h) ?_ hr (blkK_mono (fun e w h => ok12_5 hn hr he e w h) he) fuel e w h
  intro m e w h
  have h : F12_4L (m + 1) (e 1) (e 7) (e 9) (e 14) w K := h
  rw [F12_4L] at h
  exact ok12_8 (fun a1 a7 a9 a14 w => F12_4L m a1 a7 a9 a14 w K) (fun _ _ h => h) (fun _ _ h => h) (fun _ _ _ h => h) e w h

def F12_3b (s1 : Value) (s2 : Value) (s7 : Value) (s9 : Value) (w : World) (K : Value → World → Prop) (Y0 : Value → Value → Value → Value → World → Prop) : Prop :=
callP G54 [s7] w fun v91 w90 =>
bindP (lenL v91) fun v92 =>
bindP (bAdd v92 (.int .i64 1)) fun v93 =>
callP G15 [s2, v93] w90 fun v95 w94 =>
bindP (pSliceL 11 v91 (some v95) none none) fun v96 =>
bindP (pSliceL 11 v91 none (some v95) none) fun v97 =>
eBuildSl Try.prog 101 0 [] w94.drew fun v99 w98 =>
eAppend Try.prog 101 101 v99 v96 w98 fun v101 w100 =>
eAppend Try.prog 101 101 v101 v97 w100 fun v103 w102 =>
callP G59 [s7] w102 fun v105 w104 =>
callP G60 [s9, v103, v105] w104 fun v107 w106 =>
bindP (bNe Try.prog 24 (.tmp 102) (.const (.int .i64 0)) v107 (.int .i64 0)) fun v108 =>
ifB v108 (
K (.bool false) w106) (
Y0 s1 s7 s9 (.int .i64 0) w106)

def F12_3 (s1 : Value) (s2 : Value) (s7 : Value) (s9 : Value) (w : World) (K : Value → World → Prop) : Prop := F12_3b s1 s2 s7 s9 w K (fun a1 a7 a9 a14 w => F12_4 a1 a7 a9 a14 w K)

theorem ok12_3 {K : Value → World → Prop} {kn kr : Env → World → Prop} {ke : Nat → Env → World → Prop}
    (hn : ∀ e w, (fun e w => K (e 6) w) e w → kn e w) (hr : ∀ e w, endD Try.prog [.tmp 6] K e w → kr e w) (he : ∀ i e w, noE i e w → ke i e w) :
    ∀ e w, F12_3 (e 1) (e 2) (e 7) (e 9) w K → denL Try.prog (tabOf T12) 207 fuel ((flat (bodyOf Try.f12)).drop 7) e w kn kr ke := by
  intro e w h
  unfold F12_3 at h
  have e1 : ∀ (Y0 : Value → Value → Value → Value → World → Prop), F12_3b (e 1) (e 2) (e 7) (e 9) w K Y0 = denL Try.prog (tabOf T12) 207 fuel (((flat (bodyOf Try.f12)).drop 7).take 5) e w (fun e w => Y0 (e 1) (e 7) (e 9) (e 14) w) (endD Try.prog [.tmp 6] K) noE := by intro Y0; kernel_rfl
  exact seg 5 (Eq.mp (e1 (fun a1 a7 a9 a14 w => F12_4 a1 a7 a9 a14 w K)) h) (fun e w h => ok12_4 hn hr he e w h) hr he

def F12_11b (s0 : Value) (s1 : Value) (s2 : Value) (s7 : Value) (s9 : Value) (s11 : Value) (w : World) (_K : Value → World → Prop) (R9 : Value → Value → Value → Value → Value → Value → World → Prop) : Prop :=
bindP (bAdd s11 (.int .i64 1)) fun v109 =>
R9 s0 s1 s2 s7 s9 v109 w

def F12_11 (s0 : Value) (s1 : Value) (s2 : Value) (s7 : Value) (s9 : Value) (s11 : Value) (w : World) (K : Value → World → Prop) (R9 : Value → Value → Value → Value → Value → Value → World → Prop) : Prop := F12_11b s0 s1 s2 s7 s9 s11 w K R9

theorem ok12_11 (R9 : Value → Value → Value → Value → Value → Value → World → Prop) {K : Value → World → Prop} {kn kr : Env → World → Prop} {ke : Nat → Env → World → Prop}
    (hn : ∀ e w, (fun e w => R9 (e 0) (e 1) (e 2) (e 7) (e 9) (e 11) w) e w → kn e w) (hr : ∀ e w, endD Try.prog [.tmp 6] K e w → kr e w) (he : ∀ i e w, (blkK 0 (fun e w => F12_3 (e 1) (e 2) (e 7) (e 9) w K) noE) i e w → ke i e w) :
    ∀ e w, F12_11 (e 0) (e 1) (e 2) (e 7) (e 9) (e 11) w K R9 → denL Try.prog (tabOf T12) 207 fuel ((flat (loopB (blkB (nthC (flat (bodyOf Try.f12)) 6)))).drop 3) e w kn kr ke := by
  intro e w h
  unfold F12_11 at h
  have e1 : ∀ (_ : Unit), F12_11b (e 0) (e 1) (e 2) (e 7) (e 9) (e 11) w K R9 = denL Try.prog (tabOf T12) 207 fuel ((flat (loopB (blkB (nthC (flat (bodyOf Try.f12)) 6)))).drop 3) e w (fun e w => R9 (e 0) (e 1) (e 2) (e 7) (e 9) (e 11) w) (endD Try.prog [.tmp 6] K) (blkK 0 (fun e w => F12_3 (e 1) (e 2) (e 7) (e 9) w K) noE) := by intro _; kernel_rfl
  exact seg_end (Eq.mp (e1 ()) h) hn hr he

def F12_10b (s0 : Value) (s1 : Value) (s2 : Value) (s7 : Value) (s9 : Value) (s11 : Value) (w : World) (_K : Value → World → Prop) (R9 : Value → Value → Value → Value → Value → Value → World → Prop) (Y0 : Value → Value → Value → Value → Value → Value → World → Prop) (Y1 : Value → Value → Value → Value → World → Prop) : Prop :=
bindP (lenL s0) fun v110 =>
bindP (bLt s11 v110) fun v111 =>
stepM (gd true v111) s11 fun v112 =>
Sx.stepG (gd true v111) (bLt v112 (.int .i64 60)) fun v113 =>
bindP (pPick v111 v113 (.bool false)) fun v114 =>
ifB v114 (
bindP (pIndexL 1 s0 s11) fun v115 =>
bindP (ld1 v115 w) fun v116 =>
callP G51 [v116] w fun v118 w117 =>
callP G53 [s7, v118] w117 fun _ w119 =>
bindP (pIndexL 1 s0 s11) fun v121 =>
bindP (ld1 v121 w119) fun v122 =>
bindP (bRem v122 (.int .i64 5)) fun v123 =>
bindP (bEq Try.prog 3 (.tmp 73) (.const (.int .i64 0)) v123 (.int .i64 0)) fun v124 =>
ifB v124 (
bindP (pIndexL 1 s0 s11) fun v125 =>
bindP (ld1 v125 w119) fun v126 =>
bindP (bQuo v126 (.int .i64 5)) fun v127 =>
callP G15 [v127, (.int .i64 20)] w119 fun v129 w128 =>
callP G57 [s7, v129] w128 fun _ w130 =>
Y0 s0 s1 s2 s7 s9 s11 w130) (
Y0 s0 s1 s2 s7 s9 s11 w119)) (
Y1 s1 s2 s7 s9 w)

def F12_10 (s0 : Value) (s1 : Value) (s2 : Value) (s7 : Value) (s9 : Value) (s11 : Value) (w : World) (K : Value → World → Prop) (R9 : Value → Value → Value → Value → Value → Value → World → Prop) : Prop := F12_10b s0 s1 s2 s7 s9 s11 w K R9 (fun a0 a1 a2 a7 a9 a11 w => F12_11 a0 a1 a2 a7 a9 a11 w K R9) (fun a1 a2 a7 a9 w => F12_3 a1 a2 a7 a9 w K)

theorem ok12_10 (R9 : Value → Value → Value → Value → Value → Value → World → Prop) {K : Value → World → Prop} {kn kr : Env → World → Prop} {ke : Nat → Env → World → Prop}
    (hn : ∀ e w, (fun e w => R9 (e 0) (e 1) (e 2) (e 7) (e 9) (e 11) w) e w → kn e w) (hr : ∀ e w, endD Try.prog [.tmp 6] K e w → kr e w) (he : ∀ i e w, (blkK 0 (fun e w => F12_3 (e 1) (e 2) (e 7) (e 9) w K) noE) i e w → ke i e w) :
    ∀ e w, F12_10 (e 0) (e 1) (e 2) (e 7) (e 9) (e 11) w K R9 → denL Try.prog (tabOf T12) 207 fuel ((flat (loopB (blkB (nthC (flat (bodyOf Try.f12)) 6)))).drop 0) e w kn kr ke := by
  intro e w h
  unfold F12_10 at h
  have e1 : ∀ (Y0 : Value → Value → Value → Value → Value → Value → World → Prop) (Y1 : Value → Value → Value → Value → World → Prop), F12_10b (e 0) (e 1) (e 2) (e 7) (e 9) (e 11) w K R9 Y0 Y1 = denL Try.prog (tabOf T12) 207 fuel (((flat (loopB (blkB (nthC (flat (bodyOf Try.f12)) 6)))).drop 0).take 3) e w (fun e w => Y0 (e 0) (e 1) (e 2) (e 7) (e 9) (e 11) w) (endD Try.prog [.tmp 6] K) (blkK 0 (fun e w => Y1 (e 1) (e 2) (e 7) (e 9) w) noE) := by intro Y0 Y1; kernel_rfl
  exact seg 3 (Eq.mp (e1 (fun a0 a1 a2 a7 a9 a11 w => F12_11 a0 a1 a2 a7 a9 a11 w K R9) (fun a1 a2 a7 a9 w => F12_3 a1 a2 a7 a9 w K)) h) (fun e w h => ok12_11 R9 hn hr he e w h) hr he

def F12_2L : Nat → Value → Value → Value → Value → Value → Value → World → (Value → World → Prop) → Prop
  | 0, _, _, _, _, _, _, _, _ => False
  | n + 1, s0, s1, s2, s7, s9, s11, w, K => F12_10 s0 s1 s2 s7 s9 s11 w K (fun a0 a1 a2 a7 a9 a11 w => F12_2L n a0 a1 a2 a7 a9 a11 w K)

def F12_2 (s0 : Value) (s1 : Value) (s2 : Value) (s7 : Value) (s9 : Value) (s11 : Value) (w : World) (K : Value → World → Prop) : Prop := F12_2L fuel s0 s1 s2 s7 s9 s11 w K

theorem ok12_2 {K : Value → World → Prop} {kn kr : Env → World → Prop} {ke : Nat → Env → World → Prop}
    (hn : ∀ e w, (fun e w => K (e 6) w) e w → kn e w) (hr : ∀ e w, endD Try.prog [.tmp 6] K e w → kr e w) (he : ∀ i e w, noE i e w → ke i e w) :
    ∀ e w, F12_2 (e 0) (e 1) (e 2) (e 7) (e 9) (e 11) w K → denL Try.prog (tabOf T12) 207 fuel ((flat (bodyOf Try.f12)).drop 6) e w kn kr ke := by
  intro e w h
  unfold F12_2 at h
  refine seg_loop (id := 0) (body := (loopB (blkB (nthC (flat (bodyOf Try.f12)) 6)))) (l2 := (flat (bodyOf Try.f12)).drop 7) (by kernel_rfl) ?_
  refine loop_ok (FL := fun m e w => F12_2L m (e 0) (e 1) (e 2) (e 7) (e 9) (e 11) w K) (fr := endD Try.prog [.tmp 6] K) (fe := (blkK 0 (fun e w => F12_3 (e 1) (e 2) (e 7) (e 9) w K) noE)) (fun _ _ h => h) ?_ hr (blkK_mono (fun e w h => ok12_3 hn hr he e w h) he) fuel e w h
  intro m e w h
  have h : F12_2L (m + 1) (e 0) (e 1) (e 2) (e 7) (e 9) (e 11) w K := h
  rw [F12_2L] at h
  exact ok12_10 (fun a0 a1 a2 a7 a9 a11 w => F12_2L m a0 a1 a2 a7 a9 a11 w K) (fun _ _ h => h) (fun _ _ h => h) (fun _ _ _ h => h) e w h

def F12_1b (s0 : Value) (s1 : Value) (s2 : Value) (w : World) (K : Value → World → Prop) (Y0 : Value → Value → Value → Value → Value → Value → World → Prop) : Prop :=
callP G50 [(.int .i64 20)] w fun v133 w132 =>
bindP (pTuple v133 0) fun v134 =>
bindP (pTuple v133 1) fun v135 =>
callP G50 [(.int .i64 20)] w132 fun v137 w136 =>
bindP (pTuple v137 0) fun v138 =>
bindP (pTuple v137 1) fun v139 =>
bindP (bEq Try.prog 93 (.tmp 34) (.const (.pointer none)) v134 (.pointer none)) fun v140 =>
stepM (gd false v140) v138 fun v141 =>
Sx.stepG (gd false v140) (bEq Try.prog 93 (.tmp 37) (.const (.pointer none)) v141 (.pointer none)) fun v142 =>
bindP (pPick v140 (.bool true) v142) fun v143 =>
stepM (gd false v143) v135 fun v144 =>
Sx.stepG (gd false v143) (bNe Try.prog 24 (.tmp 41) (.const (.int .i64 0)) v144 (.int .i64 0)) fun v145 =>
bindP (pPick v143 (.bool true) v145) fun v146 =>
stepM (gd false v146) v139 fun v147 =>
Sx.stepG (gd false v146) (bNe Try.prog 24 (.tmp 45) (.const (.int .i64 0)) v147 (.int .i64 0)) fun v148 =>
bindP (pPick v146 (.bool true) v148) fun v149 =>
stepE (gd false v149) (fun k => callP G21 [] w136 k) w136 fun v151 w150 =>
Sx.stepG (gd false v149) (uNot v151) fun v152 =>
bindP (pPick v149 (.bool true) v152) fun v153 =>
ifB v153 (
K (.bool false) w150) (
Y0 s0 s1 s2 v134 v138 (.int .i64 0) w150)

def F12_1 (s0 : Value) (s1 : Value) (s2 : Value) (w : World) (K : Value → World → Prop) : Prop := F12_1b s0 s1 s2 w K (fun a0 a1 a2 a7 a9 a11 w => F12_2 a0 a1 a2 a7 a9 a11 w K)

theorem ok12_1 {K : Value → World → Prop} {kn kr : Env → World → Prop} {ke : Nat → Env → World → Prop}
    (hn : ∀ e w, (fun e w => K (e 6) w) e w → kn e w) (hr : ∀ e w, endD Try.prog [.tmp 6] K e w → kr e w) (he : ∀ i e w, noE i e w → ke i e w) :
    ∀ e w, F12_1 (e 0) (e 1) (e 2) w K → denL Try.prog (tabOf T12) 207 fuel ((flat (bodyOf Try.f12)).drop 0) e w kn kr ke := by
  intro e w h
  unfold F12_1 at h
  have e1 : ∀ (Y0 : Value → Value → Value → Value → Value → Value → World → Prop), F12_1b (e 0) (e 1) (e 2) w K Y0 = denL Try.prog (tabOf T12) 207 fuel (((flat (bodyOf Try.f12)).drop 0).take 6) e w (fun e w => Y0 (e 0) (e 1) (e 2) (e 7) (e 9) (e 11) w) (endD Try.prog [.tmp 6] K) noE := by intro Y0; kernel_rfl
  exact seg 6 (Eq.mp (e1 (fun a0 a1 a2 a7 a9 a11 w => F12_2 a0 a1 a2 a7 a9 a11 w K)) h) (fun e w h => ok12_2 hn hr he e w h) hr he

def F12 (x0 : Value) (x1 : Value) (x2 : Value) (w : World) (K : Value → World → Prop) : Prop := F12_1 x0 x1 x2 w K

def G12 : FnT := fun args w K => on3 (fun x0 x1 x2 => F12 x0 x1 x2 w K) args
theorem c12 {x0 x1 x2 : Value} {w : World} {K : Value → World → Prop} (h : F12 x0 x1 x2 w K) : callP G12 [x0, x1, x2] w K := callP_intro (on3_mk (p := fun x0 x1 x2 => F12 x0 x1 x2 w K) h)
theorem ok12 : OkF Try.prog 12 G12 := by
  refine okF_of (tab_ok (l := T12) ⟨ok15, ok21, ok24, ok50, ok51, ok53, ok54, ok56, ok57, ok59, ok60, trivial⟩) mixed (n := fuel) Try.func12 Try.call12 fun args w K h => ?_
  obtain ⟨x0, x1, x2, rfl, hh⟩ := of_on3 h
  unfold F12 at hh
  exact fnD_list (c := bodyOf Try.f12) (by kernel_rfl) (by kernel_rfl) (ok12_1 (fun _ _ h => h) (fun _ _ h => h) (fun _ _ _ h => h) (initE [x0, x1, x2]) w hh)

-- 134 maps.Keys[map[int]gong/api.Context,int,gong/api.Context]$1
def G134 : FnT := fun _ _ _ => False
theorem ok134 : OkF Try.prog 134 G134 := fun _ _ _ h => h.elim

end Go.Proofs.Gong

/- Ho6 -/
namespace Go.Proofs.Gong
open Go Go.Sx Go.Proofs
set_option maxRecDepth 100000
attribute [local irreducible] fBuild fLook fZero eqv bEqv Cl MapH LsH SlH ld1 ldN st callP eBox eAlloc lenM lenL eMapSet eDelete eAppend eBuildSl eRange eNext
def HoldA (v : Value) (n next : Int) (cs : List Ctx) : HP := HEx fun hn => HEx fun m => HEx fun I => HEx fun M => HPr (HInv n next hn m I M cs ∧ 1 ≤ next ∧ next ≤ 4611686018427387904) (HoldI v n next hn m I M)
def zeroC : Ctx := ⟨0, 0, [], [], 0, ⟨[], [], [], 0, []⟩, []⟩
section
variable {w0 w : World} {L : List HP} {K : Value → World → Prop} {v : Value} {n next hn : Int} {m : Held} {I : List (Sgn × Int)} {M : List It} {cs : List Ctx} {c : Ctx} {tv s : Value}
theorem holdA_iff : Sat w0 (HoldA v n next cs :: L) w ↔ ∃ hn m I M, (HInv n next hn m I M cs ∧ 1 ≤ next ∧ next ≤ 4611686018427387904) ∧ Sat w0 (HoldI v n next hn m I M :: L) w := by
  simp only [HoldA, Sat.ex_iff, Sat.pr_iff]
theorem holdA_inv (h : Sat w0 (HoldA v n next cs :: L) w) : ∃ hn m I M, HInv n next hn m I M cs := by
  obtain ⟨hn, m, I, M, H, _⟩ := holdA_iff.1 h
  exact ⟨hn, m, I, M, H.1⟩
theorem bag_get {k : Int} (hg : aGet k m = some (c, s)) (h : Sat w0 (bag m :: L) w) : Sat w0 (LsH cI 1 3 s c.times :: bag (aDel k m) :: L) w := by
  have h1 := bag_iff.1 h
  have h2 : Sat w0 (((k, (c, s)) :: aDel k m).map heldP ++ L) w := h1.perm (((aDel_perm hg).symm.map heldP).append_right L)
  have h3 : Sat w0 (heldP (k, (c, s)) :: ((aDel k m).map heldP ++ L)) w := h2
  have h4 : Sat w0 (bag (aDel k m) :: heldP (k, (c, s)) :: L) w := bag_iff.2 (h3.perm List.perm_middle.symm)
  exact h4.perm (.swap _ _ _)
theorem bag_rd {k : Int} {L' : List HP} (hg : aGet k m = some (c, s)) (g : Fnt (bag m) L L') : RdL w0 L cI 1 s c.times := fun w hs => ls_rd (bag_get hg (hs.front g))
theorem elimV {α : Type} {o : Option α} {z : Value} {f : α → Value} {x : α} (h : o = some x) : o.elim z f = f x := by subst h; rfl
theorem hnext_spec (h : Sat w0 (HoldA v n next cs :: L) w) (hK : K (.int .i64 next) w) : callP G59 [v] w K := by
  refine c59 ?_
  unfold F59
  replace h := holdA_iff.1 h
  obtain ⟨hn, m, I, M, H, h⟩ := h
  replace h := hold_iff.1 h
  obtain ⟨p, dp, ml, mi, rfl, h⟩ := h
  (repeat (first
 | (simp (disch := omega) only [evA, evB, bAdd_i64, bSub_i64, ptr, Nat.zero_add, Bool.not_true, Bool.not_false, Option.isNone_some, Option.isNone_none, Option.isSome_some, Option.isSome_none, decide_true, decide_false, eq_self, true_and, and_assoc])
 | ((with_reducible apply go_ld1 h))
 | ((with_reducible apply go_ldA h); (rfl))
 | ((with_reducible apply go_ldN h))
 | ((with_reducible apply go_st h); intro _ h)
 | ((with_reducible apply go_stA h); (rfl); (rfl); (first | rfl | simp [OneV.o]); intro _ h)
 | ((with_reducible apply go_stN h); (rfl); (first | rfl | simp [OneV.o]); intro _ h)
 | ((with_reducible apply go_box h); rfl; intro _ _ h)
 | ((with_reducible apply go_rd h); (rfl))
 | ((with_reducible apply go_rdN h); (rfl))
 | ((with_reducible apply go_rlen h); (rfl))
 | ((with_reducible apply go_lenL h))
 | ((with_reducible apply go_ix h); (omega))
 | ((with_reducible apply go_elN h); (case hi => omega))
 | ((with_reducible apply go_fa h); (omega); (omega))
 | ((with_reducible apply go_f1 h); (case hi => omega); (case hx => exact inferInstance))
 | ((with_reducible apply go_rf1 h); (case hi => omega); (case hx => exact inferInstance); (case hv => rfl))
 | ((with_reducible apply go_rel h); (case hi => omega); (case hv => rfl))
))
  exact hK
theorem alen_spec (h : Sat w0 (HoldA v n next cs :: L) w) (hK : K (.int .i64 cs.length) w) : callP G58 [v] w K := by
  replace h := holdA_iff.1 h
  obtain ⟨hn, m, I, M, H, h⟩ := h
  refine hlen_spec h ?_
  rw [H.1.len]; exact hK
theorem anew_spec (h1 : 1 ≤ n) (h2 : n ≤ 65536) (h : Sat w0 L w) (hK : ∀ p w', Sat w0 (HoldA (ptr p) n 1 [] :: L) w' → K (.tuple #[ptr p, .int .i64 0]) w') : callP G50 [.int .i64 n] w K :=
  hnew_spec h1 h2 h fun p w h => hK p w (holdA_iff.2 ⟨n, [], [], [], ⟨.start h1 h2 1, by omega, by omega⟩, h⟩)
/-- the code of an Add, of the list -/
def addA (n : Int) (cs : List Ctx) (c : Ctx) : Int := if okC c = false then 4 else if (cs.find? fun d => decide (sgnOf d = sgnOf c)).isSome = true then 6 else if n ≤ (cs.length : Int) then 200 else 0
theorem HInv.find (H : HInv n next hn m I M cs) (g : Sgn) : aGet g I = (cs.find? fun d => decide (sgnOf d = g)).map (·.id) := by
  cases hf : cs.find? fun d => decide (sgnOf d = g) with
  | none =>
    rw [List.find?_eq_none] at hf
    exact H.snone fun d hd e => by have := hf d hd; simp [e] at this
  | some d =>
    have h1 := List.mem_of_find?_eq_some hf
    have h2 := List.find?_some hf
    simp only [decide_eq_true_eq] at h2
    rw [← h2]; exact H.sget h1
theorem aadd_spec (hf : c.fits) (hnx : next + 1 ≤ 4611686018427387904) (hr : RdL w0 L cI 1 tv c.times) (h : Sat w0 (HoldA v n next cs :: L) w)
    (hK0 : addA n cs c ≠ 0 → ∀ w', Sat w0 (HoldA v n next cs :: L) w' → K (.tuple #[.int .i64 0, .int .i64 (addA n cs c)]) w')
    (hK1 : addA n cs c = 0 → ∀ w', Sat w0 (HoldA v n (next + 1) (cs ++ [{ c with id := next }]) :: L) w' → K (.tuple #[.int .i64 next, .int .i64 0]) w') : callP G53 [v, ctxV c tv] w K := by
  replace h := holdA_iff.1 h
  obtain ⟨hn, m, I, M, ⟨H, hn1, hn2⟩, h⟩ := h
  have e : addC n m I c = addA n cs c := by
    unfold addC addA
    rw [H.find, H.len, Option.isSome_map]
  refine hadd_spec (c := c) hf (by omega) hr h (fun hne w h => ?_) (fun he s w h => ?_)
  · rw [e] at hne ⊢
    exact hK0 hne w (holdA_iff.2 ⟨hn, m, I, M, ⟨H, hn1, hn2⟩, h⟩)
  · rw [e] at he
    refine hK1 he w (holdA_iff.2 ⟨hn, _, _, _, ⟨?_, by omega, hnx⟩, h⟩)
    unfold addA at he
    split at he
    · cases he
    · rename_i h1
      split at he
      · cases he
      · rename_i h2
        split at he
        · cases he
        · rename_i h3
          refine H.add (by simpa using h1) hf (fun d hd e => ?_) (by omega) hn1
          have : (cs.find? fun d => decide (sgnOf d = sgnOf c)).isSome = true := List.find?_isSome.2 ⟨d, hd, by simpa using e⟩
          exact h2 this
theorem zc41 : fZero Try.prog 41 = some (ctxV zeroC (.slice none 0 0)) := z41
/-- Find -/
theorem afind_spec {wa : Int} {no ke : List UInt8} (h : Sat w0 (HoldA v n next cs :: L) w)
    (hK0 : (cs.find? fun d => decide (sgnOf d = ⟨wa, no, ke⟩)) = none → ∀ w', Sat w0 (HoldA v n next cs :: L) w' → K (.tuple #[ctxV zeroC (.slice none 0 0), .bool false]) w')
    (hK1 : ∀ c, (cs.find? fun d => decide (sgnOf d = ⟨wa, no, ke⟩)) = some c → ∀ s w', Sat w0 (LsH cI 1 3 s c.times :: HoldA v n next cs :: L) w' → K (.tuple #[ctxV c s, .bool true]) w') : callP G52 [v, .int .i64 wa, .string (bs no), .string (bs ke)] w K := by
  refine c52 ?_
  unfold F52
  replace h := holdA_iff.1 h
  obtain ⟨hn, m, I, M, H, h⟩ := h
  replace h := hold_iff.1 h
  obtain ⟨p, dp, ml, mi, rfl, h⟩ := h
  have close : ∀ {w : World} {L' L2 : List HP}, Sat w0 L' w → Get L' (Cl p #[dp, .int .i64 n, .int .i64 next, ml, mi] 159 :: HeapH dp hn M :: MapH kH ctxE ml m :: MapH sgnV kH mi I :: bag m :: L2) → Sat w0 (HoldA (ptr p) n next cs :: L2) w := fun h g => holdA_iff.2 ⟨hn, m, I, M, H, hold_iff.2 ⟨p, dp, ml, mi, rfl, h.get g⟩⟩
  have := map_one (h.front (A := MapH kH ctxE ml m) (by repeat (first | exact .here | apply Fnt.there)))
  have := map_one (h.front (A := MapH sgnV kH mi I) (by repeat (first | exact .here | apply Fnt.there)))
  have zc := zc41
  refine go_alloc h zc rfl fun _ _ h => ?_
  (repeat (first
 | (simp (disch := omega) only [evA, evB, bAdd_i64, bSub_i64, ptr, Nat.zero_add, Bool.not_true, Bool.not_false, Option.isNone_some, Option.isNone_none, Option.isSome_some, Option.isSome_none, decide_true, decide_false, eq_self, true_and, and_assoc])
 | (refine go_some (fb122_0_1_2 ..) ?_)
 | ((with_reducible apply go_ld1 h))
 | ((with_reducible apply go_ldA h); (rfl))
 | ((with_reducible apply go_ldN h))
 | ((with_reducible apply go_st h); intro _ h)
 | ((with_reducible apply go_stA h); (rfl); (rfl); (first | rfl | simp [OneV.o]); intro _ h)
 | ((with_reducible apply go_stN h); (rfl); (first | rfl | simp [OneV.o]); intro _ h)
 | ((with_reducible apply go_box h); rfl; intro _ _ h)
 | ((with_reducible apply go_rd h); (rfl))
 | ((with_reducible apply go_rdN h); (rfl))
 | ((with_reducible apply go_rlen h); (rfl))
 | ((with_reducible apply go_lenL h))
 | ((with_reducible apply go_ix h); (omega))
 | ((with_reducible apply go_elN h); (case hi => omega))
 | ((with_reducible apply go_fa h); (omega); (omega))
 | ((with_reducible apply go_f1 h); (case hi => omega); (case hx => exact inferInstance))
 | ((with_reducible apply go_rf1 h); (case hi => omega); (case hx => exact inferInstance); (case hv => rfl))
 | ((with_reducible apply go_rel h); (case hi => omega); (case hv => rfl))
))
  refine go_look2 h (by repeat (first | exact .here | apply Fnt.there)) KSgn um157 z3 (⟨wa, no, ke⟩ : Sgn) ?_
  rw [H.1.find]
  cases g : cs.find? fun d => decide (sgnOf d = ⟨wa, no, ke⟩) with
  | none =>
    simp only [Option.map_none, Option.elim_none, Option.isSome_none]
    (repeat (first
 | (simp (disch := omega) only [evA, evB, bAdd_i64, bSub_i64, ptr, Nat.zero_add, Bool.not_true, Bool.not_false, Option.isNone_some, Option.isNone_none, Option.isSome_some, Option.isSome_none, decide_true, decide_false, eq_self, true_and, and_assoc])
 | (refine go_some (fb41 ..) ?_)
 | ((with_reducible apply go_ld1 h))
 | ((with_reducible apply go_ldA h); (rfl))
 | ((with_reducible apply go_ldN h))
 | ((with_reducible apply go_st h); intro _ h)
 | ((with_reducible apply go_stA h); (rfl); (rfl); (first | rfl | simp [OneV.o]); intro _ h)
 | ((with_reducible apply go_stN h); (rfl); (first | rfl | simp [OneV.o]); intro _ h)
 | ((with_reducible apply go_box h); rfl; intro _ _ h)
 | ((with_reducible apply go_rd h); (rfl))
 | ((with_reducible apply go_rdN h); (rfl))
 | ((with_reducible apply go_rlen h); (rfl))
 | ((with_reducible apply go_lenL h))
 | ((with_reducible apply go_ix h); (omega))
 | ((with_reducible apply go_elN h); (case hi => omega))
 | ((with_reducible apply go_fa h); (omega); (omega))
 | ((with_reducible apply go_f1 h); (case hi => omega); (case hx => exact inferInstance))
 | ((with_reducible apply go_rf1 h); (case hi => omega); (case hx => exact inferInstance); (case hv => rfl))
 | ((with_reducible apply go_rel h); (case hi => omega); (case hv => rfl))
))
    exact hK0 g _ (close h (by (repeat (first | exact .done | (refine .pick (by repeat (first | exact .here | apply Fnt.there)) ?_) | refine .skip ?_))))
  | some c =>
    simp only [Option.map_some, Option.elim_some, Option.isSome_some]
    obtain ⟨s, hg⟩ := H.1.get (List.mem_of_find?_eq_some g)
    (repeat (first
 | (simp (disch := omega) only [evA, evB, bAdd_i64, bSub_i64, ptr, Nat.zero_add, Bool.not_true, Bool.not_false, Option.isNone_some, Option.isNone_none, Option.isSome_some, Option.isSome_none, decide_true, decide_false, eq_self, true_and, and_assoc])
 | ((with_reducible apply go_ld1 h))
 | ((with_reducible apply go_ldA h); (rfl))
 | ((with_reducible apply go_ldN h))
 | ((with_reducible apply go_st h); intro _ h)
 | ((with_reducible apply go_stA h); (rfl); (rfl); (first | rfl | simp [OneV.o]); intro _ h)
 | ((with_reducible apply go_stN h); (rfl); (first | rfl | simp [OneV.o]); intro _ h)
 | ((with_reducible apply go_box h); rfl; intro _ _ h)
 | ((with_reducible apply go_rd h); (rfl))
 | ((with_reducible apply go_rdN h); (rfl))
 | ((with_reducible apply go_rlen h); (rfl))
 | ((with_reducible apply go_lenL h))
 | ((with_reducible apply go_ix h); (omega))
 | ((with_reducible apply go_elN h); (case hi => omega))
 | ((with_reducible apply go_fa h); (omega); (omega))
 | ((with_reducible apply go_f1 h); (case hi => omega); (case hx => exact inferInstance))
 | ((with_reducible apply go_rf1 h); (case hi => omega); (case hx => exact inferInstance); (case hv => rfl))
 | ((with_reducible apply go_rel h); (case hi => omega); (case hv => rfl))
))
    refine go_look1 h (by repeat (first | exact .here | apply Fnt.there)) KIh um156 zc c.id ?_
    rw [hg]
    simp only [Option.elim_some]
    have hr : RdL w0 (bag m :: L) cI 1 s c.times := bag_rd hg .here
    have hl : c.times.length ≤ 1000000 := by have := (H.1.ok c (List.mem_of_find?_eq_some g)).2.1.2.2.2; omega
    refine own_spec (c := c) hl (hr.get (by (repeat (first | exact .done | (refine .pick (by repeat (first | exact .here | apply Fnt.there)) ?_) | refine .skip ?_)))) h fun s w h => ?_
    have := ls_one h
    (repeat (first
 | (simp (disch := omega) only [evA, evB, bAdd_i64, bSub_i64, ptr, Nat.zero_add, Bool.not_true, Bool.not_false, Option.isNone_some, Option.isNone_none, Option.isSome_some, Option.isSome_none, decide_true, decide_false, eq_self, true_and, and_assoc])
 | ((with_reducible apply go_ld1 h))
 | ((with_reducible apply go_ldA h); (rfl))
 | ((with_reducible apply go_ldN h))
 | ((with_reducible apply go_st h); intro _ h)
 | ((with_reducible apply go_stA h); (rfl); (rfl); (first | rfl | simp [OneV.o]); intro _ h)
 | ((with_reducible apply go_stN h); (rfl); (first | rfl | simp [OneV.o]); intro _ h)
 | ((with_reducible apply go_box h); rfl; intro _ _ h)
 | ((with_reducible apply go_rd h); (rfl))
 | ((with_reducible apply go_rdN h); (rfl))
 | ((with_reducible apply go_rlen h); (rfl))
 | ((with_reducible apply go_lenL h))
 | ((with_reducible apply go_ix h); (omega))
 | ((with_reducible apply go_elN h); (case hi => omega))
 | ((with_reducible apply go_fa h); (omega); (omega))
 | ((with_reducible apply go_f1 h); (case hi => omega); (case hx => exact inferInstance))
 | ((with_reducible apply go_rf1 h); (case hi => omega); (case hx => exact inferInstance); (case hv => rfl))
 | ((with_reducible apply go_rel h); (case hi => omega); (case hv => rfl))
))
    exact hK1 c g s _ (close (L2 := LsH cI 1 3 s c.times :: L) h (by (repeat (first | exact .done | (refine .pick (by repeat (first | exact .here | apply Fnt.there)) ?_) | refine .skip ?_)))).f1
theorem soonest_spec {dp : Value} (h : Sat w0 (HeapH dp hn M :: L) w) (hK : ∀ w', Sat w0 (HeapH dp hn M :: L) w' → K (.tuple #[.int .i64 (M.head?.getD (0, 0)).1, .bool M.head?.isSome]) w') : callP G109 [.agg #[dp]] w K := by
  refine c109 ?_
  unfold F109
  obtain ⟨d, rfl⟩ := heap_ptr h
  (repeat (first
 | (simp (disch := omega) only [evA, evB, bAdd_i64, bSub_i64, ptr, Nat.zero_add, Bool.not_true, Bool.not_false, Option.isNone_some, Option.isNone_none, Option.isSome_some, Option.isSome_none, decide_true, decide_false, eq_self, true_and, and_assoc])
 | ((with_reducible apply go_ld1 h))
 | ((with_reducible apply go_ldA h); (rfl))
 | ((with_reducible apply go_ldN h))
 | ((with_reducible apply go_st h); intro _ h)
 | ((with_reducible apply go_stA h); (rfl); (rfl); (first | rfl | simp [OneV.o]); intro _ h)
 | ((with_reducible apply go_stN h); (rfl); (first | rfl | simp [OneV.o]); intro _ h)
 | ((with_reducible apply go_box h); rfl; intro _ _ h)
 | ((with_reducible apply go_rd h); (rfl))
 | ((with_reducible apply go_rdN h); (rfl))
 | ((with_reducible apply go_rlen h); (rfl))
 | ((with_reducible apply go_lenL h))
 | ((with_reducible apply go_ix h); (omega))
 | ((with_reducible apply go_elN h); (case hi => omega))
 | ((with_reducible apply go_fa h); (omega); (omega))
 | ((with_reducible apply go_f1 h); (case hi => omega); (case hx => exact inferInstance))
 | ((with_reducible apply go_rf1 h); (case hi => omega); (case hx => exact inferInstance); (case hv => rfl))
 | ((with_reducible apply go_rel h); (case hi => omega); (case hv => rfl))
))
  refine first_spec (M := M) (n := hn) (h.front (by repeat (first | exact .here | apply Fnt.there))) fun w h => ?_
  unfold firstR
  (repeat (first
 | (simp (disch := omega) only [evA, evB, bAdd_i64, bSub_i64, ptr, Nat.zero_add, Bool.not_true, Bool.not_false, Option.isNone_some, Option.isNone_none, Option.isSome_some, Option.isSome_none, decide_true, decide_false, eq_self, true_and, and_assoc])
 | ((with_reducible apply go_ld1 h))
 | ((with_reducible apply go_ldA h); (rfl))
 | ((with_reducible apply go_ldN h))
 | ((with_reducible apply go_st h); intro _ h)
 | ((with_reducible apply go_stA h); (rfl); (rfl); (first | rfl | simp [OneV.o]); intro _ h)
 | ((with_reducible apply go_stN h); (rfl); (first | rfl | simp [OneV.o]); intro _ h)
 | ((with_reducible apply go_box h); rfl; intro _ _ h)
 | ((with_reducible apply go_alloc h); (first | exact z55); rfl; intro _ _ h)
 | ((with_reducible apply go_rd h); (rfl))
 | ((with_reducible apply go_rdN h); (rfl))
 | ((with_reducible apply go_rlen h); (rfl))
 | ((with_reducible apply go_lenL h))
 | ((with_reducible apply go_ix h); (omega))
 | ((with_reducible apply go_elN h); (case hi => omega))
 | ((with_reducible apply go_fa h); (omega); (omega))
 | ((with_reducible apply go_f1 h); (case hi => omega); (case hx => exact inferInstance))
 | ((with_reducible apply go_rf1 h); (case hi => omega); (case hx => exact inferInstance); (case hv => rfl))
 | ((with_reducible apply go_rel h); (case hi => omega); (case hv => rfl))
))
  exact hK _ (h.get (by (repeat (first | exact .done | (refine .pick (by repeat (first | exact .here | apply Fnt.there)) ?_) | refine .skip ?_))))
theorem never_spec {dp : Value} {id : Int} (h : Sat w0 (HeapH dp hn M :: L) w) (hK : ∀ w', Sat w0 (HeapH dp hn (dropM id M) :: L) w' → K (.tuple #[]) w') : callP G110 [.agg #[dp], .int .i64 id] w K := by
  refine c110 ?_
  unfold F110
  obtain ⟨d, rfl⟩ := heap_ptr h
  (repeat (first
 | (simp (disch := omega) only [evA, evB, bAdd_i64, bSub_i64, ptr, Nat.zero_add, Bool.not_true, Bool.not_false, Option.isNone_some, Option.isNone_none, Option.isSome_some, Option.isSome_none, decide_true, decide_false, eq_self, true_and, and_assoc])
 | ((with_reducible apply go_ld1 h))
 | ((with_reducible apply go_ldA h); (rfl))
 | ((with_reducible apply go_ldN h))
 | ((with_reducible apply go_st h); intro _ h)
 | ((with_reducible apply go_stA h); (rfl); (rfl); (first | rfl | simp [OneV.o]); intro _ h)
 | ((with_reducible apply go_stN h); (rfl); (first | rfl | simp [OneV.o]); intro _ h)
 | ((with_reducible apply go_box h); rfl; intro _ _ h)
 | ((with_reducible apply go_rd h); (rfl))
 | ((with_reducible apply go_rdN h); (rfl))
 | ((with_reducible apply go_rlen h); (rfl))
 | ((with_reducible apply go_lenL h))
 | ((with_reducible apply go_ix h); (omega))
 | ((with_reducible apply go_elN h); (case hi => omega))
 | ((with_reducible apply go_fa h); (omega); (omega))
 | ((with_reducible apply go_f1 h); (case hi => omega); (case hx => exact inferInstance))
 | ((with_reducible apply go_rf1 h); (case hi => omega); (case hx => exact inferInstance); (case hv => rfl))
 | ((with_reducible apply go_rel h); (case hi => omega); (case hv => rfl))
))
  refine drop_spec (M := M) (n := hn) (h.front (by repeat (first | exact .here | apply Fnt.there))) fun w h => ?_
  exact hK _ (h.get (by (repeat (first | exact .done | (refine .pick (by repeat (first | exact .here | apply Fnt.there)) ?_) | refine .skip ?_))))
/-- First -/
theorem afirst_spec (h : Sat w0 (HoldA v n next cs :: L) w)
    (hK0 : cs = [] → ∀ w', Sat w0 (HoldA v n next cs :: L) w' → K (.tuple #[ctxV zeroC (.slice none 0 0), .bool false]) w')
    (hK1 : ∀ c, FirstC c cs → ∀ s w', Sat w0 (LsH cI 1 3 s c.times :: HoldA v n next cs :: L) w' → K (.tuple #[ctxV c s, .bool true]) w') : callP G56 [v] w K := by
  refine c56 ?_
  unfold F56
  replace h := holdA_iff.1 h
  obtain ⟨hn, m, I, M, H, h⟩ := h
  replace h := hold_iff.1 h
  obtain ⟨p, dp, ml, mi, rfl, h⟩ := h
  have close : ∀ {w : World} {L' L2 : List HP}, Sat w0 L' w → Get L' (Cl p #[dp, .int .i64 n, .int .i64 next, ml, mi] 159 :: HeapH dp hn M :: MapH kH ctxE ml m :: MapH sgnV kH mi I :: bag m :: L2) → Sat w0 (HoldA (ptr p) n next cs :: L2) w := fun h g => holdA_iff.2 ⟨hn, m, I, M, H, hold_iff.2 ⟨p, dp, ml, mi, rfl, h.get g⟩⟩
  have := map_one (h.front (A := MapH kH ctxE ml m) (by repeat (first | exact .here | apply Fnt.there)))
  have := map_one (h.front (A := MapH sgnV kH mi I) (by repeat (first | exact .here | apply Fnt.there)))
  obtain ⟨d, rfl⟩ := heap_ptr (h.front (A := HeapH dp hn M) (by repeat (first | exact .here | apply Fnt.there)))
  have zc := zc41
  refine go_alloc h zc rfl fun _ _ h => ?_
  (repeat (first
 | (simp (disch := omega) only [evA, evB, bAdd_i64, bSub_i64, ptr, Nat.zero_add, Bool.not_true, Bool.not_false, Option.isNone_some, Option.isNone_none, Option.isSome_some, Option.isSome_none, decide_true, decide_false, eq_self, true_and, and_assoc])
 | ((with_reducible apply go_ld1 h))
 | ((with_reducible apply go_ldA h); (rfl))
 | ((with_reducible apply go_ldN h))
 | ((with_reducible apply go_st h); intro _ h)
 | ((with_reducible apply go_stA h); (rfl); (rfl); (first | rfl | simp [OneV.o]); intro _ h)
 | ((with_reducible apply go_stN h); (rfl); (first | rfl | simp [OneV.o]); intro _ h)
 | ((with_reducible apply go_box h); rfl; intro _ _ h)
 | ((with_reducible apply go_rd h); (rfl))
 | ((with_reducible apply go_rdN h); (rfl))
 | ((with_reducible apply go_rlen h); (rfl))
 | ((with_reducible apply go_lenL h))
 | ((with_reducible apply go_ix h); (omega))
 | ((with_reducible apply go_elN h); (case hi => omega))
 | ((with_reducible apply go_fa h); (omega); (omega))
 | ((with_reducible apply go_f1 h); (case hi => omega); (case hx => exact inferInstance))
 | ((with_reducible apply go_rf1 h); (case hi => omega); (case hx => exact inferInstance); (case hv => rfl))
 | ((with_reducible apply go_rel h); (case hi => omega); (case hv => rfl))
))
  refine soonest_spec (M := M) (hn := hn) (h.front (by repeat (first | exact .here | apply Fnt.there))) fun w h => ?_
  cases g : M.head? with
  | none =>
    simp only [Option.getD_none, Option.isSome_none]
    (repeat (first
 | (simp (disch := omega) only [evA, evB, bAdd_i64, bSub_i64, ptr, Nat.zero_add, Bool.not_true, Bool.not_false, Option.isNone_some, Option.isNone_none, Option.isSome_some, Option.isSome_none, decide_true, decide_false, eq_self, true_and, and_assoc])
 | (refine go_some (fb41 ..) ?_)
 | ((with_reducible apply go_ld1 h))
 | ((with_reducible apply go_ldA h); (rfl))
 | ((with_reducible apply go_ldN h))
 | ((with_reducible apply go_st h); intro _ h)
 | ((with_reducible apply go_stA h); (rfl); (rfl); (first | rfl | simp [OneV.o]); intro _ h)
 | ((with_reducible apply go_stN h); (rfl); (first | rfl | simp [OneV.o]); intro _ h)
 | ((with_reducible apply go_box h); rfl; intro _ _ h)
 | ((with_reducible apply go_rd h); (rfl))
 | ((with_reducible apply go_rdN h); (rfl))
 | ((with_reducible apply go_rlen h); (rfl))
 | ((with_reducible apply go_lenL h))
 | ((with_reducible apply go_ix h); (omega))
 | ((with_reducible apply go_elN h); (case hi => omega))
 | ((with_reducible apply go_fa h); (omega); (omega))
 | ((with_reducible apply go_f1 h); (case hi => omega); (case hx => exact inferInstance))
 | ((with_reducible apply go_rf1 h); (case hi => omega); (case hx => exact inferInstance); (case hv => rfl))
 | ((with_reducible apply go_rel h); (case hi => omega); (case hv => rfl))
))
    exact hK0 (H.1.empty_iff.1 g) _ (close h (by (repeat (first | exact .done | (refine .pick (by repeat (first | exact .here | apply Fnt.there)) ?_) | refine .skip ?_))))
  | some x =>
    simp only [Option.getD_some, Option.isSome_some]
    obtain ⟨c, hc, e1, e2⟩ := H.1.first g
    obtain ⟨s, hg⟩ := H.1.get hc.1
    rw [e1] at hg
    (repeat (first
 | (simp (disch := omega) only [evA, evB, bAdd_i64, bSub_i64, ptr, Nat.zero_add, Bool.not_true, Bool.not_false, Option.isNone_some, Option.isNone_none, Option.isSome_some, Option.isSome_none, decide_true, decide_false, eq_self, true_and, and_assoc])
 | ((with_reducible apply go_ld1 h))
 | ((with_reducible apply go_ldA h); (rfl))
 | ((with_reducible apply go_ldN h))
 | ((with_reducible apply go_st h); intro _ h)
 | ((with_reducible apply go_stA h); (rfl); (rfl); (first | rfl | simp [OneV.o]); intro _ h)
 | ((with_reducible apply go_stN h); (rfl); (first | rfl | simp [OneV.o]); intro _ h)
 | ((with_reducible apply go_box h); rfl; intro _ _ h)
 | ((with_reducible apply go_rd h); (rfl))
 | ((with_reducible apply go_rdN h); (rfl))
 | ((with_reducible apply go_rlen h); (rfl))
 | ((with_reducible apply go_lenL h))
 | ((with_reducible apply go_ix h); (omega))
 | ((with_reducible apply go_elN h); (case hi => omega))
 | ((with_reducible apply go_fa h); (omega); (omega))
 | ((with_reducible apply go_f1 h); (case hi => omega); (case hx => exact inferInstance))
 | ((with_reducible apply go_rf1 h); (case hi => omega); (case hx => exact inferInstance); (case hv => rfl))
 | ((with_reducible apply go_rel h); (case hi => omega); (case hv => rfl))
))
    refine go_look1 h (by repeat (first | exact .here | apply Fnt.there)) KIh um156 zc x.1 ?_
    rw [hg]
    simp only [Option.elim_some]
    have hr : RdL w0 (bag m :: L) cI 1 s c.times := bag_rd hg .here
    have hl : c.times.length ≤ 1000000 := by have := (H.1.ok c hc.1).2.1.2.2.2; omega
    refine own_spec (c := c) hl (hr.get (by (repeat (first | exact .done | (refine .pick (by repeat (first | exact .here | apply Fnt.there)) ?_) | refine .skip ?_)))) h fun s w h => ?_
    have := ls_one h
    (repeat (first
 | (simp (disch := omega) only [evA, evB, bAdd_i64, bSub_i64, ptr, Nat.zero_add, Bool.not_true, Bool.not_false, Option.isNone_some, Option.isNone_none, Option.isSome_some, Option.isSome_none, decide_true, decide_false, eq_self, true_and, and_assoc])
 | ((with_reducible apply go_ld1 h))
 | ((with_reducible apply go_ldA h); (rfl))
 | ((with_reducible apply go_ldN h))
 | ((with_reducible apply go_st h); intro _ h)
 | ((with_reducible apply go_stA h); (rfl); (rfl); (first | rfl | simp [OneV.o]); intro _ h)
 | ((with_reducible apply go_stN h); (rfl); (first | rfl | simp [OneV.o]); intro _ h)
 | ((with_reducible apply go_box h); rfl; intro _ _ h)
 | ((with_reducible apply go_rd h); (rfl))
 | ((with_reducible apply go_rdN h); (rfl))
 | ((with_reducible apply go_rlen h); (rfl))
 | ((with_reducible apply go_lenL h))
 | ((with_reducible apply go_ix h); (omega))
 | ((with_reducible apply go_elN h); (case hi => omega))
 | ((with_reducible apply go_fa h); (omega); (omega))
 | ((with_reducible apply go_f1 h); (case hi => omega); (case hx => exact inferInstance))
 | ((with_reducible apply go_rf1 h); (case hi => omega); (case hx => exact inferInstance); (case hv => rfl))
 | ((with_reducible apply go_rel h); (case hi => omega); (case hv => rfl))
))
    exact hK1 c hc s _ (close (L2 := LsH cI 1 3 s c.times :: L) h (by (repeat (first | exact .done | (refine .pick (by repeat (first | exact .here | apply Fnt.there)) ?_) | refine .skip ?_)))).f1
/-- Drop -/
theorem adrop_spec {id : Int} (h : Sat w0 (HoldA v n next cs :: L) w)
    (hK0 : (∀ c ∈ cs, c.id ≠ id) → ∀ w', Sat w0 (HoldA v n next cs :: L) w' → K (.tuple #[ctxV zeroC (.slice none 0 0), .int .i64 5]) w')
    (hK1 : ∀ c ∈ cs, c.id = id → ∀ s w', Sat w0 (LsH cI 1 3 s c.times :: HoldA v n next (dropL id cs) :: L) w' → K (.tuple #[ctxV c s, .int .i64 0]) w') : callP G57 [v, .int .i64 id] w K := by
  refine c57 ?_
  unfold F57
  replace h := holdA_iff.1 h
  obtain ⟨hn, m, I, M, H, h⟩ := h
  replace h := hold_iff.1 h
  obtain ⟨p, dp, ml, mi, rfl, h⟩ := h
  have := map_one (h.front (A := MapH kH ctxE ml m) (by repeat (first | exact .here | apply Fnt.there)))
  have := map_one (h.front (A := MapH sgnV kH mi I) (by repeat (first | exact .here | apply Fnt.there)))
  obtain ⟨d, rfl⟩ := heap_ptr (h.front (A := HeapH dp hn M) (by repeat (first | exact .here | apply Fnt.there)))
  have zc := zc41
  refine go_alloc h zc rfl fun _ _ h => ?_
  (repeat (first
 | (simp (disch := omega) only [evA, evB, bAdd_i64, bSub_i64, ptr, Nat.zero_add, Bool.not_true, Bool.not_false, Option.isNone_some, Option.isNone_none, Option.isSome_some, Option.isSome_none, decide_true, decide_false, eq_self, true_and, and_assoc])
 | ((with_reducible apply go_ld1 h))
 | ((with_reducible apply go_ldA h); (rfl))
 | ((with_reducible apply go_ldN h))
 | ((with_reducible apply go_st h); intro _ h)
 | ((with_reducible apply go_stA h); (rfl); (rfl); (first | rfl | simp [OneV.o]); intro _ h)
 | ((with_reducible apply go_stN h); (rfl); (first | rfl | simp [OneV.o]); intro _ h)
 | ((with_reducible apply go_box h); rfl; intro _ _ h)
 | ((with_reducible apply go_rd h); (rfl))
 | ((with_reducible apply go_rdN h); (rfl))
 | ((with_reducible apply go_rlen h); (rfl))
 | ((with_reducible apply go_lenL h))
 | ((with_reducible apply go_ix h); (omega))
 | ((with_reducible apply go_elN h); (case hi => omega))
 | ((with_reducible apply go_fa h); (omega); (omega))
 | ((with_reducible apply go_f1 h); (case hi => omega); (case hx => exact inferInstance))
 | ((with_reducible apply go_rf1 h); (case hi => omega); (case hx => exact inferInstance); (case hv => rfl))
 | ((with_reducible apply go_rel h); (case hi => omega); (case hv => rfl))
))
  refine go_look2 h (by repeat (first | exact .here | apply Fnt.there)) KIh um156 zc id ?_
  cases hg : aGet id m with
  | none =>
    simp only [Option.elim_none, Option.isSome_none]
    (repeat (first
 | (simp (disch := omega) only [evA, evB, bAdd_i64, bSub_i64, ptr, Nat.zero_add, Bool.not_true, Bool.not_false, Option.isNone_some, Option.isNone_none, Option.isSome_some, Option.isSome_none, decide_true, decide_false, eq_self, true_and, and_assoc])
 | ((with_reducible apply go_ld1 h))
 | ((with_reducible apply go_ldA h); (rfl))
 | ((with_reducible apply go_ldN h))
 | ((with_reducible apply go_st h); intro _ h)
 | ((with_reducible apply go_stA h); (rfl); (rfl); (first | rfl | simp [OneV.o]); intro _ h)
 | ((with_reducible apply go_stN h); (rfl); (first | rfl | simp [OneV.o]); intro _ h)
 | ((with_reducible apply go_box h); rfl; intro _ _ h)
 | ((with_reducible apply go_rd h); (rfl))
 | ((with_reducible apply go_rdN h); (rfl))
 | ((with_reducible apply go_rlen h); (rfl))
 | ((with_reducible apply go_lenL h))
 | ((with_reducible apply go_ix h); (omega))
 | ((with_reducible apply go_elN h); (case hi => omega))
 | ((with_reducible apply go_fa h); (omega); (omega))
 | ((with_reducible apply go_f1 h); (case hi => omega); (case hx => exact inferInstance))
 | ((with_reducible apply go_rf1 h); (case hi => omega); (case hx => exact inferInstance); (case hv => rfl))
 | ((with_reducible apply go_rel h); (case hi => omega); (case hv => rfl))
))
    refine go_alloc h zc rfl fun _ _ h => ?_
    (repeat (first
 | (simp (disch := omega) only [evA, evB, bAdd_i64, bSub_i64, ptr, Nat.zero_add, Bool.not_true, Bool.not_false, Option.isNone_some, Option.isNone_none, Option.isSome_some, Option.isSome_none, decide_true, decide_false, eq_self, true_and, and_assoc])
 | (refine go_some (fb41 ..) ?_)
 | ((with_reducible apply go_ld1 h))
 | ((with_reducible apply go_ldA h); (rfl))
 | ((with_reducible apply go_ldN h))
 | ((with_reducible apply go_st h); intro _ h)
 | ((with_reducible apply go_stA h); (rfl); (rfl); (first | rfl | simp [OneV.o]); intro _ h)
 | ((with_reducible apply go_stN h); (rfl); (first | rfl | simp [OneV.o]); intro _ h)
 | ((with_reducible apply go_box h); rfl; intro _ _ h)
 | ((with_reducible apply go_rd h); (rfl))
 | ((with_reducible apply go_rdN h); (rfl))
 | ((with_reducible apply go_rlen h); (rfl))
 | ((with_reducible apply go_lenL h))
 | ((with_reducible apply go_ix h); (omega))
 | ((with_reducible apply go_elN h); (case hi => omega))
 | ((with_reducible apply go_fa h); (omega); (omega))
 | ((with_reducible apply go_f1 h); (case hi => omega); (case hx => exact inferInstance))
 | ((with_reducible apply go_rf1 h); (case hi => omega); (case hx => exact inferInstance); (case hv => rfl))
 | ((with_reducible apply go_rel h); (case hi => omega); (case hv => rfl))
))
    refine hK0 (fun c hc e => ?_) _ (holdA_iff.2 ⟨hn, m, I, M, H, hold_iff.2 ⟨p, ptr d, ml, mi, rfl, h.get (by (repeat (first | exact .done | (refine .pick (by repeat (first | exact .here | apply Fnt.there)) ?_) | refine .skip ?_)))⟩⟩)
    obtain ⟨s, h1⟩ := H.1.get hc
    rw [e, hg] at h1; cases h1
  | some x =>
    obtain ⟨c, s⟩ := x
    obtain ⟨hc, hid⟩ := H.1.mem hg
    subst hid
    simp only [Option.elim_some, Option.isSome_some]
    have h1 : Sat w0 (LsH cI 1 3 s c.times :: bag (aDel c.id m) :: Cl _ _ _ :: Cl p #[ptr d, .int .i64 n, .int .i64 next, ml, mi] 159 :: HeapH (ptr d) hn M :: MapH kH ctxE ml m :: MapH sgnV kH mi I :: L) _ := bag_get hg (h.get (by (repeat (first | exact .done | (refine .pick (by repeat (first | exact .here | apply Fnt.there)) ?_) | refine .skip ?_))))
    clear h
    have h := h1
    clear h1
    have := ls_one h
    (repeat (first
 | (simp (disch := omega) only [evA, evB, bAdd_i64, bSub_i64, ptr, Nat.zero_add, Bool.not_true, Bool.not_false, Option.isNone_some, Option.isNone_none, Option.isSome_some, Option.isSome_none, decide_true, decide_false, eq_self, true_and, and_assoc])
 | ((with_reducible apply go_ld1 h))
 | ((with_reducible apply go_ldA h); (rfl))
 | ((with_reducible apply go_ldN h))
 | ((with_reducible apply go_st h); intro _ h)
 | ((with_reducible apply go_stA h); (rfl); (rfl); (first | rfl | simp [OneV.o]); intro _ h)
 | ((with_reducible apply go_stN h); (rfl); (first | rfl | simp [OneV.o]); intro _ h)
 | ((with_reducible apply go_box h); rfl; intro _ _ h)
 | ((with_reducible apply go_rd h); (rfl))
 | ((with_reducible apply go_rdN h); (rfl))
 | ((with_reducible apply go_rlen h); (rfl))
 | ((with_reducible apply go_lenL h))
 | ((with_reducible apply go_ix h); (omega))
 | ((with_reducible apply go_elN h); (case hi => omega))
 | ((with_reducible apply go_fa h); (omega); (omega))
 | ((with_reducible apply go_f1 h); (case hi => omega); (case hx => exact inferInstance))
 | ((with_reducible apply go_rf1 h); (case hi => omega); (case hx => exact inferInstance); (case hv => rfl))
 | ((with_reducible apply go_rel h); (case hi => omega); (case hv => rfl))
))
    refine go_alloc h zc rfl fun _ _ h => ?_
    (repeat (first
 | (simp (disch := omega) only [evA, evB, bAdd_i64, bSub_i64, ptr, Nat.zero_add, Bool.not_true, Bool.not_false, Option.isNone_some, Option.isNone_none, Option.isSome_some, Option.isSome_none, decide_true, decide_false, eq_self, true_and, and_assoc])
 | ((with_reducible apply go_ld1 h))
 | ((with_reducible apply go_ldA h); (rfl))
 | ((with_reducible apply go_ldN h))
 | ((with_reducible apply go_st h); intro _ h)
 | ((with_reducible apply go_stA h); (rfl); (rfl); (first | rfl | simp [OneV.o]); intro _ h)
 | ((with_reducible apply go_stN h); (rfl); (first | rfl | simp [OneV.o]); intro _ h)
 | ((with_reducible apply go_box h); rfl; intro _ _ h)
 | ((with_reducible apply go_rd h); (rfl))
 | ((with_reducible apply go_rdN h); (rfl))
 | ((with_reducible apply go_rlen h); (rfl))
 | ((with_reducible apply go_lenL h))
 | ((with_reducible apply go_ix h); (omega))
 | ((with_reducible apply go_elN h); (case hi => omega))
 | ((with_reducible apply go_fa h); (omega); (omega))
 | ((with_reducible apply go_f1 h); (case hi => omega); (case hx => exact inferInstance))
 | ((with_reducible apply go_rf1 h); (case hi => omega); (case hx => exact inferInstance); (case hv => rfl))
 | ((with_reducible apply go_rel h); (case hi => omega); (case hv => rfl))
))
    refine eDelete_sat (h.front (by repeat (first | exact .here | apply Fnt.there))) KIh um156 c.id fun w h => ?_
    (repeat (first
 | (simp (disch := omega) only [evA, evB, bAdd_i64, bSub_i64, ptr, Nat.zero_add, Bool.not_true, Bool.not_false, Option.isNone_some, Option.isNone_none, Option.isSome_some, Option.isSome_none, decide_true, decide_false, eq_self, true_and, and_assoc])
 | ((with_reducible apply go_ld1 h))
 | ((with_reducible apply go_ldA h); (rfl))
 | ((with_reducible apply go_ldN h))
 | ((with_reducible apply go_st h); intro _ h)
 | ((with_reducible apply go_stA h); (rfl); (rfl); (first | rfl | simp [OneV.o]); intro _ h)
 | ((with_reducible apply go_stN h); (rfl); (first | rfl | simp [OneV.o]); intro _ h)
 | ((with_reducible apply go_box h); rfl; intro _ _ h)
 | ((with_reducible apply go_rd h); (rfl))
 | ((with_reducible apply go_rdN h); (rfl))
 | ((with_reducible apply go_rlen h); (rfl))
 | ((with_reducible apply go_lenL h))
 | ((with_reducible apply go_ix h); (omega))
 | ((with_reducible apply go_elN h); (case hi => omega))
 | ((with_reducible apply go_fa h); (omega); (omega))
 | ((with_reducible apply go_f1 h); (case hi => omega); (case hx => exact inferInstance))
 | ((with_reducible apply go_rf1 h); (case hi => omega); (case hx => exact inferInstance); (case hv => rfl))
 | ((with_reducible apply go_rel h); (case hi => omega); (case hv => rfl))
))
    refine hof_spec (a := c) h.drew fun w h => ?_
    (repeat (first
 | (simp (disch := omega) only [evA, evB, bAdd_i64, bSub_i64, ptr, Nat.zero_add, Bool.not_true, Bool.not_false, Option.isNone_some, Option.isNone_none, Option.isSome_some, Option.isSome_none, decide_true, decide_false, eq_self, true_and, and_assoc])
 | ((with_reducible apply go_ld1 h))
 | ((with_reducible apply go_ldA h); (rfl))
 | ((with_reducible apply go_ldN h))
 | ((with_reducible apply go_st h); intro _ h)
 | ((with_reducible apply go_stA h); (rfl); (rfl); (first | rfl | simp [OneV.o]); intro _ h)
 | ((with_reducible apply go_stN h); (rfl); (first | rfl | simp [OneV.o]); intro _ h)
 | ((with_reducible apply go_box h); rfl; intro _ _ h)
 | ((with_reducible apply go_rd h); (rfl))
 | ((with_reducible apply go_rdN h); (rfl))
 | ((with_reducible apply go_rlen h); (rfl))
 | ((with_reducible apply go_lenL h))
 | ((with_reducible apply go_ix h); (omega))
 | ((with_reducible apply go_elN h); (case hi => omega))
 | ((with_reducible apply go_fa h); (omega); (omega))
 | ((with_reducible apply go_f1 h); (case hi => omega); (case hx => exact inferInstance))
 | ((with_reducible apply go_rf1 h); (case hi => omega); (case hx => exact inferInstance); (case hv => rfl))
 | ((with_reducible apply go_rel h); (case hi => omega); (case hv => rfl))
))
    refine eDelete_sat (h.front (by repeat (first | exact .here | apply Fnt.there))) KSgn um157 (sgnOf c) fun w h => ?_
    (repeat (first
 | (simp (disch := omega) only [evA, evB, bAdd_i64, bSub_i64, ptr, Nat.zero_add, Bool.not_true, Bool.not_false, Option.isNone_some, Option.isNone_none, Option.isSome_some, Option.isSome_none, decide_true, decide_false, eq_self, true_and, and_assoc])
 | ((with_reducible apply go_ld1 h))
 | ((with_reducible apply go_ldA h); (rfl))
 | ((with_reducible apply go_ldN h))
 | ((with_reducible apply go_st h); intro _ h)
 | ((with_reducible apply go_stA h); (rfl); (rfl); (first | rfl | simp [OneV.o]); intro _ h)
 | ((with_reducible apply go_stN h); (rfl); (first | rfl | simp [OneV.o]); intro _ h)
 | ((with_reducible apply go_box h); rfl; intro _ _ h)
 | ((with_reducible apply go_rd h); (rfl))
 | ((with_reducible apply go_rdN h); (rfl))
 | ((with_reducible apply go_rlen h); (rfl))
 | ((with_reducible apply go_lenL h))
 | ((with_reducible apply go_ix h); (omega))
 | ((with_reducible apply go_elN h); (case hi => omega))
 | ((with_reducible apply go_fa h); (omega); (omega))
 | ((with_reducible apply go_f1 h); (case hi => omega); (case hx => exact inferInstance))
 | ((with_reducible apply go_rf1 h); (case hi => omega); (case hx => exact inferInstance); (case hv => rfl))
 | ((with_reducible apply go_rel h); (case hi => omega); (case hv => rfl))
))
    refine never_spec (M := M) (hn := hn) (h.front (by repeat (first | exact .here | apply Fnt.there))) fun w h => ?_
    (repeat (first
 | (simp (disch := omega) only [evA, evB, bAdd_i64, bSub_i64, ptr, Nat.zero_add, Bool.not_true, Bool.not_false, Option.isNone_some, Option.isNone_none, Option.isSome_some, Option.isSome_none, decide_true, decide_false, eq_self, true_and, and_assoc])
 | ((with_reducible apply go_ld1 h))
 | ((with_reducible apply go_ldA h); (rfl))
 | ((with_reducible apply go_ldN h))
 | ((with_reducible apply go_st h); intro _ h)
 | ((with_reducible apply go_stA h); (rfl); (rfl); (first | rfl | simp [OneV.o]); intro _ h)
 | ((with_reducible apply go_stN h); (rfl); (first | rfl | simp [OneV.o]); intro _ h)
 | ((with_reducible apply go_box h); rfl; intro _ _ h)
 | ((with_reducible apply go_rd h); (rfl))
 | ((with_reducible apply go_rdN h); (rfl))
 | ((with_reducible apply go_rlen h); (rfl))
 | ((with_reducible apply go_lenL h))
 | ((with_reducible apply go_ix h); (omega))
 | ((with_reducible apply go_elN h); (case hi => omega))
 | ((with_reducible apply go_fa h); (omega); (omega))
 | ((with_reducible apply go_f1 h); (case hi => omega); (case hx => exact inferInstance))
 | ((with_reducible apply go_rf1 h); (case hi => omega); (case hx => exact inferInstance); (case hv => rfl))
 | ((with_reducible apply go_rel h); (case hi => omega); (case hv => rfl))
))
    refine hK1 c hc rfl s _ (Sat.f1 (holdA_iff.2 ⟨hn, _, _, _, ⟨H.1.drop hc, H.2⟩, hold_iff.2 ⟨p, ptr d, ml, mi, rfl, h.get (by (repeat (first | exact .done | (refine .pick (by repeat (first | exact .here | apply Fnt.there)) ?_) | refine .skip ?_)))⟩⟩))
end
end Go.Proofs.Gong
