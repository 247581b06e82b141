/- A part of the proofs: what stands below it, told in lemmas. No condition. -/
import Derived.Test.YtpbfmiphjcmjjaaP5
set_option linter.all false

/- Ho7 -/
namespace Go.Proofs.Gong
open Go Go.Sx Go.Proofs
set_option maxRecDepth 100000
attribute [local irreducible] fBuild fLook fZero eqv bEqv Cl MapH LsH SlH ld1 ldN st callP eBox eAlloc lenM lenL eMapSet eDelete eAppend eBuildSl eRange eNext
theorem neSgn (x y : Operand) (a b : Sgn) : bNe Try.prog 122 x y (sgnV a) (sgnV b) = some (.bool (!decide (a = b))) := by
  obtain ⟨n1, c1, k1⟩ := a
  obtain ⟨n1', c1', k1'⟩ := b
  rw [ne122]
  simp only [bs_sEq', Option.some.injEq, Value.bool.injEq]
  rw [Bool.eq_iff_iff]
  simp
section
variable {w0 w : World} {L : List HP} {K : Value → World → Prop} {v : Value} {n next hn : Int} {m : Held} {I : List (Sgn × Int)} {M : List It} {cs : List Ctx} {c : Ctx} {tv s : Value}
def turnA (cs : List Ctx) (c : Ctx) : Int := if okC c = false then 4 else match cs.find? fun d => decide (d.id = c.id) with
  | none => 5
  | some b => if sgnOf b = sgnOf c then 0 else 4
theorem aturn_spec (hf : c.fits) (hr : RdL w0 L cI 1 tv c.times) (ho : OneV tv) (h : Sat w0 (HoldA v n next cs :: L) w)
    (hK0 : turnA cs c ≠ 0 → ∀ w', Sat w0 (HoldA v n next cs :: L) w' → K (.int .i64 (turnA cs c)) w')
    (hK1 : turnA cs c = 0 → ∀ w', Sat w0 (HoldA v n next (turnL c cs) :: L) w' → K (.int .i64 0) w') : callP G55 [v, ctxV c tv] w K := by
  refine c55 ?_
  unfold F55
  replace h := holdA_iff.1 h
  obtain ⟨hn, m, I, M, H, h⟩ := h
  replace h := hold_iff.1 h
  obtain ⟨p, dp, ml, mi, rfl, h⟩ := h
  have close : ∀ {w : World} {L' L2 : List HP}, Sat w0 L' w → Get L' (Cl p #[dp, .int .i64 n, .int .i64 next, ml, mi] 159 :: HeapH dp hn M :: MapH kH ctxE ml m :: MapH sgnV kH mi I :: bag m :: L2) → Sat w0 (HoldA (ptr p) n next cs :: L2) w := fun h g => holdA_iff.2 ⟨hn, m, I, M, H, hold_iff.2 ⟨p, dp, ml, mi, rfl, h.get g⟩⟩
  have := map_one (h.front (A := MapH kH ctxE ml m) (by repeat (first | exact .here | apply Fnt.there)))
  have := map_one (h.front (A := MapH sgnV kH mi I) (by repeat (first | exact .here | apply Fnt.there)))
  have zc := zc41
  (repeat (first
 | (simp (disch := omega) only [evA, evB, bAdd_i64, bSub_i64, ptr, Nat.zero_add, Bool.not_true, Bool.not_false, Option.isNone_some, Option.isNone_none, Option.isSome_some, Option.isSome_none, decide_true, decide_false, eq_self, true_and, and_assoc])
 | ((with_reducible apply go_ld1 h))
 | ((with_reducible apply go_ldA h); (rfl))
 | ((with_reducible apply go_ldN h))
 | ((with_reducible apply go_st h); intro _ h)
 | ((with_reducible apply go_stA h); (rfl); (rfl); (first | rfl | simp [OneV.o]); intro _ h)
 | ((with_reducible apply go_stN h); (rfl); (first | rfl | simp [OneV.o]); intro _ h)
 | ((with_reducible apply go_box h); rfl; intro _ _ h)
 | ((with_reducible apply go_rd h); (rfl))
 | ((with_reducible apply go_rdN h); (rfl))
 | ((with_reducible apply go_rlen h); (rfl))
 | ((with_reducible apply go_lenL h))
 | ((with_reducible apply go_ix h); (omega))
 | ((with_reducible apply go_elN h); (case hi => omega))
 | ((with_reducible apply go_fa h); (omega); (omega))
 | ((with_reducible apply go_f1 h); (case hi => omega); (case hx => exact inferInstance))
 | ((with_reducible apply go_rf1 h); (case hi => omega); (case hx => exact inferInstance); (case hv => rfl))
 | ((with_reducible apply go_rel h); (case hi => omega); (case hv => rfl))
))
  refine go_look2 h (by repeat (first | exact .here | apply Fnt.there)) KIh um156 zc c.id ?_
  (repeat (first
 | (simp (disch := omega) only [evA, evB, bAdd_i64, bSub_i64, ptr, Nat.zero_add, Bool.not_true, Bool.not_false, Option.isNone_some, Option.isNone_none, Option.isSome_some, Option.isSome_none, decide_true, decide_false, eq_self, true_and, and_assoc])
 | ((with_reducible apply go_ld1 h))
 | ((with_reducible apply go_ldA h); (rfl))
 | ((with_reducible apply go_ldN h))
 | ((with_reducible apply go_st h); intro _ h)
 | ((with_reducible apply go_stA h); (rfl); (rfl); (first | rfl | simp [OneV.o]); intro _ h)
 | ((with_reducible apply go_stN h); (rfl); (first | rfl | simp [OneV.o]); intro _ h)
 | ((with_reducible apply go_box h); rfl; intro _ _ h)
 | ((with_reducible apply go_rd h); (rfl))
 | ((with_reducible apply go_rdN h); (rfl))
 | ((with_reducible apply go_rlen h); (rfl))
 | ((with_reducible apply go_lenL h))
 | ((with_reducible apply go_ix h); (omega))
 | ((with_reducible apply go_elN h); (case hi => omega))
 | ((with_reducible apply go_fa h); (omega); (omega))
 | ((with_reducible apply go_f1 h); (case hi => omega); (case hx => exact inferInstance))
 | ((with_reducible apply go_rf1 h); (case hi => omega); (case hx => exact inferInstance); (case hv => rfl))
 | ((with_reducible apply go_rel h); (case hi => omega); (case hv => rfl))
))
  refine go_alloc h zc rfl fun _ _ h => ?_
  (repeat (first
 | (simp (disch := omega) only [evA, evB, bAdd_i64, bSub_i64, ptr, Nat.zero_add, Bool.not_true, Bool.not_false, Option.isNone_some, Option.isNone_none, Option.isSome_some, Option.isSome_none, decide_true, decide_false, eq_self, true_and, and_assoc])
 | ((with_reducible apply go_ld1 h))
 | ((with_reducible apply go_ldA h); (rfl))
 | ((with_reducible apply go_ldN h))
 | ((with_reducible apply go_st h); intro _ h)
 | ((with_reducible apply go_stA h); (rfl); (rfl); (first | rfl | simp [OneV.o]); intro _ h)
 | ((with_reducible apply go_stN h); (rfl); (first | rfl | simp [OneV.o]); intro _ h)
 | ((with_reducible apply go_box h); rfl; intro _ _ h)
 | ((with_reducible apply go_rd h); (rfl))
 | ((with_reducible apply go_rdN h); (rfl))
 | ((with_reducible apply go_rlen h); (rfl))
 | ((with_reducible apply go_lenL h))
 | ((with_reducible apply go_ix h); (omega))
 | ((with_reducible apply go_elN h); (case hi => omega))
 | ((with_reducible apply go_fa h); (omega); (omega))
 | ((with_reducible apply go_f1 h); (case hi => omega); (case hx => exact inferInstance))
 | ((with_reducible apply go_rf1 h); (case hi => omega); (case hx => exact inferInstance); (case hv => rfl))
 | ((with_reducible apply go_rel h); (case hi => omega); (case hv => rfl))
))
  refine go_fok (look2 (h.front (by repeat (first | exact .here | apply Fnt.there))) KIh um156 zc c.id) ?_
  have hfind : ∀ x, aGet c.id m = some x → (cs.find? fun d => decide (d.id = c.id)) = some x.1 := by
    intro x hg
    obtain ⟨h1, h2⟩ := H.1.mem (c := x.1) (s := x.2) hg
    cases hf : cs.find? fun d => decide (d.id = c.id) with
    | none => rw [List.find?_eq_none] at hf; have := hf _ h1; simp [h2] at this
    | some b =>
      have h3 := List.mem_of_find?_eq_some hf
      have h4 := List.find?_some hf
      simp only [decide_eq_true_eq] at h4
      rw [asc_eq H.1.asc h3 h1 (h4.trans h2.symm)]
  unfold turnA at hK0 hK1
  cases hg : aGet c.id m with
  | none =>
    simp only [Option.elim_none, Option.isSome_none]
    (repeat (first
 | (simp (disch := omega) only [evA, evB, bAdd_i64, bSub_i64, ptr, Nat.zero_add, Bool.not_true, Bool.not_false, Option.isNone_some, Option.isNone_none, Option.isSome_some, Option.isSome_none, decide_true, decide_false, eq_self, true_and, and_assoc])
 | ((with_reducible apply go_ld1 h))
 | ((with_reducible apply go_ldA h); (rfl))
 | ((with_reducible apply go_ldN h))
 | ((with_reducible apply go_st h); intro _ h)
 | ((with_reducible apply go_stA h); (rfl); (rfl); (first | rfl | simp [OneV.o]); intro _ h)
 | ((with_reducible apply go_stN h); (rfl); (first | rfl | simp [OneV.o]); intro _ h)
 | ((with_reducible apply go_box h); rfl; intro _ _ h)
 | ((with_reducible apply go_rd h); (rfl))
 | ((with_reducible apply go_rdN h); (rfl))
 | ((with_reducible apply go_rlen h); (rfl))
 | ((with_reducible apply go_lenL h))
 | ((with_reducible apply go_ix h); (omega))
 | ((with_reducible apply go_elN h); (case hi => omega))
 | ((with_reducible apply go_fa h); (omega); (omega))
 | ((with_reducible apply go_f1 h); (case hi => omega); (case hx => exact inferInstance))
 | ((with_reducible apply go_rf1 h); (case hi => omega); (case hx => exact inferInstance); (case hv => rfl))
 | ((with_reducible apply go_rel h); (case hi => omega); (case hv => rfl))
))
    refine hcheck_spec (c := c) hf (hr.get (by (repeat (first | exact .done | (refine .pick (by repeat (first | exact .here | apply Fnt.there)) ?_) | refine .skip ?_)))) h fun w h => ?_
    unfold chkC
    cases g1 : okC c
    · rw [g1] at hK0
      have d4 : decide ((4 : Int) = 0) = false := by decide
      (repeat (first
 | (simp (disch := omega) only [evA, evB, bAdd_i64, bSub_i64, ptr, Nat.zero_add, Bool.not_true, Bool.not_false, Option.isNone_some, Option.isNone_none, Option.isSome_some, Option.isSome_none, decide_true, decide_false, eq_self, true_and, and_assoc, Bool.false_eq_true, if_false, d4])
 | ((with_reducible apply go_ld1 h))
 | ((with_reducible apply go_ldA h); (rfl))
 | ((with_reducible apply go_ldN h))
 | ((with_reducible apply go_st h); intro _ h)
 | ((with_reducible apply go_stA h); (rfl); (rfl); (first | rfl | simp [OneV.o]); intro _ h)
 | ((with_reducible apply go_stN h); (rfl); (first | rfl | simp [OneV.o]); intro _ h)
 | ((with_reducible apply go_box h); rfl; intro _ _ h)
 | ((with_reducible apply go_rd h); (rfl))
 | ((with_reducible apply go_rdN h); (rfl))
 | ((with_reducible apply go_rlen h); (rfl))
 | ((with_reducible apply go_lenL h))
 | ((with_reducible apply go_ix h); (omega))
 | ((with_reducible apply go_elN h); (case hi => omega))
 | ((with_reducible apply go_fa h); (omega); (omega))
 | ((with_reducible apply go_f1 h); (case hi => omega); (case hx => exact inferInstance))
 | ((with_reducible apply go_rf1 h); (case hi => omega); (case hx => exact inferInstance); (case hv => rfl))
 | ((with_reducible apply go_rel h); (case hi => omega); (case hv => rfl))
))
      exact hK0 (by simp) _ (close h (by (repeat (first | exact .done | (refine .pick (by repeat (first | exact .here | apply Fnt.there)) ?_) | refine .skip ?_))))
    have hn : (cs.find? fun d => decide (d.id = c.id)) = none := by
      rw [List.find?_eq_none]
      intro d hd e
      simp only [decide_eq_true_eq] at e
      obtain ⟨s, hx⟩ := H.1.get hd
      rw [e, hg] at hx; cases hx
    rw [g1, hn] at hK0
    (repeat (first
 | (simp (disch := omega) only [evA, evB, bAdd_i64, bSub_i64, ptr, Nat.zero_add, Bool.not_true, Bool.not_false, Option.isNone_some, Option.isNone_none, Option.isSome_some, Option.isSome_none, decide_true, decide_false, eq_self, true_and, and_assoc, if_true])
 | ((with_reducible apply go_ld1 h))
 | ((with_reducible apply go_ldA h); (rfl))
 | ((with_reducible apply go_ldN h))
 | ((with_reducible apply go_st h); intro _ h)
 | ((with_reducible apply go_stA h); (rfl); (rfl); (first | rfl | simp [OneV.o]); intro _ h)
 | ((with_reducible apply go_stN h); (rfl); (first | rfl | simp [OneV.o]); intro _ h)
 | ((with_reducible apply go_box h); rfl; intro _ _ h)
 | ((with_reducible apply go_rd h); (rfl))
 | ((with_reducible apply go_rdN h); (rfl))
 | ((with_reducible apply go_rlen h); (rfl))
 | ((with_reducible apply go_lenL h))
 | ((with_reducible apply go_ix h); (omega))
 | ((with_reducible apply go_elN h); (case hi => omega))
 | ((with_reducible apply go_fa h); (omega); (omega))
 | ((with_reducible apply go_f1 h); (case hi => omega); (case hx => exact inferInstance))
 | ((with_reducible apply go_rf1 h); (case hi => omega); (case hx => exact inferInstance); (case hv => rfl))
 | ((with_reducible apply go_rel h); (case hi => omega); (case hv => rfl))
))
    exact hK0 (by simp) _ (close h (by (repeat (first | exact .done | (refine .pick (by repeat (first | exact .here | apply Fnt.there)) ?_) | refine .skip ?_))))
  | some x =>
    obtain ⟨b, s⟩ := x
    obtain ⟨hb, hid⟩ := H.1.mem hg
    rw [hfind _ hg] at hK0 hK1
    simp only [Option.elim_some, Option.isSome_some]
    have hrb : RdL w0 (bag m :: L) cI 1 s b.times := bag_rd hg .here
    have hob : OneV s := (hrb _ (h.get (by (repeat (first | exact .done | (refine .pick (by repeat (first | exact .here | apply Fnt.there)) ?_) | refine .skip ?_))))).one
    (repeat (first
 | (simp (disch := omega) only [evA, evB, bAdd_i64, bSub_i64, ptr, Nat.zero_add, Bool.not_true, Bool.not_false, Option.isNone_some, Option.isNone_none, Option.isSome_some, Option.isSome_none, decide_true, decide_false, eq_self, true_and, and_assoc])
 | ((with_reducible apply go_ld1 h))
 | ((with_reducible apply go_ldA h); (rfl))
 | ((with_reducible apply go_ldN h))
 | ((with_reducible apply go_st h); intro _ h)
 | ((with_reducible apply go_stA h); (rfl); (rfl); (first | rfl | simp [OneV.o]); intro _ h)
 | ((with_reducible apply go_stN h); (rfl); (first | rfl | simp [OneV.o]); intro _ h)
 | ((with_reducible apply go_box h); rfl; intro _ _ h)
 | ((with_reducible apply go_rd h); (rfl))
 | ((with_reducible apply go_rdN h); (rfl))
 | ((with_reducible apply go_rlen h); (rfl))
 | ((with_reducible apply go_lenL h))
 | ((with_reducible apply go_ix h); (omega))
 | ((with_reducible apply go_elN h); (case hi => omega))
 | ((with_reducible apply go_fa h); (omega); (omega))
 | ((with_reducible apply go_f1 h); (case hi => omega); (case hx => exact inferInstance))
 | ((with_reducible apply go_rf1 h); (case hi => omega); (case hx => exact inferInstance); (case hv => rfl))
 | ((with_reducible apply go_rel h); (case hi => omega); (case hv => rfl))
))
    refine hcheck_spec (c := c) hf (hr.get (by (repeat (first | exact .done | (refine .pick (by repeat (first | exact .here | apply Fnt.there)) ?_) | refine .skip ?_)))) h fun w h => ?_
    unfold chkC
    cases g1 : okC c
    · rw [g1] at hK0
      have d4 : decide ((4 : Int) = 0) = false := by decide
      (repeat (first
 | (simp (disch := omega) only [evA, evB, bAdd_i64, bSub_i64, ptr, Nat.zero_add, Bool.not_true, Bool.not_false, Option.isNone_some, Option.isNone_none, Option.isSome_some, Option.isSome_none, decide_true, decide_false, eq_self, true_and, and_assoc, Bool.false_eq_true, if_false, d4])
 | ((with_reducible apply go_ld1 h))
 | ((with_reducible apply go_ldA h); (rfl))
 | ((with_reducible apply go_ldN h))
 | ((with_reducible apply go_st h); intro _ h)
 | ((with_reducible apply go_stA h); (rfl); (rfl); (first | rfl | simp [OneV.o]); intro _ h)
 | ((with_reducible apply go_stN h); (rfl); (first | rfl | simp [OneV.o]); intro _ h)
 | ((with_reducible apply go_box h); rfl; intro _ _ h)
 | ((with_reducible apply go_rd h); (rfl))
 | ((with_reducible apply go_rdN h); (rfl))
 | ((with_reducible apply go_rlen h); (rfl))
 | ((with_reducible apply go_lenL h))
 | ((with_reducible apply go_ix h); (omega))
 | ((with_reducible apply go_elN h); (case hi => omega))
 | ((with_reducible apply go_fa h); (omega); (omega))
 | ((with_reducible apply go_f1 h); (case hi => omega); (case hx => exact inferInstance))
 | ((with_reducible apply go_rf1 h); (case hi => omega); (case hx => exact inferInstance); (case hv => rfl))
 | ((with_reducible apply go_rel h); (case hi => omega); (case hv => rfl))
))
      exact hK0 (by simp) _ (close h (by (repeat (first | exact .done | (refine .pick (by repeat (first | exact .here | apply Fnt.there)) ?_) | refine .skip ?_))))
    rw [g1] at hK0 hK1
    simp only [Bool.true_eq_false, if_false] at hK0 hK1
    (repeat (first
 | (simp (disch := omega) only [evA, evB, bAdd_i64, bSub_i64, ptr, Nat.zero_add, Bool.not_true, Bool.not_false, Option.isNone_some, Option.isNone_none, Option.isSome_some, Option.isSome_none, decide_true, decide_false, eq_self, true_and, and_assoc, if_true])
 | ((with_reducible apply go_ld1 h))
 | ((with_reducible apply go_ldA h); (rfl))
 | ((with_reducible apply go_ldN h))
 | ((with_reducible apply go_st h); intro _ h)
 | ((with_reducible apply go_stA h); (rfl); (rfl); (first | rfl | simp [OneV.o]); intro _ h)
 | ((with_reducible apply go_stN h); (rfl); (first | rfl | simp [OneV.o]); intro _ h)
 | ((with_reducible apply go_box h); rfl; intro _ _ h)
 | ((with_reducible apply go_rd h); (rfl))
 | ((with_reducible apply go_rdN h); (rfl))
 | ((with_reducible apply go_rlen h); (rfl))
 | ((with_reducible apply go_lenL h))
 | ((with_reducible apply go_ix h); (omega))
 | ((with_reducible apply go_elN h); (case hi => omega))
 | ((with_reducible apply go_fa h); (omega); (omega))
 | ((with_reducible apply go_f1 h); (case hi => omega); (case hx => exact inferInstance))
 | ((with_reducible apply go_rf1 h); (case hi => omega); (case hx => exact inferInstance); (case hv => rfl))
 | ((with_reducible apply go_rel h); (case hi => omega); (case hv => rfl))
))
    refine hof_spec (a := b) h.drew fun w h => ?_
    (repeat (first
 | (simp (disch := omega) only [evA, evB, bAdd_i64, bSub_i64, ptr, Nat.zero_add, Bool.not_true, Bool.not_false, Option.isNone_some, Option.isNone_none, Option.isSome_some, Option.isSome_none, decide_true, decide_false, eq_self, true_and, and_assoc])
 | ((with_reducible apply go_ld1 h))
 | ((with_reducible apply go_ldA h); (rfl))
 | ((with_reducible apply go_ldN h))
 | ((with_reducible apply go_st h); intro _ h)
 | ((with_reducible apply go_stA h); (rfl); (rfl); (first | rfl | simp [OneV.o]); intro _ h)
 | ((with_reducible apply go_stN h); (rfl); (first | rfl | simp [OneV.o]); intro _ h)
 | ((with_reducible apply go_box h); rfl; intro _ _ h)
 | ((with_reducible apply go_rd h); (rfl))
 | ((with_reducible apply go_rdN h); (rfl))
 | ((with_reducible apply go_rlen h); (rfl))
 | ((with_reducible apply go_lenL h))
 | ((with_reducible apply go_ix h); (omega))
 | ((with_reducible apply go_elN h); (case hi => omega))
 | ((with_reducible apply go_fa h); (omega); (omega))
 | ((with_reducible apply go_f1 h); (case hi => omega); (case hx => exact inferInstance))
 | ((with_reducible apply go_rf1 h); (case hi => omega); (case hx => exact inferInstance); (case hv => rfl))
 | ((with_reducible apply go_rel h); (case hi => omega); (case hv => rfl))
))
    refine hof_spec (a := c) h fun w h => ?_
    refine go_some (neSgn _ _ (sgnOf b) (sgnOf c)) ?_
    by_cases g2 : sgnOf b = sgnOf c
    · rw [if_pos g2] at hK1
      rw [decide_eq_true g2]
      (repeat (first
 | (simp (disch := omega) only [evA, evB, bAdd_i64, bSub_i64, ptr, Nat.zero_add, Bool.not_true, Bool.not_false, Option.isNone_some, Option.isNone_none, Option.isSome_some, Option.isSome_none, decide_true, decide_false, eq_self, true_and, and_assoc])
 | ((with_reducible apply go_ld1 h))
 | ((with_reducible apply go_ldA h); (rfl))
 | ((with_reducible apply go_ldN h))
 | ((with_reducible apply go_st h); intro _ h)
 | ((with_reducible apply go_stA h); (rfl); (rfl); (first | rfl | simp [OneV.o]); intro _ h)
 | ((with_reducible apply go_stN h); (rfl); (first | rfl | simp [OneV.o]); intro _ h)
 | ((with_reducible apply go_box h); rfl; intro _ _ h)
 | ((with_reducible apply go_rd h); (rfl))
 | ((with_reducible apply go_rdN h); (rfl))
 | ((with_reducible apply go_rlen h); (rfl))
 | ((with_reducible apply go_lenL h))
 | ((with_reducible apply go_ix h); (omega))
 | ((with_reducible apply go_elN h); (case hi => omega))
 | ((with_reducible apply go_fa h); (omega); (omega))
 | ((with_reducible apply go_f1 h); (case hi => omega); (case hx => exact inferInstance))
 | ((with_reducible apply go_rf1 h); (case hi => omega); (case hx => exact inferInstance); (case hv => rfl))
 | ((with_reducible apply go_rel h); (case hi => omega); (case hv => rfl))
))
      refine hput_spec (v := ptr p) (n := n) (next := next) (hn := hn) (m := m) (I := I) (M := M) (c := c) (L := _ :: _ :: L) ?_ ?_ (hold_iff.2 ⟨p, dp, ml, mi, rfl, h.get (by (repeat (first | exact .done | (refine .pick (by repeat (first | exact .here | apply Fnt.there)) ?_) | refine .skip ?_)))⟩) fun s w h => ?_
      · have := hf.2.2.2; omega
      · exact hr.cons.cons
      (repeat (first
 | (simp (disch := omega) only [evA, evB, bAdd_i64, bSub_i64, ptr, Nat.zero_add, Bool.not_true, Bool.not_false, Option.isNone_some, Option.isNone_none, Option.isSome_some, Option.isSome_none, decide_true, decide_false, eq_self, true_and, and_assoc])
 | ((with_reducible apply go_ld1 h))
 | ((with_reducible apply go_ldA h); (rfl))
 | ((with_reducible apply go_ldN h))
 | ((with_reducible apply go_st h); intro _ h)
 | ((with_reducible apply go_stA h); (rfl); (rfl); (first | rfl | simp [OneV.o]); intro _ h)
 | ((with_reducible apply go_stN h); (rfl); (first | rfl | simp [OneV.o]); intro _ h)
 | ((with_reducible apply go_box h); rfl; intro _ _ h)
 | ((with_reducible apply go_rd h); (rfl))
 | ((with_reducible apply go_rdN h); (rfl))
 | ((with_reducible apply go_rlen h); (rfl))
 | ((with_reducible apply go_lenL h))
 | ((with_reducible apply go_ix h); (omega))
 | ((with_reducible apply go_elN h); (case hi => omega))
 | ((with_reducible apply go_fa h); (omega); (omega))
 | ((with_reducible apply go_f1 h); (case hi => omega); (case hx => exact inferInstance))
 | ((with_reducible apply go_rf1 h); (case hi => omega); (case hx => exact inferInstance); (case hv => rfl))
 | ((with_reducible apply go_rel h); (case hi => omega); (case hv => rfl))
))
      exact hK1 rfl _ (holdA_iff.2 ⟨hn, _, _, _, ⟨H.1.turn g1 hf hb hid g2, H.2⟩, h.get (by (repeat (first | exact .done | (refine .pick (by repeat (first | exact .here | apply Fnt.there)) ?_) | refine .skip ?_)))⟩)
    · rw [if_neg g2] at hK0
      rw [decide_eq_false g2]
      (repeat (first
 | (simp (disch := omega) only [evA, evB, bAdd_i64, bSub_i64, ptr, Nat.zero_add, Bool.not_true, Bool.not_false, Option.isNone_some, Option.isNone_none, Option.isSome_some, Option.isSome_none, decide_true, decide_false, eq_self, true_and, and_assoc])
 | ((with_reducible apply go_ld1 h))
 | ((with_reducible apply go_ldA h); (rfl))
 | ((with_reducible apply go_ldN h))
 | ((with_reducible apply go_st h); intro _ h)
 | ((with_reducible apply go_stA h); (rfl); (rfl); (first | rfl | simp [OneV.o]); intro _ h)
 | ((with_reducible apply go_stN h); (rfl); (first | rfl | simp [OneV.o]); intro _ h)
 | ((with_reducible apply go_box h); rfl; intro _ _ h)
 | ((with_reducible apply go_rd h); (rfl))
 | ((with_reducible apply go_rdN h); (rfl))
 | ((with_reducible apply go_rlen h); (rfl))
 | ((with_reducible apply go_lenL h))
 | ((with_reducible apply go_ix h); (omega))
 | ((with_reducible apply go_elN h); (case hi => omega))
 | ((with_reducible apply go_fa h); (omega); (omega))
 | ((with_reducible apply go_f1 h); (case hi => omega); (case hx => exact inferInstance))
 | ((with_reducible apply go_rf1 h); (case hi => omega); (case hx => exact inferInstance); (case hv => rfl))
 | ((with_reducible apply go_rel h); (case hi => omega); (case hv => rfl))
))
      exact hK0 (by simp) _ (close h (by (repeat (first | exact .done | (refine .pick (by repeat (first | exact .here | apply Fnt.there)) ?_) | refine .skip ?_))))
abbrev SV := Option Addr × Nat × Nat
abbrev svV (x : SV) : Value := .slice x.1 x.2.1 x.2.2
@[reducible] def cX (x : Ctx × SV) : List Value := cCtx x.1 (svV x.2)
theorem CX : Cod cX 11 := ⟨fun _ => rfl, fun _ => rfl, by omega⟩
instance : CodC cX 11 := ⟨CX⟩
def hlX (xs : List (Ctx × SV)) : Held := xs.map fun x => (x.1.id, (x.1, svV x.2))
/-- contexts in a new slice, each with its own times -/
def CtxL (sv : Value) (cs : List Ctx) : HP := HEx fun xs : List (Ctx × SV) => HPr (xs.map Prod.fst = cs) (HSt (LsH cX 11 41 sv xs) (bag (hlX xs)))
theorem ctxL_iff {sv : Value} : Sat w0 (CtxL sv cs :: L) w ↔ ∃ xs : List (Ctx × SV), xs.map Prod.fst = cs ∧ Sat w0 (LsH cX 11 41 sv xs :: bag (hlX xs) :: L) w := by
  simp only [CtxL, Sat.ex_iff, Sat.pr_iff, Sat.star_iff]
theorem bag_add {x : Ctx × Value} {k : Int} (h : Sat w0 (LsH cI 1 3 x.2 x.1.times :: bag m :: L) w) : Sat w0 (bag (m ++ [(k, x)]) :: L) w := by
  have h1 := bag_iff.1 h.f1
  have h2 : Sat w0 (heldP (k, x) :: (m.map heldP ++ L)) w := h1.perm List.perm_middle
  refine bag_iff.2 ?_
  rw [List.map_append]
  refine h2.perm ?_
  rw [List.append_assoc]
  exact List.perm_middle.symm
theorem fbX (c : Ctx) (x : SV) : fBuildSl Try.prog 41 1 [(0, ctxV c (svV x))] = some (cX (c, x)).toArray := by kernel_rfl
theorem all_loop {p : Nat} {dp ml mi ks : Value} (H : HInv n next hn m I M cs) (hK : ∀ sv w', Sat w0 (CtxL sv cs :: Cl p #[dp, .int .i64 n, .int .i64 next, ml, mi] 159 :: MapH kH ctxE ml m :: bag m :: L) w' → K sv w') :
    ∀ (d i : Nat) (xs : List (Ctx × SV)) (sv : Value) (w : World), cs.length - i < d → i ≤ cs.length → xs.map Prod.fst = cs.take i →
      Sat w0 (LsH cX 11 41 sv xs :: bag (hlX xs) :: LsH cI 1 3 ks (cs.map (·.id)) :: Cl p #[dp, .int .i64 n, .int .i64 next, ml, mi] 159 :: MapH kH ctxE ml m :: bag m :: L) w →
      F54_2L d (ptr p) sv ks (.int .i64 (cs.length : Nat)) (.int .i64 i) w K := by
  intro d
  induction d with
  | zero => intro i _ _ _ hd; omega
  | succ d ih =>
    intro i xs sv w hd hi hx h
    rw [F54_2L]
    unfold F54_2b
    have hb := H.bd
    have := map_one (h.front (A := MapH kH ctxE ml m) (by repeat (first | exact .here | apply Fnt.there)))
    by_cases g : i < cs.length
    · have g' : decide ((i : Int) < (cs.length : Int)) = true := by simpa using g
      have g2 : i < (cs.map (·.id)).length := by simpa using g
      have ge : (cs.map (·.id))[i] = cs[i].id := by simp
      obtain ⟨s, hg⟩ := H.get (List.getElem_mem g)
      (repeat (first
 | (simp (disch := omega) only [evA, evB, bAdd_i64, bSub_i64, ptr, Nat.zero_add, Bool.not_true, Bool.not_false, Option.isNone_some, Option.isNone_none, Option.isSome_some, Option.isSome_none, decide_true, decide_false, eq_self, true_and, and_assoc, g'])
 | ((with_reducible apply go_ld1 h))
 | ((with_reducible apply go_ldA h); (rfl))
 | ((with_reducible apply go_ldN h))
 | ((with_reducible apply go_st h); intro _ h)
 | ((with_reducible apply go_stA h); (rfl); (rfl); (first | rfl | simp [OneV.o]); intro _ h)
 | ((with_reducible apply go_stN h); (rfl); (first | rfl | simp [OneV.o]); intro _ h)
 | ((with_reducible apply go_box h); rfl; intro _ _ h)
 | ((with_reducible apply go_rd h); (rfl))
 | ((with_reducible apply go_rdN h); (rfl))
 | ((with_reducible apply go_rlen h); (rfl))
 | ((with_reducible apply go_lenL h))
 | ((with_reducible apply go_ix h); (omega))
 | ((with_reducible apply go_elN h); (case hi => omega))
 | ((with_reducible apply go_fa h); (omega); (omega))
 | ((with_reducible apply go_f1 h); (case hi => omega); (case hx => exact inferInstance))
 | ((with_reducible apply go_rf1 h); (case hi => omega); (case hx => exact inferInstance); (case hv => rfl))
 | ((with_reducible apply go_rel h); (case hi => omega); (case hv => rfl))
))
      refine go_some (i_at (ls_rd (h.front (A := LsH cI 1 3 ks (cs.map (·.id))) (by repeat (first | exact .here | apply Fnt.there)))) g2).2 ?_
      (repeat (first
 | (simp (disch := omega) only [evA, evB, bAdd_i64, bSub_i64, ptr, Nat.zero_add, Bool.not_true, Bool.not_false, Option.isNone_some, Option.isNone_none, Option.isSome_some, Option.isSome_none, decide_true, decide_false, eq_self, true_and, and_assoc, ge])
 | ((with_reducible apply go_ld1 h))
 | ((with_reducible apply go_ldA h); (rfl))
 | ((with_reducible apply go_ldN h))
 | ((with_reducible apply go_st h); intro _ h)
 | ((with_reducible apply go_stA h); (rfl); (rfl); (first | rfl | simp [OneV.o]); intro _ h)
 | ((with_reducible apply go_stN h); (rfl); (first | rfl | simp [OneV.o]); intro _ h)
 | ((with_reducible apply go_box h); rfl; intro _ _ h)
 | ((with_reducible apply go_rd h); (rfl))
 | ((with_reducible apply go_rdN h); (rfl))
 | ((with_reducible apply go_rlen h); (rfl))
 | ((with_reducible apply go_lenL h))
 | ((with_reducible apply go_ix h); (omega))
 | ((with_reducible apply go_elN h); (case hi => omega))
 | ((with_reducible apply go_fa h); (omega); (omega))
 | ((with_reducible apply go_f1 h); (case hi => omega); (case hx => exact inferInstance))
 | ((with_reducible apply go_rf1 h); (case hi => omega); (case hx => exact inferInstance); (case hv => rfl))
 | ((with_reducible apply go_rel h); (case hi => omega); (case hv => rfl))
))
      refine go_look1 h (by repeat (first | exact .here | apply Fnt.there)) KIh um156 zc41 cs[i].id ?_
      rw [hg]
      simp only [Option.elim_some]
      have hr : RdL w0 (bag m :: L) cI 1 s cs[i].times := bag_rd hg .here
      have hl : cs[i].times.length ≤ 1000000 := by have := (H.ok cs[i] (List.getElem_mem g)).2.1.2.2.2; omega
      refine own_spec (c := cs[i]) hl (hr.get (by (repeat (first | exact .done | (refine .pick (by repeat (first | exact .here | apply Fnt.there)) ?_) | refine .skip ?_)))) h fun s w h => ?_
      obtain ⟨a1, c1, rfl, _⟩ := (ls_rd h).cap
      (repeat (first
 | (simp (disch := omega) only [evA, evB, bAdd_i64, bSub_i64, ptr, Nat.zero_add, Bool.not_true, Bool.not_false, Option.isNone_some, Option.isNone_none, Option.isSome_some, Option.isSome_none, decide_true, decide_false, eq_self, true_and, and_assoc])
 | ((with_reducible apply go_ld1 h))
 | ((with_reducible apply go_ldA h); (rfl))
 | ((with_reducible apply go_ldN h))
 | ((with_reducible apply go_st h); intro _ h)
 | ((with_reducible apply go_stA h); (rfl); (rfl); (first | rfl | simp [OneV.o]); intro _ h)
 | ((with_reducible apply go_stN h); (rfl); (first | rfl | simp [OneV.o]); intro _ h)
 | ((with_reducible apply go_box h); rfl; intro _ _ h)
 | ((with_reducible apply go_rd h); (rfl))
 | ((with_reducible apply go_rdN h); (rfl))
 | ((with_reducible apply go_rlen h); (rfl))
 | ((with_reducible apply go_lenL h))
 | ((with_reducible apply go_ix h); (omega))
 | ((with_reducible apply go_elN h); (case hi => omega))
 | ((with_reducible apply go_fa h); (omega); (omega))
 | ((with_reducible apply go_f1 h); (case hi => omega); (case hx => exact inferInstance))
 | ((with_reducible apply go_rf1 h); (case hi => omega); (case hx => exact inferInstance); (case hv => rfl))
 | ((with_reducible apply go_rel h); (case hi => omega); (case hv => rfl))
))
      have hlen : xs.length = i := by
        have := congrArg List.length hx
        simp at this; omega
      refine go_lit1 (f := cX) (x := (cs[i], (a1, cs[i].times.length, c1))) CX h u101 (fbX cs[i] (a1, cs[i].times.length, c1)) (by simp) fun s1 w h => ?_
      refine ls_app (l := xs) (m := [(cs[i], (a1, cs[i].times.length, c1))]) CX (h.front (by repeat (first | exact .here | apply Fnt.there))) sl101 ss101 (ls_rd (h.front (by repeat (first | exact .here | apply Fnt.there)))) (by have := H.bd; rw [hlen]; simp only [List.length_cons, List.length_nil]; omega) fun s2 w h => ?_
      (repeat (first
 | (simp (disch := omega) only [evA, evB, bAdd_i64, bSub_i64, ptr, Nat.zero_add, Bool.not_true, Bool.not_false, Option.isNone_some, Option.isNone_none, Option.isSome_some, Option.isSome_none, decide_true, decide_false, eq_self, true_and, and_assoc])
 | ((with_reducible apply go_ld1 h))
 | ((with_reducible apply go_ldA h); (rfl))
 | ((with_reducible apply go_ldN h))
 | ((with_reducible apply go_st h); intro _ h)
 | ((with_reducible apply go_stA h); (rfl); (rfl); (first | rfl | simp [OneV.o]); intro _ h)
 | ((with_reducible apply go_stN h); (rfl); (first | rfl | simp [OneV.o]); intro _ h)
 | ((with_reducible apply go_box h); rfl; intro _ _ h)
 | ((with_reducible apply go_rd h); (rfl))
 | ((with_reducible apply go_rdN h); (rfl))
 | ((with_reducible apply go_rlen h); (rfl))
 | ((with_reducible apply go_lenL h))
 | ((with_reducible apply go_ix h); (omega))
 | ((with_reducible apply go_elN h); (case hi => omega))
 | ((with_reducible apply go_fa h); (omega); (omega))
 | ((with_reducible apply go_f1 h); (case hi => omega); (case hx => exact inferInstance))
 | ((with_reducible apply go_rf1 h); (case hi => omega); (case hx => exact inferInstance); (case hv => rfl))
 | ((with_reducible apply go_rel h); (case hi => omega); (case hv => rfl))
))
      refine ih (i + 1) (xs ++ [(cs[i], (a1, cs[i].times.length, c1))]) s2 w (by omega) (by omega) ?_ ?_
      · rw [List.map_append, hx, List.take_succ_eq_append_getElem g]; rfl
      · have h3 := bag_add (m := hlX xs) (x := (cs[i], .slice a1 cs[i].times.length c1)) (k := cs[i].id) (h.get (L' := LsH cI 1 3 (.slice a1 cs[i].times.length c1) cs[i].times :: bag (hlX xs) :: LsH cX 11 41 s2 (xs ++ [(cs[i], (a1, cs[i].times.length, c1))]) :: LsH cI 1 3 ks (cs.map (·.id)) :: Cl p #[dp, .int .i64 n, .int .i64 next, ml, mi] 159 :: MapH kH ctxE ml m :: bag m :: L) (by (repeat (first | exact .done | (refine .pick (by repeat (first | exact .here | apply Fnt.there)) ?_) | refine .skip ?_))))
        have e3 : hlX (xs ++ [(cs[i], (a1, cs[i].times.length, c1))]) = hlX xs ++ [(cs[i].id, (cs[i], .slice a1 cs[i].times.length c1))] := by unfold hlX; rw [List.map_append]; rfl
        rw [e3]
        exact h3.f1
    · have g' : decide ((i : Int) < (cs.length : Int)) = false := by simpa using g
      have e : i = cs.length := by omega
      subst e
      (repeat (first
 | (simp (disch := omega) only [evA, evB, bAdd_i64, bSub_i64, ptr, Nat.zero_add, Bool.not_true, Bool.not_false, Option.isNone_some, Option.isNone_none, Option.isSome_some, Option.isSome_none, decide_true, decide_false, eq_self, true_and, and_assoc, g'])
 | ((with_reducible apply go_ld1 h))
 | ((with_reducible apply go_ldA h); (rfl))
 | ((with_reducible apply go_ldN h))
 | ((with_reducible apply go_st h); intro _ h)
 | ((with_reducible apply go_stA h); (rfl); (rfl); (first | rfl | simp [OneV.o]); intro _ h)
 | ((with_reducible apply go_stN h); (rfl); (first | rfl | simp [OneV.o]); intro _ h)
 | ((with_reducible apply go_box h); rfl; intro _ _ h)
 | ((with_reducible apply go_rd h); (rfl))
 | ((with_reducible apply go_rdN h); (rfl))
 | ((with_reducible apply go_rlen h); (rfl))
 | ((with_reducible apply go_lenL h))
 | ((with_reducible apply go_ix h); (omega))
 | ((with_reducible apply go_elN h); (case hi => omega))
 | ((with_reducible apply go_fa h); (omega); (omega))
 | ((with_reducible apply go_f1 h); (case hi => omega); (case hx => exact inferInstance))
 | ((with_reducible apply go_rf1 h); (case hi => omega); (case hx => exact inferInstance); (case hv => rfl))
 | ((with_reducible apply go_rel h); (case hi => omega); (case hv => rfl))
))
      unfold F54_3 F54_3b
      refine hK sv w (ctxL_iff.2 ⟨xs, by rw [hx, List.take_length], h.get (by (repeat (first | exact .done | (refine .pick (by repeat (first | exact .here | apply Fnt.there)) ?_) | refine .skip ?_)))⟩)
theorem aall_spec (h : Sat w0 (HoldA v n next cs :: L) w) (hid : next ≤ 4611686018427387904) (hK : ∀ sv w', Sat w0 (CtxL sv cs :: HoldA v n next cs :: L) w' → K sv w') : callP G54 [v] w K := by
  refine c54 ?_
  unfold F54 F54_1 F54_1b
  replace h := holdA_iff.1 h
  obtain ⟨hn, m, I, M, H, h⟩ := h
  replace h := hold_iff.1 h
  obtain ⟨p, dp, ml, mi, rfl, h⟩ := h
  have := map_one (h.front (A := MapH kH ctxE ml m) (by repeat (first | exact .here | apply Fnt.there)))
  have := map_one (h.front (A := MapH sgnV kH mi I) (by repeat (first | exact .here | apply Fnt.there)))
  obtain ⟨r1, _, _, ⟨rfl, _⟩, _⟩ := map_iff.1 (h.front (A := MapH kH ctxE ml m) (by repeat (first | exact .here | apply Fnt.there)))
  (repeat (first
 | (simp (disch := omega) only [evA, evB, bAdd_i64, bSub_i64, ptr, Nat.zero_add, Bool.not_true, Bool.not_false, Option.isNone_some, Option.isNone_none, Option.isSome_some, Option.isSome_none, decide_true, decide_false, eq_self, true_and, and_assoc])
 | ((with_reducible apply go_ld1 h))
 | ((with_reducible apply go_ldA h); (rfl))
 | ((with_reducible apply go_ldN h))
 | ((with_reducible apply go_st h); intro _ h)
 | ((with_reducible apply go_stA h); (rfl); (rfl); (first | rfl | simp [OneV.o]); intro _ h)
 | ((with_reducible apply go_stN h); (rfl); (first | rfl | simp [OneV.o]); intro _ h)
 | ((with_reducible apply go_box h); rfl; intro _ _ h)
 | ((with_reducible apply go_rd h); (rfl))
 | ((with_reducible apply go_rdN h); (rfl))
 | ((with_reducible apply go_rlen h); (rfl))
 | ((with_reducible apply go_lenL h))
 | ((with_reducible apply go_ix h); (omega))
 | ((with_reducible apply go_elN h); (case hi => omega))
 | ((with_reducible apply go_fa h); (omega); (omega))
 | ((with_reducible apply go_f1 h); (case hi => omega); (case hx => exact inferInstance))
 | ((with_reducible apply go_rf1 h); (case hi => omega); (case hx => exact inferInstance); (case hv => rfl))
 | ((with_reducible apply go_rel h); (case hi => omega); (case hv => rfl))
))
  refine c108 ?_
  unfold F108
  (repeat (first
 | (simp (disch := omega) only [evA, evB, bAdd_i64, bSub_i64, ptr, Nat.zero_add, Bool.not_true, Bool.not_false, Option.isNone_some, Option.isNone_none, Option.isSome_some, Option.isSome_none, decide_true, decide_false, eq_self, true_and, and_assoc])
 | ((with_reducible apply go_ld1 h))
 | ((with_reducible apply go_ldA h); (rfl))
 | ((with_reducible apply go_ldN h))
 | ((with_reducible apply go_st h); intro _ h)
 | ((with_reducible apply go_stA h); (rfl); (rfl); (first | rfl | simp [OneV.o]); intro _ h)
 | ((with_reducible apply go_stN h); (rfl); (first | rfl | simp [OneV.o]); intro _ h)
 | ((with_reducible apply go_box h); rfl; intro _ _ h)
 | ((with_reducible apply go_rd h); (rfl))
 | ((with_reducible apply go_rdN h); (rfl))
 | ((with_reducible apply go_rlen h); (rfl))
 | ((with_reducible apply go_lenL h))
 | ((with_reducible apply go_ix h); (omega))
 | ((with_reducible apply go_elN h); (case hi => omega))
 | ((with_reducible apply go_fa h); (omega); (omega))
 | ((with_reducible apply go_f1 h); (case hi => omega); (case hx => exact inferInstance))
 | ((with_reducible apply go_rf1 h); (case hi => omega); (case hx => exact inferInstance); (case hv => rfl))
 | ((with_reducible apply go_rel h); (case hi => omega); (case hv => rfl))
))
  refine sortedI_sat (m := m) (ev := ctxE) (L := Cl p #[dp, .int .i64 n, .int .i64 next, .map (some r1), mi] 159 :: HeapH dp hn M :: MapH sgnV kH mi I :: bag m :: L) (h.get (by (repeat (first | exact .done | (refine .pick (by repeat (first | exact .here | apply Fnt.there)) ?_) | refine .skip ?_)))) ?_ ?_ fun l v w hp hs h => ?_
  · intro x hx
    have h1 := H.1.key x hx
    have h2 := (H.1.ok x.2.1 (H.1.pm.mem_iff.1 (List.mem_map.2 ⟨x, hx, rfl⟩))).2.2
    omega
  · rw [H.1.len]; have := H.1.bd; omega
  have el : l = cs.map (·.id) := by
    refine List.Perm.eq_of_pairwise (le := fun a b : Int => a ≤ b) (fun a b _ _ h1 h2 => by omega) hs ?_ (hp.trans ?_)
    · exact List.pairwise_map.2 (H.1.asc.imp fun h => by omega)
    · have e : m.map Prod.fst = (m.map fun x => x.2.1).map (·.id) := by
        rw [List.map_map]
        exact List.map_congr_left fun x hx => H.1.key x hx
      rw [e]
      exact H.1.pm.map _
  subst el
  have hll := ls_len h
  rw [List.length_map] at hll
  (repeat (first
 | (simp (disch := omega) only [evA, evB, bAdd_i64, bSub_i64, ptr, Nat.zero_add, Bool.not_true, Bool.not_false, Option.isNone_some, Option.isNone_none, Option.isSome_some, Option.isSome_none, decide_true, decide_false, eq_self, true_and, and_assoc, hll])
 | ((with_reducible apply go_ld1 h))
 | ((with_reducible apply go_ldA h); (rfl))
 | ((with_reducible apply go_ldN h))
 | ((with_reducible apply go_st h); intro _ h)
 | ((with_reducible apply go_stA h); (rfl); (rfl); (first | rfl | simp [OneV.o]); intro _ h)
 | ((with_reducible apply go_stN h); (rfl); (first | rfl | simp [OneV.o]); intro _ h)
 | ((with_reducible apply go_box h); rfl; intro _ _ h)
 | ((with_reducible apply go_rd h); (rfl))
 | ((with_reducible apply go_rdN h); (rfl))
 | ((with_reducible apply go_rlen h); (rfl))
 | ((with_reducible apply go_lenL h))
 | ((with_reducible apply go_ix h); (omega))
 | ((with_reducible apply go_elN h); (case hi => omega))
 | ((with_reducible apply go_fa h); (omega); (omega))
 | ((with_reducible apply go_f1 h); (case hi => omega); (case hx => exact inferInstance))
 | ((with_reducible apply go_rf1 h); (case hi => omega); (case hx => exact inferInstance); (case hv => rfl))
 | ((with_reducible apply go_rel h); (case hi => omega); (case hv => rfl))
))
  unfold F54_2
  refine all_loop (w0 := w0) (mi := mi) (ml := .map (some r1)) (dp := dp) (L := HeapH dp hn M :: MapH sgnV kH mi I :: L) H.1 (fun sv w h => ?_) fuel 0 [] (.slice none 0 0) _ (by have := H.1.bd; unfold fuel; omega) (by omega) rfl ?_
  · exact hK sv w (Sat.f1 (holdA_iff.2 ⟨hn, m, I, M, H, hold_iff.2 ⟨p, dp, _, mi, rfl, h.get (by (repeat (first | exact .done | (refine .pick (by repeat (first | exact .here | apply Fnt.there)) ?_) | refine .skip ?_)))⟩⟩))
  · have h3 : Sat w0 (bag [] :: _) _ := bag_iff.2 h
    have h4 := ls_nil (f := cX) (es := 11) (ty := 41) h3
    exact h4.get (by (repeat (first | exact .done | (refine .pick (by repeat (first | exact .here | apply Fnt.there)) ?_) | refine .skip ?_)))
end
end Go.Proofs.Gong

/- Ho8 -/
namespace Go.Proofs.Gong
open Go Go.Sx Go.Proofs
set_option maxRecDepth 100000
/-- a context of a number -/
def ctxK (k : Nat) : Ctx := ⟨0, (k % 3 : Nat), [UInt8.ofNat (97 + k / 3 % 4)], if k / 12 % 2 = 0 then [] else [107], (k / 24 % 50 : Nat), ⟨[], [], [], 0, []⟩, []⟩
def ctxN' (x : Int) : Ctx := ctxK (bel x 1048576).toNat
theorem okSign_k : ∀ a < 4, okSign [UInt8.ofNat (97 + a)] [] = true ∧ okSign [UInt8.ofNat (97 + a)] [107] = true := by decide +kernel
theorem ctxK_ok (k : Nat) : okC (ctxK k) = true := by
  have h := okSign_k (k / 3 % 4) (by omega)
  have h2 : okSign (ctxK k).node (ctxK k).key = true := by
    unfold ctxK
    by_cases g : k / 12 % 2 = 0
    · simp only [g, if_true]; exact h.1
    · simp only [g, if_false]; exact h.2
  unfold okC
  rw [h2]
  have e1 : okEv (ctxK k).e = true := by unfold okEv ctxK zeroE; simp
  have e2 : okTimes (ctxK k).times = true := by unfold okTimes ctxK; simp [ascI]
  rw [e1, e2]
  unfold ctxK timeP
  simp
  omega
theorem ctxK_fits (k : Nat) : (ctxK k).fits := by
  unfold Ctx.fits Evt.fits ctxK
  split <;> simp
def insC (c : Ctx) (cs : List Ctx) : List Ctx := cs.takeWhile (fun d => decide (d.id < c.id)) ++ c :: cs.dropWhile (fun d => decide (d.id < c.id))
theorem insC_perm (c : Ctx) (cs : List Ctx) : (insC c cs).Perm (c :: cs) := by
  unfold insC
  exact List.perm_middle.trans (by rw [List.takeWhile_append_dropWhile])
theorem insC_asc {c : Ctx} : ∀ {cs : List Ctx}, (cs.Pairwise fun a b => a.id < b.id) → (∀ d ∈ cs, d.id ≠ c.id) → (insC c cs).Pairwise fun a b => a.id < b.id
  | [], _, _ => by simp [insC]
  | d :: r, h, hn => by
    obtain ⟨h1, h2⟩ := List.pairwise_cons.1 h
    have hd := hn d (by simp)
    by_cases g : d.id < c.id
    · have e : insC c (d :: r) = d :: insC c r := by simp [insC, g]
      rw [e]
      refine List.pairwise_cons.2 ⟨fun x hx => ?_, insC_asc h2 fun x hx => hn x (List.mem_cons_of_mem _ hx)⟩
      rcases List.mem_cons.1 ((insC_perm c r).mem_iff.1 hx) with rfl | hx
      · exact g
      · exact h1 x hx
    · have e : insC c (d :: r) = c :: d :: r := by simp [insC, g]
      rw [e]
      refine List.pairwise_cons.2 ⟨fun x hx => ?_, h⟩
      rcases List.mem_cons.1 hx with rfl | hx
      · omega
      · have := h1 x hx; omega
theorem HInv.ins {n next hn : Int} {m : Held} {I : List (Sgn × Int)} {M : List It} {cs : List Ctx} {c : Ctx} {s : Value} (H : HInv n next hn m I M cs) (ho : okC c = true) (hf : c.fits) (hs : ∀ d ∈ cs, sgnOf d ≠ sgnOf c) (hnew : ∀ d ∈ cs, d.id ≠ c.id) (hl : (cs.length : Int) < n)
    (h1 : 1 ≤ c.id) (h2 : c.id < next) : HInv n next hn (aSet c.id (c, s) m) (aSet (sgnOf c) c.id I) (setR hn c.id c.at' M).2 (insC c cs) := by
  have g1 := H.get_none hnew
  have g2 := H.snone hs
  have g3 : ∀ t, (c.id, t) ∉ M := fun t ht => by
    obtain ⟨d, hd, e⟩ := List.mem_map.1 (H.pM.mem_iff.1 ht)
    simp only [Prod.mk.injEq] at e
    exact hnew d hd e.1
  have hb := H.bd
  have ht := okC_time ho
  have hM : (setR hn c.id c.at' M).2 = setM c.id c.at' M := by
    unfold setR
    rw [if_neg (by omega), if_neg (by rw [H.mlen]; omega)]
  rw [aSet_new g1, aSet_new g2, hM]
  have hp := insC_perm c cs
  refine ⟨?_, ?_, insC_asc H.asc hnew, ?_, ?_, ?_, ?_, ?_, ?_⟩
  · rw [List.map_append]
    refine (List.perm_append_comm.trans ?_).trans hp.symm
    exact H.pm.cons _
  · intro x hx
    rcases List.mem_append.1 hx with hx | hx
    · exact H.key x hx
    · simp at hx; subst hx; rfl
  · refine (List.perm_append_comm.trans ?_).trans (hp.map _).symm
    exact H.pI.cons _
  · refine hp.symm.pairwise ?_ (fun h => h.symm)
    exact List.pairwise_cons.2 ⟨fun d hd e => hs d hd e.symm, H.sg⟩
  · unfold setM
    refine ((insM_perm _ _).trans ?_).trans (hp.map _).symm
    rw [drop_absent g3]
    exact H.pM.cons _
  · exact (H.aM.drop _).ins _
  · have := hp.length_eq; simp at this; omega
  · intro d hd
    rcases List.mem_cons.1 (hp.mem_iff.1 hd) with rfl | hd
    · exact ⟨ho, hf, h1, h2⟩
    · exact H.ok d hd
/-- one context more, on a load -/
def loadStep (next : Int) (cs : List Ctx) (c : Ctx) : Option (List Ctx) :=
  if okC c = true ∧ 1 ≤ c.id ∧ c.id < next ∧ (∀ d ∈ cs, d.id ≠ c.id) ∧ (∀ d ∈ cs, sgnOf d ≠ sgnOf c) then some (insC c cs) else none
def loadL (next : Int) : List Ctx → List Ctx → Option (List Ctx)
  | [], cs => some cs
  | c :: l, cs => (loadStep next cs c).bind (loadL next l)
theorem loadL_len {next : Int} : ∀ {l cs ds : List Ctx}, loadL next l cs = some ds → ds.length = cs.length + l.length
  | [], cs, ds, h => by simp [loadL] at h; subst h; simp
  | c :: l, cs, ds, h => by
    unfold loadL loadStep at h
    split at h
    · have := loadL_len (l := l) h
      have h2 := (insC_perm c cs).length_eq
      simp at h2 ⊢; omega
    · cases h
attribute [local irreducible] fBuild fLook fZero eqv bEqv Cl MapH LsH SlH ld1 ldN st callP eBox eAlloc lenM lenL eMapSet eDelete eAppend eBuildSl eRange eNext
section
variable {w0 w : World} {L : List HP} {K : Value → World → Prop} {v : Value} {n next hn : Int} {m : Held} {I : List (Sgn × Int)} {M : List It} {cs : List Ctx} {c : Ctx} {tv s : Value}
theorem context_spec {x : Int} (h : Sat w0 L w) (hK : ∀ w', Sat w0 L w' → K (ctxV (ctxN' x) (.slice none 0 0)) w') : callP G51 [.int .i64 x] w K := by
  refine c51 ?_
  unfold F51
  refine go_alloc h zc41 rfl fun _ _ h => ?_
  refine Below_spec (by decide) (by decide) fun r h1 h2 hr => ?_
  unfold ctxN' at hK
  rw [← hr] at hK
  obtain ⟨k, rfl⟩ : ∃ k : Nat, r = k := ⟨r.toNat, by omega⟩
  rw [show ((k : Nat) : Int).toNat = k from by omega] at hK
  have e1 : bRem (.int .i64 (k : Int)) (.int .i64 3) = some (.int .i64 ((k % 3 : Nat) : Int)) := by
    rw [bRem_int _ _ _ (by decide), Int.tmod_eq_emod_of_nonneg (by omega)]; congr 2
  have e2 : bQuo (.int .i64 (k : Int)) (.int .i64 3) = some (.int .i64 ((k / 3 : Nat) : Int)) := by
    rw [bQuo_int _ _ _ (by decide), Int.tdiv_eq_ediv_of_nonneg (by omega), wrap_id (by omega)]; congr 2
  have e3 : bRem (.int .i64 ((k / 3 : Nat) : Int)) (.int .i64 4) = some (.int .i64 ((k / 3 % 4 : Nat) : Int)) := by
    rw [bRem_int _ _ _ (by decide), Int.tmod_eq_emod_of_nonneg (by omega)]; congr 2
  have e5 : bQuo (.int .i64 (k : Int)) (.int .i64 12) = some (.int .i64 ((k / 12 : Nat) : Int)) := by
    rw [bQuo_int _ _ _ (by decide), Int.tdiv_eq_ediv_of_nonneg (by omega), wrap_id (by omega)]; congr 2
  have e6 : bRem (.int .i64 ((k / 12 : Nat) : Int)) (.int .i64 2) = some (.int .i64 ((k / 12 % 2 : Nat) : Int)) := by
    rw [bRem_int _ _ _ (by decide), Int.tmod_eq_emod_of_nonneg (by omega)]; congr 2
  have e7 : bQuo (.int .i64 (k : Int)) (.int .i64 24) = some (.int .i64 ((k / 24 : Nat) : Int)) := by
    rw [bQuo_int _ _ _ (by decide), Int.tdiv_eq_ediv_of_nonneg (by omega), wrap_id (by omega)]; congr 2
  have e8 : bRem (.int .i64 ((k / 24 : Nat) : Int)) (.int .i64 50) = some (.int .i64 ((k / 24 % 50 : Nat) : Int)) := by
    rw [bRem_int _ _ _ (by decide), Int.tmod_eq_emod_of_nonneg (by omega)]; congr 2
  have e4 : ∀ a < 4, (bAdd (.int .i64 97) (.int .i64 ((a : Nat) : Int))).bind (cInt .u8) = some (.int .u8 ((UInt8.ofNat (97 + a)).toNat : Nat)) := by
    intro a ha
    obtain rfl | rfl | rfl | rfl : a = 0 ∨ a = 1 ∨ a = 2 ∨ a = 3 := by omega
    all_goals rfl
  have e9 : pSliceS (.string ⟨#[107]⟩) none (some (.int .i64 ((k / 12 % 2 : Nat) : Int))) = some (.string (bs (if k / 12 % 2 = 0 then [] else [107]))) := by
    have : pSliceS (.string (bs [107])) none (some (.int .i64 ((k / 12 % 2 : Nat) : Int))) = _ := sub_to (l := [107]) (j := .i64) (show k / 12 % 2 ≤ 1 by omega)
    rw [show (⟨#[107]⟩ : ByteArray) = bs [107] from rfl, this]
    rcases Nat.mod_two_eq_zero_or_one (k / 12) with g | g <;> rw [g] <;> rfl
  have e4' := e4 (k / 3 % 4) (by omega)
  obtain ⟨y, ey, ec⟩ := Option.bind_eq_some_iff.1 e4'
  have e0 : ∀ X : Value → Prop, bindP (some y) X = X y := fun X => rfl
  simp only [e1, e2, e3, bindP_some, ey, ec, e5, e6, e9, e7, e8]
  refine go_lit1 (f := fun b : UInt8 => [.int .u8 b.toNat]) (x := UInt8.ofNat (97 + k / 3 % 4)) (show Cod (fun b : UInt8 => [Value.int .u8 b.toNat]) 1 from ⟨fun _ => rfl, fun _ => rfl, by omega⟩) h u29 (c := #[.int .u8 ((UInt8.ofNat (97 + k / 3 % 4)).toNat : Nat)]) (by kernel_rfl) rfl fun s w h => ?_
  have hb : cBytes s w = some (.string (bs [UInt8.ofNat (97 + k / 3 % 4)])) := cBytes_rd (ls_rd h) (by simp)
  (repeat (first
 | (simp (disch := omega) only [evA, evB, bAdd_i64, bSub_i64, ptr, Nat.zero_add, Bool.not_true, Bool.not_false, Option.isNone_some, Option.isNone_none, Option.isSome_some, Option.isSome_none, decide_true, decide_false, eq_self, true_and, and_assoc, hb])
 | (refine go_some (fb41_1_2_3_4 ..) ?_)
 | ((with_reducible apply go_ld1 h))
 | ((with_reducible apply go_ldA h); (rfl))
 | ((with_reducible apply go_ldN h))
 | ((with_reducible apply go_st h); intro _ h)
 | ((with_reducible apply go_stA h); (rfl); (rfl); (first | rfl | simp [OneV.o]); intro _ h)
 | ((with_reducible apply go_stN h); (rfl); (first | rfl | simp [OneV.o]); intro _ h)
 | ((with_reducible apply go_box h); rfl; intro _ _ h)
 | ((with_reducible apply go_rd h); (rfl))
 | ((with_reducible apply go_rdN h); (rfl))
 | ((with_reducible apply go_rlen h); (rfl))
 | ((with_reducible apply go_lenL h))
 | ((with_reducible apply go_ix h); (omega))
 | ((with_reducible apply go_elN h); (case hi => omega))
 | ((with_reducible apply go_fa h); (omega); (omega))
 | ((with_reducible apply go_f1 h); (case hi => omega); (case hx => exact inferInstance))
 | ((with_reducible apply go_rf1 h); (case hi => omega); (case hx => exact inferInstance); (case hv => rfl))
 | ((with_reducible apply go_rel h); (case hi => omega); (case hv => rfl))
))
  exact hK _ (h.get (by (repeat (first | exact .done | (refine .pick (by repeat (first | exact .here | apply Fnt.there)) ?_) | refine .skip ?_))))
theorem fsgn (a : Int) (b c : List UInt8) : fBuild Try.prog 122 [(0, .int .i64 a), (1, .string (bs b)), (2, .string (bs c))] = some (sgnV ⟨a, b, c⟩) := fb122_0_1_2 ..
theorem HInv.next_le {next next' : Int} (H : HInv n next hn m I M cs) (h : next ≤ next') : HInv n next' hn m I M cs :=
  ⟨H.pm, H.key, H.asc, H.pI, H.sg, H.pM, H.aM, H.bd, fun c hc => ⟨(H.ok c hc).1, (H.ok c hc).2.1, (H.ok c hc).2.2.1, by have := (H.ok c hc).2.2.2; omega⟩⟩
/-- contexts in a slice that is there -/
def RdC (w0 : World) (L : List HP) (sv : Value) (l : List (Ctx × SV)) : Prop := RdL w0 L cX 11 sv l ∧ ∀ x ∈ l, RdL w0 L cI 1 (svV x.2) x.1.times
theorem load_loop {p q : Nat} {sv : Value} {l : List (Ctx × SV)} (hfit : ∀ x ∈ l, x.1.fits) (hlen : l.length ≤ 65536) (hnx : 1 ≤ next ∧ next ≤ 1152921504606846976)
    (hrd : RdC w0 L sv l) (hK0 : loadL next (l.map Prod.fst) [] = none → ∀ w', Sat w0 L w' → K (.int .i64 4) w')
    (hK1 : ∀ cs, loadL next (l.map Prod.fst) [] = some cs → ∀ w', Sat w0 (HoldA (ptr q) 65536 next cs :: L) w' → F60_3 (ptr p) sv (ptr q) w' K) :
    ∀ (d i : Nat) (cs : List Ctx) (w : World), l.length - i < d → i ≤ l.length → cs.length = i → loadL next (l.map Prod.fst) [] = loadL next ((l.drop i).map Prod.fst) cs →
      Sat w0 (HoldA (ptr q) 65536 next cs :: L) w → F60_2L d (ptr p) sv (.int .i64 next) (ptr q) sv (.int .i64 (l.length : Nat)) (.int .i64 i) w K := by
  intro d
  induction d with
  | zero => intro i _ _ hd; omega
  | succ d ih =>
    intro i cs w hd hi hc he h
    rw [F60_2L]
    unfold F60_4 F60_4b F60_5 F60_5b
    by_cases g : i < l.length
    · have g' : decide ((i : Int) < (l.length : Int)) = true := by simpa using g
      have hd1 : (l.drop i).map Prod.fst = l[i].1 :: (l.drop (i + 1)).map Prod.fst := by rw [List.drop_eq_getElem_cons g]; rfl
      rw [hd1] at he
      replace h := holdA_iff.1 h
      obtain ⟨hn, m, I, M, H, h⟩ := h
      replace h := hold_iff.1 h
      obtain ⟨p', dp, ml, mi, e, h⟩ := h
      cases e
      have := map_one (h.front (A := MapH kH ctxE ml m) (by repeat (first | exact .here | apply Fnt.there)))
      have := map_one (h.front (A := MapH sgnV kH mi I) (by repeat (first | exact .here | apply Fnt.there)))
      have hrL : Rd w 11 sv l.length (l.flatMap cX) := hrd.1 w (h.get (by (repeat (first | exact .done | (refine .pick (by repeat (first | exact .here | apply Fnt.there)) ?_) | refine .skip ?_))))
      (repeat (first
 | (simp (disch := omega) only [evA, evB, bAdd_i64, bSub_i64, ptr, Nat.zero_add, Bool.not_true, Bool.not_false, Option.isNone_some, Option.isNone_none, Option.isSome_some, Option.isSome_none, decide_true, decide_false, eq_self, true_and, and_assoc, g'])
 | ((with_reducible apply go_ld1 h))
 | ((with_reducible apply go_ldA h); (rfl))
 | ((with_reducible apply go_ldN h))
 | ((with_reducible apply go_st h); intro _ h)
 | ((with_reducible apply go_stA h); (rfl); (rfl); (first | rfl | simp [OneV.o]); intro _ h)
 | ((with_reducible apply go_stN h); (rfl); (first | rfl | simp [OneV.o]); intro _ h)
 | ((with_reducible apply go_box h); rfl; intro _ _ h)
 | ((with_reducible apply go_rd h); (rfl))
 | ((with_reducible apply go_rdN h); (rfl))
 | ((with_reducible apply go_rlen h); (rfl))
 | ((with_reducible apply go_lenL h))
 | ((with_reducible apply go_ix h); (omega))
 | ((with_reducible apply go_elN h); (case hi => omega))
 | ((with_reducible apply go_fa h); (omega); (omega))
 | ((with_reducible apply go_f1 h); (case hi => omega); (case hx => exact inferInstance))
 | ((with_reducible apply go_rf1 h); (case hi => omega); (case hx => exact inferInstance); (case hv => rfl))
 | ((with_reducible apply go_rel h); (case hi => omega); (case hv => rfl))
))
      refine go_some (ix_el hrL g) ?_
      refine go_some (rd_ld CX hrL g) ?_
      (repeat (first
 | (simp (disch := omega) only [evA, evB, bAdd_i64, bSub_i64, ptr, Nat.zero_add, Bool.not_true, Bool.not_false, Option.isNone_some, Option.isNone_none, Option.isSome_some, Option.isSome_none, decide_true, decide_false, eq_self, true_and, and_assoc])
 | ((with_reducible apply go_ld1 h))
 | ((with_reducible apply go_ldA h); (rfl))
 | ((with_reducible apply go_ldN h))
 | ((with_reducible apply go_st h); intro _ h)
 | ((with_reducible apply go_stA h); (rfl); (rfl); (first | rfl | simp [OneV.o]); intro _ h)
 | ((with_reducible apply go_stN h); (rfl); (first | rfl | simp [OneV.o]); intro _ h)
 | ((with_reducible apply go_box h); rfl; intro _ _ h)
 | ((with_reducible apply go_rd h); (rfl))
 | ((with_reducible apply go_rdN h); (rfl))
 | ((with_reducible apply go_rlen h); (rfl))
 | ((with_reducible apply go_lenL h))
 | ((with_reducible apply go_ix h); (omega))
 | ((with_reducible apply go_elN h); (case hi => omega))
 | ((with_reducible apply go_fa h); (omega); (omega))
 | ((with_reducible apply go_f1 h); (case hi => omega); (case hx => exact inferInstance))
 | ((with_reducible apply go_rf1 h); (case hi => omega); (case hx => exact inferInstance); (case hv => rfl))
 | ((with_reducible apply go_rel h); (case hi => omega); (case hv => rfl))
))
      have hx := List.getElem_mem g
      have hro : RdL w0 L cI 1 (svV l[i].2) l[i].1.times := hrd.2 _ hx
      have hfc := hfit _ hx
      generalize l[i] = y at he hro hfc
      obtain ⟨c, t⟩ := y
      have hbad : loadStep next cs c = none → loadL next (l.map Prod.fst) [] = none := fun h => by rw [he]; simp [loadL, h]
      refine go_alloc h zc41 rfl fun _ _ h => ?_
      (repeat (first
 | (simp (disch := omega) only [evA, evB, bAdd_i64, bSub_i64, ptr, Nat.zero_add, Bool.not_true, Bool.not_false, Option.isNone_some, Option.isNone_none, Option.isSome_some, Option.isSome_none, decide_true, decide_false, eq_self, true_and, and_assoc])
 | ((with_reducible apply go_ld1 h))
 | ((with_reducible apply go_ldA h); (rfl))
 | ((with_reducible apply go_ldN h))
 | ((with_reducible apply go_st h); intro _ h)
 | ((with_reducible apply go_stA h); (rfl); (rfl); (first | rfl | simp [OneV.o]); intro _ h)
 | ((with_reducible apply go_stN h); (rfl); (first | rfl | simp [OneV.o]); intro _ h)
 | ((with_reducible apply go_box h); rfl; intro _ _ h)
 | ((with_reducible apply go_rd h); (rfl))
 | ((with_reducible apply go_rdN h); (rfl))
 | ((with_reducible apply go_rlen h); (rfl))
 | ((with_reducible apply go_lenL h))
 | ((with_reducible apply go_ix h); (omega))
 | ((with_reducible apply go_elN h); (case hi => omega))
 | ((with_reducible apply go_fa h); (omega); (omega))
 | ((with_reducible apply go_f1 h); (case hi => omega); (case hx => exact inferInstance))
 | ((with_reducible apply go_rf1 h); (case hi => omega); (case hx => exact inferInstance); (case hv => rfl))
 | ((with_reducible apply go_rel h); (case hi => omega); (case hv => rfl))
))
      refine go_look2 h (by repeat (first | exact .here | apply Fnt.there)) KIh um156 zc41 c.id ?_
      obtain ⟨b0, s0, e0, ho0⟩ : ∃ b0 s0, (aGet c.id m).elim (ctxV zeroC (.slice none 0 0)) ctxE = ctxV b0 s0 ∧ OneV s0 := by
        cases hg : aGet c.id m with
        | none => exact ⟨zeroC, _, rfl, inferInstance⟩
        | some x =>
          have hrb : RdL w0 (bag m :: L) cI 1 x.2 x.1.times := bag_rd (c := x.1) (s := x.2) hg .here
          exact ⟨x.1, x.2, rfl, (hrb _ (h.get (by (repeat (first | exact .done | (refine .pick (by repeat (first | exact .here | apply Fnt.there)) ?_) | refine .skip ?_))))).one⟩
      rw [e0]
      (repeat (first
 | (simp (disch := omega) only [evA, evB, bAdd_i64, bSub_i64, ptr, Nat.zero_add, Bool.not_true, Bool.not_false, Option.isNone_some, Option.isNone_none, Option.isSome_some, Option.isSome_none, decide_true, decide_false, eq_self, true_and, and_assoc])
 | ((with_reducible apply go_ld1 h))
 | ((with_reducible apply go_ldA h); (rfl))
 | ((with_reducible apply go_ldN h))
 | ((with_reducible apply go_st h); intro _ h)
 | ((with_reducible apply go_stA h); (rfl); (rfl); (first | rfl | simp [OneV.o]); intro _ h)
 | ((with_reducible apply go_stN h); (rfl); (first | rfl | simp [OneV.o]); intro _ h)
 | ((with_reducible apply go_box h); rfl; intro _ _ h)
 | ((with_reducible apply go_rd h); (rfl))
 | ((with_reducible apply go_rdN h); (rfl))
 | ((with_reducible apply go_rlen h); (rfl))
 | ((with_reducible apply go_lenL h))
 | ((with_reducible apply go_ix h); (omega))
 | ((with_reducible apply go_elN h); (case hi => omega))
 | ((with_reducible apply go_fa h); (omega); (omega))
 | ((with_reducible apply go_f1 h); (case hi => omega); (case hx => exact inferInstance))
 | ((with_reducible apply go_rf1 h); (case hi => omega); (case hx => exact inferInstance); (case hv => rfl))
 | ((with_reducible apply go_rel h); (case hi => omega); (case hv => rfl))
))
      refine go_alloc h zc41 rfl fun _ _ h => ?_
      (repeat (first
 | (simp (disch := omega) only [evA, evB, bAdd_i64, bSub_i64, ptr, Nat.zero_add, Bool.not_true, Bool.not_false, Option.isNone_some, Option.isNone_none, Option.isSome_some, Option.isSome_none, decide_true, decide_false, eq_self, true_and, and_assoc])
 | ((with_reducible apply go_ld1 h))
 | ((with_reducible apply go_ldA h); (rfl))
 | ((with_reducible apply go_ldN h))
 | ((with_reducible apply go_st h); intro _ h)
 | ((with_reducible apply go_stA h); (rfl); (rfl); (first | rfl | simp [OneV.o]); intro _ h)
 | ((with_reducible apply go_stN h); (rfl); (first | rfl | simp [OneV.o]); intro _ h)
 | ((with_reducible apply go_box h); rfl; intro _ _ h)
 | ((with_reducible apply go_rd h); (rfl))
 | ((with_reducible apply go_rdN h); (rfl))
 | ((with_reducible apply go_rlen h); (rfl))
 | ((with_reducible apply go_lenL h))
 | ((with_reducible apply go_ix h); (omega))
 | ((with_reducible apply go_elN h); (case hi => omega))
 | ((with_reducible apply go_fa h); (omega); (omega))
 | ((with_reducible apply go_f1 h); (case hi => omega); (case hx => exact inferInstance))
 | ((with_reducible apply go_rf1 h); (case hi => omega); (case hx => exact inferInstance); (case hv => rfl))
 | ((with_reducible apply go_rel h); (case hi => omega); (case hv => rfl))
))
      refine go_fok ((look2 (h.front (by repeat (first | exact .here | apply Fnt.there))) KIh um156 zc41 c.id).trans (by rw [e0])) ?_
      (repeat (first
 | (simp (disch := omega) only [evA, evB, bAdd_i64, bSub_i64, ptr, Nat.zero_add, Bool.not_true, Bool.not_false, Option.isNone_some, Option.isNone_none, Option.isSome_some, Option.isSome_none, decide_true, decide_false, eq_self, true_and, and_assoc])
 | ((with_reducible apply go_ld1 h))
 | ((with_reducible apply go_ldA h); (rfl))
 | ((with_reducible apply go_ldN h))
 | ((with_reducible apply go_st h); intro _ h)
 | ((with_reducible apply go_stA h); (rfl); (rfl); (first | rfl | simp [OneV.o]); intro _ h)
 | ((with_reducible apply go_stN h); (rfl); (first | rfl | simp [OneV.o]); intro _ h)
 | ((with_reducible apply go_box h); rfl; intro _ _ h)
 | ((with_reducible apply go_rd h); (rfl))
 | ((with_reducible apply go_rdN h); (rfl))
 | ((with_reducible apply go_rlen h); (rfl))
 | ((with_reducible apply go_lenL h))
 | ((with_reducible apply go_ix h); (omega))
 | ((with_reducible apply go_elN h); (case hi => omega))
 | ((with_reducible apply go_fa h); (omega); (omega))
 | ((with_reducible apply go_f1 h); (case hi => omega); (case hx => exact inferInstance))
 | ((with_reducible apply go_rf1 h); (case hi => omega); (case hx => exact inferInstance); (case hv => rfl))
 | ((with_reducible apply go_rel h); (case hi => omega); (case hv => rfl))
))
      refine hof_spec (a := c) h.drew fun w h => ?_
      (repeat (first
 | (simp (disch := omega) only [evA, evB, bAdd_i64, bSub_i64, ptr, Nat.zero_add, Bool.not_true, Bool.not_false, Option.isNone_some, Option.isNone_none, Option.isSome_some, Option.isSome_none, decide_true, decide_false, eq_self, true_and, and_assoc])
 | ((with_reducible apply go_ld1 h))
 | ((with_reducible apply go_ldA h); (rfl))
 | ((with_reducible apply go_ldN h))
 | ((with_reducible apply go_st h); intro _ h)
 | ((with_reducible apply go_stA h); (rfl); (rfl); (first | rfl | simp [OneV.o]); intro _ h)
 | ((with_reducible apply go_stN h); (rfl); (first | rfl | simp [OneV.o]); intro _ h)
 | ((with_reducible apply go_box h); rfl; intro _ _ h)
 | ((with_reducible apply go_rd h); (rfl))
 | ((with_reducible apply go_rdN h); (rfl))
 | ((with_reducible apply go_rlen h); (rfl))
 | ((with_reducible apply go_lenL h))
 | ((with_reducible apply go_ix h); (omega))
 | ((with_reducible apply go_elN h); (case hi => omega))
 | ((with_reducible apply go_fa h); (omega); (omega))
 | ((with_reducible apply go_f1 h); (case hi => omega); (case hx => exact inferInstance))
 | ((with_reducible apply go_rf1 h); (case hi => omega); (case hx => exact inferInstance); (case hv => rfl))
 | ((with_reducible apply go_rel h); (case hi => omega); (case hv => rfl))
))
      refine go_look2 h (by repeat (first | exact .here | apply Fnt.there)) KSgn um157 z3 (sgnOf c) ?_
      (repeat (first
 | (simp (disch := omega) only [evA, evB, bAdd_i64, bSub_i64, ptr, Nat.zero_add, Bool.not_true, Bool.not_false, Option.isNone_some, Option.isNone_none, Option.isSome_some, Option.isSome_none, decide_true, decide_false, eq_self, true_and, and_assoc])
 | ((with_reducible apply go_ld1 h))
 | ((with_reducible apply go_ldA h); (rfl))
 | ((with_reducible apply go_ldN h))
 | ((with_reducible apply go_st h); intro _ h)
 | ((with_reducible apply go_stA h); (rfl); (rfl); (first | rfl | simp [OneV.o]); intro _ h)
 | ((with_reducible apply go_stN h); (rfl); (first | rfl | simp [OneV.o]); intro _ h)
 | ((with_reducible apply go_box h); rfl; intro _ _ h)
 | ((with_reducible apply go_rd h); (rfl))
 | ((with_reducible apply go_rdN h); (rfl))
 | ((with_reducible apply go_rlen h); (rfl))
 | ((with_reducible apply go_lenL h))
 | ((with_reducible apply go_ix h); (omega))
 | ((with_reducible apply go_elN h); (case hi => omega))
 | ((with_reducible apply go_fa h); (omega); (omega))
 | ((with_reducible apply go_f1 h); (case hi => omega); (case hx => exact inferInstance))
 | ((with_reducible apply go_rf1 h); (case hi => omega); (case hx => exact inferInstance); (case hv => rfl))
 | ((with_reducible apply go_rel h); (case hi => omega); (case hv => rfl))
))
      refine hcheck_spec (c := c) hfc (hro.get (by (repeat (first | exact .done | (refine .pick (by repeat (first | exact .here | apply Fnt.there)) ?_) | refine .skip ?_)))) h fun w h => ?_
      unfold chkC
      cases g1 : okC c
      · have d4 : decide ((4 : Int) = 0) = false := by decide
        (repeat (first
 | (simp (disch := omega) only [evA, evB, bAdd_i64, bSub_i64, ptr, Nat.zero_add, Bool.not_true, Bool.not_false, Option.isNone_some, Option.isNone_none, Option.isSome_some, Option.isSome_none, decide_true, decide_false, eq_self, true_and, and_assoc, Bool.false_eq_true, if_false, d4])
 | ((with_reducible apply go_ld1 h))
 | ((with_reducible apply go_ldA h); (rfl))
 | ((with_reducible apply go_ldN h))
 | ((with_reducible apply go_st h); intro _ h)
 | ((with_reducible apply go_stA h); (rfl); (rfl); (first | rfl | simp [OneV.o]); intro _ h)
 | ((with_reducible apply go_stN h); (rfl); (first | rfl | simp [OneV.o]); intro _ h)
 | ((with_reducible apply go_box h); rfl; intro _ _ h)
 | ((with_reducible apply go_rd h); (rfl))
 | ((with_reducible apply go_rdN h); (rfl))
 | ((with_reducible apply go_rlen h); (rfl))
 | ((with_reducible apply go_lenL h))
 | ((with_reducible apply go_ix h); (omega))
 | ((with_reducible apply go_elN h); (case hi => omega))
 | ((with_reducible apply go_fa h); (omega); (omega))
 | ((with_reducible apply go_f1 h); (case hi => omega); (case hx => exact inferInstance))
 | ((with_reducible apply go_rf1 h); (case hi => omega); (case hx => exact inferInstance); (case hv => rfl))
 | ((with_reducible apply go_rel h); (case hi => omega); (case hv => rfl))
))
        exact hK0 (hbad (by unfold loadStep; rw [if_neg]; simp [g1])) _ (h.get (by (repeat (first | exact .done | (refine .pick (by repeat (first | exact .here | apply Fnt.there)) ?_) | refine .skip ?_))))
      by_cases g2 : c.id < 1
      · have g2' : decide (c.id < 1) = true := by simpa using g2
        (repeat (first
 | (simp (disch := omega) only [evA, evB, bAdd_i64, bSub_i64, ptr, Nat.zero_add, Bool.not_true, Bool.not_false, Option.isNone_some, Option.isNone_none, Option.isSome_some, Option.isSome_none, decide_true, decide_false, eq_self, true_and, and_assoc, if_true, g2'])
 | ((with_reducible apply go_ld1 h))
 | ((with_reducible apply go_ldA h); (rfl))
 | ((with_reducible apply go_ldN h))
 | ((with_reducible apply go_st h); intro _ h)
 | ((with_reducible apply go_stA h); (rfl); (rfl); (first | rfl | simp [OneV.o]); intro _ h)
 | ((with_reducible apply go_stN h); (rfl); (first | rfl | simp [OneV.o]); intro _ h)
 | ((with_reducible apply go_box h); rfl; intro _ _ h)
 | ((with_reducible apply go_rd h); (rfl))
 | ((with_reducible apply go_rdN h); (rfl))
 | ((with_reducible apply go_rlen h); (rfl))
 | ((with_reducible apply go_lenL h))
 | ((with_reducible apply go_ix h); (omega))
 | ((with_reducible apply go_elN h); (case hi => omega))
 | ((with_reducible apply go_fa h); (omega); (omega))
 | ((with_reducible apply go_f1 h); (case hi => omega); (case hx => exact inferInstance))
 | ((with_reducible apply go_rf1 h); (case hi => omega); (case hx => exact inferInstance); (case hv => rfl))
 | ((with_reducible apply go_rel h); (case hi => omega); (case hv => rfl))
))
        exact hK0 (hbad (by unfold loadStep; rw [if_neg]; omega)) _ (h.get (by (repeat (first | exact .done | (refine .pick (by repeat (first | exact .here | apply Fnt.there)) ?_) | refine .skip ?_))))
      have g2' : decide (c.id < 1) = false := by simpa using g2
      by_cases g3 : c.id ≥ next
      · have g3' : decide (c.id ≥ next) = true := by simpa using g3
        (repeat (first
 | (simp (disch := omega) only [evA, evB, bAdd_i64, bSub_i64, ptr, Nat.zero_add, Bool.not_true, Bool.not_false, Option.isNone_some, Option.isNone_none, Option.isSome_some, Option.isSome_none, decide_true, decide_false, eq_self, true_and, and_assoc, if_true, g2', g3'])
 | ((with_reducible apply go_ld1 h))
 | ((with_reducible apply go_ldA h); (rfl))
 | ((with_reducible apply go_ldN h))
 | ((with_reducible apply go_st h); intro _ h)
 | ((with_reducible apply go_stA h); (rfl); (rfl); (first | rfl | simp [OneV.o]); intro _ h)
 | ((with_reducible apply go_stN h); (rfl); (first | rfl | simp [OneV.o]); intro _ h)
 | ((with_reducible apply go_box h); rfl; intro _ _ h)
 | ((with_reducible apply go_rd h); (rfl))
 | ((with_reducible apply go_rdN h); (rfl))
 | ((with_reducible apply go_rlen h); (rfl))
 | ((with_reducible apply go_lenL h))
 | ((with_reducible apply go_ix h); (omega))
 | ((with_reducible apply go_elN h); (case hi => omega))
 | ((with_reducible apply go_fa h); (omega); (omega))
 | ((with_reducible apply go_f1 h); (case hi => omega); (case hx => exact inferInstance))
 | ((with_reducible apply go_rf1 h); (case hi => omega); (case hx => exact inferInstance); (case hv => rfl))
 | ((with_reducible apply go_rel h); (case hi => omega); (case hv => rfl))
))
        exact hK0 (hbad (by unfold loadStep; rw [if_neg]; omega)) _ (h.get (by (repeat (first | exact .done | (refine .pick (by repeat (first | exact .here | apply Fnt.there)) ?_) | refine .skip ?_))))
      have g3' : decide (c.id ≥ next) = false := by simpa using g3
      cases g4 : (aGet c.id m).isSome
      case true =>
        (repeat (first
 | (simp (disch := omega) only [evA, evB, bAdd_i64, bSub_i64, ptr, Nat.zero_add, Bool.not_true, Bool.not_false, Option.isNone_some, Option.isNone_none, Option.isSome_some, Option.isSome_none, decide_true, decide_false, eq_self, true_and, and_assoc, if_true, g2', g3'])
 | ((with_reducible apply go_ld1 h))
 | ((with_reducible apply go_ldA h); (rfl))
 | ((with_reducible apply go_ldN h))
 | ((with_reducible apply go_st h); intro _ h)
 | ((with_reducible apply go_stA h); (rfl); (rfl); (first | rfl | simp [OneV.o]); intro _ h)
 | ((with_reducible apply go_stN h); (rfl); (first | rfl | simp [OneV.o]); intro _ h)
 | ((with_reducible apply go_box h); rfl; intro _ _ h)
 | ((with_reducible apply go_rd h); (rfl))
 | ((with_reducible apply go_rdN h); (rfl))
 | ((with_reducible apply go_rlen h); (rfl))
 | ((with_reducible apply go_lenL h))
 | ((with_reducible apply go_ix h); (omega))
 | ((with_reducible apply go_elN h); (case hi => omega))
 | ((with_reducible apply go_fa h); (omega); (omega))
 | ((with_reducible apply go_f1 h); (case hi => omega); (case hx => exact inferInstance))
 | ((with_reducible apply go_rf1 h); (case hi => omega); (case hx => exact inferInstance); (case hv => rfl))
 | ((with_reducible apply go_rel h); (case hi => omega); (case hv => rfl))
))
        refine hK0 (hbad ?_) _ (h.get (by (repeat (first | exact .done | (refine .pick (by repeat (first | exact .here | apply Fnt.there)) ?_) | refine .skip ?_))))
        unfold loadStep
        rw [if_neg]
        intro hh
        rw [H.1.get_none hh.2.2.2.1] at g4; cases g4
      cases g5 : (aGet (sgnOf c) I).isSome
      case true =>
        (repeat (first
 | (simp (disch := omega) only [evA, evB, bAdd_i64, bSub_i64, ptr, Nat.zero_add, Bool.not_true, Bool.not_false, Option.isNone_some, Option.isNone_none, Option.isSome_some, Option.isSome_none, decide_true, decide_false, eq_self, true_and, and_assoc, if_true, g2', g3'])
 | ((with_reducible apply go_ld1 h))
 | ((with_reducible apply go_ldA h); (rfl))
 | ((with_reducible apply go_ldN h))
 | ((with_reducible apply go_st h); intro _ h)
 | ((with_reducible apply go_stA h); (rfl); (rfl); (first | rfl | simp [OneV.o]); intro _ h)
 | ((with_reducible apply go_stN h); (rfl); (first | rfl | simp [OneV.o]); intro _ h)
 | ((with_reducible apply go_box h); rfl; intro _ _ h)
 | ((with_reducible apply go_rd h); (rfl))
 | ((with_reducible apply go_rdN h); (rfl))
 | ((with_reducible apply go_rlen h); (rfl))
 | ((with_reducible apply go_lenL h))
 | ((with_reducible apply go_ix h); (omega))
 | ((with_reducible apply go_elN h); (case hi => omega))
 | ((with_reducible apply go_fa h); (omega); (omega))
 | ((with_reducible apply go_f1 h); (case hi => omega); (case hx => exact inferInstance))
 | ((with_reducible apply go_rf1 h); (case hi => omega); (case hx => exact inferInstance); (case hv => rfl))
 | ((with_reducible apply go_rel h); (case hi => omega); (case hv => rfl))
))
        refine hK0 (hbad ?_) _ (h.get (by (repeat (first | exact .done | (refine .pick (by repeat (first | exact .here | apply Fnt.there)) ?_) | refine .skip ?_))))
        unfold loadStep
        rw [if_neg]
        intro hh
        rw [H.1.snone hh.2.2.2.2] at g5; cases g5
      have n1 : ∀ d ∈ cs, d.id ≠ c.id := fun d hd e => by
        obtain ⟨s, hs⟩ := H.1.get hd
        rw [e] at hs; rw [hs] at g4; cases g4
      have n2 : ∀ d ∈ cs, sgnOf d ≠ sgnOf c := fun d hd e => by
        have hs := H.1.sget hd
        rw [e] at hs; rw [hs] at g5; cases g5
      have hstep : loadStep next cs c = some (insC c cs) := by
        unfold loadStep
        rw [if_pos ⟨g1, by omega, by omega, n1, n2⟩]
      have g6 : decide ((i : Int) < 65536) = true := by simp; omega
      (repeat (first
 | (simp (disch := omega) only [evA, evB, bAdd_i64, bSub_i64, ptr, Nat.zero_add, Bool.not_true, Bool.not_false, Option.isNone_some, Option.isNone_none, Option.isSome_some, Option.isSome_none, decide_true, decide_false, eq_self, true_and, and_assoc, if_true, g2', g3', g6])
 | ((with_reducible apply go_ld1 h))
 | ((with_reducible apply go_ldA h); (rfl))
 | ((with_reducible apply go_ldN h))
 | ((with_reducible apply go_st h); intro _ h)
 | ((with_reducible apply go_stA h); (rfl); (rfl); (first | rfl | simp [OneV.o]); intro _ h)
 | ((with_reducible apply go_stN h); (rfl); (first | rfl | simp [OneV.o]); intro _ h)
 | ((with_reducible apply go_box h); rfl; intro _ _ h)
 | ((with_reducible apply go_rd h); (rfl))
 | ((with_reducible apply go_rdN h); (rfl))
 | ((with_reducible apply go_rlen h); (rfl))
 | ((with_reducible apply go_lenL h))
 | ((with_reducible apply go_ix h); (omega))
 | ((with_reducible apply go_elN h); (case hi => omega))
 | ((with_reducible apply go_fa h); (omega); (omega))
 | ((with_reducible apply go_f1 h); (case hi => omega); (case hx => exact inferInstance))
 | ((with_reducible apply go_rf1 h); (case hi => omega); (case hx => exact inferInstance); (case hv => rfl))
 | ((with_reducible apply go_rel h); (case hi => omega); (case hv => rfl))
))
      refine hput_spec (v := ptr q) (n := 65536) (next := next) (hn := hn) (m := m) (I := I) (M := M) (c := c) (L := _ :: _ :: L) ?_ ?_ (hold_iff.2 ⟨q, dp, ml, mi, rfl, h.get (by (repeat (first | exact .done | (refine .pick (by repeat (first | exact .here | apply Fnt.there)) ?_) | refine .skip ?_)))⟩) fun s w h => ?_
      · have : c.times.length < 1000000 := hfc.2.2.2
        show c.times.length ≤ _; omega
      · exact hro.cons.cons
      (repeat (first
 | (simp (disch := omega) only [evA, evB, bAdd_i64, bSub_i64, ptr, Nat.zero_add, Bool.not_true, Bool.not_false, Option.isNone_some, Option.isNone_none, Option.isSome_some, Option.isSome_none, decide_true, decide_false, eq_self, true_and, and_assoc])
 | ((with_reducible apply go_ld1 h))
 | ((with_reducible apply go_ldA h); (rfl))
 | ((with_reducible apply go_ldN h))
 | ((with_reducible apply go_st h); intro _ h)
 | ((with_reducible apply go_stA h); (rfl); (rfl); (first | rfl | simp [OneV.o]); intro _ h)
 | ((with_reducible apply go_stN h); (rfl); (first | rfl | simp [OneV.o]); intro _ h)
 | ((with_reducible apply go_box h); rfl; intro _ _ h)
 | ((with_reducible apply go_rd h); (rfl))
 | ((with_reducible apply go_rdN h); (rfl))
 | ((with_reducible apply go_rlen h); (rfl))
 | ((with_reducible apply go_lenL h))
 | ((with_reducible apply go_ix h); (omega))
 | ((with_reducible apply go_elN h); (case hi => omega))
 | ((with_reducible apply go_fa h); (omega); (omega))
 | ((with_reducible apply go_f1 h); (case hi => omega); (case hx => exact inferInstance))
 | ((with_reducible apply go_rf1 h); (case hi => omega); (case hx => exact inferInstance); (case hv => rfl))
 | ((with_reducible apply go_rel h); (case hi => omega); (case hv => rfl))
))
      refine ih (i + 1) (insC c cs) w (by omega) (by omega) ?_ ?_ (holdA_iff.2 ⟨hn, _, _, _, ⟨H.1.ins g1 hfc n2 n1 (by omega) (by omega) (by omega), H.2⟩, h.get (by (repeat (first | exact .done | (refine .pick (by repeat (first | exact .here | apply Fnt.there)) ?_) | refine .skip ?_)))⟩)
      · have := (insC_perm c cs).length_eq; simp at this; omega
      · rw [he]; simp [loadL, hstep]
    · have g' : decide ((i : Int) < (l.length : Int)) = false := by simpa using g
      (repeat (first
 | (simp (disch := omega) only [evA, evB, bAdd_i64, bSub_i64, ptr, Nat.zero_add, Bool.not_true, Bool.not_false, Option.isNone_some, Option.isNone_none, Option.isSome_some, Option.isSome_none, decide_true, decide_false, eq_self, true_and, and_assoc, g'])
 | ((with_reducible apply go_ld1 h))
 | ((with_reducible apply go_ldA h); (rfl))
 | ((with_reducible apply go_ldN h))
 | ((with_reducible apply go_st h); intro _ h)
 | ((with_reducible apply go_stA h); (rfl); (rfl); (first | rfl | simp [OneV.o]); intro _ h)
 | ((with_reducible apply go_stN h); (rfl); (first | rfl | simp [OneV.o]); intro _ h)
 | ((with_reducible apply go_box h); rfl; intro _ _ h)
 | ((with_reducible apply go_rd h); (rfl))
 | ((with_reducible apply go_rdN h); (rfl))
 | ((with_reducible apply go_rlen h); (rfl))
 | ((with_reducible apply go_lenL h))
 | ((with_reducible apply go_ix h); (omega))
 | ((with_reducible apply go_elN h); (case hi => omega))
 | ((with_reducible apply go_fa h); (omega); (omega))
 | ((with_reducible apply go_f1 h); (case hi => omega); (case hx => exact inferInstance))
 | ((with_reducible apply go_rf1 h); (case hi => omega); (case hx => exact inferInstance); (case hv => rfl))
 | ((with_reducible apply go_rel h); (case hi => omega); (case hv => rfl))
))
      refine hK1 cs ?_ w h
      rw [he, List.drop_eq_nil_of_le (by omega)]; rfl
theorem aload_spec {p : Nat} {sv : Value} {l : List (Ctx × SV)} {next0 : Int} (hfit : ∀ x ∈ l, x.1.fits) (hlen : l.length ≤ 65536) (hrd : ∀ {w}, Sat w0 (HoldA v n next0 cs :: L) w → lenL sv = some (.int .i64 l.length)) (hrc : RdC w0 (HoldA v n next0 cs :: L) sv l)
    (h : Sat w0 (HoldA v n next0 cs :: L) w)
    (hKbad : (next < 1 ∨ 1152921504606846976 < next ∨ loadL next (l.map Prod.fst) [] = none) → ∀ w', Sat w0 (HoldA v n next0 cs :: L) w' → K (.int .i64 4) w')
    (hKfull : ∀ ds, loadL next (l.map Prod.fst) [] = some ds → 1 ≤ next ∧ next ≤ 1152921504606846976 → n < l.length → ∀ w', Sat w0 (HoldA v n next0 cs :: L) w' → K (.int .i64 200) w')
    (hK : ∀ ds, loadL next (l.map Prod.fst) [] = some ds → 1 ≤ next ∧ next ≤ 1152921504606846976 → (l.length : Int) ≤ n → ∀ w', Sat w0 (HoldA v n next ds :: L) w' → K (.int .i64 0) w') : callP G60 [v, sv, .int .i64 next] w K := by
  refine c60 ?_
  unfold F60 F60_1 F60_1b F60_2
  have hl := hrd h
  by_cases g1 : next < 1
  · have g1' : decide (next < 1) = true := by simpa using g1
    (repeat (first
 | (simp (disch := omega) only [evA, evB, bAdd_i64, bSub_i64, ptr, Nat.zero_add, Bool.not_true, Bool.not_false, Option.isNone_some, Option.isNone_none, Option.isSome_some, Option.isSome_none, decide_true, decide_false, eq_self, true_and, and_assoc, g1'])
 | ((with_reducible apply go_ld1 h))
 | ((with_reducible apply go_ldA h); (rfl))
 | ((with_reducible apply go_ldN h))
 | ((with_reducible apply go_st h); intro _ h)
 | ((with_reducible apply go_stA h); (rfl); (rfl); (first | rfl | simp [OneV.o]); intro _ h)
 | ((with_reducible apply go_stN h); (rfl); (first | rfl | simp [OneV.o]); intro _ h)
 | ((with_reducible apply go_box h); rfl; intro _ _ h)
 | ((with_reducible apply go_rd h); (rfl))
 | ((with_reducible apply go_rdN h); (rfl))
 | ((with_reducible apply go_rlen h); (rfl))
 | ((with_reducible apply go_lenL h))
 | ((with_reducible apply go_ix h); (omega))
 | ((with_reducible apply go_elN h); (case hi => omega))
 | ((with_reducible apply go_fa h); (omega); (omega))
 | ((with_reducible apply go_f1 h); (case hi => omega); (case hx => exact inferInstance))
 | ((with_reducible apply go_rf1 h); (case hi => omega); (case hx => exact inferInstance); (case hv => rfl))
 | ((with_reducible apply go_rel h); (case hi => omega); (case hv => rfl))
))
    exact hKbad (.inl g1) _ h
  have g1' : decide (next < 1) = false := by simpa using g1
  by_cases g2 : next > 1152921504606846976
  · have g2' : decide (next > 1152921504606846976) = true := by simpa using g2
    (repeat (first
 | (simp (disch := omega) only [evA, evB, bAdd_i64, bSub_i64, ptr, Nat.zero_add, Bool.not_true, Bool.not_false, Option.isNone_some, Option.isNone_none, Option.isSome_some, Option.isSome_none, decide_true, decide_false, eq_self, true_and, and_assoc, g1', g2'])
 | ((with_reducible apply go_ld1 h))
 | ((with_reducible apply go_ldA h); (rfl))
 | ((with_reducible apply go_ldN h))
 | ((with_reducible apply go_st h); intro _ h)
 | ((with_reducible apply go_stA h); (rfl); (rfl); (first | rfl | simp [OneV.o]); intro _ h)
 | ((with_reducible apply go_stN h); (rfl); (first | rfl | simp [OneV.o]); intro _ h)
 | ((with_reducible apply go_box h); rfl; intro _ _ h)
 | ((with_reducible apply go_rd h); (rfl))
 | ((with_reducible apply go_rdN h); (rfl))
 | ((with_reducible apply go_rlen h); (rfl))
 | ((with_reducible apply go_lenL h))
 | ((with_reducible apply go_ix h); (omega))
 | ((with_reducible apply go_elN h); (case hi => omega))
 | ((with_reducible apply go_fa h); (omega); (omega))
 | ((with_reducible apply go_f1 h); (case hi => omega); (case hx => exact inferInstance))
 | ((with_reducible apply go_rf1 h); (case hi => omega); (case hx => exact inferInstance); (case hv => rfl))
 | ((with_reducible apply go_rel h); (case hi => omega); (case hv => rfl))
))
    exact hKbad (.inr (.inl g2)) _ h
  have g2' : decide (next > 1152921504606846976) = false := by simpa using g2
  (repeat (first
 | (simp (disch := omega) only [evA, evB, bAdd_i64, bSub_i64, ptr, Nat.zero_add, Bool.not_true, Bool.not_false, Option.isNone_some, Option.isNone_none, Option.isSome_some, Option.isSome_none, decide_true, decide_false, eq_self, true_and, and_assoc, g1', g2'])
 | ((with_reducible apply go_ld1 h))
 | ((with_reducible apply go_ldA h); (rfl))
 | ((with_reducible apply go_ldN h))
 | ((with_reducible apply go_st h); intro _ h)
 | ((with_reducible apply go_stA h); (rfl); (rfl); (first | rfl | simp [OneV.o]); intro _ h)
 | ((with_reducible apply go_stN h); (rfl); (first | rfl | simp [OneV.o]); intro _ h)
 | ((with_reducible apply go_box h); rfl; intro _ _ h)
 | ((with_reducible apply go_rd h); (rfl))
 | ((with_reducible apply go_rdN h); (rfl))
 | ((with_reducible apply go_rlen h); (rfl))
 | ((with_reducible apply go_lenL h))
 | ((with_reducible apply go_ix h); (omega))
 | ((with_reducible apply go_elN h); (case hi => omega))
 | ((with_reducible apply go_fa h); (omega); (omega))
 | ((with_reducible apply go_f1 h); (case hi => omega); (case hx => exact inferInstance))
 | ((with_reducible apply go_rf1 h); (case hi => omega); (case hx => exact inferInstance); (case hv => rfl))
 | ((with_reducible apply go_rel h); (case hi => omega); (case hv => rfl))
))
  refine hempty_spec (n := 65536) (next := next) (by omega) (by omega) h fun q w h => ?_
  (repeat (first
 | (simp (disch := omega) only [evA, evB, bAdd_i64, bSub_i64, ptr, Nat.zero_add, Bool.not_true, Bool.not_false, Option.isNone_some, Option.isNone_none, Option.isSome_some, Option.isSome_none, decide_true, decide_false, eq_self, true_and, and_assoc, hl])
 | ((with_reducible apply go_ld1 h))
 | ((with_reducible apply go_ldA h); (rfl))
 | ((with_reducible apply go_ldN h))
 | ((with_reducible apply go_st h); intro _ h)
 | ((with_reducible apply go_stA h); (rfl); (rfl); (first | rfl | simp [OneV.o]); intro _ h)
 | ((with_reducible apply go_stN h); (rfl); (first | rfl | simp [OneV.o]); intro _ h)
 | ((with_reducible apply go_box h); rfl; intro _ _ h)
 | ((with_reducible apply go_rd h); (rfl))
 | ((with_reducible apply go_rdN h); (rfl))
 | ((with_reducible apply go_rlen h); (rfl))
 | ((with_reducible apply go_lenL h))
 | ((with_reducible apply go_ix h); (omega))
 | ((with_reducible apply go_elN h); (case hi => omega))
 | ((with_reducible apply go_fa h); (omega); (omega))
 | ((with_reducible apply go_f1 h); (case hi => omega); (case hx => exact inferInstance))
 | ((with_reducible apply go_rf1 h); (case hi => omega); (case hx => exact inferInstance); (case hv => rfl))
 | ((with_reducible apply go_rel h); (case hi => omega); (case hv => rfl))
))
  obtain ⟨p, rfl⟩ : ∃ p, v = ptr p := by
    have h1 := h.f1
    replace h1 := holdA_iff.1 h1
    obtain ⟨hn, m, I, M, H, h1⟩ := h1
    replace h1 := hold_iff.1 h1
    obtain ⟨p, dp, ml, mi, rfl, h1⟩ := h1
    exact ⟨p, rfl⟩
  refine load_loop (p := p) (q := q) (L := HoldA (ptr p) n next0 cs :: L) hfit hlen (by omega) hrc (fun hb w h => hKbad (.inr (.inr hb)) w h) (fun ds hds w h => ?_) fuel 0 [] w (by unfold fuel; omega) (by omega) rfl (by simp) (holdA_iff.2 ⟨65536, [], [], [], ⟨.start (by omega) (by omega) next, by omega, by omega⟩, h⟩)
  unfold F60_3 F60_3b
  have h2 := h.f1
  replace h2 := holdA_iff.1 h2
  obtain ⟨hn, m, I, M, H, h2⟩ := h2
  replace h2 := hold_iff.1 h2
  obtain ⟨p', dp, ml, mi, e, h2⟩ := h2
  cases e
  have h3 : Sat w0 (HoldA (ptr q) 65536 next ds :: Cl p #[dp, .int .i64 n, .int .i64 next0, ml, mi] 159 :: HeapH dp hn M :: MapH kH ctxE ml m :: MapH sgnV kH mi I :: bag m :: L) w := h2.get (by (repeat (first | exact .done | (refine .pick (by repeat (first | exact .here | apply Fnt.there)) ?_) | refine .skip ?_)))
  replace h3 := holdA_iff.1 h3
  obtain ⟨hn', m', I', M', H', h3⟩ := h3
  replace h3 := hold_iff.1 h3
  obtain ⟨q', dq, ql, qi, e, h3⟩ := h3
  cases e
  have := map_one (h3.front (A := MapH kH ctxE ql m') (by repeat (first | exact .here | apply Fnt.there)))
  have := map_one (h3.front (A := MapH sgnV kH qi I') (by repeat (first | exact .here | apply Fnt.there)))
  obtain ⟨d, rfl⟩ := heap_ptr (h3.front (A := HeapH dq hn' M') (by repeat (first | exact .here | apply Fnt.there)))
  clear h h2
  have h := h3
  clear h3
  by_cases g3 : (l.length : Int) > n
  · have g3' : decide ((l.length : Int) > n) = true := by simpa using g3
    (repeat (first
 | (simp (disch := omega) only [evA, evB, bAdd_i64, bSub_i64, ptr, Nat.zero_add, Bool.not_true, Bool.not_false, Option.isNone_some, Option.isNone_none, Option.isSome_some, Option.isSome_none, decide_true, decide_false, eq_self, true_and, and_assoc, hl, g3'])
 | ((with_reducible apply go_ld1 h))
 | ((with_reducible apply go_ldA h); (rfl))
 | ((with_reducible apply go_ldN h))
 | ((with_reducible apply go_st h); intro _ h)
 | ((with_reducible apply go_stA h); (rfl); (rfl); (first | rfl | simp [OneV.o]); intro _ h)
 | ((with_reducible apply go_stN h); (rfl); (first | rfl | simp [OneV.o]); intro _ h)
 | ((with_reducible apply go_box h); rfl; intro _ _ h)
 | ((with_reducible apply go_rd h); (rfl))
 | ((with_reducible apply go_rdN h); (rfl))
 | ((with_reducible apply go_rlen h); (rfl))
 | ((with_reducible apply go_lenL h))
 | ((with_reducible apply go_ix h); (omega))
 | ((with_reducible apply go_elN h); (case hi => omega))
 | ((with_reducible apply go_fa h); (omega); (omega))
 | ((with_reducible apply go_f1 h); (case hi => omega); (case hx => exact inferInstance))
 | ((with_reducible apply go_rf1 h); (case hi => omega); (case hx => exact inferInstance); (case hv => rfl))
 | ((with_reducible apply go_rel h); (case hi => omega); (case hv => rfl))
))
    exact hKfull ds hds (by omega) (by omega) _ (holdA_iff.2 ⟨hn, m, I, M, H, hold_iff.2 ⟨p, dp, ml, mi, rfl, h.get (by (repeat (first | exact .done | (refine .pick (by repeat (first | exact .here | apply Fnt.there)) ?_) | refine .skip ?_)))⟩⟩)
  · have g3' : decide ((l.length : Int) > n) = false := by simpa using g3
    (repeat (first
 | (simp (disch := omega) only [evA, evB, bAdd_i64, bSub_i64, ptr, Nat.zero_add, Bool.not_true, Bool.not_false, Option.isNone_some, Option.isNone_none, Option.isSome_some, Option.isSome_none, decide_true, decide_false, eq_self, true_and, and_assoc, hl, g3'])
 | ((with_reducible apply go_ld1 h))
 | ((with_reducible apply go_ldA h); (rfl))
 | ((with_reducible apply go_ldN h))
 | ((with_reducible apply go_st h); intro _ h)
 | ((with_reducible apply go_stA h); (rfl); (rfl); (first | rfl | simp [OneV.o]); intro _ h)
 | ((with_reducible apply go_stN h); (rfl); (first | rfl | simp [OneV.o]); intro _ h)
 | ((with_reducible apply go_box h); rfl; intro _ _ h)
 | ((with_reducible apply go_rd h); (rfl))
 | ((with_reducible apply go_rdN h); (rfl))
 | ((with_reducible apply go_rlen h); (rfl))
 | ((with_reducible apply go_lenL h))
 | ((with_reducible apply go_ix h); (omega))
 | ((with_reducible apply go_elN h); (case hi => omega))
 | ((with_reducible apply go_fa h); (omega); (omega))
 | ((with_reducible apply go_f1 h); (case hi => omega); (case hx => exact inferInstance))
 | ((with_reducible apply go_rf1 h); (case hi => omega); (case hx => exact inferInstance); (case hv => rfl))
 | ((with_reducible apply go_rel h); (case hi => omega); (case hv => rfl))
))
    have hds2 : ds.length = l.length := by have := loadL_len hds; simpa using this
    have hH := H.1.bd
    have hH' := H'.1.bd
    refine hK ds hds (by omega) (by omega) _ (holdA_iff.2 ⟨hn', m', I', M', ⟨⟨H'.1.pm, H'.1.key, H'.1.asc, H'.1.pI, H'.1.sg, H'.1.pM, H'.1.aM, by omega, H'.1.ok⟩, H'.2⟩, hold_iff.2 ⟨p, ptr d, ql, qi, rfl, h.get (by (repeat (first | exact .done | (refine .pick (by repeat (first | exact .here | apply Fnt.there)) ?_) | refine .skip ?_)))⟩⟩)
end
end Go.Proofs.Gong

/- Ho9 -/
namespace Go.Proofs.Gong
open Go Go.Sx Go.Proofs
set_option maxRecDepth 100000
attribute [local irreducible] fBuild fLook fZero eqv bEqv Cl MapH LsH SlH ld1 ldN st callP eBox eAlloc lenM lenL eMapSet eDelete eAppend eBuildSl eRange eNext
section
variable {w0 w : World} {L : List HP} {K : Value → World → Prop} {v hv s0 s1 : Value} {n next hn : Int} {cs : List Ctx} {c : Ctx} {tv s : Value}
theorem addA_full {cs : List Ctx} {c : Ctx} {n : Int} (h1 : okC c = true) (h2 : (cs.length : Int) < n) : addA n cs c = if (cs.find? fun d => decide (sgnOf d = sgnOf c)).isSome = true then 6 else 0 := by
  unfold addA
  rw [if_neg (by simp [h1])]
  split
  · rfl
  · rw [if_neg (by omega)]
theorem ord_loop1 {l : List Int} (hrd : Rd w0 1 s0 l.length (l.flatMap cI)) (hE : ∀ cs w', cs.length ≤ 100 → Sat w0 (HoldA hv 100 ((cs.length : Nat) + 1) cs :: L) w' → F11_3 s1 hv (.int .i64 (cs.length : Nat)) w' K) :
    ∀ (d i : Nat) (cs : List Ctx) (w : World), l.length - i < d → i ≤ 100 → i ≤ l.length → cs.length ≤ i → Sat w0 (HoldA hv 100 ((cs.length : Nat) + 1) cs :: L) w → F11_2L d s0 s1 hv (.int .i64 (cs.length : Nat)) (.int .i64 i) w K := by
  intro d
  induction d with
  | zero => intro i cs w hd; omega
  | succ d ih =>
    intro i cs w hd hi hl hc h
    rw [F11_2L]
    unfold F11_8 F11_8b F11_9 F11_9b
    have hlen := hrd.len
    have hz := zc41
    have bn0 : ∀ x y : Operand, bNe Try.prog 4 x y (.bool false) (.bool false) = some (.bool false) := fun x y => bNe_bool ub4 false false
    have bn1 : ∀ x y : Operand, bNe Try.prog 4 x y (.bool true) (.bool true) = some (.bool false) := fun x y => bNe_bool ub4 true true
    have fin : F11_3 s1 hv (.int .i64 (cs.length : Nat)) w K := hE cs w (by omega) h
    by_cases g : i < l.length
    · have g' : decide ((i : Int) < (l.length : Int)) = true := by simpa using g
      by_cases g2 : i < 100
      · have g2' : decide ((i : Int) < 100) = true := by simp; omega
        (repeat (first
 | (simp (disch := omega) only [evA, evB, bAdd_i64, bSub_i64, ptr, Nat.zero_add, Bool.not_true, Bool.not_false, Option.isNone_some, Option.isNone_none, Option.isSome_some, Option.isSome_none, decide_true, decide_false, eq_self, true_and, and_assoc, hlen, g', g2'])
 | ((with_reducible apply go_ld1 h))
 | ((with_reducible apply go_ldA h); (rfl))
 | ((with_reducible apply go_ldN h))
 | ((with_reducible apply go_st h); intro _ h)
 | ((with_reducible apply go_stA h); (rfl); (rfl); (first | rfl | simp [OneV.o]); intro _ h)
 | ((with_reducible apply go_stN h); (rfl); (first | rfl | simp [OneV.o]); intro _ h)
 | ((with_reducible apply go_box h); rfl; intro _ _ h)
 | ((with_reducible apply go_rd h); (rfl))
 | ((with_reducible apply go_rdN h); (rfl))
 | ((with_reducible apply go_rlen h); (rfl))
 | ((with_reducible apply go_lenL h))
 | ((with_reducible apply go_ix h); (omega))
 | ((with_reducible apply go_elN h); (case hi => omega))
 | ((with_reducible apply go_fa h); (omega); (omega))
 | ((with_reducible apply go_f1 h); (case hi => omega); (case hx => exact inferInstance))
 | ((with_reducible apply go_rf1 h); (case hi => omega); (case hx => exact inferInstance); (case hv => rfl))
 | ((with_reducible apply go_rel h); (case hi => omega); (case hv => rfl))
))
        refine go_some (ix_el (hrd.sat h) g) ?_
        refine go_some (i_at (hrd.sat h) g).2 ?_
        refine context_spec h fun w h => ?_
        have hok := ctxK_ok (bel l[i] 1048576).toNat
        have hfit := ctxK_fits (bel l[i] 1048576).toNat
        have hnil : (ctxK (bel l[i] 1048576).toNat).times = [] := rfl
        unfold ctxN'
        generalize ctxK (bel l[i] 1048576).toNat = c at hok hfit hnil
        have hrn : ∀ L', RdL w0 L' cI 1 (.slice none 0 0) c.times := fun L' => by rw [hnil]; exact rdNil
        refine go_alloc h hz rfl fun _ _ h => ?_
        (repeat (first
 | (simp (disch := omega) only [evA, evB, bAdd_i64, bSub_i64, ptr, Nat.zero_add, Bool.not_true, Bool.not_false, Option.isNone_some, Option.isNone_none, Option.isSome_some, Option.isSome_none, decide_true, decide_false, eq_self, true_and, and_assoc])
 | ((with_reducible apply go_ld1 h))
 | ((with_reducible apply go_ldA h); (rfl))
 | ((with_reducible apply go_ldN h))
 | ((with_reducible apply go_st h); intro _ h)
 | ((with_reducible apply go_stA h); (rfl); (rfl); (first | rfl | simp [OneV.o]); intro _ h)
 | ((with_reducible apply go_stN h); (rfl); (first | rfl | simp [OneV.o]); intro _ h)
 | ((with_reducible apply go_box h); rfl; intro _ _ h)
 | ((with_reducible apply go_rd h); (rfl))
 | ((with_reducible apply go_rdN h); (rfl))
 | ((with_reducible apply go_rlen h); (rfl))
 | ((with_reducible apply go_lenL h))
 | ((with_reducible apply go_ix h); (omega))
 | ((with_reducible apply go_elN h); (case hi => omega))
 | ((with_reducible apply go_fa h); (omega); (omega))
 | ((with_reducible apply go_f1 h); (case hi => omega); (case hx => exact inferInstance))
 | ((with_reducible apply go_rf1 h); (case hi => omega); (case hx => exact inferInstance); (case hv => rfl))
 | ((with_reducible apply go_rel h); (case hi => omega); (case hv => rfl))
))
        refine afind_spec (wa := c.watch) (no := c.node) (ke := c.key) (cs := cs) (n := 100) (next := (cs.length : Nat) + 1) (h.front (by repeat (first | exact .here | apply Fnt.there))) (fun hf w h => ?_) (fun b hf s w h => ?_)
        · have ha : addA 100 cs c = 0 := by
            rw [addA_full hok (by omega), if_neg]
            show ¬ (cs.find? fun d => decide (sgnOf d = ⟨c.watch, c.node, c.key⟩)).isSome = true
            rw [hf]; simp
          (repeat (first
 | (simp (disch := omega) only [evA, evB, bAdd_i64, bSub_i64, ptr, Nat.zero_add, Bool.not_true, Bool.not_false, Option.isNone_some, Option.isNone_none, Option.isSome_some, Option.isSome_none, decide_true, decide_false, eq_self, true_and, and_assoc])
 | ((with_reducible apply go_ld1 h))
 | ((with_reducible apply go_ldA h); (rfl))
 | ((with_reducible apply go_ldN h))
 | ((with_reducible apply go_st h); intro _ h)
 | ((with_reducible apply go_stA h); (rfl); (rfl); (first | rfl | simp [OneV.o]); intro _ h)
 | ((with_reducible apply go_stN h); (rfl); (first | rfl | simp [OneV.o]); intro _ h)
 | ((with_reducible apply go_box h); rfl; intro _ _ h)
 | ((with_reducible apply go_rd h); (rfl))
 | ((with_reducible apply go_rdN h); (rfl))
 | ((with_reducible apply go_rlen h); (rfl))
 | ((with_reducible apply go_lenL h))
 | ((with_reducible apply go_ix h); (omega))
 | ((with_reducible apply go_elN h); (case hi => omega))
 | ((with_reducible apply go_fa h); (omega); (omega))
 | ((with_reducible apply go_f1 h); (case hi => omega); (case hx => exact inferInstance))
 | ((with_reducible apply go_rf1 h); (case hi => omega); (case hx => exact inferInstance); (case hv => rfl))
 | ((with_reducible apply go_rel h); (case hi => omega); (case hv => rfl))
))
          refine go_alloc h hz rfl fun _ _ h => ?_
          (repeat (first
 | (simp (disch := omega) only [evA, evB, bAdd_i64, bSub_i64, ptr, Nat.zero_add, Bool.not_true, Bool.not_false, Option.isNone_some, Option.isNone_none, Option.isSome_some, Option.isSome_none, decide_true, decide_false, eq_self, true_and, and_assoc])
 | ((with_reducible apply go_ld1 h))
 | ((with_reducible apply go_ldA h); (rfl))
 | ((with_reducible apply go_ldN h))
 | ((with_reducible apply go_st h); intro _ h)
 | ((with_reducible apply go_stA h); (rfl); (rfl); (first | rfl | simp [OneV.o]); intro _ h)
 | ((with_reducible apply go_stN h); (rfl); (first | rfl | simp [OneV.o]); intro _ h)
 | ((with_reducible apply go_box h); rfl; intro _ _ h)
 | ((with_reducible apply go_rd h); (rfl))
 | ((with_reducible apply go_rdN h); (rfl))
 | ((with_reducible apply go_rlen h); (rfl))
 | ((with_reducible apply go_lenL h))
 | ((with_reducible apply go_ix h); (omega))
 | ((with_reducible apply go_elN h); (case hi => omega))
 | ((with_reducible apply go_fa h); (omega); (omega))
 | ((with_reducible apply go_f1 h); (case hi => omega); (case hx => exact inferInstance))
 | ((with_reducible apply go_rf1 h); (case hi => omega); (case hx => exact inferInstance); (case hv => rfl))
 | ((with_reducible apply go_rel h); (case hi => omega); (case hv => rfl))
))
          refine aadd_spec (c := c) (cs := cs) (n := 100) (next := (cs.length : Nat) + 1) hfit (by omega) (hrn _) (h.front (by repeat (first | exact .here | apply Fnt.there))) (fun hne => absurd ha hne) (fun _ w h => ?_)
          have d1 : decide ((0 : Int) = 6) = false := by decide
          (repeat (first
 | (simp (disch := omega) only [evA, evB, bAdd_i64, bSub_i64, ptr, Nat.zero_add, Bool.not_true, Bool.not_false, Option.isNone_some, Option.isNone_none, Option.isSome_some, Option.isSome_none, decide_true, decide_false, eq_self, true_and, and_assoc, d1, bn0])
 | ((with_reducible apply go_ld1 h))
 | ((with_reducible apply go_ldA h); (rfl))
 | ((with_reducible apply go_ldN h))
 | ((with_reducible apply go_st h); intro _ h)
 | ((with_reducible apply go_stA h); (rfl); (rfl); (first | rfl | simp [OneV.o]); intro _ h)
 | ((with_reducible apply go_stN h); (rfl); (first | rfl | simp [OneV.o]); intro _ h)
 | ((with_reducible apply go_box h); rfl; intro _ _ h)
 | ((with_reducible apply go_rd h); (rfl))
 | ((with_reducible apply go_rdN h); (rfl))
 | ((with_reducible apply go_rlen h); (rfl))
 | ((with_reducible apply go_lenL h))
 | ((with_reducible apply go_ix h); (omega))
 | ((with_reducible apply go_elN h); (case hi => omega))
 | ((with_reducible apply go_fa h); (omega); (omega))
 | ((with_reducible apply go_f1 h); (case hi => omega); (case hx => exact inferInstance))
 | ((with_reducible apply go_rf1 h); (case hi => omega); (case hx => exact inferInstance); (case hv => rfl))
 | ((with_reducible apply go_rel h); (case hi => omega); (case hv => rfl))
))
          have := ih (i + 1) (cs ++ [{ c with id := (cs.length : Nat) + 1 }]) w (by omega) (by omega) (by omega) (by simp; omega) (by simpa using h.get (L' := HoldA hv 100 ((cs.length : Nat) + 1 + 1) (cs ++ [{ c with id := (cs.length : Nat) + 1 }]) :: L) (by (repeat (first | exact .done | (refine .pick (by repeat (first | exact .here | apply Fnt.there)) ?_) | refine .skip ?_))))
          simpa using this
        · have ha : addA 100 cs c = 6 := by
            rw [addA_full hok (by omega), if_pos]
            show (cs.find? fun d => decide (sgnOf d = ⟨c.watch, c.node, c.key⟩)).isSome = true
            rw [hf]; rfl
          have := ls_one h
          (repeat (first
 | (simp (disch := omega) only [evA, evB, bAdd_i64, bSub_i64, ptr, Nat.zero_add, Bool.not_true, Bool.not_false, Option.isNone_some, Option.isNone_none, Option.isSome_some, Option.isSome_none, decide_true, decide_false, eq_self, true_and, and_assoc])
 | ((with_reducible apply go_ld1 h))
 | ((with_reducible apply go_ldA h); (rfl))
 | ((with_reducible apply go_ldN h))
 | ((with_reducible apply go_st h); intro _ h)
 | ((with_reducible apply go_stA h); (rfl); (rfl); (first | rfl | simp [OneV.o]); intro _ h)
 | ((with_reducible apply go_stN h); (rfl); (first | rfl | simp [OneV.o]); intro _ h)
 | ((with_reducible apply go_box h); rfl; intro _ _ h)
 | ((with_reducible apply go_rd h); (rfl))
 | ((with_reducible apply go_rdN h); (rfl))
 | ((with_reducible apply go_rlen h); (rfl))
 | ((with_reducible apply go_lenL h))
 | ((with_reducible apply go_ix h); (omega))
 | ((with_reducible apply go_elN h); (case hi => omega))
 | ((with_reducible apply go_fa h); (omega); (omega))
 | ((with_reducible apply go_f1 h); (case hi => omega); (case hx => exact inferInstance))
 | ((with_reducible apply go_rf1 h); (case hi => omega); (case hx => exact inferInstance); (case hv => rfl))
 | ((with_reducible apply go_rel h); (case hi => omega); (case hv => rfl))
))
          refine go_alloc h hz rfl fun _ _ h => ?_
          (repeat (first
 | (simp (disch := omega) only [evA, evB, bAdd_i64, bSub_i64, ptr, Nat.zero_add, Bool.not_true, Bool.not_false, Option.isNone_some, Option.isNone_none, Option.isSome_some, Option.isSome_none, decide_true, decide_false, eq_self, true_and, and_assoc])
 | ((with_reducible apply go_ld1 h))
 | ((with_reducible apply go_ldA h); (rfl))
 | ((with_reducible apply go_ldN h))
 | ((with_reducible apply go_st h); intro _ h)
 | ((with_reducible apply go_stA h); (rfl); (rfl); (first | rfl | simp [OneV.o]); intro _ h)
 | ((with_reducible apply go_stN h); (rfl); (first | rfl | simp [OneV.o]); intro _ h)
 | ((with_reducible apply go_box h); rfl; intro _ _ h)
 | ((with_reducible apply go_rd h); (rfl))
 | ((with_reducible apply go_rdN h); (rfl))
 | ((with_reducible apply go_rlen h); (rfl))
 | ((with_reducible apply go_lenL h))
 | ((with_reducible apply go_ix h); (omega))
 | ((with_reducible apply go_elN h); (case hi => omega))
 | ((with_reducible apply go_fa h); (omega); (omega))
 | ((with_reducible apply go_f1 h); (case hi => omega); (case hx => exact inferInstance))
 | ((with_reducible apply go_rf1 h); (case hi => omega); (case hx => exact inferInstance); (case hv => rfl))
 | ((with_reducible apply go_rel h); (case hi => omega); (case hv => rfl))
))
          refine aadd_spec (c := c) (cs := cs) (n := 100) (next := (cs.length : Nat) + 1) hfit (by omega) (hrn _) (h.front (by repeat (first | exact .here | apply Fnt.there))) (fun _ w h => ?_) (fun he => by rw [ha] at he; cases he)
          rw [ha]
          have d1 : decide ((6 : Int) = 6) = true := by decide
          have d2 : decide ((6 : Int) = 0) = false := by decide
          (repeat (first
 | (simp (disch := omega) only [evA, evB, bAdd_i64, bSub_i64, ptr, Nat.zero_add, Bool.not_true, Bool.not_false, Option.isNone_some, Option.isNone_none, Option.isSome_some, Option.isSome_none, decide_true, decide_false, eq_self, true_and, and_assoc, d1, d2, bn1])
 | ((with_reducible apply go_ld1 h))
 | ((with_reducible apply go_ldA h); (rfl))
 | ((with_reducible apply go_ldN h))
 | ((with_reducible apply go_st h); intro _ h)
 | ((with_reducible apply go_stA h); (rfl); (rfl); (first | rfl | simp [OneV.o]); intro _ h)
 | ((with_reducible apply go_stN h); (rfl); (first | rfl | simp [OneV.o]); intro _ h)
 | ((with_reducible apply go_box h); rfl; intro _ _ h)
 | ((with_reducible apply go_rd h); (rfl))
 | ((with_reducible apply go_rdN h); (rfl))
 | ((with_reducible apply go_rlen h); (rfl))
 | ((with_reducible apply go_lenL h))
 | ((with_reducible apply go_ix h); (omega))
 | ((with_reducible apply go_elN h); (case hi => omega))
 | ((with_reducible apply go_fa h); (omega); (omega))
 | ((with_reducible apply go_f1 h); (case hi => omega); (case hx => exact inferInstance))
 | ((with_reducible apply go_rf1 h); (case hi => omega); (case hx => exact inferInstance); (case hv => rfl))
 | ((with_reducible apply go_rel h); (case hi => omega); (case hv => rfl))
))
          exact ih (i + 1) cs w (by omega) (by omega) (by omega) (by omega) (h.get (by (repeat (first | exact .done | (refine .pick (by repeat (first | exact .here | apply Fnt.there)) ?_) | refine .skip ?_))))
      · have g2' : decide ((i : Int) < 100) = false := by simp; omega
        (repeat (first
 | (simp (disch := omega) only [evA, evB, bAdd_i64, bSub_i64, ptr, Nat.zero_add, Bool.not_true, Bool.not_false, Option.isNone_some, Option.isNone_none, Option.isSome_some, Option.isSome_none, decide_true, decide_false, eq_self, true_and, and_assoc, hlen, g', g2'])
 | ((with_reducible apply go_ld1 h))
 | ((with_reducible apply go_ldA h); (rfl))
 | ((with_reducible apply go_ldN h))
 | ((with_reducible apply go_st h); intro _ h)
 | ((with_reducible apply go_stA h); (rfl); (rfl); (first | rfl | simp [OneV.o]); intro _ h)
 | ((with_reducible apply go_stN h); (rfl); (first | rfl | simp [OneV.o]); intro _ h)
 | ((with_reducible apply go_box h); rfl; intro _ _ h)
 | ((with_reducible apply go_rd h); (rfl))
 | ((with_reducible apply go_rdN h); (rfl))
 | ((with_reducible apply go_rlen h); (rfl))
 | ((with_reducible apply go_lenL h))
 | ((with_reducible apply go_ix h); (omega))
 | ((with_reducible apply go_elN h); (case hi => omega))
 | ((with_reducible apply go_fa h); (omega); (omega))
 | ((with_reducible apply go_f1 h); (case hi => omega); (case hx => exact inferInstance))
 | ((with_reducible apply go_rf1 h); (case hi => omega); (case hx => exact inferInstance); (case hv => rfl))
 | ((with_reducible apply go_rel h); (case hi => omega); (case hv => rfl))
))
        exact fin
    · have g' : decide ((i : Int) < (l.length : Int)) = false := by simpa using g
      (repeat (first
 | (simp (disch := omega) only [evA, evB, bAdd_i64, bSub_i64, ptr, Nat.zero_add, Bool.not_true, Bool.not_false, Option.isNone_some, Option.isNone_none, Option.isSome_some, Option.isSome_none, decide_true, decide_false, eq_self, true_and, and_assoc, hlen, g'])
 | ((with_reducible apply go_ld1 h))
 | ((with_reducible apply go_ldA h); (rfl))
 | ((with_reducible apply go_ldN h))
 | ((with_reducible apply go_st h); intro _ h)
 | ((with_reducible apply go_stA h); (rfl); (rfl); (first | rfl | simp [OneV.o]); intro _ h)
 | ((with_reducible apply go_stN h); (rfl); (first | rfl | simp [OneV.o]); intro _ h)
 | ((with_reducible apply go_box h); rfl; intro _ _ h)
 | ((with_reducible apply go_rd h); (rfl))
 | ((with_reducible apply go_rdN h); (rfl))
 | ((with_reducible apply go_rlen h); (rfl))
 | ((with_reducible apply go_lenL h))
 | ((with_reducible apply go_ix h); (omega))
 | ((with_reducible apply go_elN h); (case hi => omega))
 | ((with_reducible apply go_fa h); (omega); (omega))
 | ((with_reducible apply go_f1 h); (case hi => omega); (case hx => exact inferInstance))
 | ((with_reducible apply go_rf1 h); (case hi => omega); (case hx => exact inferInstance); (case hv => rfl))
 | ((with_reducible apply go_rel h); (case hi => omega); (case hv => rfl))
))
      exact fin
theorem bag_rdm {m : Held} {x : Int × (Ctx × Value)} {L L' : List HP} (hx : x ∈ m) (g : Fnt (bag m) L L') : RdL w0 L cI 1 x.2.2 x.2.1.times := fun w hs => by
  have h1 := bag_iff.1 (hs.front g)
  obtain ⟨l, r, rfl⟩ := List.append_of_mem hx
  rw [List.map_append, List.map_cons, List.append_assoc] at h1
  have h2 : Sat w0 (heldP x :: (l.map heldP ++ (r.map heldP ++ L'))) w := h1.perm List.perm_middle
  exact ls_rd h2
def idS (c : Ctx) : Int × Sgn := (c.id, sgnOf c)
theorem okC_at {c : Ctx} {t : Int} (h : okC c = true) (h1 : 0 ≤ t) (h2 : t < 50) : okC { c with at' := t } = true := by
  unfold okC at h ⊢
  simp only [Bool.and_eq_true, decide_eq_true_eq] at h ⊢
  refine ⟨h.1, ?_⟩
  unfold timeP
  simp; omega
theorem turn_keeps {cs ds : List Ctx} {c : Ctx} {i : Nat} (ha : cs.Pairwise fun a b => a.id < b.id) (he : cs.map idS = ds.map idS) (hi : i < ds.length) (hc : idS c = idS ds[i]) (ho : okC c = true) :
    turnA cs c = 0 ∧ (turnL c cs).map idS = ds.map idS := by
  have hl : cs.length = ds.length := by have := congrArg List.length he; simpa using this
  have hx : idS cs[i] = idS ds[i] := by
    have := congrArg (fun l => l[i]?) he
    simp [hl, hi] at this
    exact this
  have h1 : ∀ d ∈ cs, d.id = c.id → d = cs[i] := fun d hd e => asc_eq ha hd (List.getElem_mem _) (e.trans (by have := hc.trans hx.symm; exact (Prod.mk.inj this).1))
  have h2 := hc.trans hx.symm
  unfold idS at h2
  simp only [Prod.mk.injEq] at h2
  constructor
  · unfold turnA
    rw [if_neg (by simp [ho])]
    cases hf : cs.find? fun d => decide (d.id = c.id) with
    | none =>
      rw [List.find?_eq_none] at hf
      have := hf cs[i] (List.getElem_mem _)
      simp [h2.1] at this
    | some b =>
      have h3 := List.mem_of_find?_eq_some hf
      have h4 := List.find?_some hf
      simp only [decide_eq_true_eq] at h4
      rw [h1 b h3 h4]
      simp [h2.2]
  · rw [← he]
    unfold turnL
    rw [List.map_map]
    refine List.map_congr_left fun d hd => ?_
    simp only [Function.comp_apply]
    split
    · rename_i g
      rw [h1 d hd g]
      exact hc.trans hx.symm
    · rfl
theorem ord_loop2 {tl : List Int} {xs : List (Ctx × SV)} {sv : Value} (hrd : Rd w0 1 s1 tl.length (tl.flatMap cI)) (hlx : xs.length ≤ 100) (hok : ∀ x ∈ xs, okC x.1 = true ∧ x.1.fits)
    (hE : ∀ cs w', cs.length = xs.length → Sat w0 (HoldA hv 100 next cs :: L) w' → F11_5 hv (.int .i64 (xs.length : Nat)) w' K) :
    ∀ (d i : Nat) (cs : List Ctx) (w : World), tl.length - i < d → i ≤ xs.length → i ≤ tl.length → cs.map idS = (xs.map Prod.fst).map idS → Sat w0 (LsH cX 11 41 sv xs :: bag (hlX xs) :: HoldA hv 100 next cs :: L) w →
      F11_4L d s1 hv (.int .i64 (xs.length : Nat)) sv (.int .i64 i) w K := by
  intro d
  induction d with
  | zero => intro i cs w hd; omega
  | succ d ih =>
    intro i cs w hd hi hl he h
    rw [F11_4L]
    unfold F11_4b
    have hlen := hrd.len
    have hcl : cs.length = xs.length := by have := congrArg List.length he; simpa using this
    have fin : F11_5 hv (.int .i64 (xs.length : Nat)) w K := hE cs w hcl (h.get (by (repeat (first | exact .done | (refine .pick (by repeat (first | exact .here | apply Fnt.there)) ?_) | refine .skip ?_))))
    by_cases g : i < tl.length
    · have g' : decide ((i : Int) < (tl.length : Int)) = true := by simpa using g
      by_cases g2 : i < xs.length
      · have g2' : decide ((i : Int) < (xs.length : Int)) = true := by simpa using g2
        (repeat (first
 | (simp (disch := omega) only [evA, evB, bAdd_i64, bSub_i64, ptr, Nat.zero_add, Bool.not_true, Bool.not_false, Option.isNone_some, Option.isNone_none, Option.isSome_some, Option.isSome_none, decide_true, decide_false, eq_self, true_and, and_assoc, hlen, g', g2'])
 | ((with_reducible apply go_ld1 h))
 | ((with_reducible apply go_ldA h); (rfl))
 | ((with_reducible apply go_ldN h))
 | ((with_reducible apply go_st h); intro _ h)
 | ((with_reducible apply go_stA h); (rfl); (rfl); (first | rfl | simp [OneV.o]); intro _ h)
 | ((with_reducible apply go_stN h); (rfl); (first | rfl | simp [OneV.o]); intro _ h)
 | ((with_reducible apply go_box h); rfl; intro _ _ h)
 | ((with_reducible apply go_rd h); (rfl))
 | ((with_reducible apply go_rdN h); (rfl))
 | ((with_reducible apply go_rlen h); (rfl))
 | ((with_reducible apply go_lenL h))
 | ((with_reducible apply go_ix h); (omega))
 | ((with_reducible apply go_elN h); (case hi => omega))
 | ((with_reducible apply go_fa h); (omega); (omega))
 | ((with_reducible apply go_f1 h); (case hi => omega); (case hx => exact inferInstance))
 | ((with_reducible apply go_rf1 h); (case hi => omega); (case hx => exact inferInstance); (case hv => rfl))
 | ((with_reducible apply go_rel h); (case hi => omega); (case hv => rfl))
))
        refine go_alloc h zc41 rfl fun _ _ h => ?_
        repeat (first | (refine go_some (ix_el (hrd.sat h) g) ?_) | (first
 | (simp (disch := omega) only [evA, evB, bAdd_i64, bSub_i64, ptr, Nat.zero_add, Bool.not_true, Bool.not_false, Option.isNone_some, Option.isNone_none, Option.isSome_some, Option.isSome_none, decide_true, decide_false, eq_self, true_and, and_assoc])
 | ((with_reducible apply go_ld1 h))
 | ((with_reducible apply go_ldA h); (rfl))
 | ((with_reducible apply go_ldN h))
 | ((with_reducible apply go_st h); intro _ h)
 | ((with_reducible apply go_stA h); (rfl); (rfl); (first | rfl | simp [OneV.o]); intro _ h)
 | ((with_reducible apply go_stN h); (rfl); (first | rfl | simp [OneV.o]); intro _ h)
 | ((with_reducible apply go_box h); rfl; intro _ _ h)
 | ((with_reducible apply go_rd h); (rfl))
 | ((with_reducible apply go_rdN h); (rfl))
 | ((with_reducible apply go_rlen h); (rfl))
 | ((with_reducible apply go_lenL h))
 | ((with_reducible apply go_ix h); (omega))
 | ((with_reducible apply go_elN h); (case hi => omega))
 | ((with_reducible apply go_fa h); (omega); (omega))
 | ((with_reducible apply go_f1 h); (case hi => omega); (case hx => exact inferInstance))
 | ((with_reducible apply go_rf1 h); (case hi => omega); (case hx => exact inferInstance); (case hv => rfl))
 | ((with_reducible apply go_rel h); (case hi => omega); (case hv => rfl))
))
        refine go_some (i_at (hrd.sat h) g).2 ?_
        refine Below_spec (by decide) (by decide) fun r h1 h2 _ => ?_
        (repeat (first
 | (simp (disch := omega) only [evA, evB, bAdd_i64, bSub_i64, ptr, Nat.zero_add, Bool.not_true, Bool.not_false, Option.isNone_some, Option.isNone_none, Option.isSome_some, Option.isSome_none, decide_true, decide_false, eq_self, true_and, and_assoc])
 | ((with_reducible apply go_ld1 h))
 | ((with_reducible apply go_ldA h); (rfl))
 | ((with_reducible apply go_ldN h))
 | ((with_reducible apply go_st h); intro _ h)
 | ((with_reducible apply go_stA h); (rfl); (rfl); (first | rfl | simp [OneV.o]); intro _ h)
 | ((with_reducible apply go_stN h); (rfl); (first | rfl | simp [OneV.o]); intro _ h)
 | ((with_reducible apply go_box h); rfl; intro _ _ h)
 | ((with_reducible apply go_rd h); (rfl))
 | ((with_reducible apply go_rdN h); (rfl))
 | ((with_reducible apply go_rlen h); (rfl))
 | ((with_reducible apply go_lenL h))
 | ((with_reducible apply go_ix h); (omega))
 | ((with_reducible apply go_elN h); (case hi => omega))
 | ((with_reducible apply go_fa h); (omega); (omega))
 | ((with_reducible apply go_f1 h); (case hi => omega); (case hx => exact inferInstance))
 | ((with_reducible apply go_rf1 h); (case hi => omega); (case hx => exact inferInstance); (case hv => rfl))
 | ((with_reducible apply go_rel h); (case hi => omega); (case hv => rfl))
))
        obtain ⟨hn, m, I, M, H⟩ := holdA_inv (h.front (A := HoldA hv 100 next cs) (by repeat (first | exact .here | apply Fnt.there)))
        have hmem : (xs[i].1.id, (xs[i].1, svV xs[i].2)) ∈ hlX xs := List.mem_map.2 ⟨xs[i], List.getElem_mem _, rfl⟩
        have hk := turn_keeps (c := { xs[i].1 with at' := r }) (i := i) H.asc he (by simpa using g2) (by simp; rfl) (okC_at (hok xs[i] (List.getElem_mem _)).1 h1 h2)
        refine aturn_spec (c := { xs[i].1 with at' := r }) (tv := svV xs[i].2) (cs := cs) (n := 100) (next := next) (L := _ :: LsH cX 11 41 sv xs :: bag (hlX xs) :: L) (hok xs[i] (List.getElem_mem _)).2 (bag_rdm hmem (.there (.there .here))) inferInstance (h.get (by (repeat (first | exact .done | (refine .pick (by repeat (first | exact .here | apply Fnt.there)) ?_) | refine .skip ?_)))) (fun hne => absurd hk.1 hne) fun _ w h => ?_
        (repeat (first
 | (simp (disch := omega) only [evA, evB, bAdd_i64, bSub_i64, ptr, Nat.zero_add, Bool.not_true, Bool.not_false, Option.isNone_some, Option.isNone_none, Option.isSome_some, Option.isSome_none, decide_true, decide_false, eq_self, true_and, and_assoc])
 | ((with_reducible apply go_ld1 h))
 | ((with_reducible apply go_ldA h); (rfl))
 | ((with_reducible apply go_ldN h))
 | ((with_reducible apply go_st h); intro _ h)
 | ((with_reducible apply go_stA h); (rfl); (rfl); (first | rfl | simp [OneV.o]); intro _ h)
 | ((with_reducible apply go_stN h); (rfl); (first | rfl | simp [OneV.o]); intro _ h)
 | ((with_reducible apply go_box h); rfl; intro _ _ h)
 | ((with_reducible apply go_rd h); (rfl))
 | ((with_reducible apply go_rdN h); (rfl))
 | ((with_reducible apply go_rlen h); (rfl))
 | ((with_reducible apply go_lenL h))
 | ((with_reducible apply go_ix h); (omega))
 | ((with_reducible apply go_elN h); (case hi => omega))
 | ((with_reducible apply go_fa h); (omega); (omega))
 | ((with_reducible apply go_f1 h); (case hi => omega); (case hx => exact inferInstance))
 | ((with_reducible apply go_rf1 h); (case hi => omega); (case hx => exact inferInstance); (case hv => rfl))
 | ((with_reducible apply go_rel h); (case hi => omega); (case hv => rfl))
))
        exact ih (i + 1) (turnL { xs[i].1 with at' := r } cs) w (by omega) (by omega) (by omega) hk.2 (h.get (by (repeat (first | exact .done | (refine .pick (by repeat (first | exact .here | apply Fnt.there)) ?_) | refine .skip ?_))))
      · have g2' : decide ((i : Int) < (xs.length : Int)) = false := by simpa using g2
        (repeat (first
 | (simp (disch := omega) only [evA, evB, bAdd_i64, bSub_i64, ptr, Nat.zero_add, Bool.not_true, Bool.not_false, Option.isNone_some, Option.isNone_none, Option.isSome_some, Option.isSome_none, decide_true, decide_false, eq_self, true_and, and_assoc, hlen, g', g2'])
 | ((with_reducible apply go_ld1 h))
 | ((with_reducible apply go_ldA h); (rfl))
 | ((with_reducible apply go_ldN h))
 | ((with_reducible apply go_st h); intro _ h)
 | ((with_reducible apply go_stA h); (rfl); (rfl); (first | rfl | simp [OneV.o]); intro _ h)
 | ((with_reducible apply go_stN h); (rfl); (first | rfl | simp [OneV.o]); intro _ h)
 | ((with_reducible apply go_box h); rfl; intro _ _ h)
 | ((with_reducible apply go_rd h); (rfl))
 | ((with_reducible apply go_rdN h); (rfl))
 | ((with_reducible apply go_rlen h); (rfl))
 | ((with_reducible apply go_lenL h))
 | ((with_reducible apply go_ix h); (omega))
 | ((with_reducible apply go_elN h); (case hi => omega))
 | ((with_reducible apply go_fa h); (omega); (omega))
 | ((with_reducible apply go_f1 h); (case hi => omega); (case hx => exact inferInstance))
 | ((with_reducible apply go_rf1 h); (case hi => omega); (case hx => exact inferInstance); (case hv => rfl))
 | ((with_reducible apply go_rel h); (case hi => omega); (case hv => rfl))
))
        exact fin
    · have g' : decide ((i : Int) < (tl.length : Int)) = false := by simpa using g
      (repeat (first
 | (simp (disch := omega) only [evA, evB, bAdd_i64, bSub_i64, ptr, Nat.zero_add, Bool.not_true, Bool.not_false, Option.isNone_some, Option.isNone_none, Option.isSome_some, Option.isSome_none, decide_true, decide_false, eq_self, true_and, and_assoc, hlen, g'])
 | ((with_reducible apply go_ld1 h))
 | ((with_reducible apply go_ldA h); (rfl))
 | ((with_reducible apply go_ldN h))
 | ((with_reducible apply go_st h); intro _ h)
 | ((with_reducible apply go_stA h); (rfl); (rfl); (first | rfl | simp [OneV.o]); intro _ h)
 | ((with_reducible apply go_stN h); (rfl); (first | rfl | simp [OneV.o]); intro _ h)
 | ((with_reducible apply go_box h); rfl; intro _ _ h)
 | ((with_reducible apply go_rd h); (rfl))
 | ((with_reducible apply go_rdN h); (rfl))
 | ((with_reducible apply go_rlen h); (rfl))
 | ((with_reducible apply go_lenL h))
 | ((with_reducible apply go_ix h); (omega))
 | ((with_reducible apply go_elN h); (case hi => omega))
 | ((with_reducible apply go_fa h); (omega); (omega))
 | ((with_reducible apply go_f1 h); (case hi => omega); (case hx => exact inferInstance))
 | ((with_reducible apply go_rf1 h); (case hi => omega); (case hx => exact inferInstance); (case hv => rfl))
 | ((with_reducible apply go_rel h); (case hi => omega); (case hv => rfl))
))
      exact fin
def After (t id : Int) (c : Ctx) : Prop := t < c.at' ∨ t = c.at' ∧ id < c.id
theorem After.of {c d : Ctx} (h : itLt (d.id, d.at') (c.id, c.at') = false) (hne : d.id ≠ c.id) : After c.at' c.id d := by
  unfold After
  simp [itLt] at h
  omega
theorem ord_loop3 {many : Nat} (hm : many ≤ 100) (hK : ∀ w', Sat w0 L w' → K (.bool true) w') :
    ∀ (d i : Nat) (cs : List Ctx) (t id : Int) (w : World), many - i < d → i ≤ many → cs.length = many - i → (∀ c ∈ cs, After t id c) → Sat w0 (HoldA hv 100 ((many : Nat) + 1) cs :: L) w →
      F11_6L d hv (.int .i64 (many : Nat)) (.int .i64 t) (.int .i64 id) (.int .i64 (many : Nat)) (.int .i64 i) w K := by
  intro d
  induction d with
  | zero => intro i cs t id w hd; omega
  | succ d ih =>
    intro i cs t id w hd hi hc ha h
    rw [F11_6L]
    unfold F11_6b
    by_cases g : i < many
    · have g' : decide ((i : Int) < (many : Int)) = true := by simpa using g
      (repeat (first
 | (simp (disch := omega) only [evA, evB, bAdd_i64, bSub_i64, ptr, Nat.zero_add, Bool.not_true, Bool.not_false, Option.isNone_some, Option.isNone_none, Option.isSome_some, Option.isSome_none, decide_true, decide_false, eq_self, true_and, and_assoc, g'])
 | ((with_reducible apply go_ld1 h))
 | ((with_reducible apply go_ldA h); (rfl))
 | ((with_reducible apply go_ldN h))
 | ((with_reducible apply go_st h); intro _ h)
 | ((with_reducible apply go_stA h); (rfl); (rfl); (first | rfl | simp [OneV.o]); intro _ h)
 | ((with_reducible apply go_stN h); (rfl); (first | rfl | simp [OneV.o]); intro _ h)
 | ((with_reducible apply go_box h); rfl; intro _ _ h)
 | ((with_reducible apply go_rd h); (rfl))
 | ((with_reducible apply go_rdN h); (rfl))
 | ((with_reducible apply go_rlen h); (rfl))
 | ((with_reducible apply go_lenL h))
 | ((with_reducible apply go_ix h); (omega))
 | ((with_reducible apply go_elN h); (case hi => omega))
 | ((with_reducible apply go_fa h); (omega); (omega))
 | ((with_reducible apply go_f1 h); (case hi => omega); (case hx => exact inferInstance))
 | ((with_reducible apply go_rf1 h); (case hi => omega); (case hx => exact inferInstance); (case hv => rfl))
 | ((with_reducible apply go_rel h); (case hi => omega); (case hv => rfl))
))
      refine afirst_spec (cs := cs) (n := 100) (next := (many : Nat) + 1) h (fun e => by subst e; simp at hc; omega) (fun c hcf s w h => ?_)
      have := ls_one h
      (repeat (first
 | (simp (disch := omega) only [evA, evB, bAdd_i64, bSub_i64, ptr, Nat.zero_add, Bool.not_true, Bool.not_false, Option.isNone_some, Option.isNone_none, Option.isSome_some, Option.isSome_none, decide_true, decide_false, eq_self, true_and, and_assoc])
 | ((with_reducible apply go_ld1 h))
 | ((with_reducible apply go_ldA h); (rfl))
 | ((with_reducible apply go_ldN h))
 | ((with_reducible apply go_st h); intro _ h)
 | ((with_reducible apply go_stA h); (rfl); (rfl); (first | rfl | simp [OneV.o]); intro _ h)
 | ((with_reducible apply go_stN h); (rfl); (first | rfl | simp [OneV.o]); intro _ h)
 | ((with_reducible apply go_box h); rfl; intro _ _ h)
 | ((with_reducible apply go_rd h); (rfl))
 | ((with_reducible apply go_rdN h); (rfl))
 | ((with_reducible apply go_rlen h); (rfl))
 | ((with_reducible apply go_lenL h))
 | ((with_reducible apply go_ix h); (omega))
 | ((with_reducible apply go_elN h); (case hi => omega))
 | ((with_reducible apply go_fa h); (omega); (omega))
 | ((with_reducible apply go_f1 h); (case hi => omega); (case hx => exact inferInstance))
 | ((with_reducible apply go_rf1 h); (case hi => omega); (case hx => exact inferInstance); (case hv => rfl))
 | ((with_reducible apply go_rel h); (case hi => omega); (case hv => rfl))
))
      refine go_alloc h zc41 rfl fun _ _ h => ?_
      obtain ⟨hn, m, I, M, H⟩ := holdA_inv (h.front (A := HoldA hv 100 ((many : Nat) + 1) cs) (by repeat (first | exact .here | apply Fnt.there)))
      have hat := ha c hcf.1
      have a1 : decide (c.at' < t) = false := by unfold After at hat; simp; omega
      obtain ⟨b, hb, hb2⟩ : ∃ b, decide (c.at' = t) = b ∧ (b = true → decide (c.id ≤ id) = false) := ⟨_, rfl, fun e => by unfold After at hat; simp at e ⊢; omega⟩
      have hlen' : (dropL c.id cs).length = many - (i + 1) := by
        obtain ⟨l, r, e, h1, h2⟩ := asc_split H.asc hcf.1
        rw [e] at hc
        rw [e, dropL_split h1 h2]
        simp at hc ⊢; omega
      have haft : ∀ d ∈ dropL c.id cs, After c.at' c.id d := by
        intro d hd
        unfold dropL at hd
        rw [List.mem_filter] at hd
        exact .of (hcf.2 d hd.1) (by simpa using hd.2)
      have hl1 : c.times.length ≤ 1000000 := by have : c.times.length < 1000000 := (H.ok c hcf.1).2.1.2.2.2; omega
      cases b
      case' false => (repeat (first
 | (simp (disch := omega) only [evA, evB, bAdd_i64, bSub_i64, ptr, Nat.zero_add, Bool.not_true, Bool.not_false, Option.isNone_some, Option.isNone_none, Option.isSome_some, Option.isSome_none, decide_true, decide_false, eq_self, true_and, and_assoc, a1, hb])
 | ((with_reducible apply go_ld1 h))
 | ((with_reducible apply go_ldA h); (rfl))
 | ((with_reducible apply go_ldN h))
 | ((with_reducible apply go_st h); intro _ h)
 | ((with_reducible apply go_stA h); (rfl); (rfl); (first | rfl | simp [OneV.o]); intro _ h)
 | ((with_reducible apply go_stN h); (rfl); (first | rfl | simp [OneV.o]); intro _ h)
 | ((with_reducible apply go_box h); rfl; intro _ _ h)
 | ((with_reducible apply go_rd h); (rfl))
 | ((with_reducible apply go_rdN h); (rfl))
 | ((with_reducible apply go_rlen h); (rfl))
 | ((with_reducible apply go_lenL h))
 | ((with_reducible apply go_ix h); (omega))
 | ((with_reducible apply go_elN h); (case hi => omega))
 | ((with_reducible apply go_fa h); (omega); (omega))
 | ((with_reducible apply go_f1 h); (case hi => omega); (case hx => exact inferInstance))
 | ((with_reducible apply go_rf1 h); (case hi => omega); (case hx => exact inferInstance); (case hv => rfl))
 | ((with_reducible apply go_rel h); (case hi => omega); (case hv => rfl))
))
      case' true =>
        have a3 := hb2 rfl
        (repeat (first
 | (simp (disch := omega) only [evA, evB, bAdd_i64, bSub_i64, ptr, Nat.zero_add, Bool.not_true, Bool.not_false, Option.isNone_some, Option.isNone_none, Option.isSome_some, Option.isSome_none, decide_true, decide_false, eq_self, true_and, and_assoc, a1, hb, a3])
 | ((with_reducible apply go_ld1 h))
 | ((with_reducible apply go_ldA h); (rfl))
 | ((with_reducible apply go_ldN h))
 | ((with_reducible apply go_st h); intro _ h)
 | ((with_reducible apply go_stA h); (rfl); (rfl); (first | rfl | simp [OneV.o]); intro _ h)
 | ((with_reducible apply go_stN h); (rfl); (first | rfl | simp [OneV.o]); intro _ h)
 | ((with_reducible apply go_box h); rfl; intro _ _ h)
 | ((with_reducible apply go_rd h); (rfl))
 | ((with_reducible apply go_rdN h); (rfl))
 | ((with_reducible apply go_rlen h); (rfl))
 | ((with_reducible apply go_lenL h))
 | ((with_reducible apply go_ix h); (omega))
 | ((with_reducible apply go_elN h); (case hi => omega))
 | ((with_reducible apply go_fa h); (omega); (omega))
 | ((with_reducible apply go_f1 h); (case hi => omega); (case hx => exact inferInstance))
 | ((with_reducible apply go_rf1 h); (case hi => omega); (case hx => exact inferInstance); (case hv => rfl))
 | ((with_reducible apply go_rel h); (case hi => omega); (case hv => rfl))
))
      all_goals
        refine adrop_spec (id := c.id) (cs := cs) (n := 100) (next := (many : Nat) + 1) (h.drew.front (by repeat (first | exact .here | apply Fnt.there))) (fun hn => absurd rfl (hn c hcf.1)) (fun c' hc' e' s' w h => ?_)
        obtain rfl := asc_eq H.asc hc' hcf.1 e'
        have := ls_one h
        (repeat (first
 | (simp (disch := omega) only [evA, evB, bAdd_i64, bSub_i64, ptr, Nat.zero_add, Bool.not_true, Bool.not_false, Option.isNone_some, Option.isNone_none, Option.isSome_some, Option.isSome_none, decide_true, decide_false, eq_self, true_and, and_assoc])
 | ((with_reducible apply go_ld1 h))
 | ((with_reducible apply go_ldA h); (rfl))
 | ((with_reducible apply go_ldN h))
 | ((with_reducible apply go_st h); intro _ h)
 | ((with_reducible apply go_stA h); (rfl); (rfl); (first | rfl | simp [OneV.o]); intro _ h)
 | ((with_reducible apply go_stN h); (rfl); (first | rfl | simp [OneV.o]); intro _ h)
 | ((with_reducible apply go_box h); rfl; intro _ _ h)
 | ((with_reducible apply go_rd h); (rfl))
 | ((with_reducible apply go_rdN h); (rfl))
 | ((with_reducible apply go_rlen h); (rfl))
 | ((with_reducible apply go_lenL h))
 | ((with_reducible apply go_ix h); (omega))
 | ((with_reducible apply go_elN h); (case hi => omega))
 | ((with_reducible apply go_fa h); (omega); (omega))
 | ((with_reducible apply go_f1 h); (case hi => omega); (case hx => exact inferInstance))
 | ((with_reducible apply go_rf1 h); (case hi => omega); (case hx => exact inferInstance); (case hv => rfl))
 | ((with_reducible apply go_rel h); (case hi => omega); (case hv => rfl))
))
        refine go_alloc h zc41 rfl fun _ _ h => ?_
        (repeat (first
 | (simp (disch := omega) only [evA, evB, bAdd_i64, bSub_i64, ptr, Nat.zero_add, Bool.not_true, Bool.not_false, Option.isNone_some, Option.isNone_none, Option.isSome_some, Option.isSome_none, decide_true, decide_false, eq_self, true_and, and_assoc])
 | ((with_reducible apply go_ld1 h))
 | ((with_reducible apply go_ldA h); (rfl))
 | ((with_reducible apply go_ldN h))
 | ((with_reducible apply go_st h); intro _ h)
 | ((with_reducible apply go_stA h); (rfl); (rfl); (first | rfl | simp [OneV.o]); intro _ h)
 | ((with_reducible apply go_stN h); (rfl); (first | rfl | simp [OneV.o]); intro _ h)
 | ((with_reducible apply go_box h); rfl; intro _ _ h)
 | ((with_reducible apply go_rd h); (rfl))
 | ((with_reducible apply go_rdN h); (rfl))
 | ((with_reducible apply go_rlen h); (rfl))
 | ((with_reducible apply go_lenL h))
 | ((with_reducible apply go_ix h); (omega))
 | ((with_reducible apply go_elN h); (case hi => omega))
 | ((with_reducible apply go_fa h); (omega); (omega))
 | ((with_reducible apply go_f1 h); (case hi => omega); (case hx => exact inferInstance))
 | ((with_reducible apply go_rf1 h); (case hi => omega); (case hx => exact inferInstance); (case hv => rfl))
 | ((with_reducible apply go_rel h); (case hi => omega); (case hv => rfl))
))
        refine same_spec (a := c') (b := c') hl1 (.of_ls inferInstance) (.of_ls inferInstance) h fun w h => ?_
        rw [decide_eq_true rfl]
        (repeat (first
 | (simp (disch := omega) only [evA, evB, bAdd_i64, bSub_i64, ptr, Nat.zero_add, Bool.not_true, Bool.not_false, Option.isNone_some, Option.isNone_none, Option.isSome_some, Option.isSome_none, decide_true, decide_false, eq_self, true_and, and_assoc])
 | ((with_reducible apply go_ld1 h))
 | ((with_reducible apply go_ldA h); (rfl))
 | ((with_reducible apply go_ldN h))
 | ((with_reducible apply go_st h); intro _ h)
 | ((with_reducible apply go_stA h); (rfl); (rfl); (first | rfl | simp [OneV.o]); intro _ h)
 | ((with_reducible apply go_stN h); (rfl); (first | rfl | simp [OneV.o]); intro _ h)
 | ((with_reducible apply go_box h); rfl; intro _ _ h)
 | ((with_reducible apply go_rd h); (rfl))
 | ((with_reducible apply go_rdN h); (rfl))
 | ((with_reducible apply go_rlen h); (rfl))
 | ((with_reducible apply go_lenL h))
 | ((with_reducible apply go_ix h); (omega))
 | ((with_reducible apply go_elN h); (case hi => omega))
 | ((with_reducible apply go_fa h); (omega); (omega))
 | ((with_reducible apply go_f1 h); (case hi => omega); (case hx => exact inferInstance))
 | ((with_reducible apply go_rf1 h); (case hi => omega); (case hx => exact inferInstance); (case hv => rfl))
 | ((with_reducible apply go_rel h); (case hi => omega); (case hv => rfl))
))
        exact ih (i + 1) (dropL c'.id cs) _ _ _ (by omega) (by omega) hlen' haft (h.get (by (repeat (first | exact .done | (refine .pick (by repeat (first | exact .here | apply Fnt.there)) ?_) | refine .skip ?_))))
    · have g' : decide ((i : Int) < (many : Int)) = false := by simpa using g
      have e0 : cs = [] := List.eq_nil_of_length_eq_zero (by omega)
      subst e0
      (repeat (first
 | (simp (disch := omega) only [evA, evB, bAdd_i64, bSub_i64, ptr, Nat.zero_add, Bool.not_true, Bool.not_false, Option.isNone_some, Option.isNone_none, Option.isSome_some, Option.isSome_none, decide_true, decide_false, eq_self, true_and, and_assoc, g'])
 | ((with_reducible apply go_ld1 h))
 | ((with_reducible apply go_ldA h); (rfl))
 | ((with_reducible apply go_ldN h))
 | ((with_reducible apply go_st h); intro _ h)
 | ((with_reducible apply go_stA h); (rfl); (rfl); (first | rfl | simp [OneV.o]); intro _ h)
 | ((with_reducible apply go_stN h); (rfl); (first | rfl | simp [OneV.o]); intro _ h)
 | ((with_reducible apply go_box h); rfl; intro _ _ h)
 | ((with_reducible apply go_rd h); (rfl))
 | ((with_reducible apply go_rdN h); (rfl))
 | ((with_reducible apply go_rlen h); (rfl))
 | ((with_reducible apply go_lenL h))
 | ((with_reducible apply go_ix h); (omega))
 | ((with_reducible apply go_elN h); (case hi => omega))
 | ((with_reducible apply go_fa h); (omega); (omega))
 | ((with_reducible apply go_f1 h); (case hi => omega); (case hx => exact inferInstance))
 | ((with_reducible apply go_rf1 h); (case hi => omega); (case hx => exact inferInstance); (case hv => rfl))
 | ((with_reducible apply go_rel h); (case hi => omega); (case hv => rfl))
))
      unfold F11_7 F11_7b
      refine afirst_spec (cs := []) (n := 100) (next := (many : Nat) + 1) h (fun _ w h => ?_) (fun c hcf s w h => by have := hcf.1; simp at this)
      (repeat (first
 | (simp (disch := omega) only [evA, evB, bAdd_i64, bSub_i64, ptr, Nat.zero_add, Bool.not_true, Bool.not_false, Option.isNone_some, Option.isNone_none, Option.isSome_some, Option.isSome_none, decide_true, decide_false, eq_self, true_and, and_assoc])
 | ((with_reducible apply go_ld1 h))
 | ((with_reducible apply go_ldA h); (rfl))
 | ((with_reducible apply go_ldN h))
 | ((with_reducible apply go_st h); intro _ h)
 | ((with_reducible apply go_stA h); (rfl); (rfl); (first | rfl | simp [OneV.o]); intro _ h)
 | ((with_reducible apply go_stN h); (rfl); (first | rfl | simp [OneV.o]); intro _ h)
 | ((with_reducible apply go_box h); rfl; intro _ _ h)
 | ((with_reducible apply go_rd h); (rfl))
 | ((with_reducible apply go_rdN h); (rfl))
 | ((with_reducible apply go_rlen h); (rfl))
 | ((with_reducible apply go_lenL h))
 | ((with_reducible apply go_ix h); (omega))
 | ((with_reducible apply go_elN h); (case hi => omega))
 | ((with_reducible apply go_fa h); (omega); (omega))
 | ((with_reducible apply go_f1 h); (case hi => omega); (case hx => exact inferInstance))
 | ((with_reducible apply go_rf1 h); (case hi => omega); (case hx => exact inferInstance); (case hv => rfl))
 | ((with_reducible apply go_rel h); (case hi => omega); (case hv => rfl))
))
      refine go_alloc h zc41 rfl fun _ _ h => ?_
      (repeat (first
 | (simp (disch := omega) only [evA, evB, bAdd_i64, bSub_i64, ptr, Nat.zero_add, Bool.not_true, Bool.not_false, Option.isNone_some, Option.isNone_none, Option.isSome_some, Option.isSome_none, decide_true, decide_false, eq_self, true_and, and_assoc])
 | ((with_reducible apply go_ld1 h))
 | ((with_reducible apply go_ldA h); (rfl))
 | ((with_reducible apply go_ldN h))
 | ((with_reducible apply go_st h); intro _ h)
 | ((with_reducible apply go_stA h); (rfl); (rfl); (first | rfl | simp [OneV.o]); intro _ h)
 | ((with_reducible apply go_stN h); (rfl); (first | rfl | simp [OneV.o]); intro _ h)
 | ((with_reducible apply go_box h); rfl; intro _ _ h)
 | ((with_reducible apply go_rd h); (rfl))
 | ((with_reducible apply go_rdN h); (rfl))
 | ((with_reducible apply go_rlen h); (rfl))
 | ((with_reducible apply go_lenL h))
 | ((with_reducible apply go_ix h); (omega))
 | ((with_reducible apply go_elN h); (case hi => omega))
 | ((with_reducible apply go_fa h); (omega); (omega))
 | ((with_reducible apply go_f1 h); (case hi => omega); (case hx => exact inferInstance))
 | ((with_reducible apply go_rf1 h); (case hi => omega); (case hx => exact inferInstance); (case hv => rfl))
 | ((with_reducible apply go_rel h); (case hi => omega); (case hv => rfl))
))
      refine alen_spec (cs := []) (n := 100) (next := (many : Nat) + 1) (h.front (by repeat (first | exact .here | apply Fnt.there))) ?_
      have z0 : decide ((([] : List Ctx).length : Int) = 0) = true := by simp
      (repeat (first
 | (simp (disch := omega) only [evA, evB, bAdd_i64, bSub_i64, ptr, Nat.zero_add, Bool.not_true, Bool.not_false, Option.isNone_some, Option.isNone_none, Option.isSome_some, Option.isSome_none, decide_true, decide_false, eq_self, true_and, and_assoc, z0])
 | ((with_reducible apply go_ld1 h))
 | ((with_reducible apply go_ldA h); (rfl))
 | ((with_reducible apply go_ldN h))
 | ((with_reducible apply go_st h); intro _ h)
 | ((with_reducible apply go_stA h); (rfl); (rfl); (first | rfl | simp [OneV.o]); intro _ h)
 | ((with_reducible apply go_stN h); (rfl); (first | rfl | simp [OneV.o]); intro _ h)
 | ((with_reducible apply go_box h); rfl; intro _ _ h)
 | ((with_reducible apply go_rd h); (rfl))
 | ((with_reducible apply go_rdN h); (rfl))
 | ((with_reducible apply go_rlen h); (rfl))
 | ((with_reducible apply go_lenL h))
 | ((with_reducible apply go_ix h); (omega))
 | ((with_reducible apply go_elN h); (case hi => omega))
 | ((with_reducible apply go_fa h); (omega); (omega))
 | ((with_reducible apply go_f1 h); (case hi => omega); (case hx => exact inferInstance))
 | ((with_reducible apply go_rf1 h); (case hi => omega); (case hx => exact inferInstance); (case hv => rfl))
 | ((with_reducible apply go_rel h); (case hi => omega); (case hv => rfl))
))
      refine hnext_spec (cs := []) (n := 100) (next := (many : Nat) + 1) (h.front (by repeat (first | exact .here | apply Fnt.there))) ?_
      (repeat (first
 | (simp (disch := omega) only [evA, evB, bAdd_i64, bSub_i64, ptr, Nat.zero_add, Bool.not_true, Bool.not_false, Option.isNone_some, Option.isNone_none, Option.isSome_some, Option.isSome_none, decide_true, decide_false, eq_self, true_and, and_assoc])
 | ((with_reducible apply go_ld1 h))
 | ((with_reducible apply go_ldA h); (rfl))
 | ((with_reducible apply go_ldN h))
 | ((with_reducible apply go_st h); intro _ h)
 | ((with_reducible apply go_stA h); (rfl); (rfl); (first | rfl | simp [OneV.o]); intro _ h)
 | ((with_reducible apply go_stN h); (rfl); (first | rfl | simp [OneV.o]); intro _ h)
 | ((with_reducible apply go_box h); rfl; intro _ _ h)
 | ((with_reducible apply go_rd h); (rfl))
 | ((with_reducible apply go_rdN h); (rfl))
 | ((with_reducible apply go_rlen h); (rfl))
 | ((with_reducible apply go_lenL h))
 | ((with_reducible apply go_ix h); (omega))
 | ((with_reducible apply go_elN h); (case hi => omega))
 | ((with_reducible apply go_fa h); (omega); (omega))
 | ((with_reducible apply go_f1 h); (case hi => omega); (case hx => exact inferInstance))
 | ((with_reducible apply go_rf1 h); (case hi => omega); (case hx => exact inferInstance); (case hv => rfl))
 | ((with_reducible apply go_rel h); (case hi => omega); (case hv => rfl))
))
      exact hK _ (h.get (by (repeat (first | exact .done | (refine .pick (by repeat (first | exact .here | apply Fnt.there)) ?_) | refine .skip ?_))))
theorem holdOrder_spec {l tl : List Int} (hrd : Rd w0 1 s0 l.length (l.flatMap cI)) (hrt : Rd w0 1 s1 tl.length (tl.flatMap cI)) (hl : l.length ≤ 140737488351232) (ht : tl.length ≤ 140737488351232) (h : Sat w0 L w) (hK : ∀ w', Sat w0 L w' → K (.bool true) w') : callP G11 [s0, s1] w K := by
  refine c11 ?_
  unfold F11 F11_1 F11_1b
  refine anew_spec (n := 100) (by omega) (by omega) h fun p w h => ?_
  (repeat (first
 | (simp (disch := omega) only [evA, evB, bAdd_i64, bSub_i64, ptr, Nat.zero_add, Bool.not_true, Bool.not_false, Option.isNone_some, Option.isNone_none, Option.isSome_some, Option.isSome_none, decide_true, decide_false, eq_self, true_and, and_assoc])
 | (refine go_some (bEq_nilp up93 ..) ?_)
 | ((with_reducible apply go_ld1 h))
 | ((with_reducible apply go_ldA h); (rfl))
 | ((with_reducible apply go_ldN h))
 | ((with_reducible apply go_st h); intro _ h)
 | ((with_reducible apply go_stA h); (rfl); (rfl); (first | rfl | simp [OneV.o]); intro _ h)
 | ((with_reducible apply go_stN h); (rfl); (first | rfl | simp [OneV.o]); intro _ h)
 | ((with_reducible apply go_box h); rfl; intro _ _ h)
 | ((with_reducible apply go_rd h); (rfl))
 | ((with_reducible apply go_rdN h); (rfl))
 | ((with_reducible apply go_rlen h); (rfl))
 | ((with_reducible apply go_lenL h))
 | ((with_reducible apply go_ix h); (omega))
 | ((with_reducible apply go_elN h); (case hi => omega))
 | ((with_reducible apply go_fa h); (omega); (omega))
 | ((with_reducible apply go_f1 h); (case hi => omega); (case hx => exact inferInstance))
 | ((with_reducible apply go_rf1 h); (case hi => omega); (case hx => exact inferInstance); (case hv => rfl))
 | ((with_reducible apply go_rel h); (case hi => omega); (case hv => rfl))
))
  refine works21_spec h fun w h => ?_
  (repeat (first
 | (simp (disch := omega) only [evA, evB, bAdd_i64, bSub_i64, ptr, Nat.zero_add, Bool.not_true, Bool.not_false, Option.isNone_some, Option.isNone_none, Option.isSome_some, Option.isSome_none, decide_true, decide_false, eq_self, true_and, and_assoc])
 | ((with_reducible apply go_ld1 h))
 | ((with_reducible apply go_ldA h); (rfl))
 | ((with_reducible apply go_ldN h))
 | ((with_reducible apply go_st h); intro _ h)
 | ((with_reducible apply go_stA h); (rfl); (rfl); (first | rfl | simp [OneV.o]); intro _ h)
 | ((with_reducible apply go_stN h); (rfl); (first | rfl | simp [OneV.o]); intro _ h)
 | ((with_reducible apply go_box h); rfl; intro _ _ h)
 | ((with_reducible apply go_rd h); (rfl))
 | ((with_reducible apply go_rdN h); (rfl))
 | ((with_reducible apply go_rlen h); (rfl))
 | ((with_reducible apply go_lenL h))
 | ((with_reducible apply go_ix h); (omega))
 | ((with_reducible apply go_elN h); (case hi => omega))
 | ((with_reducible apply go_fa h); (omega); (omega))
 | ((with_reducible apply go_f1 h); (case hi => omega); (case hx => exact inferInstance))
 | ((with_reducible apply go_rf1 h); (case hi => omega); (case hx => exact inferInstance); (case hv => rfl))
 | ((with_reducible apply go_rel h); (case hi => omega); (case hv => rfl))
))
  unfold F11_2
  refine ord_loop1 hrd (fun cs w hc h => ?_) fuel 0 [] w (by unfold fuel; omega) (by omega) (by omega) (by simp) h
  unfold F11_3 F11_3b
  refine aall_spec h (by omega) fun sv w h => ?_
  replace h := ctxL_iff.1 h
  obtain ⟨xs, rfl, h⟩ := h
  obtain ⟨hn, m, I, M, H⟩ := holdA_inv (h.front (A := HoldA (ptr p) 100 _ _) (by repeat (first | exact .here | apply Fnt.there)))
  rw [List.length_map] at hc ⊢
  unfold F11_4
  refine ord_loop2 hrt hc (fun x hx => ?_) (fun cs w hcl h => ?_) fuel 0 (xs.map Prod.fst) w (by unfold fuel; omega) (by omega) (by omega) rfl (h.get (by (repeat (first | exact .done | (refine .pick (by repeat (first | exact .here | apply Fnt.there)) ?_) | refine .skip ?_))))
  · have := H.ok x.1 (List.mem_map.2 ⟨x, hx, rfl⟩)
    exact ⟨this.1, this.2.1⟩
  · unfold F11_5 F11_5b F11_6
    obtain ⟨hn, m, I, M, H⟩ := holdA_inv h
    refine ord_loop3 hc hK fuel 0 cs (-1) 0 w (by unfold fuel; omega) (by omega) (by omega) (fun c hcc => ?_) (by simpa using h)
    have := okC_time (H.ok c hcc).1
    unfold After; omega
end
theorem lawHoldOrder {W : World} {v : Value} {n : Nat} {cs : List Value} (rd : Rd W 1 v n cs) (hn : n ≤ 140737488351232) (ft : ∀ i, i < n → FitL2 W 140737488351232 [.int .i64] ((cs.drop (i * 1)).take 1))
    {v' : Value} {n' : Nat} {cs' : List Value} (rd' : Rd W 1 v' n' cs') (hn' : n' ≤ 140737488351232) (ft' : ∀ i, i < n' → FitL2 W 140737488351232 [.int .i64] ((cs'.drop (i * 1)).take 1)) :
    callP G11 [v, v'] W fun v w' => v = .bool true ∧ Sat W [] w' := by
  obtain ⟨l, rfl, rfl, _⟩ := fit_list2 (fun c h => fit_int1 h) n cs rd.length ft
  obtain ⟨l', rfl, rfl, _⟩ := fit_list2 (fun c h => fit_int1 h) n' cs' rd'.length ft'
  exact holdOrder_spec rd rd' hn hn' (Sat.start W) fun w' h => ⟨rfl, h⟩
end Go.Proofs.Gong
