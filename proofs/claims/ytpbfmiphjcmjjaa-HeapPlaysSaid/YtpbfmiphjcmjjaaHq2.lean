/- A part of the proofs: what stands below it, told in lemmas. No condition. -/
import Derived.Test.YtpbfmiphjcmjjaaHq1
set_option linter.all false
namespace Go.Proofs.Gong
open Go Go.Sx Go.Proofs
set_option maxRecDepth 100000
attribute [local irreducible] fBuild fLook fZero eqv bEqv Cl MapH LsH SlH ld1 ldN st callP eBox eAlloc lenM lenL eMapSet eDelete eAppend eBuildSl eRange eNext
section
variable {w0 w : World} {L : List HP} {K : Value → World → Prop} {v : Value} {n : Int} {M : List It}
theorem rset_loop {p : Nat} {sv : Value} {id t : Int} (hlen : M.length ≤ 65536) (h : Sat w0 (Cl p #[.int .i64 n, sv] 133 :: LsH cIt 2 135 sv M :: L) w)
    (hK : ∀ w', Sat w0 (RefH (ptr p) n (insM (id, t) M) :: L) w' → K (.int .i64 0) w') :
    ∀ (d i : Nat), M.length - i < d → i ≤ M.length → (∀ x ∈ M.take i, itLt x (id, t) = true) → F32_2L d (ptr p) (.int .i64 id) (.int .i64 t) (.int .i64 i) w K := by
  intro d
  induction d with
  | zero => intro i hd; omega
  | succ d ih =>
    intro i hd hi ha
    rw [F32_2L]
    unfold F32_2b
    have fin : (∀ x, M[i]? = some x → itLt x (id, t) = false) → F32_3 (ptr p) (.int .i64 id) (.int .i64 t) (.int .i64 i) w K := by
      intro hx
      obtain ⟨e1, e2⟩ := tw_at (q := fun x : It => itLt x (id, t)) ha hx
      unfold F32_3 F32_3b
      (repeat (first
 | (simp (disch := omega) only [evA, evB, bAdd_i64, bSub_i64, ptr, Nat.zero_add, Bool.not_true, Bool.not_false, Option.isNone_some, Option.isNone_none, Option.isSome_some, Option.isSome_none, decide_true, decide_false, eq_self, true_and])
 | ((with_reducible apply go_ld1 h))
 | ((with_reducible apply go_ldA h); (rfl))
 | ((with_reducible apply go_ldN h))
 | ((with_reducible apply go_st h); intro _ h)
 | ((with_reducible apply go_stA h); (rfl); (rfl); (first | rfl | simp); intro _ h)
 | ((with_reducible apply go_stN h); (rfl); (first | rfl | simp); intro _ h)
 | ((with_reducible apply go_box h); rfl; intro _ _ h)
 | ((with_reducible apply go_rd h); (rfl))
 | ((with_reducible apply go_rdN h); (rfl))
 | ((with_reducible apply go_lenL h))
 | ((with_reducible apply go_ix h); (omega))
 | ((with_reducible apply go_elN h); (case hi => omega))
 | ((with_reducible apply go_fa h); (omega); (omega))
 | ((with_reducible apply go_f1 h); (case hi => omega); (case hx => exact inferInstance))
 | ((with_reducible apply go_rf1 h); (case hi => omega); (case hx => exact inferInstance); (case hv => rfl))
 | ((with_reducible apply go_rel h); (case hi => omega); (case hv => rfl))
))
      refine go_subTo h (by omega) fun v' hr => ?_
      refine ls_app (l := []) (m := M.take i) CIt (ls_nil h) sl65 ss65 hr (by simp; omega) fun s1 w h => ?_
      (repeat (first
 | (simp (disch := omega) only [evA, evB, bAdd_i64, bSub_i64, ptr, Nat.zero_add, Bool.not_true, Bool.not_false, Option.isNone_some, Option.isNone_none, Option.isSome_some, Option.isSome_none, decide_true, decide_false, eq_self, true_and])
 | (refine go_some (fb135_0_1 ..) ?_)
 | ((with_reducible apply go_ld1 h))
 | ((with_reducible apply go_ldA h); (rfl))
 | ((with_reducible apply go_ldN h))
 | ((with_reducible apply go_st h); intro _ h)
 | ((with_reducible apply go_stA h); (rfl); (rfl); (first | rfl | simp); intro _ h)
 | ((with_reducible apply go_stN h); (rfl); (first | rfl | simp); intro _ h)
 | ((with_reducible apply go_box h); rfl; intro _ _ h)
 | ((with_reducible apply go_rd h); (rfl))
 | ((with_reducible apply go_rdN h); (rfl))
 | ((with_reducible apply go_lenL h))
 | ((with_reducible apply go_ix h); (omega))
 | ((with_reducible apply go_elN h); (case hi => omega))
 | ((with_reducible apply go_fa h); (omega); (omega))
 | ((with_reducible apply go_f1 h); (case hi => omega); (case hx => exact inferInstance))
 | ((with_reducible apply go_rf1 h); (case hi => omega); (case hx => exact inferInstance); (case hv => rfl))
 | ((with_reducible apply go_rel h); (case hi => omega); (case hv => rfl))
))
      refine go_lit1 (x := (id, t)) CIt h u65 (fbIt (id, t)) rfl fun s2 w h => ?_
      refine ls_app (l := [] ++ M.take i) (m := [(id, t)]) CIt (h.front (by repeat (first | exact .here | apply Fnt.there))) sl65 ss65 (ls_rd h) (by simp; omega) fun s3 w h => ?_
      (repeat (first
 | (simp (disch := omega) only [evA, evB, bAdd_i64, bSub_i64, ptr, Nat.zero_add, Bool.not_true, Bool.not_false, Option.isNone_some, Option.isNone_none, Option.isSome_some, Option.isSome_none, decide_true, decide_false, eq_self, true_and])
 | ((with_reducible apply go_ld1 h))
 | ((with_reducible apply go_ldA h); (rfl))
 | ((with_reducible apply go_ldN h))
 | ((with_reducible apply go_st h); intro _ h)
 | ((with_reducible apply go_stA h); (rfl); (rfl); (first | rfl | simp); intro _ h)
 | ((with_reducible apply go_stN h); (rfl); (first | rfl | simp); intro _ h)
 | ((with_reducible apply go_box h); rfl; intro _ _ h)
 | ((with_reducible apply go_rd h); (rfl))
 | ((with_reducible apply go_rdN h); (rfl))
 | ((with_reducible apply go_lenL h))
 | ((with_reducible apply go_ix h); (omega))
 | ((with_reducible apply go_elN h); (case hi => omega))
 | ((with_reducible apply go_fa h); (omega); (omega))
 | ((with_reducible apply go_f1 h); (case hi => omega); (case hx => exact inferInstance))
 | ((with_reducible apply go_rf1 h); (case hi => omega); (case hx => exact inferInstance); (case hv => rfl))
 | ((with_reducible apply go_rel h); (case hi => omega); (case hv => rfl))
))
      refine go_subFrom h (by omega) fun v' hr => ?_
      refine ls_app (l := [] ++ M.take i ++ [(id, t)]) (m := M.drop i) CIt (h.front (by repeat (first | exact .here | apply Fnt.there))) sl65 ss65 hr (by simp; omega) fun s4 w h => ?_
      have := ls_one h
      (repeat (first
 | (simp (disch := omega) only [evA, evB, bAdd_i64, bSub_i64, ptr, Nat.zero_add, Bool.not_true, Bool.not_false, Option.isNone_some, Option.isNone_none, Option.isSome_some, Option.isSome_none, decide_true, decide_false, eq_self, true_and])
 | ((with_reducible apply go_ld1 h))
 | ((with_reducible apply go_ldA h); (rfl))
 | ((with_reducible apply go_ldN h))
 | ((with_reducible apply go_st h); intro _ h)
 | ((with_reducible apply go_stA h); (rfl); (rfl); (first | rfl | simp); intro _ h)
 | ((with_reducible apply go_stN h); (rfl); (first | rfl | simp); intro _ h)
 | ((with_reducible apply go_box h); rfl; intro _ _ h)
 | ((with_reducible apply go_rd h); (rfl))
 | ((with_reducible apply go_rdN h); (rfl))
 | ((with_reducible apply go_lenL h))
 | ((with_reducible apply go_ix h); (omega))
 | ((with_reducible apply go_elN h); (case hi => omega))
 | ((with_reducible apply go_fa h); (omega); (omega))
 | ((with_reducible apply go_f1 h); (case hi => omega); (case hx => exact inferInstance))
 | ((with_reducible apply go_rf1 h); (case hi => omega); (case hx => exact inferInstance); (case hv => rfl))
 | ((with_reducible apply go_rel h); (case hi => omega); (case hv => rfl))
))
      refine hK _ (ref_iff.2 ⟨p, s4, rfl, ?_⟩)
      have e3 : insM (id, t) M = [] ++ M.take i ++ [(id, t)] ++ M.drop i := by unfold insM; rw [e1, e2]; simp
      rw [e3]
      exact h.get (by (repeat (first | exact .done | (refine .pick (by repeat (first | exact .here | apply Fnt.there)) ?_) | refine .skip ?_)))
    by_cases g : i < M.length
    · have g' : decide ((i : Int) < (M.length : Int)) = true := by simpa using g
      have key : ∀ b : Bool, itLt M[i] (id, t) = b → (b = true → F32_2L d (ptr p) (.int .i64 id) (.int .i64 t) (.int .i64 ((i : Int) + 1)) w K) := by
        intro b hb hb2
        subst hb2
        refine ih (i + 1) (by omega) (by omega) fun x hx => ?_
        rw [List.take_succ_eq_append_getElem g] at hx
        rcases List.mem_append.1 hx with hx | hx
        · exact ha x hx
        · simp at hx; subst hx; exact hb
      have key2 : itLt M[i] (id, t) = false → F32_3 (ptr p) (.int .i64 id) (.int .i64 t) (.int .i64 i) w K := by
        intro e'
        refine fin fun x hx => ?_
        rw [List.getElem?_eq_getElem g] at hx
        cases hx; exact e'
      have hlt : itLt M[i] (id, t) = (decide (M[i].2 < t) || (decide (M[i].2 = t) && decide (M[i].1 < id))) := rfl
      cases e1 : decide (M[i].2 < t)
      · cases e2 : decide (M[i].2 = t)
        · rw [e1, e2] at hlt
          (repeat (first
 | (simp (disch := omega) only [evA, evB, bAdd_i64, bSub_i64, ptr, Nat.zero_add, Bool.not_true, Bool.not_false, Option.isNone_some, Option.isNone_none, Option.isSome_some, Option.isSome_none, decide_true, decide_false, eq_self, true_and, g', e1, e2])
 | ((with_reducible apply go_ld1 h))
 | ((with_reducible apply go_ldA h); (rfl))
 | ((with_reducible apply go_ldN h))
 | ((with_reducible apply go_st h); intro _ h)
 | ((with_reducible apply go_stA h); (rfl); (rfl); (first | rfl | simp); intro _ h)
 | ((with_reducible apply go_stN h); (rfl); (first | rfl | simp); intro _ h)
 | ((with_reducible apply go_box h); rfl; intro _ _ h)
 | ((with_reducible apply go_rd h); (rfl))
 | ((with_reducible apply go_rdN h); (rfl))
 | ((with_reducible apply go_lenL h))
 | ((with_reducible apply go_ix h); (omega))
 | ((with_reducible apply go_elN h); (case hi => omega))
 | ((with_reducible apply go_fa h); (omega); (omega))
 | ((with_reducible apply go_f1 h); (case hi => omega); (case hx => exact inferInstance))
 | ((with_reducible apply go_rf1 h); (case hi => omega); (case hx => exact inferInstance); (case hv => rfl))
 | ((with_reducible apply go_rel h); (case hi => omega); (case hv => rfl))
))
          exact key2 hlt
        · cases e3 : decide (M[i].1 < id)
          · rw [e1, e2, e3] at hlt
            (repeat (first
 | (simp (disch := omega) only [evA, evB, bAdd_i64, bSub_i64, ptr, Nat.zero_add, Bool.not_true, Bool.not_false, Option.isNone_some, Option.isNone_none, Option.isSome_some, Option.isSome_none, decide_true, decide_false, eq_self, true_and, g', e1, e2, e3])
 | ((with_reducible apply go_ld1 h))
 | ((with_reducible apply go_ldA h); (rfl))
 | ((with_reducible apply go_ldN h))
 | ((with_reducible apply go_st h); intro _ h)
 | ((with_reducible apply go_stA h); (rfl); (rfl); (first | rfl | simp); intro _ h)
 | ((with_reducible apply go_stN h); (rfl); (first | rfl | simp); intro _ h)
 | ((with_reducible apply go_box h); rfl; intro _ _ h)
 | ((with_reducible apply go_rd h); (rfl))
 | ((with_reducible apply go_rdN h); (rfl))
 | ((with_reducible apply go_lenL h))
 | ((with_reducible apply go_ix h); (omega))
 | ((with_reducible apply go_elN h); (case hi => omega))
 | ((with_reducible apply go_fa h); (omega); (omega))
 | ((with_reducible apply go_f1 h); (case hi => omega); (case hx => exact inferInstance))
 | ((with_reducible apply go_rf1 h); (case hi => omega); (case hx => exact inferInstance); (case hv => rfl))
 | ((with_reducible apply go_rel h); (case hi => omega); (case hv => rfl))
))
            exact key2 hlt
          · rw [e1, e2, e3] at hlt
            (repeat (first
 | (simp (disch := omega) only [evA, evB, bAdd_i64, bSub_i64, ptr, Nat.zero_add, Bool.not_true, Bool.not_false, Option.isNone_some, Option.isNone_none, Option.isSome_some, Option.isSome_none, decide_true, decide_false, eq_self, true_and, g', e1, e2, e3])
 | ((with_reducible apply go_ld1 h))
 | ((with_reducible apply go_ldA h); (rfl))
 | ((with_reducible apply go_ldN h))
 | ((with_reducible apply go_st h); intro _ h)
 | ((with_reducible apply go_stA h); (rfl); (rfl); (first | rfl | simp); intro _ h)
 | ((with_reducible apply go_stN h); (rfl); (first | rfl | simp); intro _ h)
 | ((with_reducible apply go_box h); rfl; intro _ _ h)
 | ((with_reducible apply go_rd h); (rfl))
 | ((with_reducible apply go_rdN h); (rfl))
 | ((with_reducible apply go_lenL h))
 | ((with_reducible apply go_ix h); (omega))
 | ((with_reducible apply go_elN h); (case hi => omega))
 | ((with_reducible apply go_fa h); (omega); (omega))
 | ((with_reducible apply go_f1 h); (case hi => omega); (case hx => exact inferInstance))
 | ((with_reducible apply go_rf1 h); (case hi => omega); (case hx => exact inferInstance); (case hv => rfl))
 | ((with_reducible apply go_rel h); (case hi => omega); (case hv => rfl))
))
            exact key _ hlt rfl
      · rw [e1] at hlt
        (repeat (first
 | (simp (disch := omega) only [evA, evB, bAdd_i64, bSub_i64, ptr, Nat.zero_add, Bool.not_true, Bool.not_false, Option.isNone_some, Option.isNone_none, Option.isSome_some, Option.isSome_none, decide_true, decide_false, eq_self, true_and, g', e1])
 | ((with_reducible apply go_ld1 h))
 | ((with_reducible apply go_ldA h); (rfl))
 | ((with_reducible apply go_ldN h))
 | ((with_reducible apply go_st h); intro _ h)
 | ((with_reducible apply go_stA h); (rfl); (rfl); (first | rfl | simp); intro _ h)
 | ((with_reducible apply go_stN h); (rfl); (first | rfl | simp); intro _ h)
 | ((with_reducible apply go_box h); rfl; intro _ _ h)
 | ((with_reducible apply go_rd h); (rfl))
 | ((with_reducible apply go_rdN h); (rfl))
 | ((with_reducible apply go_lenL h))
 | ((with_reducible apply go_ix h); (omega))
 | ((with_reducible apply go_elN h); (case hi => omega))
 | ((with_reducible apply go_fa h); (omega); (omega))
 | ((with_reducible apply go_f1 h); (case hi => omega); (case hx => exact inferInstance))
 | ((with_reducible apply go_rf1 h); (case hi => omega); (case hx => exact inferInstance); (case hv => rfl))
 | ((with_reducible apply go_rel h); (case hi => omega); (case hv => rfl))
))
        exact key _ hlt (by simp)
    · have g' : decide ((i : Int) < (M.length : Int)) = false := by simpa using g
      (repeat (first
 | (simp (disch := omega) only [evA, evB, bAdd_i64, bSub_i64, ptr, Nat.zero_add, Bool.not_true, Bool.not_false, Option.isNone_some, Option.isNone_none, Option.isSome_some, Option.isSome_none, decide_true, decide_false, eq_self, true_and, g'])
 | ((with_reducible apply go_ld1 h))
 | ((with_reducible apply go_ldA h); (rfl))
 | ((with_reducible apply go_ldN h))
 | ((with_reducible apply go_st h); intro _ h)
 | ((with_reducible apply go_stA h); (rfl); (rfl); (first | rfl | simp); intro _ h)
 | ((with_reducible apply go_stN h); (rfl); (first | rfl | simp); intro _ h)
 | ((with_reducible apply go_box h); rfl; intro _ _ h)
 | ((with_reducible apply go_rd h); (rfl))
 | ((with_reducible apply go_rdN h); (rfl))
 | ((with_reducible apply go_lenL h))
 | ((with_reducible apply go_ix h); (omega))
 | ((with_reducible apply go_elN h); (case hi => omega))
 | ((with_reducible apply go_fa h); (omega); (omega))
 | ((with_reducible apply go_f1 h); (case hi => omega); (case hx => exact inferInstance))
 | ((with_reducible apply go_rf1 h); (case hi => omega); (case hx => exact inferInstance); (case hv => rfl))
 | ((with_reducible apply go_rel h); (case hi => omega); (case hv => rfl))
))
      refine fin fun x hx => ?_
      rw [List.getElem?_eq_none (by omega)] at hx; cases hx
theorem rset_spec {id t : Int} (hlen : M.length ≤ 65536) (h : Sat w0 (RefH v n M :: L) w) (hK : ∀ w', Sat w0 (RefH v n (setR n id t M).2 :: L) w' → K (.int .i64 (setR n id t M).1) w') : callP G32 [v, .int .i64 id, .int .i64 t] w K := by
  refine c32 ?_
  unfold F32 F32_1 F32_1b
  unfold setR at hK
  by_cases g1 : t < 0 ∨ 2305843009213693952 < t
  · rw [if_pos g1] at hK
    by_cases g2 : t < 0
    · have g2' : decide (t < 0) = true := by simpa using g2
      (repeat (first
 | (simp (disch := omega) only [evA, evB, bAdd_i64, bSub_i64, ptr, Nat.zero_add, Bool.not_true, Bool.not_false, Option.isNone_some, Option.isNone_none, Option.isSome_some, Option.isSome_none, decide_true, decide_false, eq_self, true_and, g2'])
 | ((with_reducible apply go_ld1 h))
 | ((with_reducible apply go_ldA h); (rfl))
 | ((with_reducible apply go_ldN h))
 | ((with_reducible apply go_st h); intro _ h)
 | ((with_reducible apply go_stA h); (rfl); (rfl); (first | rfl | simp); intro _ h)
 | ((with_reducible apply go_stN h); (rfl); (first | rfl | simp); intro _ h)
 | ((with_reducible apply go_box h); rfl; intro _ _ h)
 | ((with_reducible apply go_rd h); (rfl))
 | ((with_reducible apply go_rdN h); (rfl))
 | ((with_reducible apply go_lenL h))
 | ((with_reducible apply go_ix h); (omega))
 | ((with_reducible apply go_elN h); (case hi => omega))
 | ((with_reducible apply go_fa h); (omega); (omega))
 | ((with_reducible apply go_f1 h); (case hi => omega); (case hx => exact inferInstance))
 | ((with_reducible apply go_rf1 h); (case hi => omega); (case hx => exact inferInstance); (case hv => rfl))
 | ((with_reducible apply go_rel h); (case hi => omega); (case hv => rfl))
))
      exact hK _ h
    · have g2' : decide (t < 0) = false := by simpa using g2
      have g3' : decide (t > 2305843009213693952) = true := by simp; omega
      (repeat (first
 | (simp (disch := omega) only [evA, evB, bAdd_i64, bSub_i64, ptr, Nat.zero_add, Bool.not_true, Bool.not_false, Option.isNone_some, Option.isNone_none, Option.isSome_some, Option.isSome_none, decide_true, decide_false, eq_self, true_and, g2', g3'])
 | ((with_reducible apply go_ld1 h))
 | ((with_reducible apply go_ldA h); (rfl))
 | ((with_reducible apply go_ldN h))
 | ((with_reducible apply go_st h); intro _ h)
 | ((with_reducible apply go_stA h); (rfl); (rfl); (first | rfl | simp); intro _ h)
 | ((with_reducible apply go_stN h); (rfl); (first | rfl | simp); intro _ h)
 | ((with_reducible apply go_box h); rfl; intro _ _ h)
 | ((with_reducible apply go_rd h); (rfl))
 | ((with_reducible apply go_rdN h); (rfl))
 | ((with_reducible apply go_lenL h))
 | ((with_reducible apply go_ix h); (omega))
 | ((with_reducible apply go_elN h); (case hi => omega))
 | ((with_reducible apply go_fa h); (omega); (omega))
 | ((with_reducible apply go_f1 h); (case hi => omega); (case hx => exact inferInstance))
 | ((with_reducible apply go_rf1 h); (case hi => omega); (case hx => exact inferInstance); (case hv => rfl))
 | ((with_reducible apply go_rel h); (case hi => omega); (case hv => rfl))
))
      exact hK _ h
  · rw [if_neg g1] at hK
    have g2' : decide (t < 0) = false := by simp; omega
    have g3' : decide (t > 2305843009213693952) = false := by simp; omega
    (repeat (first
 | (simp (disch := omega) only [evA, evB, bAdd_i64, bSub_i64, ptr, Nat.zero_add, Bool.not_true, Bool.not_false, Option.isNone_some, Option.isNone_none, Option.isSome_some, Option.isSome_none, decide_true, decide_false, eq_self, true_and, g2', g3'])
 | ((with_reducible apply go_ld1 h))
 | ((with_reducible apply go_ldA h); (rfl))
 | ((with_reducible apply go_ldN h))
 | ((with_reducible apply go_st h); intro _ h)
 | ((with_reducible apply go_stA h); (rfl); (rfl); (first | rfl | simp); intro _ h)
 | ((with_reducible apply go_stN h); (rfl); (first | rfl | simp); intro _ h)
 | ((with_reducible apply go_box h); rfl; intro _ _ h)
 | ((with_reducible apply go_rd h); (rfl))
 | ((with_reducible apply go_rdN h); (rfl))
 | ((with_reducible apply go_lenL h))
 | ((with_reducible apply go_ix h); (omega))
 | ((with_reducible apply go_elN h); (case hi => omega))
 | ((with_reducible apply go_fa h); (omega); (omega))
 | ((with_reducible apply go_f1 h); (case hi => omega); (case hx => exact inferInstance))
 | ((with_reducible apply go_rf1 h); (case hi => omega); (case hx => exact inferInstance); (case hv => rfl))
 | ((with_reducible apply go_rel h); (case hi => omega); (case hv => rfl))
))
    refine rget_spec hlen h ?_
    have hp : ∃ p, v = ptr p := by
      obtain ⟨p, sv, hv, _⟩ := ref_iff.1 h; exact ⟨p, hv⟩
    obtain ⟨p, rfl⟩ := hp
    unfold getR
    by_cases g4 : getM id M = none ∧ n ≤ M.length
    · rw [if_pos g4] at hK
      have g5 : decide ((M.length : Int) ≥ n) = true := by simp [g4.2]
      have h' := hK _ h.drew
      replace h := ref_iff.1 h
      obtain ⟨q, sv, hv, h⟩ := h
      cases hv
      rw [g4.1]
      (repeat (first
 | (simp (disch := omega) only [evA, evB, bAdd_i64, bSub_i64, ptr, Nat.zero_add, Bool.not_true, Bool.not_false, Option.isNone_some, Option.isNone_none, Option.isSome_some, Option.isSome_none, decide_true, decide_false, eq_self, true_and, g5])
 | ((with_reducible apply go_ld1 h))
 | ((with_reducible apply go_ldA h); (rfl))
 | ((with_reducible apply go_ldN h))
 | ((with_reducible apply go_st h); intro _ h)
 | ((with_reducible apply go_stA h); (rfl); (rfl); (first | rfl | simp); intro _ h)
 | ((with_reducible apply go_stN h); (rfl); (first | rfl | simp); intro _ h)
 | ((with_reducible apply go_box h); rfl; intro _ _ h)
 | ((with_reducible apply go_rd h); (rfl))
 | ((with_reducible apply go_rdN h); (rfl))
 | ((with_reducible apply go_lenL h))
 | ((with_reducible apply go_ix h); (omega))
 | ((with_reducible apply go_elN h); (case hi => omega))
 | ((with_reducible apply go_fa h); (omega); (omega))
 | ((with_reducible apply go_f1 h); (case hi => omega); (case hx => exact inferInstance))
 | ((with_reducible apply go_rf1 h); (case hi => omega); (case hx => exact inferInstance); (case hv => rfl))
 | ((with_reducible apply go_rel h); (case hi => omega); (case hv => rfl))
))
      exact h'
    · rw [if_neg g4] at hK
      have fin : callP G33 [ptr p, .int .i64 id] w.drew fun _ w83 => F32_2 (ptr p) (.int .i64 id) (.int .i64 t) (.int .i64 0) w83 K := by
        refine rdrop_spec hlen h.drew fun w h => ?_
        replace h := ref_iff.1 h
        obtain ⟨q, sv, hv, h⟩ := h
        cases hv
        have hl : (dropM id M).length ≤ M.length := List.length_filter_le _ _
        exact rset_loop (by omega) h hK fuel 0 (by unfold fuel; omega) (by omega) (by simp)
      replace h := ref_iff.1 h
      obtain ⟨q, sv, hv, h⟩ := h
      cases hv
      cases g6 : getM id M with
      | none =>
        have g5 : decide ((M.length : Int) ≥ n) = false := by
          simp only [g6, true_and] at g4
          simp; omega
        (repeat (first
 | (simp (disch := omega) only [evA, evB, bAdd_i64, bSub_i64, ptr, Nat.zero_add, Bool.not_true, Bool.not_false, Option.isNone_some, Option.isNone_none, Option.isSome_some, Option.isSome_none, decide_true, decide_false, eq_self, true_and, g5])
 | ((with_reducible apply go_ld1 h))
 | ((with_reducible apply go_ldA h); (rfl))
 | ((with_reducible apply go_ldN h))
 | ((with_reducible apply go_st h); intro _ h)
 | ((with_reducible apply go_stA h); (rfl); (rfl); (first | rfl | simp); intro _ h)
 | ((with_reducible apply go_stN h); (rfl); (first | rfl | simp); intro _ h)
 | ((with_reducible apply go_box h); rfl; intro _ _ h)
 | ((with_reducible apply go_rd h); (rfl))
 | ((with_reducible apply go_rdN h); (rfl))
 | ((with_reducible apply go_lenL h))
 | ((with_reducible apply go_ix h); (omega))
 | ((with_reducible apply go_elN h); (case hi => omega))
 | ((with_reducible apply go_fa h); (omega); (omega))
 | ((with_reducible apply go_f1 h); (case hi => omega); (case hx => exact inferInstance))
 | ((with_reducible apply go_rf1 h); (case hi => omega); (case hx => exact inferInstance); (case hv => rfl))
 | ((with_reducible apply go_rel h); (case hi => omega); (case hv => rfl))
))
        exact fin
      | some x =>
        (repeat (first
 | (simp (disch := omega) only [evA, evB, bAdd_i64, bSub_i64, ptr, Nat.zero_add, Bool.not_true, Bool.not_false, Option.isNone_some, Option.isNone_none, Option.isSome_some, Option.isSome_none, decide_true, decide_false, eq_self, true_and])
 | ((with_reducible apply go_ld1 h))
 | ((with_reducible apply go_ldA h); (rfl))
 | ((with_reducible apply go_ldN h))
 | ((with_reducible apply go_st h); intro _ h)
 | ((with_reducible apply go_stA h); (rfl); (rfl); (first | rfl | simp); intro _ h)
 | ((with_reducible apply go_stN h); (rfl); (first | rfl | simp); intro _ h)
 | ((with_reducible apply go_box h); rfl; intro _ _ h)
 | ((with_reducible apply go_rd h); (rfl))
 | ((with_reducible apply go_rdN h); (rfl))
 | ((with_reducible apply go_lenL h))
 | ((with_reducible apply go_ix h); (omega))
 | ((with_reducible apply go_elN h); (case hi => omega))
 | ((with_reducible apply go_fa h); (omega); (omega))
 | ((with_reducible apply go_f1 h); (case hi => omega); (case hx => exact inferInstance))
 | ((with_reducible apply go_rf1 h); (case hi => omega); (case hx => exact inferInstance); (case hv => rfl))
 | ((with_reducible apply go_rel h); (case hi => omega); (case hv => rfl))
))
        exact fin
/-- what is read of a deadline in a slice -/
theorem it_at {s : Value} {l : List It} {i : Nat} (h : Rd w 2 s l.length (l.flatMap cIt)) (hi : i < l.length) :
    pIndexL 2 s (.int .i64 i) = some (elP 2 s i) ∧ pFieldAddr 0 (elP 2 s i) = some (elF 2 s i 0) ∧ pFieldAddr 1 (elP 2 s i) = some (elF 2 s i 1) ∧ ld1 (elF 2 s i 0) w = some (.int .i64 l[i].1) ∧ ld1 (elF 2 s i 1) w = some (.int .i64 l[i].2) ∧ ldN 2 (elP 2 s i) w = some (.agg (cIt l[i]).toArray) :=
  ⟨ix_el h hi, rd_fa CIt h hi (by omega), rd_fa CIt h hi (by omega), rd_f1 CIt h hi inferInstance, rd_f1 CIt h hi inferInstance, rd_ld CIt h hi⟩
theorem items_loop {s0 s1 : Value} {l m : List It} (hl : l.length ≤ 65536) (hlm : l.length = m.length) (hK : ∀ w', Sat w0 L w' → K (.bool (decide (l = m))) w') : ∀ (d i : Nat) (w : World), l.length - i < d → i ≤ l.length → l.take i = m.take i →
    Rd w 2 s0 l.length (l.flatMap cIt) → Rd w 2 s1 m.length (m.flatMap cIt) → Sat w0 L w → F34_2L d s0 s1 (.int .i64 i) w K := by
  intro d
  induction d with
  | zero => intro i w hd; omega
  | succ d ih =>
    intro i w hd hi ht ha hb h
    rw [F34_2L]
    unfold F34_2b F34_3 F34_3b
    by_cases g : i < l.length
    · have g' : decide ((i : Int) < (l.length : Int)) = true := by simpa using g
      have g2 : i < m.length := by omega
      have ne : l[i] ≠ m[i] → decide (l = m) = false := by
        intro e
        simp only [decide_eq_false_iff_not]
        intro e2; subst e2; exact e rfl
      by_cases e1 : l[i].1 = m[i].1
      · have e1' : decide (l[i].1 = m[i].1) = true := by simpa using e1
        by_cases e2 : l[i].2 = m[i].2
        · have e2' : decide (l[i].2 = m[i].2) = true := by simpa using e2
          (repeat (first
 | (simp (disch := omega) only [evA, evB, bAdd_i64, bSub_i64, ptr, Nat.zero_add, Bool.not_true, Bool.not_false, Option.isNone_some, Option.isNone_none, Option.isSome_some, Option.isSome_none, decide_true, decide_false, eq_self, true_and, ha.len, g', (it_at ha g), (it_at hb g2), e1', e2'])
 | ((with_reducible apply go_ld1 h))
 | ((with_reducible apply go_ldA h); (rfl))
 | ((with_reducible apply go_ldN h))
 | ((with_reducible apply go_st h); intro _ h)
 | ((with_reducible apply go_stA h); (rfl); (rfl); (first | rfl | simp); intro _ h)
 | ((with_reducible apply go_stN h); (rfl); (first | rfl | simp); intro _ h)
 | ((with_reducible apply go_box h); rfl; intro _ _ h)
 | ((with_reducible apply go_rd h); (rfl))
 | ((with_reducible apply go_rdN h); (rfl))
 | ((with_reducible apply go_lenL h))
 | ((with_reducible apply go_ix h); (omega))
 | ((with_reducible apply go_elN h); (case hi => omega))
 | ((with_reducible apply go_fa h); (omega); (omega))
 | ((with_reducible apply go_f1 h); (case hi => omega); (case hx => exact inferInstance))
 | ((with_reducible apply go_rf1 h); (case hi => omega); (case hx => exact inferInstance); (case hv => rfl))
 | ((with_reducible apply go_rel h); (case hi => omega); (case hv => rfl))
))
          refine ih (i + 1) _ (by omega) (by omega) ?_ (ha.to (.drew _)) (hb.to (.drew _)) h.drew
          rw [List.take_succ_eq_append_getElem g, List.take_succ_eq_append_getElem g2, ht, Prod.ext e1 e2]
        · have e2' : decide (l[i].2 = m[i].2) = false := by simpa using e2
          (repeat (first
 | (simp (disch := omega) only [evA, evB, bAdd_i64, bSub_i64, ptr, Nat.zero_add, Bool.not_true, Bool.not_false, Option.isNone_some, Option.isNone_none, Option.isSome_some, Option.isSome_none, decide_true, decide_false, eq_self, true_and, ha.len, g', (it_at ha g), (it_at hb g2), e1', e2'])
 | ((with_reducible apply go_ld1 h))
 | ((with_reducible apply go_ldA h); (rfl))
 | ((with_reducible apply go_ldN h))
 | ((with_reducible apply go_st h); intro _ h)
 | ((with_reducible apply go_stA h); (rfl); (rfl); (first | rfl | simp); intro _ h)
 | ((with_reducible apply go_stN h); (rfl); (first | rfl | simp); intro _ h)
 | ((with_reducible apply go_box h); rfl; intro _ _ h)
 | ((with_reducible apply go_rd h); (rfl))
 | ((with_reducible apply go_rdN h); (rfl))
 | ((with_reducible apply go_lenL h))
 | ((with_reducible apply go_ix h); (omega))
 | ((with_reducible apply go_elN h); (case hi => omega))
 | ((with_reducible apply go_fa h); (omega); (omega))
 | ((with_reducible apply go_f1 h); (case hi => omega); (case hx => exact inferInstance))
 | ((with_reducible apply go_rf1 h); (case hi => omega); (case hx => exact inferInstance); (case hv => rfl))
 | ((with_reducible apply go_rel h); (case hi => omega); (case hv => rfl))
))
          have := hK _ h.drew
          rw [ne (fun e => e2 (by rw [e]))] at this
          exact this
      · have e1' : decide (l[i].1 = m[i].1) = false := by simpa using e1
        (repeat (first
 | (simp (disch := omega) only [evA, evB, bAdd_i64, bSub_i64, ptr, Nat.zero_add, Bool.not_true, Bool.not_false, Option.isNone_some, Option.isNone_none, Option.isSome_some, Option.isSome_none, decide_true, decide_false, eq_self, true_and, ha.len, g', (it_at ha g), (it_at hb g2), e1'])
 | ((with_reducible apply go_ld1 h))
 | ((with_reducible apply go_ldA h); (rfl))
 | ((with_reducible apply go_ldN h))
 | ((with_reducible apply go_st h); intro _ h)
 | ((with_reducible apply go_stA h); (rfl); (rfl); (first | rfl | simp); intro _ h)
 | ((with_reducible apply go_stN h); (rfl); (first | rfl | simp); intro _ h)
 | ((with_reducible apply go_box h); rfl; intro _ _ h)
 | ((with_reducible apply go_rd h); (rfl))
 | ((with_reducible apply go_rdN h); (rfl))
 | ((with_reducible apply go_lenL h))
 | ((with_reducible apply go_ix h); (omega))
 | ((with_reducible apply go_elN h); (case hi => omega))
 | ((with_reducible apply go_fa h); (omega); (omega))
 | ((with_reducible apply go_f1 h); (case hi => omega); (case hx => exact inferInstance))
 | ((with_reducible apply go_rf1 h); (case hi => omega); (case hx => exact inferInstance); (case hv => rfl))
 | ((with_reducible apply go_rel h); (case hi => omega); (case hv => rfl))
))
        have := hK _ h.drew
        rw [ne (fun e => e1 (by rw [e]))] at this
        exact this
    · have g' : decide ((i : Int) < (l.length : Int)) = false := by simpa using g
      (repeat (first
 | (simp (disch := omega) only [evA, evB, bAdd_i64, bSub_i64, ptr, Nat.zero_add, Bool.not_true, Bool.not_false, Option.isNone_some, Option.isNone_none, Option.isSome_some, Option.isSome_none, decide_true, decide_false, eq_self, true_and, ha.len, g'])
 | ((with_reducible apply go_ld1 h))
 | ((with_reducible apply go_ldA h); (rfl))
 | ((with_reducible apply go_ldN h))
 | ((with_reducible apply go_st h); intro _ h)
 | ((with_reducible apply go_stA h); (rfl); (rfl); (first | rfl | simp); intro _ h)
 | ((with_reducible apply go_stN h); (rfl); (first | rfl | simp); intro _ h)
 | ((with_reducible apply go_box h); rfl; intro _ _ h)
 | ((with_reducible apply go_rd h); (rfl))
 | ((with_reducible apply go_rdN h); (rfl))
 | ((with_reducible apply go_lenL h))
 | ((with_reducible apply go_ix h); (omega))
 | ((with_reducible apply go_elN h); (case hi => omega))
 | ((with_reducible apply go_fa h); (omega); (omega))
 | ((with_reducible apply go_f1 h); (case hi => omega); (case hx => exact inferInstance))
 | ((with_reducible apply go_rf1 h); (case hi => omega); (case hx => exact inferInstance); (case hv => rfl))
 | ((with_reducible apply go_rel h); (case hi => omega); (case hv => rfl))
))
      have := hK _ h
      rw [List.take_of_length_le (by omega), List.take_of_length_le (by omega)] at ht
      rw [decide_eq_true ht] at this
      exact this
theorem items_spec {s0 s1 : Value} {l m : List It} (hl : l.length ≤ 65536) (ha : Rd w 2 s0 l.length (l.flatMap cIt)) (hb : Rd w 2 s1 m.length (m.flatMap cIt)) (h : Sat w0 L w) (hK : ∀ w', Sat w0 L w' → K (.bool (decide (l = m))) w') : callP G34 [s0, s1] w K := by
  refine c34 ?_
  unfold F34 F34_1 F34_1b F34_2
  by_cases g : l.length = m.length
  · have g' : decide ((l.length : Int) = (m.length : Int)) = true := by simp; omega
    (repeat (first
 | (simp (disch := omega) only [evA, evB, bAdd_i64, bSub_i64, ptr, Nat.zero_add, Bool.not_true, Bool.not_false, Option.isNone_some, Option.isNone_none, Option.isSome_some, Option.isSome_none, decide_true, decide_false, eq_self, true_and, ha.len, hb.len, g'])
 | ((with_reducible apply go_ld1 h))
 | ((with_reducible apply go_ldA h); (rfl))
 | ((with_reducible apply go_ldN h))
 | ((with_reducible apply go_st h); intro _ h)
 | ((with_reducible apply go_stA h); (rfl); (rfl); (first | rfl | simp); intro _ h)
 | ((with_reducible apply go_stN h); (rfl); (first | rfl | simp); intro _ h)
 | ((with_reducible apply go_box h); rfl; intro _ _ h)
 | ((with_reducible apply go_rd h); (rfl))
 | ((with_reducible apply go_rdN h); (rfl))
 | ((with_reducible apply go_lenL h))
 | ((with_reducible apply go_ix h); (omega))
 | ((with_reducible apply go_elN h); (case hi => omega))
 | ((with_reducible apply go_fa h); (omega); (omega))
 | ((with_reducible apply go_f1 h); (case hi => omega); (case hx => exact inferInstance))
 | ((with_reducible apply go_rf1 h); (case hi => omega); (case hx => exact inferInstance); (case hv => rfl))
 | ((with_reducible apply go_rel h); (case hi => omega); (case hv => rfl))
))
    exact items_loop hl g hK fuel 0 w (by unfold fuel; omega) (by omega) rfl ha hb h
  · have g' : decide ((l.length : Int) = (m.length : Int)) = false := by simp; omega
    (repeat (first
 | (simp (disch := omega) only [evA, evB, bAdd_i64, bSub_i64, ptr, Nat.zero_add, Bool.not_true, Bool.not_false, Option.isNone_some, Option.isNone_none, Option.isSome_some, Option.isSome_none, decide_true, decide_false, eq_self, true_and, ha.len, hb.len, g'])
 | ((with_reducible apply go_ld1 h))
 | ((with_reducible apply go_ldA h); (rfl))
 | ((with_reducible apply go_ldN h))
 | ((with_reducible apply go_st h); intro _ h)
 | ((with_reducible apply go_stA h); (rfl); (rfl); (first | rfl | simp); intro _ h)
 | ((with_reducible apply go_stN h); (rfl); (first | rfl | simp); intro _ h)
 | ((with_reducible apply go_box h); rfl; intro _ _ h)
 | ((with_reducible apply go_rd h); (rfl))
 | ((with_reducible apply go_rdN h); (rfl))
 | ((with_reducible apply go_lenL h))
 | ((with_reducible apply go_ix h); (omega))
 | ((with_reducible apply go_elN h); (case hi => omega))
 | ((with_reducible apply go_fa h); (omega); (omega))
 | ((with_reducible apply go_f1 h); (case hi => omega); (case hx => exact inferInstance))
 | ((with_reducible apply go_rf1 h); (case hi => omega); (case hx => exact inferInstance); (case hv => rfl))
 | ((with_reducible apply go_rel h); (case hi => omega); (case hv => rfl))
))
    have := hK _ h
    rw [decide_eq_false (fun e => g (by rw [e]))] at this
    exact this
end
end Go.Proofs.Gong
