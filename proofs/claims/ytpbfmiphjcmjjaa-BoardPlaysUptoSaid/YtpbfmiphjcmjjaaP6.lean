/- A part of the proofs: what stands below it, told in lemmas. No condition. -/
import Derived.Test.YtpbfmiphjcmjjaaP5
set_option linter.all false

/- Bp1 -/
namespace Go.Proofs.Gong
open Go Go.Sx Go.Proofs
set_option maxRecDepth 100000
attribute [local irreducible] fBuild fLook fZero eqv bEqv Cl MapH LsH SlH ld1 ldN st callP eBox eAlloc lenM lenL eMapSet eDelete eAppend eBuildSl eRange eNext
section
variable {w0 w : World} {L : List HP} {K : Value → World → Prop} {v : Value} {n next : Int} {rs : List Row} {r : Row} {R : List (Int × Row)} {I : List (Sg × Int)}
theorem refB_ptr (h : Sat w0 (RefB v n next rs :: L) w) : ∃ p, v = ptr p := by
  obtain ⟨p, s, hv, _⟩ := refB_iff.1 h; exact ⟨p, hv⟩
theorem refB_at {p : Nat} (h : Sat w0 (RefB (ptr p) n next rs :: L) w) : ∃ s, Sat w0 (Cl p #[.int .i64 n, .int .i64 next, s] 149 :: LsH cRow 11 33 s rs :: L) w := by
  obtain ⟨q, s, hv, h⟩ := refB_iff.1 h; cases hv; exact ⟨s, h⟩
theorem tally_of (H : BInv n next R I rs) {i : Nat} (hi : i < rs.length) : 0 ≤ rs[i].tally ∧ rs[i].tally ≤ 1099511627776 := by
  have := okR_parts (H.ok _ (List.getElem_mem hi)).1
  omega
theorem rraise_spec {e : Evt} {now : Int} (he : e.fits) (H : BInv n next R I rs) (hn : 1 ≤ next ∧ next + 1 ≤ 4611686018427387904) (h : Sat w0 (RefB v n next rs :: L) w)
    (hK : ∀ w', Sat w0 (RefB v n (raiseA n next rs e now).2.1 (raiseA n next rs e now).2.2 :: L) w' →
      K (.tuple #[rowV (raiseA n next rs e now).1.1, .int .i64 (raiseA n next rs e now).1.2.1, .int .i64 (raiseA n next rs e now).1.2.2]) w') :
    callP G92 [v, evV e, .int .i64 now] w K := by
  obtain ⟨p, rfl⟩ := refB_ptr h
  have hl : rs.length ≤ 1073741824 := by have := H.bd; omega
  unfold raiseA at hK
  refine c92 ?_
  unfold F92
  (repeat (first
 | (simp (disch := omega) only [evA, evB, evC, bAdd_i64, bSub_i64])
 | (with_reducible apply go_ld1 h)
 | ((with_reducible first | apply go_ldA h | apply go_rd h | apply go_rdN h | apply go_rlen h); rfl)
 | (with_reducible first | apply go_ldN h | apply go_lenL h)
 | ((with_reducible apply go_st h); intro _ h)
 | ((with_reducible apply go_stA h); rfl; rfl; (first | rfl | simp [OneV.o]); intro _ h)
 | ((with_reducible apply go_stN h); rfl; (first | rfl | simp [OneV.o]); intro _ h)
 | ((with_reducible apply go_box h); rfl; intro _ _ h)
 | ((with_reducible apply go_ix h); omega)
 | ((with_reducible first | apply go_elN h | apply go_f1 h | apply go_rf1 h | apply go_rel h); (case hi => omega); (try case hx => exact inferInstance); (try case hv => rfl))
 | ((with_reducible apply go_fa h); omega; omega)
))
  refine go_alloc h zR rfl fun _ _ h => ?_
  (repeat (first
 | (simp (disch := omega) only [evA, evB, evC, bAdd_i64, bSub_i64])
 | (with_reducible apply go_ld1 h)
 | ((with_reducible first | apply go_ldA h | apply go_rd h | apply go_rdN h | apply go_rlen h); rfl)
 | (with_reducible first | apply go_ldN h | apply go_lenL h)
 | ((with_reducible apply go_st h); intro _ h)
 | ((with_reducible apply go_stA h); rfl; rfl; (first | rfl | simp [OneV.o]); intro _ h)
 | ((with_reducible apply go_stN h); rfl; (first | rfl | simp [OneV.o]); intro _ h)
 | ((with_reducible apply go_box h); rfl; intro _ _ h)
 | ((with_reducible apply go_ix h); omega)
 | ((with_reducible first | apply go_elN h | apply go_f1 h | apply go_rf1 h | apply go_rel h); (case hi => omega); (try case hx => exact inferInstance); (try case hv => rfl))
 | ((with_reducible apply go_fa h); omega; omega)
))
  refine nfcheck_spec (e := e) he h fun w h => ?_
  unfold chkE
  cases g1 : okE e
  · rw [if_pos g1] at hK
    have d1 : decide ((180 : Int) = 0) = false := by decide
    (repeat (first
 | (simp (disch := omega) only [evA, evB, evC, bAdd_i64, bSub_i64, Bool.false_eq_true, if_false, d1])
 | (refine go_some (fb33 ..) ?_)
 | (with_reducible apply go_ld1 h)
 | ((with_reducible first | apply go_ldA h | apply go_rd h | apply go_rdN h | apply go_rlen h); rfl)
 | (with_reducible first | apply go_ldN h | apply go_lenL h)
 | ((with_reducible apply go_st h); intro _ h)
 | ((with_reducible apply go_stA h); rfl; rfl; (first | rfl | simp [OneV.o]); intro _ h)
 | ((with_reducible apply go_stN h); rfl; (first | rfl | simp [OneV.o]); intro _ h)
 | ((with_reducible apply go_box h); rfl; intro _ _ h)
 | ((with_reducible apply go_ix h); omega)
 | ((with_reducible first | apply go_elN h | apply go_f1 h | apply go_rf1 h | apply go_rel h); (case hi => omega); (try case hx => exact inferInstance); (try case hv => rfl))
 | ((with_reducible apply go_fa h); omega; omega)
))
    exact hK _ (h.got)
  rw [if_neg (by rw [g1]; simp)] at hK
  (repeat (first
 | (simp (disch := omega) only [evA, evB, evC, bAdd_i64, bSub_i64, if_true])
 | (with_reducible apply go_ld1 h)
 | ((with_reducible first | apply go_ldA h | apply go_rd h | apply go_rdN h | apply go_rlen h); rfl)
 | (with_reducible first | apply go_ldN h | apply go_lenL h)
 | ((with_reducible apply go_st h); intro _ h)
 | ((with_reducible apply go_stA h); rfl; rfl; (first | rfl | simp [OneV.o]); intro _ h)
 | ((with_reducible apply go_stN h); rfl; (first | rfl | simp [OneV.o]); intro _ h)
 | ((with_reducible apply go_box h); rfl; intro _ _ h)
 | ((with_reducible apply go_ix h); omega)
 | ((with_reducible first | apply go_elN h | apply go_f1 h | apply go_rf1 h | apply go_rel h); (case hi => omega); (try case hx => exact inferInstance); (try case hv => rfl))
 | ((with_reducible apply go_fa h); omega; omega)
))
  refine fbistime_spec ?_
  cases g2 : timeP now
  · rw [if_pos g2] at hK
    (repeat (first
 | (simp (disch := omega) only [evA, evB, evC, bAdd_i64, bSub_i64])
 | (refine go_some (fb33 ..) ?_)
 | (with_reducible apply go_ld1 h)
 | ((with_reducible first | apply go_ldA h | apply go_rd h | apply go_rdN h | apply go_rlen h); rfl)
 | (with_reducible first | apply go_ldN h | apply go_lenL h)
 | ((with_reducible apply go_st h); intro _ h)
 | ((with_reducible apply go_stA h); rfl; rfl; (first | rfl | simp [OneV.o]); intro _ h)
 | ((with_reducible apply go_stN h); rfl; (first | rfl | simp [OneV.o]); intro _ h)
 | ((with_reducible apply go_box h); rfl; intro _ _ h)
 | ((with_reducible apply go_ix h); omega)
 | ((with_reducible first | apply go_elN h | apply go_f1 h | apply go_rf1 h | apply go_rel h); (case hi => omega); (try case hx => exact inferInstance); (try case hv => rfl))
 | ((with_reducible apply go_fa h); omega; omega)
))
    exact hK _ (h.got)
  rw [if_neg (by rw [g2]; simp)] at hK
  (repeat (first
 | (simp (disch := omega) only [evA, evB, evC, bAdd_i64, bSub_i64])
 | (with_reducible apply go_ld1 h)
 | ((with_reducible first | apply go_ldA h | apply go_rd h | apply go_rdN h | apply go_rlen h); rfl)
 | (with_reducible first | apply go_ldN h | apply go_lenL h)
 | ((with_reducible apply go_st h); intro _ h)
 | ((with_reducible apply go_stA h); rfl; rfl; (first | rfl | simp [OneV.o]); intro _ h)
 | ((with_reducible apply go_stN h); rfl; (first | rfl | simp [OneV.o]); intro _ h)
 | ((with_reducible apply go_box h); rfl; intro _ _ h)
 | ((with_reducible apply go_ix h); omega)
 | ((with_reducible first | apply go_elN h | apply go_f1 h | apply go_rf1 h | apply go_rel h); (case hi => omega); (try case hx => exact inferInstance); (try case hv => rfl))
 | ((with_reducible apply go_fa h); omega; omega)
))
  refine rplace_spec (v := ptr p) (e := e) (rs := rs) (n := n) (next := next) hl (h.frt) (fun hf w h => ?_) (fun i hi hf w h => ?_)
  · rw [hf] at hK
    simp only at hK
    (repeat (first
 | (simp (disch := omega) only [evA, evB, evC, bAdd_i64, bSub_i64])
 | (with_reducible apply go_ld1 h)
 | ((with_reducible first | apply go_ldA h | apply go_rd h | apply go_rdN h | apply go_rlen h); rfl)
 | (with_reducible first | apply go_ldN h | apply go_lenL h)
 | ((with_reducible apply go_st h); intro _ h)
 | ((with_reducible apply go_stA h); rfl; rfl; (first | rfl | simp [OneV.o]); intro _ h)
 | ((with_reducible apply go_stN h); rfl; (first | rfl | simp [OneV.o]); intro _ h)
 | ((with_reducible apply go_box h); rfl; intro _ _ h)
 | ((with_reducible apply go_ix h); omega)
 | ((with_reducible first | apply go_elN h | apply go_f1 h | apply go_rf1 h | apply go_rel h); (case hi => omega); (try case hx => exact inferInstance); (try case hv => rfl))
 | ((with_reducible apply go_fa h); omega; omega)
))
    by_cases g3 : e.level = 0
    · rw [if_pos g3] at hK
      rw [decide_eq_true g3]
      have d1 : decide ((-1 : Int) < 0) = true := by decide
      (repeat (first
 | (simp (disch := omega) only [evA, evB, evC, bAdd_i64, bSub_i64, d1])
 | (refine go_some (fb33 ..) ?_)
 | (with_reducible apply go_ld1 h)
 | ((with_reducible first | apply go_ldA h | apply go_rd h | apply go_rdN h | apply go_rlen h); rfl)
 | (with_reducible first | apply go_ldN h | apply go_lenL h)
 | ((with_reducible apply go_st h); intro _ h)
 | ((with_reducible apply go_stA h); rfl; rfl; (first | rfl | simp [OneV.o]); intro _ h)
 | ((with_reducible apply go_stN h); rfl; (first | rfl | simp [OneV.o]); intro _ h)
 | ((with_reducible apply go_box h); rfl; intro _ _ h)
 | ((with_reducible apply go_ix h); omega)
 | ((with_reducible first | apply go_elN h | apply go_f1 h | apply go_rf1 h | apply go_rel h); (case hi => omega); (try case hx => exact inferInstance); (try case hv => rfl))
 | ((with_reducible apply go_fa h); omega; omega)
))
      exact hK _ (h.got)
    rw [if_neg g3] at hK
    rw [decide_eq_false g3]
    have d1 : decide ((-1 : Int) ≥ 0) = false := by decide
    obtain ⟨s, h⟩ := refB_at h
    (repeat (first
 | (simp (disch := omega) only [evA, evB, evC, bAdd_i64, bSub_i64, d1])
 | (with_reducible apply go_ld1 h)
 | ((with_reducible first | apply go_ldA h | apply go_rd h | apply go_rdN h | apply go_rlen h); rfl)
 | (with_reducible first | apply go_ldN h | apply go_lenL h)
 | ((with_reducible apply go_st h); intro _ h)
 | ((with_reducible apply go_stA h); rfl; rfl; (first | rfl | simp [OneV.o]); intro _ h)
 | ((with_reducible apply go_stN h); rfl; (first | rfl | simp [OneV.o]); intro _ h)
 | ((with_reducible apply go_box h); rfl; intro _ _ h)
 | ((with_reducible apply go_ix h); omega)
 | ((with_reducible first | apply go_elN h | apply go_f1 h | apply go_rf1 h | apply go_rel h); (case hi => omega); (try case hx => exact inferInstance); (try case hv => rfl))
 | ((with_reducible apply go_fa h); omega; omega)
))
    by_cases g4 : n ≤ (rs.length : Int)
    · rw [if_pos g4] at hK
      have g4' : decide ((rs.length : Int) ≥ n) = true := by simpa using g4
      (repeat (first
 | (simp (disch := omega) only [evA, evB, evC, bAdd_i64, bSub_i64, g4'])
 | (refine go_some (fb33 ..) ?_)
 | (with_reducible apply go_ld1 h)
 | ((with_reducible first | apply go_ldA h | apply go_rd h | apply go_rdN h | apply go_rlen h); rfl)
 | (with_reducible first | apply go_ldN h | apply go_lenL h)
 | ((with_reducible apply go_st h); intro _ h)
 | ((with_reducible apply go_stA h); rfl; rfl; (first | rfl | simp [OneV.o]); intro _ h)
 | ((with_reducible apply go_stN h); rfl; (first | rfl | simp [OneV.o]); intro _ h)
 | ((with_reducible apply go_box h); rfl; intro _ _ h)
 | ((with_reducible apply go_ix h); omega)
 | ((with_reducible first | apply go_elN h | apply go_f1 h | apply go_rf1 h | apply go_rel h); (case hi => omega); (try case hx => exact inferInstance); (try case hv => rfl))
 | ((with_reducible apply go_fa h); omega; omega)
))
      exact hK _ (refB_iff.2 ⟨p, s, rfl, h.got⟩)
    rw [if_neg g4] at hK
    have g4' : decide ((rs.length : Int) ≥ n) = false := by simpa using g4
    have hb := H.bd
    generalize hr : (⟨next, e, 1, now, now, false, []⟩ : Row) = r at hK
    have hrv : fBuild Try.prog 33 [(0, .int .i64 next), (1, evV e), (2, .int .i64 1), (3, .int .i64 now), (4, .int .i64 now)] = some (rowV r) := by subst hr; kernel_rfl
    (repeat (first
 | (simp (disch := omega) only [evA, evB, evC, bAdd_i64, bSub_i64, g4'])
 | (refine go_some (hrv ..) ?_)
 | (with_reducible apply go_ld1 h)
 | ((with_reducible first | apply go_ldA h | apply go_rd h | apply go_rdN h | apply go_rlen h); rfl)
 | (with_reducible first | apply go_ldN h | apply go_lenL h)
 | ((with_reducible apply go_st h); intro _ h)
 | ((with_reducible apply go_stA h); rfl; rfl; (first | rfl | simp [OneV.o]); intro _ h)
 | ((with_reducible apply go_stN h); rfl; (first | rfl | simp [OneV.o]); intro _ h)
 | ((with_reducible apply go_box h); rfl; intro _ _ h)
 | ((with_reducible apply go_ix h); omega)
 | ((with_reducible first | apply go_elN h | apply go_f1 h | apply go_rf1 h | apply go_rel h); (case hi => omega); (try case hx => exact inferInstance); (try case hv => rfl))
 | ((with_reducible apply go_fa h); omega; omega)
))
    refine go_alloc h zR rfl fun _ _ h => ?_
    repeat' (first | (first  | (simp (disch := omega) only [evA, evB, evC, bAdd_i64, bSub_i64])  | (with_reducible apply go_ld1 h)  | ((with_reducible first | apply go_ldA h | apply go_rd h | apply go_rdN h | apply go_rlen h); rfl)  | (with_reducible first | apply go_ldN h | apply go_lenL h)  | ((with_reducible apply go_st h); intro _ h)  | ((with_reducible apply go_stA h); rfl; rfl; (first | rfl | simp [OneV.o]); intro _ h)  | ((with_reducible apply go_stN h); rfl; (first | rfl | simp [OneV.o]); intro _ h)  | ((with_reducible apply go_box h); rfl; intro _ _ h)  | ((with_reducible apply go_ix h); omega)  | ((with_reducible first | apply go_elN h | apply go_f1 h | apply go_rf1 h | apply go_rel h); (case hi => omega); (try case hx => exact inferInstance); (try case hv => rfl))  | ((with_reducible apply go_fa h); omega; omega)  | ((with_reducible first | apply go_lit0 CR h u74 (by kernel_rfl) | apply go_lit1 CR h u74 (fbRow _) rfl); intro _ _ h)  | ((with_reducible apply go_app h sl74 ss74); (case hm => repeat (first | exact .here | apply Fnt.there)); (case hb => first | omega | (simp; omega)); intro _ _ _ h) ) | (refine ⟨?_, ?_⟩) | (simp only [List.nil_append] at h; exact hK _ (refB_iff.2 ⟨p, _, rfl, h.got⟩)))
  · rw [hf] at hK
    simp only at hK
    have hid : (againP rs[i] e now).1.id = rs[i].id := again_id
    (repeat (first
 | (simp (disch := omega) only [evA, evB, evC, bAdd_i64, bSub_i64])
 | (with_reducible apply go_ld1 h)
 | ((with_reducible first | apply go_ldA h | apply go_rd h | apply go_rdN h | apply go_rlen h); rfl)
 | (with_reducible first | apply go_ldN h | apply go_lenL h)
 | ((with_reducible apply go_st h); intro _ h)
 | ((with_reducible apply go_stA h); rfl; rfl; (first | rfl | simp [OneV.o]); intro _ h)
 | ((with_reducible apply go_stN h); rfl; (first | rfl | simp [OneV.o]); intro _ h)
 | ((with_reducible apply go_box h); rfl; intro _ _ h)
 | ((with_reducible apply go_ix h); omega)
 | ((with_reducible first | apply go_elN h | apply go_f1 h | apply go_rf1 h | apply go_rel h); (case hi => omega); (try case hx => exact inferInstance); (try case hv => rfl))
 | ((with_reducible apply go_fa h); omega; omega)
))
    by_cases g3 : e.level = 0
    · rw [if_pos g3] at hK
      rw [decide_eq_true g3]
      have d1 : decide (((i : Nat) : Int) < 0) = false := by simp
      (repeat (first
 | (simp (disch := omega) only [evA, evB, evC, bAdd_i64, bSub_i64, d1])
 | (with_reducible apply go_ld1 h)
 | ((with_reducible first | apply go_ldA h | apply go_rd h | apply go_rdN h | apply go_rlen h); rfl)
 | (with_reducible first | apply go_ldN h | apply go_lenL h)
 | ((with_reducible apply go_st h); intro _ h)
 | ((with_reducible apply go_stA h); rfl; rfl; (first | rfl | simp [OneV.o]); intro _ h)
 | ((with_reducible apply go_stN h); rfl; (first | rfl | simp [OneV.o]); intro _ h)
 | ((with_reducible apply go_box h); rfl; intro _ _ h)
 | ((with_reducible apply go_ix h); omega)
 | ((with_reducible first | apply go_elN h | apply go_f1 h | apply go_rf1 h | apply go_rel h); (case hi => omega); (try case hx => exact inferInstance); (try case hv => rfl))
 | ((with_reducible apply go_fa h); omega; omega)
))
      refine rtake_spec (rs := rs) (n := n) (next := next) hl hi h fun w h => ?_
      rw [remL_at H.asc hi] at h
      (repeat (first
 | (simp (disch := omega) only [evA, evB, evC, bAdd_i64, bSub_i64])
 | (with_reducible apply go_ld1 h)
 | ((with_reducible first | apply go_ldA h | apply go_rd h | apply go_rdN h | apply go_rlen h); rfl)
 | (with_reducible first | apply go_ldN h | apply go_lenL h)
 | ((with_reducible apply go_st h); intro _ h)
 | ((with_reducible apply go_stA h); rfl; rfl; (first | rfl | simp [OneV.o]); intro _ h)
 | ((with_reducible apply go_stN h); rfl; (first | rfl | simp [OneV.o]); intro _ h)
 | ((with_reducible apply go_box h); rfl; intro _ _ h)
 | ((with_reducible apply go_ix h); omega)
 | ((with_reducible first | apply go_elN h | apply go_f1 h | apply go_rf1 h | apply go_rel h); (case hi => omega); (try case hx => exact inferInstance); (try case hv => rfl))
 | ((with_reducible apply go_fa h); omega; omega)
))
      exact hK _ (h.got)
    rw [if_neg g3] at hK
    rw [decide_eq_false g3]
    have d1 : decide (((i : Nat) : Int) ≥ 0) = true := by simp
    (repeat (first
 | (simp (disch := omega) only [evA, evB, evC, bAdd_i64, bSub_i64, d1])
 | (with_reducible apply go_ld1 h)
 | ((with_reducible first | apply go_ldA h | apply go_rd h | apply go_rdN h | apply go_rlen h); rfl)
 | (with_reducible first | apply go_ldN h | apply go_lenL h)
 | ((with_reducible apply go_st h); intro _ h)
 | ((with_reducible apply go_stA h); rfl; rfl; (first | rfl | simp [OneV.o]); intro _ h)
 | ((with_reducible apply go_stN h); rfl; (first | rfl | simp [OneV.o]); intro _ h)
 | ((with_reducible apply go_box h); rfl; intro _ _ h)
 | ((with_reducible apply go_ix h); omega)
 | ((with_reducible first | apply go_elN h | apply go_f1 h | apply go_rf1 h | apply go_rel h); (case hi => omega); (try case hx => exact inferInstance); (try case hv => rfl))
 | ((with_reducible apply go_fa h); omega; omega)
))
    refine ragain_spec (rs := rs) (n := n) (next := next) hl hi (tally_of H hi) h fun w h => ?_
    rw [replL_at H.asc hi hid] at h
    (repeat (first
 | (simp (disch := omega) only [evA, evB, evC, bAdd_i64, bSub_i64])
 | (with_reducible apply go_ld1 h)
 | ((with_reducible first | apply go_ldA h | apply go_rd h | apply go_rdN h | apply go_rlen h); rfl)
 | (with_reducible first | apply go_ldN h | apply go_lenL h)
 | ((with_reducible apply go_st h); intro _ h)
 | ((with_reducible apply go_stA h); rfl; rfl; (first | rfl | simp [OneV.o]); intro _ h)
 | ((with_reducible apply go_stN h); rfl; (first | rfl | simp [OneV.o]); intro _ h)
 | ((with_reducible apply go_box h); rfl; intro _ _ h)
 | ((with_reducible apply go_ix h); omega)
 | ((with_reducible first | apply go_elN h | apply go_f1 h | apply go_rf1 h | apply go_rel h); (case hi => omega); (try case hx => exact inferInstance); (try case hv => rfl))
 | ((with_reducible apply go_fa h); omega; omega)
))
    refine go_alloc h zR rfl fun _ _ h => ?_
    (repeat (first
 | (simp (disch := omega) only [evA, evB, evC, bAdd_i64, bSub_i64])
 | (with_reducible apply go_ld1 h)
 | ((with_reducible first | apply go_ldA h | apply go_rd h | apply go_rdN h | apply go_rlen h); rfl)
 | (with_reducible first | apply go_ldN h | apply go_lenL h)
 | ((with_reducible apply go_st h); intro _ h)
 | ((with_reducible apply go_stA h); rfl; rfl; (first | rfl | simp [OneV.o]); intro _ h)
 | ((with_reducible apply go_stN h); rfl; (first | rfl | simp [OneV.o]); intro _ h)
 | ((with_reducible apply go_box h); rfl; intro _ _ h)
 | ((with_reducible apply go_ix h); omega)
 | ((with_reducible first | apply go_elN h | apply go_f1 h | apply go_rf1 h | apply go_rel h); (case hi => omega); (try case hx => exact inferInstance); (try case hv => rfl))
 | ((with_reducible apply go_fa h); omega; omega)
))
    exact hK _ (h.got)
end
end Go.Proofs.Gong

/- Bp2 -/
namespace Go.Proofs.Gong
open Go Go.Sx Go.Proofs
set_option maxRecDepth 100000
def rowAt (rs : List Row) (id : Int) : Option Row := rs.find? fun d => decide (d.id = id)
def rowOf (rs : List Row) (g : Sg) : Option Row := rs.find? fun d => decide (sgOf d.e = g)
def ackA (rs : List Row) (id : Int) (who : List UInt8) : (Row × Int) × List Row := match rowAt rs id with
  | none => ((zeroR, 5), rs)
  | some r => if whoP who = false then ((zeroR, 1), rs) else if r.acked = true then ((zeroR, 6), rs) else (({ r with acked := true, who := who }, 0), replL { r with acked := true, who := who } rs)
def closeA (rs : List Row) (id : Int) : (Row × Int) × List Row := match rowAt rs id with
  | none => ((zeroR, 5), rs)
  | some r => ((r, 0), remL id rs)
def minLast (a : Int) (rs : List Row) : Int := rs.foldl (fun a r => min a r.last) a
def soonA (rs : List Row) (keep : Int) : Int × Bool := match rs with
  | [] => (0, false)
  | r :: l => if keep < 1 ∨ 2305843009213693952 < keep then (0, false) else (minLast r.last (r :: l) + keep, true)
theorem minLast_bd {M : Int} : ∀ {rs : List Row} {a : Int}, (∀ r ∈ rs, 0 ≤ r.last ∧ r.last ≤ M) → 0 ≤ a ∧ a ≤ M → 0 ≤ minLast a rs ∧ minLast a rs ≤ M
  | [], a, _, h => h
  | r :: l, a, h, ha => by
    have hr := h r (by simp)
    exact minLast_bd (rs := l) (a := min a r.last) (fun x hx => h x (List.mem_cons_of_mem _ hx)) (by omega)
theorem rowAt_none {rs : List Row} {id : Int} : rowAt rs id = none ↔ ∀ r ∈ rs, r.id ≠ id := by
  unfold rowAt; rw [List.find?_eq_none]; simp
theorem rowAt_some {rs : List Row} {id : Int} {r : Row} (h : rowAt rs id = some r) : r ∈ rs ∧ r.id = id := by
  unfold rowAt at h
  exact ⟨List.mem_of_find?_eq_some h, by simpa using List.find?_some h⟩
theorem rowAt_of {rs : List Row} {r : Row} (ha : rs.Pairwise fun a b => a.id < b.id) (hr : r ∈ rs) : rowAt rs r.id = some r := by
  cases h : rowAt rs r.id with
  | none => exact absurd rfl (rowAt_none.1 h r hr)
  | some d =>
    obtain ⟨h1, h2⟩ := rowAt_some h
    rw [rasc_eq ha h1 hr h2]
attribute [local irreducible] fBuild fLook fZero eqv bEqv Cl MapH LsH SlH ld1 ldN st callP eBox eAlloc lenM lenL eMapSet eDelete eAppend eBuildSl eRange eNext
section
variable {w0 w : World} {L : List HP} {K : Value → World → Prop} {v : Value} {n next : Int} {rs : List Row} {r : Row} {R : List (Int × Row)} {I : List (Sg × Int)}
theorem rnew_spec {m : Int} (h : Sat w0 L w) (hK0 : (m < 1 ∨ 65536 < m) → K (.tuple #[.pointer none, .int .i64 1]) w) (hK1 : 1 ≤ m → m ≤ 65536 → ∀ p w', Sat w0 (RefB (ptr p) m 1 [] :: L) w' → K (.tuple #[ptr p, .int .i64 0]) w') : callP G47 [.int .i64 m] w K := by
  refine c47 ?_
  unfold F47
  by_cases g1 : m < 1
  · have g1' : decide (m < 1) = true := by simpa using g1
    (repeat (first
 | (simp (disch := omega) only [evA, evB, evC, bAdd_i64, bSub_i64, g1'])
 | (with_reducible apply go_ld1 h)
 | ((with_reducible first | apply go_ldA h | apply go_rd h | apply go_rdN h | apply go_rlen h); rfl)
 | (with_reducible first | apply go_ldN h | apply go_lenL h)
 | ((with_reducible apply go_st h); intro _ h)
 | ((with_reducible apply go_stA h); rfl; rfl; (first | rfl | simp [OneV.o]); intro _ h)
 | ((with_reducible apply go_stN h); rfl; (first | rfl | simp [OneV.o]); intro _ h)
 | ((with_reducible apply go_box h); rfl; intro _ _ h)
 | ((with_reducible apply go_ix h); omega)
 | ((with_reducible first | apply go_elN h | apply go_f1 h | apply go_rf1 h | apply go_rel h); (case hi => omega); (try case hx => exact inferInstance); (try case hv => rfl))
 | ((with_reducible apply go_fa h); omega; omega)
))
    exact hK0 (.inl g1)
  have g1' : decide (m < 1) = false := by simpa using g1
  by_cases g2 : m > 65536
  · have g2' : decide (m > 65536) = true := by simpa using g2
    (repeat (first
 | (simp (disch := omega) only [evA, evB, evC, bAdd_i64, bSub_i64, g1', g2'])
 | (with_reducible apply go_ld1 h)
 | ((with_reducible first | apply go_ldA h | apply go_rd h | apply go_rdN h | apply go_rlen h); rfl)
 | (with_reducible first | apply go_ldN h | apply go_lenL h)
 | ((with_reducible apply go_st h); intro _ h)
 | ((with_reducible apply go_stA h); rfl; rfl; (first | rfl | simp [OneV.o]); intro _ h)
 | ((with_reducible apply go_stN h); rfl; (first | rfl | simp [OneV.o]); intro _ h)
 | ((with_reducible apply go_box h); rfl; intro _ _ h)
 | ((with_reducible apply go_ix h); omega)
 | ((with_reducible first | apply go_elN h | apply go_f1 h | apply go_rf1 h | apply go_rel h); (case hi => omega); (try case hx => exact inferInstance); (try case hv => rfl))
 | ((with_reducible apply go_fa h); omega; omega)
))
    exact hK0 (.inr g2)
  have g2' : decide (m > 65536) = false := by simpa using g2
  have eb : fBuild Try.prog 149 [(0, .int .i64 m), (1, .int .i64 1)] = some (.agg #[.int .i64 m, .int .i64 1, .slice none 0 0]) := by kernel_rfl
  (repeat (first
 | (simp (disch := omega) only [evA, evB, evC, bAdd_i64, bSub_i64, g1', g2'])
 | (refine go_some (eb ..) ?_)
 | (with_reducible apply go_ld1 h)
 | ((with_reducible first | apply go_ldA h | apply go_rd h | apply go_rdN h | apply go_rlen h); rfl)
 | (with_reducible first | apply go_ldN h | apply go_lenL h)
 | ((with_reducible apply go_st h); intro _ h)
 | ((with_reducible apply go_stA h); rfl; rfl; (first | rfl | simp [OneV.o]); intro _ h)
 | ((with_reducible apply go_stN h); rfl; (first | rfl | simp [OneV.o]); intro _ h)
 | ((with_reducible apply go_box h); rfl; intro _ _ h)
 | ((with_reducible apply go_ix h); omega)
 | ((with_reducible first | apply go_elN h | apply go_f1 h | apply go_rf1 h | apply go_rel h); (case hi => omega); (try case hx => exact inferInstance); (try case hv => rfl))
 | ((with_reducible apply go_fa h); omega; omega)
))
  have h2 := Sat.nilLs cRow 11 33 h
  exact hK1 (by omega) (by omega) _ _ (refB_iff.2 ⟨_, _, rfl, h2.got⟩)
theorem rack_spec {id : Int} {who : List UInt8} (hwho : who.length < 1073741824) (hl : rs.length ≤ 1073741824) (ha : rs.Pairwise fun a b => a.id < b.id) (h : Sat w0 (RefB v n next rs :: L) w)
    (hK : ∀ w', Sat w0 (RefB v n next (ackA rs id who).2 :: L) w' → K (.tuple #[rowV (ackA rs id who).1.1, .int .i64 (ackA rs id who).1.2]) w') : callP G93 [v, .int .i64 id, .string (bs who)] w K := by
  obtain ⟨p, rfl⟩ := refB_ptr h
  unfold ackA rowAt at hK
  refine c93 ?_
  unfold F93
  refine go_alloc h zR rfl fun _ _ h => ?_
  refine rat_spec (v := ptr p) (rs := rs) (n := n) (next := next) hl (h.frt) (fun hf => ?_) (fun i hi hf => ?_)
  · rw [hf] at hK
    have d1 : decide ((-1 : Int) < 0) = true := by decide
    (repeat (first
 | (simp (disch := omega) only [evA, evB, evC, bAdd_i64, bSub_i64, d1])
 | (refine go_some (fb33 ..) ?_)
 | (with_reducible apply go_ld1 h)
 | ((with_reducible first | apply go_ldA h | apply go_rd h | apply go_rdN h | apply go_rlen h); rfl)
 | (with_reducible first | apply go_ldN h | apply go_lenL h)
 | ((with_reducible apply go_st h); intro _ h)
 | ((with_reducible apply go_stA h); rfl; rfl; (first | rfl | simp [OneV.o]); intro _ h)
 | ((with_reducible apply go_stN h); rfl; (first | rfl | simp [OneV.o]); intro _ h)
 | ((with_reducible apply go_box h); rfl; intro _ _ h)
 | ((with_reducible apply go_ix h); omega)
 | ((with_reducible first | apply go_elN h | apply go_f1 h | apply go_rf1 h | apply go_rel h); (case hi => omega); (try case hx => exact inferInstance); (try case hv => rfl))
 | ((with_reducible apply go_fa h); omega; omega)
))
    exact hK _ (h.got)
  rw [hf] at hK
  have d1 : decide (((i : Nat) : Int) < 0) = false := by simp
  (repeat (first
 | (simp (disch := omega) only [evA, evB, evC, bAdd_i64, bSub_i64, d1])
 | (with_reducible apply go_ld1 h)
 | ((with_reducible first | apply go_ldA h | apply go_rd h | apply go_rdN h | apply go_rlen h); rfl)
 | (with_reducible first | apply go_ldN h | apply go_lenL h)
 | ((with_reducible apply go_st h); intro _ h)
 | ((with_reducible apply go_stA h); rfl; rfl; (first | rfl | simp [OneV.o]); intro _ h)
 | ((with_reducible apply go_stN h); rfl; (first | rfl | simp [OneV.o]); intro _ h)
 | ((with_reducible apply go_box h); rfl; intro _ _ h)
 | ((with_reducible apply go_ix h); omega)
 | ((with_reducible first | apply go_elN h | apply go_f1 h | apply go_rf1 h | apply go_rel h); (case hi => omega); (try case hx => exact inferInstance); (try case hv => rfl))
 | ((with_reducible apply go_fa h); omega; omega)
))
  refine fiswho_spec (s := who) hwho h fun w h => ?_
  simp only at hK
  cases g1 : whoP who
  · rw [if_pos g1] at hK
    (repeat (first
 | (simp (disch := omega) only [evA, evB, evC, bAdd_i64, bSub_i64])
 | (refine go_some (fb33 ..) ?_)
 | (with_reducible apply go_ld1 h)
 | ((with_reducible first | apply go_ldA h | apply go_rd h | apply go_rdN h | apply go_rlen h); rfl)
 | (with_reducible first | apply go_ldN h | apply go_lenL h)
 | ((with_reducible apply go_st h); intro _ h)
 | ((with_reducible apply go_stA h); rfl; rfl; (first | rfl | simp [OneV.o]); intro _ h)
 | ((with_reducible apply go_stN h); rfl; (first | rfl | simp [OneV.o]); intro _ h)
 | ((with_reducible apply go_box h); rfl; intro _ _ h)
 | ((with_reducible apply go_ix h); omega)
 | ((with_reducible first | apply go_elN h | apply go_f1 h | apply go_rf1 h | apply go_rel h); (case hi => omega); (try case hx => exact inferInstance); (try case hv => rfl))
 | ((with_reducible apply go_fa h); omega; omega)
))
    exact hK _ (h.got)
  rw [if_neg (by rw [g1]; simp)] at hK
  obtain ⟨s, h⟩ := refB_at (h.frt (A := RefB (ptr p) n next rs))
  (repeat (first
 | (simp (disch := omega) only [evA, evB, evC, bAdd_i64, bSub_i64])
 | (with_reducible apply go_ld1 h)
 | ((with_reducible first | apply go_ldA h | apply go_rd h | apply go_rdN h | apply go_rlen h); rfl)
 | (with_reducible first | apply go_ldN h | apply go_lenL h)
 | ((with_reducible apply go_st h); intro _ h)
 | ((with_reducible apply go_stA h); rfl; rfl; (first | rfl | simp [OneV.o]); intro _ h)
 | ((with_reducible apply go_stN h); rfl; (first | rfl | simp [OneV.o]); intro _ h)
 | ((with_reducible apply go_box h); rfl; intro _ _ h)
 | ((with_reducible apply go_ix h); omega)
 | ((with_reducible first | apply go_elN h | apply go_f1 h | apply go_rf1 h | apply go_rel h); (case hi => omega); (try case hx => exact inferInstance); (try case hv => rfl))
 | ((with_reducible apply go_fa h); omega; omega)
))
  cases g2 : rs[i].acked
  case true =>
    rw [if_pos g2] at hK
    (repeat (first
 | (simp (disch := omega) only [evA, evB, evC, bAdd_i64, bSub_i64])
 | (refine go_some (fb33 ..) ?_)
 | (with_reducible apply go_ld1 h)
 | ((with_reducible first | apply go_ldA h | apply go_rd h | apply go_rdN h | apply go_rlen h); rfl)
 | (with_reducible first | apply go_ldN h | apply go_lenL h)
 | ((with_reducible apply go_st h); intro _ h)
 | ((with_reducible apply go_stA h); rfl; rfl; (first | rfl | simp [OneV.o]); intro _ h)
 | ((with_reducible apply go_stN h); rfl; (first | rfl | simp [OneV.o]); intro _ h)
 | ((with_reducible apply go_box h); rfl; intro _ _ h)
 | ((with_reducible apply go_ix h); omega)
 | ((with_reducible first | apply go_elN h | apply go_f1 h | apply go_rf1 h | apply go_rel h); (case hi => omega); (try case hx => exact inferInstance); (try case hv => rfl))
 | ((with_reducible apply go_fa h); omega; omega)
))
    exact hK _ (refB_iff.2 ⟨p, s, rfl, h.got⟩)
  rw [if_neg (by rw [g2]; simp)] at hK
  (repeat (first
 | (simp (disch := omega) only [evA, evB, evC, bAdd_i64, bSub_i64])
 | (with_reducible apply go_ld1 h)
 | ((with_reducible first | apply go_ldA h | apply go_rd h | apply go_rdN h | apply go_rlen h); rfl)
 | (with_reducible first | apply go_ldN h | apply go_lenL h)
 | ((with_reducible apply go_st h); intro _ h)
 | ((with_reducible apply go_stA h); rfl; rfl; (first | rfl | simp [OneV.o]); intro _ h)
 | ((with_reducible apply go_stN h); rfl; (first | rfl | simp [OneV.o]); intro _ h)
 | ((with_reducible apply go_box h); rfl; intro _ _ h)
 | ((with_reducible apply go_ix h); omega)
 | ((with_reducible first | apply go_elN h | apply go_f1 h | apply go_rf1 h | apply go_rel h); (case hi => omega); (try case hx => exact inferInstance); (try case hv => rfl))
 | ((with_reducible apply go_fa h); omega; omega)
 | ((with_reducible first | apply go_lit0 CR h u74 (by kernel_rfl) | apply go_lit1 CR h u74 (fbRow _) rfl); intro _ _ h)
 | ((with_reducible apply go_app h sl74 ss74); (case hm => repeat (first | exact .here | apply Fnt.there)); (case hb => first | omega | (simp; omega)); intro _ _ _ h)
))
  simp only [List.nil_append] at h
  (repeat (first
 | (simp (disch := omega) only [evA, evB, evC, bAdd_i64, bSub_i64])
 | (with_reducible apply go_ld1 h)
 | ((with_reducible first | apply go_ldA h | apply go_rd h | apply go_rdN h | apply go_rlen h); rfl)
 | (with_reducible first | apply go_ldN h | apply go_lenL h)
 | ((with_reducible apply go_st h); intro _ h)
 | ((with_reducible apply go_stA h); rfl; rfl; (first | rfl | simp [OneV.o]); intro _ h)
 | ((with_reducible apply go_stN h); rfl; (first | rfl | simp [OneV.o]); intro _ h)
 | ((with_reducible apply go_box h); rfl; intro _ _ h)
 | ((with_reducible apply go_ix h); omega)
 | ((with_reducible first | apply go_elN h | apply go_f1 h | apply go_rf1 h | apply go_rel h); (case hi => omega); (try case hx => exact inferInstance); (try case hv => rfl))
 | ((with_reducible apply go_fa h); omega; omega)
))
  generalize hr1 : ({ rs[i] with acked := true } : Row) = r1
  refine go_stF (x' := r1) h (by repeat (first | exact .here | apply Fnt.there)) CR hi (by omega) (by subst hr1; rfl) fun w h => ?_
  have hi1 : i < (rs.set i r1).length := by simpa using hi
  (repeat (first
 | (simp (disch := omega) only [evA, evB, evC, bAdd_i64, bSub_i64])
 | (with_reducible apply go_ld1 h)
 | ((with_reducible first | apply go_ldA h | apply go_rd h | apply go_rdN h | apply go_rlen h); rfl)
 | (with_reducible first | apply go_ldN h | apply go_lenL h)
 | ((with_reducible apply go_st h); intro _ h)
 | ((with_reducible apply go_stA h); rfl; rfl; (first | rfl | simp [OneV.o]); intro _ h)
 | ((with_reducible apply go_stN h); rfl; (first | rfl | simp [OneV.o]); intro _ h)
 | ((with_reducible apply go_box h); rfl; intro _ _ h)
 | ((with_reducible apply go_ix h); omega)
 | ((with_reducible first | apply go_elN h | apply go_f1 h | apply go_rf1 h | apply go_rel h); (case hi => omega); (try case hx => exact inferInstance); (try case hv => rfl))
 | ((with_reducible apply go_fa h); omega; omega)
))
  generalize hr2 : ({ rs[i] with acked := true, who := who } : Row) = r2 at hK
  have hx : (cRow (rs.set i r1)[i]).set 10 (.string (bs who)) = cRow r2 := by
    rw [List.getElem_set_self, ← hr1, ← hr2]; rfl
  refine go_stF (x' := r2) h (by repeat (first | exact .here | apply Fnt.there)) CR hi1 (by omega) hx fun w h => ?_
  rw [List.set_set] at h
  have hi2 : i < (rs.set i r2).length := by simpa using hi
  have := ls_one h
  (repeat (first
 | (simp (disch := omega) only [evA, evB, evC, bAdd_i64, bSub_i64, List.getElem_set_self])
 | (with_reducible apply go_ld1 h)
 | ((with_reducible first | apply go_ldA h | apply go_rd h | apply go_rdN h | apply go_rlen h); rfl)
 | (with_reducible first | apply go_ldN h | apply go_lenL h)
 | ((with_reducible apply go_st h); intro _ h)
 | ((with_reducible apply go_stA h); rfl; rfl; (first | rfl | simp [OneV.o]); intro _ h)
 | ((with_reducible apply go_stN h); rfl; (first | rfl | simp [OneV.o]); intro _ h)
 | ((with_reducible apply go_box h); rfl; intro _ _ h)
 | ((with_reducible apply go_ix h); omega)
 | ((with_reducible first | apply go_elN h | apply go_f1 h | apply go_rf1 h | apply go_rel h); (case hi => omega); (try case hx => exact inferInstance); (try case hv => rfl))
 | ((with_reducible apply go_fa h); omega; omega)
))
  rw [replL_at ha hi (by rw [← hr2])] at h
  exact hK _ (refB_iff.2 ⟨p, _, rfl, h.got⟩)
theorem rclose_spec {id : Int} (hl : rs.length ≤ 1073741824) (ha : rs.Pairwise fun a b => a.id < b.id) (h : Sat w0 (RefB v n next rs :: L) w)
    (hK : ∀ w', Sat w0 (RefB v n next (closeA rs id).2 :: L) w' → K (.tuple #[rowV (closeA rs id).1.1, .int .i64 (closeA rs id).1.2]) w') : callP G94 [v, .int .i64 id] w K := by
  obtain ⟨p, rfl⟩ := refB_ptr h
  unfold closeA rowAt at hK
  refine c94 ?_
  unfold F94
  refine go_alloc h zR rfl fun _ _ h => ?_
  refine rat_spec (v := ptr p) (rs := rs) (n := n) (next := next) hl (h.frt) (fun hf => ?_) (fun i hi hf => ?_)
  · rw [hf] at hK
    have d1 : decide ((-1 : Int) < 0) = true := by decide
    (repeat (first
 | (simp (disch := omega) only [evA, evB, evC, bAdd_i64, bSub_i64, d1])
 | (refine go_some (fb33 ..) ?_)
 | (with_reducible apply go_ld1 h)
 | ((with_reducible first | apply go_ldA h | apply go_rd h | apply go_rdN h | apply go_rlen h); rfl)
 | (with_reducible first | apply go_ldN h | apply go_lenL h)
 | ((with_reducible apply go_st h); intro _ h)
 | ((with_reducible apply go_stA h); rfl; rfl; (first | rfl | simp [OneV.o]); intro _ h)
 | ((with_reducible apply go_stN h); rfl; (first | rfl | simp [OneV.o]); intro _ h)
 | ((with_reducible apply go_box h); rfl; intro _ _ h)
 | ((with_reducible apply go_ix h); omega)
 | ((with_reducible first | apply go_elN h | apply go_f1 h | apply go_rf1 h | apply go_rel h); (case hi => omega); (try case hx => exact inferInstance); (try case hv => rfl))
 | ((with_reducible apply go_fa h); omega; omega)
))
    exact hK _ (h.got)
  rw [hf] at hK
  have d1 : decide (((i : Nat) : Int) < 0) = false := by simp
  have hid : rs[i].id = id := by simpa using List.find?_some hf
  (repeat (first
 | (simp (disch := omega) only [evA, evB, evC, bAdd_i64, bSub_i64, d1])
 | (with_reducible apply go_ld1 h)
 | ((with_reducible first | apply go_ldA h | apply go_rd h | apply go_rdN h | apply go_rlen h); rfl)
 | (with_reducible first | apply go_ldN h | apply go_lenL h)
 | ((with_reducible apply go_st h); intro _ h)
 | ((with_reducible apply go_stA h); rfl; rfl; (first | rfl | simp [OneV.o]); intro _ h)
 | ((with_reducible apply go_stN h); rfl; (first | rfl | simp [OneV.o]); intro _ h)
 | ((with_reducible apply go_box h); rfl; intro _ _ h)
 | ((with_reducible apply go_ix h); omega)
 | ((with_reducible first | apply go_elN h | apply go_f1 h | apply go_rf1 h | apply go_rel h); (case hi => omega); (try case hx => exact inferInstance); (try case hv => rfl))
 | ((with_reducible apply go_fa h); omega; omega)
))
  refine rtake_spec (rs := rs) (n := n) (next := next) hl hi (h.frt) fun w h => ?_
  rw [remL_at ha hi, hid] at h
  (repeat (first
 | (simp (disch := omega) only [evA, evB, evC, bAdd_i64, bSub_i64])
 | (with_reducible apply go_ld1 h)
 | ((with_reducible first | apply go_ldA h | apply go_rd h | apply go_rdN h | apply go_rlen h); rfl)
 | (with_reducible first | apply go_ldN h | apply go_lenL h)
 | ((with_reducible apply go_st h); intro _ h)
 | ((with_reducible apply go_stA h); rfl; rfl; (first | rfl | simp [OneV.o]); intro _ h)
 | ((with_reducible apply go_stN h); rfl; (first | rfl | simp [OneV.o]); intro _ h)
 | ((with_reducible apply go_box h); rfl; intro _ _ h)
 | ((with_reducible apply go_ix h); omega)
 | ((with_reducible first | apply go_elN h | apply go_f1 h | apply go_rf1 h | apply go_rel h); (case hi => omega); (try case hx => exact inferInstance); (try case hv => rfl))
 | ((with_reducible apply go_fa h); omega; omega)
))
  exact hK _ (h.got)
theorem rget_spec {id : Int} (hl : rs.length ≤ 1073741824) (h : Sat w0 (RefB v n next rs :: L) w)
    (hK : ∀ w', Sat w0 (RefB v n next rs :: L) w' → K (.tuple #[rowV ((rowAt rs id).getD zeroR), .bool (rowAt rs id).isSome]) w') : callP G99 [v, .int .i64 id] w K := by
  obtain ⟨p, rfl⟩ := refB_ptr h
  unfold rowAt at hK
  refine c99 ?_
  unfold F99
  refine go_alloc h zR rfl fun _ _ h => ?_
  refine rat_spec (v := ptr p) (rs := rs) (n := n) (next := next) hl (h.frt) (fun hf => ?_) (fun i hi hf => ?_)
  · rw [hf] at hK
    have d1 : decide ((-1 : Int) < 0) = true := by decide
    (repeat (first
 | (simp (disch := omega) only [evA, evB, evC, bAdd_i64, bSub_i64, d1])
 | (refine go_some (fb33 ..) ?_)
 | (with_reducible apply go_ld1 h)
 | ((with_reducible first | apply go_ldA h | apply go_rd h | apply go_rdN h | apply go_rlen h); rfl)
 | (with_reducible first | apply go_ldN h | apply go_lenL h)
 | ((with_reducible apply go_st h); intro _ h)
 | ((with_reducible apply go_stA h); rfl; rfl; (first | rfl | simp [OneV.o]); intro _ h)
 | ((with_reducible apply go_stN h); rfl; (first | rfl | simp [OneV.o]); intro _ h)
 | ((with_reducible apply go_box h); rfl; intro _ _ h)
 | ((with_reducible apply go_ix h); omega)
 | ((with_reducible first | apply go_elN h | apply go_f1 h | apply go_rf1 h | apply go_rel h); (case hi => omega); (try case hx => exact inferInstance); (try case hv => rfl))
 | ((with_reducible apply go_fa h); omega; omega)
))
    exact hK _ (h.got)
  rw [hf] at hK
  have d1 : decide (((i : Nat) : Int) < 0) = false := by simp
  obtain ⟨s, h⟩ := refB_at (h.frt (A := RefB (ptr p) n next rs))
  (repeat (first
 | (simp (disch := omega) only [evA, evB, evC, bAdd_i64, bSub_i64, d1])
 | (with_reducible apply go_ld1 h)
 | ((with_reducible first | apply go_ldA h | apply go_rd h | apply go_rdN h | apply go_rlen h); rfl)
 | (with_reducible first | apply go_ldN h | apply go_lenL h)
 | ((with_reducible apply go_st h); intro _ h)
 | ((with_reducible apply go_stA h); rfl; rfl; (first | rfl | simp [OneV.o]); intro _ h)
 | ((with_reducible apply go_stN h); rfl; (first | rfl | simp [OneV.o]); intro _ h)
 | ((with_reducible apply go_box h); rfl; intro _ _ h)
 | ((with_reducible apply go_ix h); omega)
 | ((with_reducible first | apply go_elN h | apply go_f1 h | apply go_rf1 h | apply go_rel h); (case hi => omega); (try case hx => exact inferInstance); (try case hv => rfl))
 | ((with_reducible apply go_fa h); omega; omega)
))
  exact hK _ (refB_iff.2 ⟨p, s, rfl, h.got⟩)
theorem rfind_spec {node cls key : List UInt8} (hl : rs.length ≤ 1073741824) (h : Sat w0 (RefB v n next rs :: L) w)
    (hK : ∀ w', Sat w0 (RefB v n next rs :: L) w' → K (.tuple #[rowV ((rowOf rs (node, cls, key)).getD zeroR), .bool (rowOf rs (node, cls, key)).isSome]) w') : callP G101 [v, .string (bs node), .string (bs cls), .string (bs key)] w K := by
  obtain ⟨p, rfl⟩ := refB_ptr h
  unfold rowOf at hK
  refine c101 ?_
  unfold F101
  refine go_alloc h zR rfl fun _ _ h => ?_
  refine go_some (show _ = some (evV ⟨node, cls, key, 0, []⟩) from by kernel_rfl) ?_
  refine rplace_spec (v := ptr p) (e := ⟨node, cls, key, 0, []⟩) (rs := rs) (n := n) (next := next) hl (h.frt) (fun hf w h => ?_) (fun i hi hf w h => ?_)
  · have hf' : (rs.find? fun d => decide (sgOf d.e = (node, cls, key))) = none := hf
    rw [hf'] at hK
    have d1 : decide ((-1 : Int) < 0) = true := by decide
    (repeat (first
 | (simp (disch := omega) only [evA, evB, evC, bAdd_i64, bSub_i64, d1])
 | (refine go_some (fb33 ..) ?_)
 | (with_reducible apply go_ld1 h)
 | ((with_reducible first | apply go_ldA h | apply go_rd h | apply go_rdN h | apply go_rlen h); rfl)
 | (with_reducible first | apply go_ldN h | apply go_lenL h)
 | ((with_reducible apply go_st h); intro _ h)
 | ((with_reducible apply go_stA h); rfl; rfl; (first | rfl | simp [OneV.o]); intro _ h)
 | ((with_reducible apply go_stN h); rfl; (first | rfl | simp [OneV.o]); intro _ h)
 | ((with_reducible apply go_box h); rfl; intro _ _ h)
 | ((with_reducible apply go_ix h); omega)
 | ((with_reducible first | apply go_elN h | apply go_f1 h | apply go_rf1 h | apply go_rel h); (case hi => omega); (try case hx => exact inferInstance); (try case hv => rfl))
 | ((with_reducible apply go_fa h); omega; omega)
))
    exact hK _ (h.got)
  have hf' : (rs.find? fun d => decide (sgOf d.e = (node, cls, key))) = some rs[i] := hf
  rw [hf'] at hK
  have d1 : decide (((i : Nat) : Int) < 0) = false := by simp
  obtain ⟨s, h⟩ := refB_at (h.frt (A := RefB (ptr p) n next rs))
  (repeat (first
 | (simp (disch := omega) only [evA, evB, evC, bAdd_i64, bSub_i64, d1])
 | (with_reducible apply go_ld1 h)
 | ((with_reducible first | apply go_ldA h | apply go_rd h | apply go_rdN h | apply go_rlen h); rfl)
 | (with_reducible first | apply go_ldN h | apply go_lenL h)
 | ((with_reducible apply go_st h); intro _ h)
 | ((with_reducible apply go_stA h); rfl; rfl; (first | rfl | simp [OneV.o]); intro _ h)
 | ((with_reducible apply go_stN h); rfl; (first | rfl | simp [OneV.o]); intro _ h)
 | ((with_reducible apply go_box h); rfl; intro _ _ h)
 | ((with_reducible apply go_ix h); omega)
 | ((with_reducible first | apply go_elN h | apply go_f1 h | apply go_rf1 h | apply go_rel h); (case hi => omega); (try case hx => exact inferInstance); (try case hv => rfl))
 | ((with_reducible apply go_fa h); omega; omega)
))
  exact hK _ (refB_iff.2 ⟨p, s, rfl, h.got⟩)
theorem rsoon_loop {p : Nat} {s : Value} {keep a0 : Int} (hl : rs.length ≤ 1073741824) (hk : 1 ≤ keep ∧ keep ≤ 2305843009213693952) (hla : -1 ≤ minLast a0 rs ∧ minLast a0 rs ≤ 2305843009213693952) (hK : K (.tuple #[.int .i64 (minLast a0 rs + keep), .bool true]) w)
    (h : Sat w0 (Cl p #[.int .i64 n, .int .i64 next, s] 149 :: LsH cRow 11 33 s rs :: L) w) :
    ∀ (d i : Nat), rs.length - i < d → i ≤ rs.length → F103_2L d (ptr p) (.int .i64 keep) (.int .i64 (minLast a0 (rs.take i))) (.int .i64 i) w K := by
  intro d
  induction d with
  | zero => intro i hd; omega
  | succ d ih =>
    intro i hd hi
    rw [F103_2L]
    unfold F103_2b
    by_cases g : i < rs.length
    · have g' : decide ((i : Int) < (rs.length : Int)) = true := by simpa using g
      have e : min (minLast a0 (rs.take i)) rs[i].last = minLast a0 (rs.take (i + 1)) := by
        unfold minLast; rw [List.take_succ_eq_append_getElem g, List.foldl_append]; rfl
      (repeat (first
 | (simp (disch := omega) only [evA, evB, evC, bAdd_i64, bSub_i64, g', e])
 | (with_reducible apply go_ld1 h)
 | ((with_reducible first | apply go_ldA h | apply go_rd h | apply go_rdN h | apply go_rlen h); rfl)
 | (with_reducible first | apply go_ldN h | apply go_lenL h)
 | ((with_reducible apply go_st h); intro _ h)
 | ((with_reducible apply go_stA h); rfl; rfl; (first | rfl | simp [OneV.o]); intro _ h)
 | ((with_reducible apply go_stN h); rfl; (first | rfl | simp [OneV.o]); intro _ h)
 | ((with_reducible apply go_box h); rfl; intro _ _ h)
 | ((with_reducible apply go_ix h); omega)
 | ((with_reducible first | apply go_elN h | apply go_f1 h | apply go_rf1 h | apply go_rel h); (case hi => omega); (try case hx => exact inferInstance); (try case hv => rfl))
 | ((with_reducible apply go_fa h); omega; omega)
))
      exact ih (i + 1) (by omega) (by omega)
    · have g' : decide ((i : Int) < (rs.length : Int)) = false := by simpa using g
      (repeat (first
 | (simp (disch := omega) only [evA, evB, evC, bAdd_i64, bSub_i64, g'])
 | (with_reducible apply go_ld1 h)
 | ((with_reducible first | apply go_ldA h | apply go_rd h | apply go_rdN h | apply go_rlen h); rfl)
 | (with_reducible first | apply go_ldN h | apply go_lenL h)
 | ((with_reducible apply go_st h); intro _ h)
 | ((with_reducible apply go_stA h); rfl; rfl; (first | rfl | simp [OneV.o]); intro _ h)
 | ((with_reducible apply go_stN h); rfl; (first | rfl | simp [OneV.o]); intro _ h)
 | ((with_reducible apply go_box h); rfl; intro _ _ h)
 | ((with_reducible apply go_ix h); omega)
 | ((with_reducible first | apply go_elN h | apply go_f1 h | apply go_rf1 h | apply go_rel h); (case hi => omega); (try case hx => exact inferInstance); (try case hv => rfl))
 | ((with_reducible apply go_fa h); omega; omega)
))
      unfold F103_3 F103_3b
      rw [List.take_of_length_le (by omega)]
      (repeat (first
 | (simp (disch := omega) only [evA, evB, evC, bAdd_i64, bSub_i64])
 | (with_reducible apply go_ld1 h)
 | ((with_reducible first | apply go_ldA h | apply go_rd h | apply go_rdN h | apply go_rlen h); rfl)
 | (with_reducible first | apply go_ldN h | apply go_lenL h)
 | ((with_reducible apply go_st h); intro _ h)
 | ((with_reducible apply go_stA h); rfl; rfl; (first | rfl | simp [OneV.o]); intro _ h)
 | ((with_reducible apply go_stN h); rfl; (first | rfl | simp [OneV.o]); intro _ h)
 | ((with_reducible apply go_box h); rfl; intro _ _ h)
 | ((with_reducible apply go_ix h); omega)
 | ((with_reducible first | apply go_elN h | apply go_f1 h | apply go_rf1 h | apply go_rel h); (case hi => omega); (try case hx => exact inferInstance); (try case hv => rfl))
 | ((with_reducible apply go_fa h); omega; omega)
))
      exact hK
theorem rsoon_spec {keep : Int} (hl : rs.length ≤ 1073741824) (ht : ∀ r ∈ rs, 0 ≤ r.last ∧ r.last ≤ 2305843009213693952) (h : Sat w0 (RefB v n next rs :: L) w)
    (hK : K (.tuple #[.int .i64 (soonA rs keep).1, .bool (soonA rs keep).2]) w) : callP G103 [v, .int .i64 keep] w K := by
  replace h := refB_iff.1 h
  obtain ⟨p, s, rfl, h⟩ := h
  refine c103 ?_
  unfold F103 F103_1 F103_1b
  cases rs with
  | nil =>
    unfold soonA at hK
    have d1 : decide ((((([] : List Row).length : Nat)) : Int) = 0) = true := by decide
    (repeat (first
 | (simp (disch := omega) only [evA, evB, evC, bAdd_i64, bSub_i64, d1])
 | (with_reducible apply go_ld1 h)
 | ((with_reducible first | apply go_ldA h | apply go_rd h | apply go_rdN h | apply go_rlen h); rfl)
 | (with_reducible first | apply go_ldN h | apply go_lenL h)
 | ((with_reducible apply go_st h); intro _ h)
 | ((with_reducible apply go_stA h); rfl; rfl; (first | rfl | simp [OneV.o]); intro _ h)
 | ((with_reducible apply go_stN h); rfl; (first | rfl | simp [OneV.o]); intro _ h)
 | ((with_reducible apply go_box h); rfl; intro _ _ h)
 | ((with_reducible apply go_ix h); omega)
 | ((with_reducible first | apply go_elN h | apply go_f1 h | apply go_rf1 h | apply go_rel h); (case hi => omega); (try case hx => exact inferInstance); (try case hv => rfl))
 | ((with_reducible apply go_fa h); omega; omega)
))
    exact hK
  | cons r l =>
    unfold soonA at hK
    have d1 : decide (((((r :: l).length : Nat)) : Int) = 0) = false := by simp; omega
    simp only at hK
    by_cases g1 : keep < 1
    · have g1' : decide (keep < 1) = true := by simpa using g1
      rw [if_pos (.inl g1)] at hK
      (repeat (first
 | (simp (disch := omega) only [evA, evB, evC, bAdd_i64, bSub_i64, d1, g1'])
 | (with_reducible apply go_ld1 h)
 | ((with_reducible first | apply go_ldA h | apply go_rd h | apply go_rdN h | apply go_rlen h); rfl)
 | (with_reducible first | apply go_ldN h | apply go_lenL h)
 | ((with_reducible apply go_st h); intro _ h)
 | ((with_reducible apply go_stA h); rfl; rfl; (first | rfl | simp [OneV.o]); intro _ h)
 | ((with_reducible apply go_stN h); rfl; (first | rfl | simp [OneV.o]); intro _ h)
 | ((with_reducible apply go_box h); rfl; intro _ _ h)
 | ((with_reducible apply go_ix h); omega)
 | ((with_reducible first | apply go_elN h | apply go_f1 h | apply go_rf1 h | apply go_rel h); (case hi => omega); (try case hx => exact inferInstance); (try case hv => rfl))
 | ((with_reducible apply go_fa h); omega; omega)
))
      exact hK
    have g1' : decide (keep < 1) = false := by simpa using g1
    by_cases g2 : keep > 2305843009213693952
    · have g2' : decide (keep > 2305843009213693952) = true := by simpa using g2
      rw [if_pos (.inr g2)] at hK
      (repeat (first
 | (simp (disch := omega) only [evA, evB, evC, bAdd_i64, bSub_i64, d1, g1', g2'])
 | (with_reducible apply go_ld1 h)
 | ((with_reducible first | apply go_ldA h | apply go_rd h | apply go_rdN h | apply go_rlen h); rfl)
 | (with_reducible first | apply go_ldN h | apply go_lenL h)
 | ((with_reducible apply go_st h); intro _ h)
 | ((with_reducible apply go_stA h); rfl; rfl; (first | rfl | simp [OneV.o]); intro _ h)
 | ((with_reducible apply go_stN h); rfl; (first | rfl | simp [OneV.o]); intro _ h)
 | ((with_reducible apply go_box h); rfl; intro _ _ h)
 | ((with_reducible apply go_ix h); omega)
 | ((with_reducible first | apply go_elN h | apply go_f1 h | apply go_rf1 h | apply go_rel h); (case hi => omega); (try case hx => exact inferInstance); (try case hv => rfl))
 | ((with_reducible apply go_fa h); omega; omega)
))
      exact hK
    have g2' : decide (keep > 2305843009213693952) = false := by simpa using g2
    rw [if_neg (by omega)] at hK
    (repeat (first
 | (simp (disch := omega) only [evA, evB, evC, bAdd_i64, bSub_i64, d1, g1', g2'])
 | (with_reducible apply go_ld1 h)
 | ((with_reducible first | apply go_ldA h | apply go_rd h | apply go_rdN h | apply go_rlen h); rfl)
 | (with_reducible first | apply go_ldN h | apply go_lenL h)
 | ((with_reducible apply go_st h); intro _ h)
 | ((with_reducible apply go_stA h); rfl; rfl; (first | rfl | simp [OneV.o]); intro _ h)
 | ((with_reducible apply go_stN h); rfl; (first | rfl | simp [OneV.o]); intro _ h)
 | ((with_reducible apply go_box h); rfl; intro _ _ h)
 | ((with_reducible apply go_ix h); omega)
 | ((with_reducible first | apply go_elN h | apply go_f1 h | apply go_rf1 h | apply go_rel h); (case hi => omega); (try case hx => exact inferInstance); (try case hv => rfl))
 | ((with_reducible apply go_fa h); omega; omega)
))
    refine go_some (ix_el (ls_of h (.refl _) inferInstance) (i := 0) (by simp)) ?_
    have h0 : 0 < (r :: l).length := by simp
    (repeat (first
 | (simp (disch := omega) only [evA, evB, evC, bAdd_i64, bSub_i64, List.getElem_cons_zero])
 | (with_reducible apply go_ld1 h)
 | ((with_reducible first | apply go_ldA h | apply go_rd h | apply go_rdN h | apply go_rlen h); rfl)
 | (with_reducible first | apply go_ldN h | apply go_lenL h)
 | ((with_reducible apply go_st h); intro _ h)
 | ((with_reducible apply go_stA h); rfl; rfl; (first | rfl | simp [OneV.o]); intro _ h)
 | ((with_reducible apply go_stN h); rfl; (first | rfl | simp [OneV.o]); intro _ h)
 | ((with_reducible apply go_box h); rfl; intro _ _ h)
 | ((with_reducible apply go_ix h); omega)
 | ((with_reducible first | apply go_elN h | apply go_f1 h | apply go_rf1 h | apply go_rel h); (case hi => omega); (try case hx => exact inferInstance); (try case hv => rfl))
 | ((with_reducible apply go_fa h); omega; omega)
))
    unfold F103_2
    have hb := minLast_bd (a := r.last) (M := 2305843009213693952) ht (ht r (by simp))
    exact rsoon_loop (a0 := r.last) (rs := r :: l) hl (by omega) (by omega) hK h fuel 0 (by unfold fuel; omega) (by omega)
theorem baack_pure {id : Int} {who : List UInt8} (hwho : who.length < 1073741824) (h : Sat w0 (BoardA v n next rs :: L) w)
    (hK : ∀ w', Sat w0 (BoardA v n next (ackA rs id who).2 :: L) w' → K (.tuple #[rowV (ackA rs id who).1.1, .int .i64 (ackA rs id who).1.2]) w') : callP G43 [v, .int .i64 id, .string (bs who)] w K := by
  obtain ⟨R, I, H⟩ := boardA_inv h
  refine baack_spec hwho h (fun c hc w h => ?_) (fun r hr e h1 h2 w h => ?_)
  · have : ackA rs id who = ((zeroR, c), rs) := by
      unfold ackA
      rcases hc with ⟨rfl, hc⟩ | ⟨rfl, h1, r, hr, e⟩ | ⟨rfl, h1, r, hr, e, h2⟩
      · rw [rowAt_none.2 hc]
      · subst e; rw [rowAt_of H.asc hr]; simp only; rw [if_pos h1]
      · subst e; rw [rowAt_of H.asc hr]; simp only; rw [if_neg (by rw [h1]; simp), if_pos h2]
    rw [this] at hK
    exact hK w h
  · have : ackA rs id who = (({ r with acked := true, who := who }, 0), replL { r with acked := true, who := who } rs) := by
      unfold ackA
      subst e; rw [rowAt_of H.asc hr]; simp only; rw [if_neg (by rw [h2]; simp), if_neg (by rw [h1]; simp)]
    rw [this] at hK
    exact hK w h
theorem baclose_pure {id : Int} (h : Sat w0 (BoardA v n next rs :: L) w)
    (hK : ∀ w', Sat w0 (BoardA v n next (closeA rs id).2 :: L) w' → K (.tuple #[rowV (closeA rs id).1.1, .int .i64 (closeA rs id).1.2]) w') : callP G40 [v, .int .i64 id] w K := by
  obtain ⟨R, I, H⟩ := boardA_inv h
  refine baclose_spec h (fun hc w h => ?_) (fun r hr e w h => ?_)
  · have : closeA rs id = ((zeroR, 5), rs) := by unfold closeA; rw [rowAt_none.2 hc]
    rw [this] at hK
    exact hK w h
  · have : closeA rs id = ((r, 0), remL id rs) := by unfold closeA; subst e; rw [rowAt_of H.asc hr]
    rw [this] at hK
    exact hK w h
theorem BInv.rowAt (H : BInv n next R I rs) (id : Int) : aGet id R = rowAt rs id := by
  cases h : Gong.rowAt rs id with
  | none => exact H.get_none (rowAt_none.1 h)
  | some r =>
    obtain ⟨h1, rfl⟩ := rowAt_some h
    exact H.get h1
theorem BInv.rowOf (H : BInv n next R I rs) (g : Sg) : (aGet g I).elim zeroR (fun id => (aGet id R).getD zeroR) = (rowOf rs g).getD zeroR ∧ (aGet g I).isSome = (Gong.rowOf rs g).isSome := by
  have hf : aGet g I = (Gong.rowOf rs g).map (·.id) := H.find g
  rw [hf]
  cases h : Gong.rowOf rs g with
  | none => exact ⟨rfl, rfl⟩
  | some r =>
    have hr := List.mem_of_find?_eq_some h
    simp [H.get hr]
theorem baget_spec {id : Int} (h : Sat w0 (BoardA v n next rs :: L) w)
    (hK : ∀ w', Sat w0 (BoardA v n next rs :: L) w' → K (.tuple #[rowV ((rowAt rs id).getD zeroR), .bool (rowAt rs id).isSome]) w') : callP G98 [v, .int .i64 id] w K := by
  replace h := boardA_iff.1 h
  obtain ⟨R, I, H, h⟩ := h
  rw [← H.1.rowAt] at hK
  refine c98 ?_
  unfold F98
  replace h := board_iff.1 h
  obtain ⟨p, mr, mi, rfl, h⟩ := h
  have := map_one (h.frt (A := MapH kI rowV mr R))
  refine go_alloc h zR rfl fun _ _ h => ?_
  (repeat (first
 | (simp (disch := omega) only [evA, evB, evC, bAdd_i64, bSub_i64])
 | (with_reducible apply go_ld1 h)
 | ((with_reducible first | apply go_ldA h | apply go_rd h | apply go_rdN h | apply go_rlen h); rfl)
 | (with_reducible first | apply go_ldN h | apply go_lenL h)
 | ((with_reducible apply go_st h); intro _ h)
 | ((with_reducible apply go_stA h); rfl; rfl; (first | rfl | simp [OneV.o]); intro _ h)
 | ((with_reducible apply go_stN h); rfl; (first | rfl | simp [OneV.o]); intro _ h)
 | ((with_reducible apply go_box h); rfl; intro _ _ h)
 | ((with_reducible apply go_ix h); omega)
 | ((with_reducible first | apply go_elN h | apply go_f1 h | apply go_rf1 h | apply go_rel h); (case hi => omega); (try case hx => exact inferInstance); (try case hv => rfl))
 | ((with_reducible apply go_fa h); omega; omega)
))
  refine go_look2 h (by repeat (first | exact .here | apply Fnt.there)) KIr um107 zR id ?_
  rw [elimR]
  (repeat (first
 | (simp (disch := omega) only [evA, evB, evC, bAdd_i64, bSub_i64])
 | (with_reducible apply go_ld1 h)
 | ((with_reducible first | apply go_ldA h | apply go_rd h | apply go_rdN h | apply go_rlen h); rfl)
 | (with_reducible first | apply go_ldN h | apply go_lenL h)
 | ((with_reducible apply go_st h); intro _ h)
 | ((with_reducible apply go_stA h); rfl; rfl; (first | rfl | simp [OneV.o]); intro _ h)
 | ((with_reducible apply go_stN h); rfl; (first | rfl | simp [OneV.o]); intro _ h)
 | ((with_reducible apply go_box h); rfl; intro _ _ h)
 | ((with_reducible apply go_ix h); omega)
 | ((with_reducible first | apply go_elN h | apply go_f1 h | apply go_rf1 h | apply go_rel h); (case hi => omega); (try case hx => exact inferInstance); (try case hv => rfl))
 | ((with_reducible apply go_fa h); omega; omega)
))
  refine go_alloc h zR rfl fun _ _ h => ?_
  (repeat (first
 | (simp (disch := omega) only [evA, evB, evC, bAdd_i64, bSub_i64])
 | (with_reducible apply go_ld1 h)
 | ((with_reducible first | apply go_ldA h | apply go_rd h | apply go_rdN h | apply go_rlen h); rfl)
 | (with_reducible first | apply go_ldN h | apply go_lenL h)
 | ((with_reducible apply go_st h); intro _ h)
 | ((with_reducible apply go_stA h); rfl; rfl; (first | rfl | simp [OneV.o]); intro _ h)
 | ((with_reducible apply go_stN h); rfl; (first | rfl | simp [OneV.o]); intro _ h)
 | ((with_reducible apply go_box h); rfl; intro _ _ h)
 | ((with_reducible apply go_ix h); omega)
 | ((with_reducible first | apply go_elN h | apply go_f1 h | apply go_rf1 h | apply go_rel h); (case hi => omega); (try case hx => exact inferInstance); (try case hv => rfl))
 | ((with_reducible apply go_fa h); omega; omega)
))
  exact hK _ (boardA_iff.2 ⟨R, I, H, board_iff.2 ⟨p, mr, mi, rfl, h.got⟩⟩)
theorem bafind_spec {node cls key : List UInt8} (h : Sat w0 (BoardA v n next rs :: L) w)
    (hK : ∀ w', Sat w0 (BoardA v n next rs :: L) w' → K (.tuple #[rowV ((rowOf rs (node, cls, key)).getD zeroR), .bool (rowOf rs (node, cls, key)).isSome]) w') : callP G100 [v, .string (bs node), .string (bs cls), .string (bs key)] w K := by
  replace h := boardA_iff.1 h
  obtain ⟨R, I, H, h⟩ := h
  obtain ⟨e1, e2⟩ := H.1.rowOf (node, cls, key)
  refine c100 ?_
  unfold F100
  replace h := board_iff.1 h
  obtain ⟨p, mr, mi, rfl, h⟩ := h
  have := map_one (h.frt (A := MapH kI rowV mr R))
  have := map_one (h.frt (A := MapH ekS kI mi I))
  have fin : ∀ {w' : World} {q : Nat} {cs : Array Value}, Sat w0 (Cl q cs 33 :: Cl p #[.int .i64 n, .int .i64 next, mr, mi] 110 :: MapH kI rowV mr R :: MapH ekS kI mi I :: L) w' → Sat w0 (BoardA (ptr p) n next rs :: L) w' := fun h => boardA_iff.2 ⟨R, I, H, board_iff.2 ⟨p, mr, mi, rfl, h.got⟩⟩
  refine go_alloc h zR rfl fun _ _ h => ?_
  (repeat (first
 | (simp (disch := omega) only [evA, evB, evC, bAdd_i64, bSub_i64])
 | (with_reducible apply go_ld1 h)
 | ((with_reducible first | apply go_ldA h | apply go_rd h | apply go_rdN h | apply go_rlen h); rfl)
 | (with_reducible first | apply go_ldN h | apply go_lenL h)
 | ((with_reducible apply go_st h); intro _ h)
 | ((with_reducible apply go_stA h); rfl; rfl; (first | rfl | simp [OneV.o]); intro _ h)
 | ((with_reducible apply go_stN h); rfl; (first | rfl | simp [OneV.o]); intro _ h)
 | ((with_reducible apply go_box h); rfl; intro _ _ h)
 | ((with_reducible apply go_ix h); omega)
 | ((with_reducible first | apply go_elN h | apply go_f1 h | apply go_rf1 h | apply go_rel h); (case hi => omega); (try case hx => exact inferInstance); (try case hv => rfl))
 | ((with_reducible apply go_fa h); omega; omega)
))
  refine go_some (show _ = some (ekS (node, cls, key)) from by kernel_rfl) ?_
  refine go_look2 h (by repeat (first | exact .here | apply Fnt.there)) KS um108 z3 (node, cls, key) ?_
  have hf : aGet (node, cls, key) I = (rowOf rs (node, cls, key)).map (·.id) := H.1.find _
  cases hg : rowOf rs (node, cls, key) with
  | none =>
    rw [hg] at hf hK
    rw [hf]
    simp only [Option.map_none, Option.elim_none, Option.isSome_none]
    (repeat (first
 | (simp (disch := omega) only [evA, evB, evC, bAdd_i64, bSub_i64])
 | (with_reducible apply go_ld1 h)
 | ((with_reducible first | apply go_ldA h | apply go_rd h | apply go_rdN h | apply go_rlen h); rfl)
 | (with_reducible first | apply go_ldN h | apply go_lenL h)
 | ((with_reducible apply go_st h); intro _ h)
 | ((with_reducible apply go_stA h); rfl; rfl; (first | rfl | simp [OneV.o]); intro _ h)
 | ((with_reducible apply go_stN h); rfl; (first | rfl | simp [OneV.o]); intro _ h)
 | ((with_reducible apply go_box h); rfl; intro _ _ h)
 | ((with_reducible apply go_ix h); omega)
 | ((with_reducible first | apply go_elN h | apply go_f1 h | apply go_rf1 h | apply go_rel h); (case hi => omega); (try case hx => exact inferInstance); (try case hv => rfl))
 | ((with_reducible apply go_fa h); omega; omega)
))
    refine go_look1 h (by repeat (first | exact .here | apply Fnt.there)) KIr um107 zR 0 ?_
    rw [H.1.get_none fun c hc e => by have := (okR_parts (H.1.ok c hc).1).1; omega]
    simp only [Option.elim_none]
    (repeat (first
 | (simp (disch := omega) only [evA, evB, evC, bAdd_i64, bSub_i64])
 | (with_reducible apply go_ld1 h)
 | ((with_reducible first | apply go_ldA h | apply go_rd h | apply go_rdN h | apply go_rlen h); rfl)
 | (with_reducible first | apply go_ldN h | apply go_lenL h)
 | ((with_reducible apply go_st h); intro _ h)
 | ((with_reducible apply go_stA h); rfl; rfl; (first | rfl | simp [OneV.o]); intro _ h)
 | ((with_reducible apply go_stN h); rfl; (first | rfl | simp [OneV.o]); intro _ h)
 | ((with_reducible apply go_box h); rfl; intro _ _ h)
 | ((with_reducible apply go_ix h); omega)
 | ((with_reducible first | apply go_elN h | apply go_f1 h | apply go_rf1 h | apply go_rel h); (case hi => omega); (try case hx => exact inferInstance); (try case hv => rfl))
 | ((with_reducible apply go_fa h); omega; omega)
))
    exact hK _ (fin h)
  | some r =>
    have hr := List.mem_of_find?_eq_some hg
    rw [hg] at hf hK
    rw [hf]
    simp only [Option.map_some, Option.elim_some, Option.isSome_some]
    (repeat (first
 | (simp (disch := omega) only [evA, evB, evC, bAdd_i64, bSub_i64])
 | (with_reducible apply go_ld1 h)
 | ((with_reducible first | apply go_ldA h | apply go_rd h | apply go_rdN h | apply go_rlen h); rfl)
 | (with_reducible first | apply go_ldN h | apply go_lenL h)
 | ((with_reducible apply go_st h); intro _ h)
 | ((with_reducible apply go_stA h); rfl; rfl; (first | rfl | simp [OneV.o]); intro _ h)
 | ((with_reducible apply go_stN h); rfl; (first | rfl | simp [OneV.o]); intro _ h)
 | ((with_reducible apply go_box h); rfl; intro _ _ h)
 | ((with_reducible apply go_ix h); omega)
 | ((with_reducible first | apply go_elN h | apply go_f1 h | apply go_rf1 h | apply go_rel h); (case hi => omega); (try case hx => exact inferInstance); (try case hv => rfl))
 | ((with_reducible apply go_fa h); omega; omega)
))
    refine go_look1 h (by repeat (first | exact .here | apply Fnt.there)) KIr um107 zR r.id ?_
    rw [H.1.get hr]
    simp only [Option.elim_some]
    (repeat (first
 | (simp (disch := omega) only [evA, evB, evC, bAdd_i64, bSub_i64])
 | (with_reducible apply go_ld1 h)
 | ((with_reducible first | apply go_ldA h | apply go_rd h | apply go_rdN h | apply go_rlen h); rfl)
 | (with_reducible first | apply go_ldN h | apply go_lenL h)
 | ((with_reducible apply go_st h); intro _ h)
 | ((with_reducible apply go_stA h); rfl; rfl; (first | rfl | simp [OneV.o]); intro _ h)
 | ((with_reducible apply go_stN h); rfl; (first | rfl | simp [OneV.o]); intro _ h)
 | ((with_reducible apply go_box h); rfl; intro _ _ h)
 | ((with_reducible apply go_ix h); omega)
 | ((with_reducible first | apply go_elN h | apply go_f1 h | apply go_rf1 h | apply go_rel h); (case hi => omega); (try case hx => exact inferInstance); (try case hv => rfl))
 | ((with_reducible apply go_fa h); omega; omega)
))
    exact hK _ (fin h)
theorem bylast_sat {x y : Row} (h : Sat w0 L w) (hK : ∀ w', Sat w0 L w' → K (.int .i64 (laV x y)) w') : callP G88 [rowV x, rowV y] w K := by
  refine c88 ?_
  unfold F88
  (repeat (first
 | (simp (disch := omega) only [evA, evB, evC, bAdd_i64, bSub_i64])
 | (with_reducible apply go_ld1 h)
 | ((with_reducible first | apply go_ldA h | apply go_rd h | apply go_rdN h | apply go_rlen h); rfl)
 | (with_reducible first | apply go_ldN h | apply go_lenL h)
 | ((with_reducible apply go_st h); intro _ h)
 | ((with_reducible apply go_stA h); rfl; rfl; (first | rfl | simp [OneV.o]); intro _ h)
 | ((with_reducible apply go_stN h); rfl; (first | rfl | simp [OneV.o]); intro _ h)
 | ((with_reducible apply go_box h); rfl; intro _ _ h)
 | ((with_reducible apply go_ix h); omega)
 | ((with_reducible first | apply go_elN h | apply go_f1 h | apply go_rf1 h | apply go_rel h); (case hi => omega); (try case hx => exact inferInstance); (try case hv => rfl))
 | ((with_reducible apply go_fa h); omega; omega)
))
  refine cmp_spec ?_
  (repeat (first
 | (simp (disch := omega) only [evA, evB, evC, bAdd_i64, bSub_i64])
 | (with_reducible apply go_ld1 h)
 | ((with_reducible first | apply go_ldA h | apply go_rd h | apply go_rdN h | apply go_rlen h); rfl)
 | (with_reducible first | apply go_ldN h | apply go_lenL h)
 | ((with_reducible apply go_st h); intro _ h)
 | ((with_reducible apply go_stA h); rfl; rfl; (first | rfl | simp [OneV.o]); intro _ h)
 | ((with_reducible apply go_stN h); rfl; (first | rfl | simp [OneV.o]); intro _ h)
 | ((with_reducible apply go_box h); rfl; intro _ _ h)
 | ((with_reducible apply go_ix h); omega)
 | ((with_reducible first | apply go_elN h | apply go_f1 h | apply go_rf1 h | apply go_rel h); (case hi => omega); (try case hx => exact inferInstance); (try case hv => rfl))
 | ((with_reducible apply go_fa h); omega; omega)
))
  refine cmp_spec ?_
  generalize ha : (if x.last < y.last then (-1 : Int) else if y.last < x.last then 1 else 0) = a
  generalize hb : (if x.id < y.id then (-1 : Int) else if y.id < x.id then 1 else 0) = b
  have e : (([a, b] : List Int).find? (fun c => decide (c ≠ 0))).getD 0 = laV x y := by
    rw [← ha, ← hb]; exact ord_find (x.id, x.last) (y.id, y.last)
  (repeat (first
 | (simp (disch := omega) only [evA, evB, evC, bAdd_i64, bSub_i64])
 | (with_reducible apply go_ld1 h)
 | ((with_reducible first | apply go_ldA h | apply go_rd h | apply go_rdN h | apply go_rlen h); rfl)
 | (with_reducible first | apply go_ldN h | apply go_lenL h)
 | ((with_reducible apply go_st h); intro _ h)
 | ((with_reducible apply go_stA h); rfl; rfl; (first | rfl | simp [OneV.o]); intro _ h)
 | ((with_reducible apply go_stN h); rfl; (first | rfl | simp [OneV.o]); intro _ h)
 | ((with_reducible apply go_box h); rfl; intro _ _ h)
 | ((with_reducible apply go_ix h); omega)
 | ((with_reducible first | apply go_elN h | apply go_f1 h | apply go_rf1 h | apply go_rel h); (case hi => omega); (try case hx => exact inferInstance); (try case hv => rfl))
 | ((with_reducible apply go_fa h); omega; omega)
))
  refine ls_lit (m := [a, b]) (f := cI) (es := 1) (c := #[.int .i64 a, .int .i64 b]) CI h.drew u22 (by kernel_rfl) rfl fun s w h => ?_
  refine or_spec (ls_rd h) (by simp) ?_
  rw [e]
  exact hK _ (h.got)
theorem minf_loop {s : Value} {p0 p1 : Nat} (hl : rs.length ≤ 1073741824) (h0 : 0 < rs.length) (hK : ∀ (m : Row) w', m.last = minLast rs[0].last rs → Sat w0 (LsH cRow 11 33 s rs :: L) w' → K (rowV m) w') :
    ∀ (d i : Nat) (m : Row) (w : World), rs.length - i < d → i ≤ rs.length → m.last = minLast rs[0].last (rs.take i) → Sat w0 (Cl p1 (cRow m).toArray 33 :: Cl p0 (cRow zeroR).toArray 33 :: LsH cRow 11 33 s rs :: L) w →
      F129_3L d s (.func (.func 88) #[] #[]) (ptr p0) (ptr p1) (.int .i64 i) w K := by
  intro d
  induction d with
  | zero => intro i _ _ hd; omega
  | succ d ih =>
    intro i m w hd hi hm h
    rw [F129_3L]
    unfold F129_5 F129_5b
    by_cases g : i < rs.length
    · have g' : decide ((i : Int) < (rs.length : Int)) = true := by simpa using g
      (repeat (first
 | (simp (disch := omega) only [evA, evB, evC, bAdd_i64, bSub_i64, g'])
 | (with_reducible apply go_ld1 h)
 | ((with_reducible first | apply go_ldA h | apply go_rd h | apply go_rdN h | apply go_rlen h); rfl)
 | (with_reducible first | apply go_ldN h | apply go_lenL h)
 | ((with_reducible apply go_st h); intro _ h)
 | ((with_reducible apply go_stA h); rfl; rfl; (first | rfl | simp [OneV.o]); intro _ h)
 | ((with_reducible apply go_stN h); rfl; (first | rfl | simp [OneV.o]); intro _ h)
 | ((with_reducible apply go_box h); rfl; intro _ _ h)
 | ((with_reducible apply go_ix h); omega)
 | ((with_reducible first | apply go_elN h | apply go_f1 h | apply go_rf1 h | apply go_rel h); (case hi => omega); (try case hx => exact inferInstance); (try case hv => rfl))
 | ((with_reducible apply go_fa h); omega; omega)
))
      have call : ∀ k : Value → World → Prop, callP G88 [rowV rs[i], rowV m] w.drew k → eCallV (tabOf T129) (.func (.func 88) #[] #[]) [rowV rs[i], rowV m] w.drew k := by
        intro k h
        show callP (tabOf T129 88) _ _ _
        exact h
      refine call _ (bylast_sat h.drew fun w h => ?_)
      have e : minLast rs[0].last (rs.take (i + 1)) = min m.last rs[i].last := by
        rw [hm]; unfold minLast; rw [List.take_succ_eq_append_getElem g, List.foldl_append]; rfl
      by_cases g2 : laV rs[i] m < 0
      · have g2' : decide (laV rs[i] m < 0) = true := by simpa using g2
        have h2 := (laV_neg _ _).1 g2
        (repeat (first
 | (simp (disch := omega) only [evA, evB, evC, bAdd_i64, bSub_i64, g2'])
 | (with_reducible apply go_ld1 h)
 | ((with_reducible first | apply go_ldA h | apply go_rd h | apply go_rdN h | apply go_rlen h); rfl)
 | (with_reducible first | apply go_ldN h | apply go_lenL h)
 | ((with_reducible apply go_st h); intro _ h)
 | ((with_reducible apply go_stA h); rfl; rfl; (first | rfl | simp [OneV.o]); intro _ h)
 | ((with_reducible apply go_stN h); rfl; (first | rfl | simp [OneV.o]); intro _ h)
 | ((with_reducible apply go_box h); rfl; intro _ _ h)
 | ((with_reducible apply go_ix h); omega)
 | ((with_reducible first | apply go_elN h | apply go_f1 h | apply go_rf1 h | apply go_rel h); (case hi => omega); (try case hx => exact inferInstance); (try case hv => rfl))
 | ((with_reducible apply go_fa h); omega; omega)
))
        unfold F129_6 F129_6b
        (repeat (first
 | (simp (disch := omega) only [evA, evB, evC, bAdd_i64, bSub_i64])
 | (with_reducible apply go_ld1 h)
 | ((with_reducible first | apply go_ldA h | apply go_rd h | apply go_rdN h | apply go_rlen h); rfl)
 | (with_reducible first | apply go_ldN h | apply go_lenL h)
 | ((with_reducible apply go_st h); intro _ h)
 | ((with_reducible apply go_stA h); rfl; rfl; (first | rfl | simp [OneV.o]); intro _ h)
 | ((with_reducible apply go_stN h); rfl; (first | rfl | simp [OneV.o]); intro _ h)
 | ((with_reducible apply go_box h); rfl; intro _ _ h)
 | ((with_reducible apply go_ix h); omega)
 | ((with_reducible first | apply go_elN h | apply go_f1 h | apply go_rf1 h | apply go_rel h); (case hi => omega); (try case hx => exact inferInstance); (try case hv => rfl))
 | ((with_reducible apply go_fa h); omega; omega)
))
        refine ih (i + 1) rs[i] _ (by omega) (by omega) ?_ h
        rw [e]
        simp [laLt, itLt] at h2
        omega
      · have g2' : decide (laV rs[i] m < 0) = false := by simpa using g2
        have h2 : ¬ laLt rs[i] m = true := fun hh => g2 ((laV_neg _ _).2 hh)
        (repeat (first
 | (simp (disch := omega) only [evA, evB, evC, bAdd_i64, bSub_i64, g2'])
 | (with_reducible apply go_ld1 h)
 | ((with_reducible first | apply go_ldA h | apply go_rd h | apply go_rdN h | apply go_rlen h); rfl)
 | (with_reducible first | apply go_ldN h | apply go_lenL h)
 | ((with_reducible apply go_st h); intro _ h)
 | ((with_reducible apply go_stA h); rfl; rfl; (first | rfl | simp [OneV.o]); intro _ h)
 | ((with_reducible apply go_stN h); rfl; (first | rfl | simp [OneV.o]); intro _ h)
 | ((with_reducible apply go_box h); rfl; intro _ _ h)
 | ((with_reducible apply go_ix h); omega)
 | ((with_reducible first | apply go_elN h | apply go_f1 h | apply go_rf1 h | apply go_rel h); (case hi => omega); (try case hx => exact inferInstance); (try case hv => rfl))
 | ((with_reducible apply go_fa h); omega; omega)
))
        unfold F129_6 F129_6b
        (repeat (first
 | (simp (disch := omega) only [evA, evB, evC, bAdd_i64, bSub_i64])
 | (with_reducible apply go_ld1 h)
 | ((with_reducible first | apply go_ldA h | apply go_rd h | apply go_rdN h | apply go_rlen h); rfl)
 | (with_reducible first | apply go_ldN h | apply go_lenL h)
 | ((with_reducible apply go_st h); intro _ h)
 | ((with_reducible apply go_stA h); rfl; rfl; (first | rfl | simp [OneV.o]); intro _ h)
 | ((with_reducible apply go_stN h); rfl; (first | rfl | simp [OneV.o]); intro _ h)
 | ((with_reducible apply go_box h); rfl; intro _ _ h)
 | ((with_reducible apply go_ix h); omega)
 | ((with_reducible first | apply go_elN h | apply go_f1 h | apply go_rf1 h | apply go_rel h); (case hi => omega); (try case hx => exact inferInstance); (try case hv => rfl))
 | ((with_reducible apply go_fa h); omega; omega)
))
        refine ih (i + 1) m _ (by omega) (by omega) ?_ h
        rw [e]
        simp [laLt, itLt] at h2
        omega
    · have g' : decide ((i : Int) < (rs.length : Int)) = false := by simpa using g
      (repeat (first
 | (simp (disch := omega) only [evA, evB, evC, bAdd_i64, bSub_i64, g'])
 | (with_reducible apply go_ld1 h)
 | ((with_reducible first | apply go_ldA h | apply go_rd h | apply go_rdN h | apply go_rlen h); rfl)
 | (with_reducible first | apply go_ldN h | apply go_lenL h)
 | ((with_reducible apply go_st h); intro _ h)
 | ((with_reducible apply go_stA h); rfl; rfl; (first | rfl | simp [OneV.o]); intro _ h)
 | ((with_reducible apply go_stN h); rfl; (first | rfl | simp [OneV.o]); intro _ h)
 | ((with_reducible apply go_box h); rfl; intro _ _ h)
 | ((with_reducible apply go_ix h); omega)
 | ((with_reducible first | apply go_elN h | apply go_f1 h | apply go_rf1 h | apply go_rel h); (case hi => omega); (try case hx => exact inferInstance); (try case hv => rfl))
 | ((with_reducible apply go_fa h); omega; omega)
))
      unfold F129_4 F129_4b
      rw [List.take_of_length_le (by omega)] at hm
      (repeat (first
 | (simp (disch := omega) only [evA, evB, evC, bAdd_i64, bSub_i64])
 | (with_reducible apply go_ld1 h)
 | ((with_reducible first | apply go_ldA h | apply go_rd h | apply go_rdN h | apply go_rlen h); rfl)
 | (with_reducible first | apply go_ldN h | apply go_lenL h)
 | ((with_reducible apply go_st h); intro _ h)
 | ((with_reducible apply go_stA h); rfl; rfl; (first | rfl | simp [OneV.o]); intro _ h)
 | ((with_reducible apply go_stN h); rfl; (first | rfl | simp [OneV.o]); intro _ h)
 | ((with_reducible apply go_box h); rfl; intro _ _ h)
 | ((with_reducible apply go_ix h); omega)
 | ((with_reducible first | apply go_elN h | apply go_f1 h | apply go_rf1 h | apply go_rel h); (case hi => omega); (try case hx => exact inferInstance); (try case hv => rfl))
 | ((with_reducible apply go_fa h); omega; omega)
))
      exact hK m _ hm (h.got)
theorem basoon_spec {keep : Int} (ht : ∀ r ∈ rs, 0 ≤ r.last ∧ r.last ≤ 2305843009213693952) (h : Sat w0 (BoardA v n next rs :: L) w)
    (hK : ∀ w', Sat w0 (BoardA v n next rs :: L) w' → K (.tuple #[.int .i64 (soonA rs keep).1, .bool (soonA rs keep).2]) w') : callP G102 [v, .int .i64 keep] w K := by
  obtain ⟨R0, I0, H0⟩ := boardA_inv h
  have hbd := H0.bd
  have hlen0 := H0.len
  refine c102 ?_
  unfold F102
  have hK0 : Sat w0 (BoardA v n next rs :: L) w := h
  replace h := boardA_iff.1 h
  obtain ⟨R, I, H, h⟩ := h
  have hlen := H.1.len
  replace h := board_iff.1 h
  obtain ⟨p, mr, mi, rfl, h⟩ := h
  (repeat (first
 | (simp (disch := omega) only [evA, evB, evC, bAdd_i64, bSub_i64])
 | (with_reducible apply go_ld1 h)
 | ((with_reducible first | apply go_ldA h | apply go_rd h | apply go_rdN h | apply go_rlen h); rfl)
 | (with_reducible first | apply go_ldN h | apply go_lenL h)
 | ((with_reducible apply go_st h); intro _ h)
 | ((with_reducible apply go_stA h); rfl; rfl; (first | rfl | simp [OneV.o]); intro _ h)
 | ((with_reducible apply go_stN h); rfl; (first | rfl | simp [OneV.o]); intro _ h)
 | ((with_reducible apply go_box h); rfl; intro _ _ h)
 | ((with_reducible apply go_ix h); omega)
 | ((with_reducible first | apply go_elN h | apply go_f1 h | apply go_rf1 h | apply go_rel h); (case hi => omega); (try case hx => exact inferInstance); (try case hv => rfl))
 | ((with_reducible apply go_fa h); omega; omega)
))
  refine go_lenM h (by repeat (first | exact .here | apply Fnt.there)) ?_
  rw [hlen]
  cases rs with
  | nil =>
    unfold soonA at hK
    have d1 : decide ((((([] : List Row).length : Nat)) : Int) = 0) = true := by decide
    (repeat (first
 | (simp (disch := omega) only [evA, evB, evC, bAdd_i64, bSub_i64, d1])
 | (with_reducible apply go_ld1 h)
 | ((with_reducible first | apply go_ldA h | apply go_rd h | apply go_rdN h | apply go_rlen h); rfl)
 | (with_reducible first | apply go_ldN h | apply go_lenL h)
 | ((with_reducible apply go_st h); intro _ h)
 | ((with_reducible apply go_stA h); rfl; rfl; (first | rfl | simp [OneV.o]); intro _ h)
 | ((with_reducible apply go_stN h); rfl; (first | rfl | simp [OneV.o]); intro _ h)
 | ((with_reducible apply go_box h); rfl; intro _ _ h)
 | ((with_reducible apply go_ix h); omega)
 | ((with_reducible first | apply go_elN h | apply go_f1 h | apply go_rf1 h | apply go_rel h); (case hi => omega); (try case hx => exact inferInstance); (try case hv => rfl))
 | ((with_reducible apply go_fa h); omega; omega)
))
    exact hK _ hK0
  | cons r l =>
    unfold soonA at hK
    have d1 : decide (((((r :: l).length : Nat)) : Int) = 0) = false := by simp; omega
    simp only at hK
    by_cases g1 : keep < 1
    · have g1' : decide (keep < 1) = true := by simpa using g1
      rw [if_pos (.inl g1)] at hK
      (repeat (first
 | (simp (disch := omega) only [evA, evB, evC, bAdd_i64, bSub_i64, d1, g1'])
 | (with_reducible apply go_ld1 h)
 | ((with_reducible first | apply go_ldA h | apply go_rd h | apply go_rdN h | apply go_rlen h); rfl)
 | (with_reducible first | apply go_ldN h | apply go_lenL h)
 | ((with_reducible apply go_st h); intro _ h)
 | ((with_reducible apply go_stA h); rfl; rfl; (first | rfl | simp [OneV.o]); intro _ h)
 | ((with_reducible apply go_stN h); rfl; (first | rfl | simp [OneV.o]); intro _ h)
 | ((with_reducible apply go_box h); rfl; intro _ _ h)
 | ((with_reducible apply go_ix h); omega)
 | ((with_reducible first | apply go_elN h | apply go_f1 h | apply go_rf1 h | apply go_rel h); (case hi => omega); (try case hx => exact inferInstance); (try case hv => rfl))
 | ((with_reducible apply go_fa h); omega; omega)
))
      exact hK _ hK0
    have g1' : decide (keep < 1) = false := by simpa using g1
    by_cases g2 : keep > 2305843009213693952
    · have g2' : decide (keep > 2305843009213693952) = true := by simpa using g2
      rw [if_pos (.inr g2)] at hK
      (repeat (first
 | (simp (disch := omega) only [evA, evB, evC, bAdd_i64, bSub_i64, d1, g1', g2'])
 | (with_reducible apply go_ld1 h)
 | ((with_reducible first | apply go_ldA h | apply go_rd h | apply go_rdN h | apply go_rlen h); rfl)
 | (with_reducible first | apply go_ldN h | apply go_lenL h)
 | ((with_reducible apply go_st h); intro _ h)
 | ((with_reducible apply go_stA h); rfl; rfl; (first | rfl | simp [OneV.o]); intro _ h)
 | ((with_reducible apply go_stN h); rfl; (first | rfl | simp [OneV.o]); intro _ h)
 | ((with_reducible apply go_box h); rfl; intro _ _ h)
 | ((with_reducible apply go_ix h); omega)
 | ((with_reducible first | apply go_elN h | apply go_f1 h | apply go_rf1 h | apply go_rel h); (case hi => omega); (try case hx => exact inferInstance); (try case hv => rfl))
 | ((with_reducible apply go_fa h); omega; omega)
))
      exact hK _ hK0
    have g2' : decide (keep > 2305843009213693952) = false := by simpa using g2
    rw [if_neg (by omega)] at hK
    (repeat (first
 | (simp (disch := omega) only [evA, evB, evC, bAdd_i64, bSub_i64, d1, g1', g2'])
 | (with_reducible apply go_ld1 h)
 | ((with_reducible first | apply go_ldA h | apply go_rd h | apply go_rdN h | apply go_rlen h); rfl)
 | (with_reducible first | apply go_ldN h | apply go_lenL h)
 | ((with_reducible apply go_st h); intro _ h)
 | ((with_reducible apply go_stA h); rfl; rfl; (first | rfl | simp [OneV.o]); intro _ h)
 | ((with_reducible apply go_stN h); rfl; (first | rfl | simp [OneV.o]); intro _ h)
 | ((with_reducible apply go_box h); rfl; intro _ _ h)
 | ((with_reducible apply go_ix h); omega)
 | ((with_reducible first | apply go_elN h | apply go_f1 h | apply go_rf1 h | apply go_rel h); (case hi => omega); (try case hx => exact inferInstance); (try case hv => rfl))
 | ((with_reducible apply go_fa h); omega; omega)
))
    refine baall_spec (rs := r :: l) (n := n) (next := next) hK0 fun s w h => ?_
    refine c129 ?_
    unfold F129 F129_1 F129_1b
    refine go_alloc h zR rfl fun p0 _ h => ?_
    have d2 : decide (((((r :: l).length : Nat)) : Int) < 1) = false := by simp; omega
    (repeat (first
 | (simp (disch := omega) only [evA, evB, evC, bAdd_i64, bSub_i64, d2])
 | (with_reducible apply go_ld1 h)
 | ((with_reducible first | apply go_ldA h | apply go_rd h | apply go_rdN h | apply go_rlen h); rfl)
 | (with_reducible first | apply go_ldN h | apply go_lenL h)
 | ((with_reducible apply go_st h); intro _ h)
 | ((with_reducible apply go_stA h); rfl; rfl; (first | rfl | simp [OneV.o]); intro _ h)
 | ((with_reducible apply go_stN h); rfl; (first | rfl | simp [OneV.o]); intro _ h)
 | ((with_reducible apply go_box h); rfl; intro _ _ h)
 | ((with_reducible apply go_ix h); omega)
 | ((with_reducible first | apply go_elN h | apply go_f1 h | apply go_rf1 h | apply go_rel h); (case hi => omega); (try case hx => exact inferInstance); (try case hv => rfl))
 | ((with_reducible apply go_fa h); omega; omega)
))
    unfold F129_2 F129_2b
    refine go_some (ix_el (ls_of h (.refl _) inferInstance) (i := 0) (by simp)) ?_
    have h0 : 0 < (r :: l).length := by simp
    (repeat (first
 | (simp (disch := omega) only [evA, evB, evC, bAdd_i64, bSub_i64])
 | (with_reducible apply go_ld1 h)
 | ((with_reducible first | apply go_ldA h | apply go_rd h | apply go_rdN h | apply go_rlen h); rfl)
 | (with_reducible first | apply go_ldN h | apply go_lenL h)
 | ((with_reducible apply go_st h); intro _ h)
 | ((with_reducible apply go_stA h); rfl; rfl; (first | rfl | simp [OneV.o]); intro _ h)
 | ((with_reducible apply go_stN h); rfl; (first | rfl | simp [OneV.o]); intro _ h)
 | ((with_reducible apply go_box h); rfl; intro _ _ h)
 | ((with_reducible apply go_ix h); omega)
 | ((with_reducible first | apply go_elN h | apply go_f1 h | apply go_rf1 h | apply go_rel h); (case hi => omega); (try case hx => exact inferInstance); (try case hv => rfl))
 | ((with_reducible apply go_fa h); omega; omega)
))
    refine go_alloc h zR rfl fun p1 _ h => ?_
    (repeat (first
 | (simp (disch := omega) only [evA, evB, evC, bAdd_i64, bSub_i64])
 | (with_reducible apply go_ld1 h)
 | ((with_reducible first | apply go_ldA h | apply go_rd h | apply go_rdN h | apply go_rlen h); rfl)
 | (with_reducible first | apply go_ldN h | apply go_lenL h)
 | ((with_reducible apply go_st h); intro _ h)
 | ((with_reducible apply go_stA h); rfl; rfl; (first | rfl | simp [OneV.o]); intro _ h)
 | ((with_reducible apply go_stN h); rfl; (first | rfl | simp [OneV.o]); intro _ h)
 | ((with_reducible apply go_box h); rfl; intro _ _ h)
 | ((with_reducible apply go_ix h); omega)
 | ((with_reducible first | apply go_elN h | apply go_f1 h | apply go_rf1 h | apply go_rel h); (case hi => omega); (try case hx => exact inferInstance); (try case hv => rfl))
 | ((with_reducible apply go_fa h); omega; omega)
))
    unfold F129_3
    have hb := minLast_bd (a := r.last) (M := 2305843009213693952) ht (ht r (by simp))
    refine minf_loop (rs := r :: l) (L := BoardA (ptr p) n next (r :: l) :: L) (by omega) h0 (fun m w hm h => ?_) fuel 1 (r :: l)[0] _ (by unfold fuel; omega) (by simp) ?_ (h.got)
    · refine go_alloc h zR rfl fun _ _ h => ?_
      simp only [List.getElem_cons_zero] at hm
      rw [← hm] at hK hb
      (repeat (first
 | (simp (disch := omega) only [evA, evB, evC, bAdd_i64, bSub_i64])
 | (with_reducible apply go_ld1 h)
 | ((with_reducible first | apply go_ldA h | apply go_rd h | apply go_rdN h | apply go_rlen h); rfl)
 | (with_reducible first | apply go_ldN h | apply go_lenL h)
 | ((with_reducible apply go_st h); intro _ h)
 | ((with_reducible apply go_stA h); rfl; rfl; (first | rfl | simp [OneV.o]); intro _ h)
 | ((with_reducible apply go_stN h); rfl; (first | rfl | simp [OneV.o]); intro _ h)
 | ((with_reducible apply go_box h); rfl; intro _ _ h)
 | ((with_reducible apply go_ix h); omega)
 | ((with_reducible first | apply go_elN h | apply go_f1 h | apply go_rf1 h | apply go_rel h); (case hi => omega); (try case hx => exact inferInstance); (try case hv => rfl))
 | ((with_reducible apply go_fa h); omega; omega)
))
      exact hK _ (h.got)
    · simp [minLast]
end
end Go.Proofs.Gong

/- Bp3 -/
namespace Go.Proofs.Gong
open Go Go.Sx Go.Proofs
set_option maxRecDepth 100000
def insL (r : Row) (l : List Row) : List Row := l.takeWhile (fun d => decide (d.last ≤ r.last)) ++ r :: l.dropWhile (fun d => decide (d.last ≤ r.last))
def expO (t : Int) : List Row → List Row → List Row
  | [], o => o
  | r :: l, o => expO t l (if oldP t r = true then insL r o else o)
theorem insL_perm (r : Row) (l : List Row) : (insL r l).Perm (r :: l) := by
  unfold insL
  exact List.perm_middle.trans (by rw [List.takeWhile_append_dropWhile])
theorem insL_sorted {r : Row} : ∀ {l : List Row}, (l.Pairwise fun x y => laLt y x = false) → (∀ d ∈ l, d.id < r.id) → (insL r l).Pairwise fun x y => laLt y x = false
  | [], _, _ => by simp [insL]
  | d :: l, h, hn => by
    obtain ⟨h1, h2⟩ := List.pairwise_cons.1 h
    have hd := hn d (by simp)
    by_cases g : d.last ≤ r.last
    · have e : insL r (d :: l) = d :: insL r l := by simp [insL, g]
      rw [e]
      refine List.pairwise_cons.2 ⟨fun x hx => ?_, insL_sorted h2 fun x hx => hn x (List.mem_cons_of_mem _ hx)⟩
      rcases List.mem_cons.1 ((insL_perm r l).mem_iff.1 hx) with rfl | hx
      · simp [laLt, itLt]; omega
      · exact h1 x hx
    · have e : insL r (d :: l) = r :: d :: l := by simp [insL, g]
      rw [e]
      refine List.pairwise_cons.2 ⟨fun x hx => ?_, h⟩
      rcases List.mem_cons.1 hx with rfl | hx
      · simp [laLt, itLt]; omega
      · have h3 := h1 x hx
        simp [laLt, itLt] at h3 ⊢; omega
theorem expO_perm {t : Int} : ∀ {l o : List Row}, (expO t l o).Perm (o ++ l.filter (oldP t))
  | [], o => by simp [expO]
  | r :: l, o => by
    unfold expO
    refine (expO_perm (l := l)).trans ?_
    by_cases g : oldP t r = true
    · rw [if_pos g, List.filter_cons, if_pos g]
      exact ((insL_perm r o).append_right _).trans List.perm_middle.symm
    · rw [if_neg g, List.filter_cons, if_neg g]
theorem expO_sorted {t : Int} : ∀ {l o : List Row}, (o.Pairwise fun x y => laLt y x = false) → (∀ d ∈ o, ∀ r ∈ l, d.id < r.id) → (l.Pairwise fun a b => a.id < b.id) → (expO t l o).Pairwise fun x y => laLt y x = false
  | [], o, h, _, _ => h
  | r :: l, o, h, hn, ha => by
    obtain ⟨h1, h2⟩ := List.pairwise_cons.1 ha
    unfold expO
    by_cases g : oldP t r = true
    · rw [if_pos g]
      refine expO_sorted (insL_sorted h fun d hd => hn d hd r (by simp)) (fun d hd x hx => ?_) h2
      rcases List.mem_cons.1 ((insL_perm r o).mem_iff.1 hd) with rfl | hd
      · exact h1 x hx
      · exact hn d hd x (List.mem_cons_of_mem _ hx)
    · rw [if_neg g]
      exact expO_sorted h (fun d hd x hx => hn d hd x (List.mem_cons_of_mem _ hx)) h2
theorem la_unique {l m : List Row} (hp : l.Perm m) (hid : l.Pairwise fun a b => a.id ≠ b.id) (h1 : l.Pairwise fun x y => laLt y x = false) (h2 : m.Pairwise fun x y => laLt y x = false) : l = m := by
  refine List.Perm.eq_of_pairwise (le := fun a b : Row => laLt b a = false) (fun a b ha hb h1 h2 => ?_) h1 h2 hp
  have e : a.id = b.id := by simp [laLt, itLt] at h1 h2; omega
  by_cases g : a = b
  · exact g
  · obtain ⟨x, y, rfl⟩ := List.append_of_mem ha
    have hb2 := hp.symm.mem_iff.1 hb
    rw [List.pairwise_append, List.pairwise_cons] at hid
    rcases List.mem_append.1 hb2 with hb2 | hb2
    · exact absurd e.symm (hid.2.2 b hb2 a (by simp))
    · rcases List.mem_cons.1 hb2 with rfl | hb2
      · rfl
      · exact absurd e (hid.2.1.1 b hb2)
def expA (rs : List Row) (now keep : Int) : Option (List Row × List Row) := if timeP now = false ∨ keep < 1 ∨ 2305843009213693952 < keep then none else some (expO (now - keep) rs [], rs.filter fun d => !oldP (now - keep) d)
def loadA (n next0 : Int) (rs l : List Row) (next : Int) : Int × Int × List Row := if next < 1 ∨ 1152921504606846976 < next then (4, next0, rs) else match loadR next l [] with
  | none => (4, next0, rs)
  | some ds => if n < (l.length : Int) then (200, next0, rs) else (0, next, ds)
theorem expO_len {t : Int} {rs : List Row} : (expO t rs []).length ≤ rs.length := by
  rw [(expO_perm (t := t) (l := rs) (o := [])).length_eq, List.nil_append]
  exact List.length_filter_le _ _
attribute [local irreducible] fBuild fLook fZero eqv bEqv Cl MapH LsH SlH ld1 ldN st callP eBox eAlloc lenM lenL eMapSet eDelete eAppend eBuildSl eRange eNext
section
variable {w0 w : World} {L : List HP} {K : Value → World → Prop} {v : Value} {n next : Int} {rs : List Row} {r : Row} {R : List (Int × Row)} {I : List (Sg × Int)}
theorem baexpire_pure {now keep : Int} (h : Sat w0 (BoardA v n next rs :: L) w)
    (hK0 : expA rs now keep = none → ∀ w', Sat w0 (BoardA v n next rs :: L) w' → K (.tuple #[.slice none 0 0, .int .i64 1]) w')
    (hK1 : ∀ g l, expA rs now keep = some (g, l) → ∀ s w', Sat w0 (LsH cRow 11 33 s g :: BoardA v n next l :: L) w' → K (.tuple #[s, .int .i64 0]) w') : callP G41 [v, .int .i64 now, .int .i64 keep] w K := by
  obtain ⟨R, I, H⟩ := boardA_inv h
  refine baexpire_spec h (fun hb w h => hK0 (by unfold expA; rw [if_pos hb]) w h) fun h1 h2 h3 g s w hp hs h => ?_
  have e : g = expO (now - keep) rs [] := by
    refine la_unique (hp.trans (by have := expO_perm (t := now - keep) (l := rs) (o := []); exact this.symm)) ?_ hs (expO_sorted .nil (by simp) H.asc)
    exact hp.symm.pairwise ((H.asc.filter _).imp fun h e => by omega) fun h e => h e.symm
  subst e
  refine hK1 _ _ ?_ s w h
  unfold expA
  rw [if_neg]
  rw [h1]
  simp; omega
theorem baload_pure {sv : Value} {l : List Row} {next0 : Int} (hfit : ∀ x ∈ l, x.e.fits ∧ x.who.length < 1073741824) (hlen : l.length ≤ 65536) (hl : ∀ {w}, Sat w0 L w → lenL sv = some (.int .i64 l.length)) (hrd : RdL w0 L cRow 11 sv l)
    (h : Sat w0 (BoardA v n next0 rs :: L) w) (hK : ∀ w', Sat w0 (BoardA v n (loadA n next0 rs l next).2.1 (loadA n next0 rs l next).2.2 :: L) w' → K (.int .i64 (loadA n next0 rs l next).1) w') : callP G44 [v, sv, .int .i64 next] w K := by
  unfold loadA at hK
  refine baload_spec hfit hlen hl hrd h (fun hb w h => ?_) (fun ds hds hn hlt w h => ?_) (fun ds hds hn hle w h => ?_)
  · by_cases g : next < 1 ∨ 1152921504606846976 < next
    · rw [if_pos g] at hK; exact hK w h
    · rw [if_neg g] at hK
      rcases hb with hb | hb | hb
      · exact absurd (.inl hb) g
      · exact absurd (.inr hb) g
      · rw [hb] at hK; exact hK w h
  · rw [if_neg (by omega), hds] at hK
    simp only at hK
    rw [if_pos hlt] at hK; exact hK w h
  · rw [if_neg (by omega), hds] at hK
    simp only at hK
    rw [if_neg (by omega)] at hK; exact hK w h
theorem clr_spec {m : List (Int × Row)} {mv : Value} (h : Sat w0 (MapH kI rowV mv m :: L) w) (hK : ∀ v' w', Sat w0 (MapH kI rowV v' m :: MapH kI rowV mv m :: L) w' → K v' w') : callP G126 [mv] w K := by
  refine c126 ?_
  unfold F126
  obtain ⟨r, es, c, ⟨rfl, _⟩, _⟩ := map_iff.1 h
  rw [bEq_nilm um107]
  simp only [bindP_some, Option.isNone_some, ifB_false]
  rw [fMkI_of um107 (by simp)]
  simp only [bindP_some]
  refine gClone_sat h fun v' w1 h1 => ?_
  rw [fAssert_of um107 (by simp)]
  simp only [bindP_some]
  exact hK _ _ h1
theorem cli_spec {m : List (Sg × Int)} {mv : Value} (h : Sat w0 (MapH ekS kI mv m :: L) w) (hK : ∀ v' w', Sat w0 (MapH ekS kI v' m :: MapH ekS kI mv m :: L) w' → K v' w') : callP G127 [mv] w K := by
  refine c127 ?_
  unfold F127
  obtain ⟨r, es, c, ⟨rfl, _⟩, _⟩ := map_iff.1 h
  rw [bEq_nilm um108]
  simp only [bindP_some, Option.isNone_some, ifB_false]
  rw [fMkI_of um108 (by simp)]
  simp only [bindP_some]
  refine gClone_sat h fun v' w1 h1 => ?_
  rw [fAssert_of um108 (by simp)]
  simp only [bindP_some]
  exact hK _ _ h1
theorem bafork_spec (h : Sat w0 (BoardA v n next rs :: L) w) (hK : ∀ p w', Sat w0 (BoardA (ptr p) n next rs :: BoardA v n next rs :: L) w' → K (ptr p) w') : callP G96 [v] w K := by
  refine c96 ?_
  unfold F96
  replace h := boardA_iff.1 h
  obtain ⟨R, I, H, h⟩ := h
  replace h := board_iff.1 h
  obtain ⟨p, mr, mi, rfl, h⟩ := h
  have := map_one (h.frt (A := MapH kI rowV mr R))
  have := map_one (h.frt (A := MapH ekS kI mi I))
  (repeat (first
 | (simp (disch := omega) only [evA, evB, evC, bAdd_i64, bSub_i64])
 | (with_reducible apply go_ld1 h)
 | ((with_reducible first | apply go_ldA h | apply go_rd h | apply go_rdN h | apply go_rlen h); rfl)
 | (with_reducible first | apply go_ldN h | apply go_lenL h)
 | ((with_reducible apply go_st h); intro _ h)
 | ((with_reducible apply go_stA h); rfl; rfl; (first | rfl | simp [OneV.o]); intro _ h)
 | ((with_reducible apply go_stN h); rfl; (first | rfl | simp [OneV.o]); intro _ h)
 | ((with_reducible apply go_box h); rfl; intro _ _ h)
 | ((with_reducible apply go_ix h); omega)
 | ((with_reducible first | apply go_elN h | apply go_f1 h | apply go_rf1 h | apply go_rel h); (case hi => omega); (try case hx => exact inferInstance); (try case hv => rfl))
 | ((with_reducible apply go_fa h); omega; omega)
))
  refine clr_spec (h.drew.frt (A := MapH kI rowV mr R)) fun m1 w h => ?_
  (repeat (first
 | (simp (disch := omega) only [evA, evB, evC, bAdd_i64, bSub_i64])
 | (with_reducible apply go_ld1 h)
 | ((with_reducible first | apply go_ldA h | apply go_rd h | apply go_rdN h | apply go_rlen h); rfl)
 | (with_reducible first | apply go_ldN h | apply go_lenL h)
 | ((with_reducible apply go_st h); intro _ h)
 | ((with_reducible apply go_stA h); rfl; rfl; (first | rfl | simp [OneV.o]); intro _ h)
 | ((with_reducible apply go_stN h); rfl; (first | rfl | simp [OneV.o]); intro _ h)
 | ((with_reducible apply go_box h); rfl; intro _ _ h)
 | ((with_reducible apply go_ix h); omega)
 | ((with_reducible first | apply go_elN h | apply go_f1 h | apply go_rf1 h | apply go_rel h); (case hi => omega); (try case hx => exact inferInstance); (try case hv => rfl))
 | ((with_reducible apply go_fa h); omega; omega)
))
  refine cli_spec (h.frt (A := MapH ekS kI mi I)) fun m2 w h => ?_
  (repeat (first
 | (simp (disch := omega) only [evA, evB, evC, bAdd_i64, bSub_i64])
 | (with_reducible apply go_ld1 h)
 | ((with_reducible first | apply go_ldA h | apply go_rd h | apply go_rdN h | apply go_rlen h); rfl)
 | (with_reducible first | apply go_ldN h | apply go_lenL h)
 | ((with_reducible apply go_st h); intro _ h)
 | ((with_reducible apply go_stA h); rfl; rfl; (first | rfl | simp [OneV.o]); intro _ h)
 | ((with_reducible apply go_stN h); rfl; (first | rfl | simp [OneV.o]); intro _ h)
 | ((with_reducible apply go_box h); rfl; intro _ _ h)
 | ((with_reducible apply go_ix h); omega)
 | ((with_reducible first | apply go_elN h | apply go_f1 h | apply go_rf1 h | apply go_rel h); (case hi => omega); (try case hx => exact inferInstance); (try case hv => rfl))
 | ((with_reducible apply go_fa h); omega; omega)
))
  have := map_one (h.frt (A := MapH kI rowV m1 R))
  have := map_one (h.frt (A := MapH ekS kI m2 I))
  obtain ⟨r1, _, _, ⟨rfl, _⟩, _⟩ := map_iff.1 (h.frt (A := MapH kI rowV m1 R))
  obtain ⟨r2, _, _, ⟨rfl, _⟩, _⟩ := map_iff.1 (h.frt (A := MapH ekS kI m2 I))
  have e : fBuild Try.prog 110 [(0, .int .i64 n), (1, .int .i64 next), (2, .map (some r1)), (3, .map (some r2))] = some (.agg #[.int .i64 n, .int .i64 next, .map (some r1), .map (some r2)]) := by kernel_rfl
  (repeat (first
 | (simp (disch := omega) only [evA, evB, evC, bAdd_i64, bSub_i64])
 | (refine go_some (e ..) ?_)
 | (with_reducible apply go_ld1 h)
 | ((with_reducible first | apply go_ldA h | apply go_rd h | apply go_rdN h | apply go_rlen h); rfl)
 | (with_reducible first | apply go_ldN h | apply go_lenL h)
 | ((with_reducible apply go_st h); intro _ h)
 | ((with_reducible apply go_stA h); rfl; rfl; (first | rfl | simp [OneV.o]); intro _ h)
 | ((with_reducible apply go_stN h); rfl; (first | rfl | simp [OneV.o]); intro _ h)
 | ((with_reducible apply go_box h); rfl; intro _ _ h)
 | ((with_reducible apply go_ix h); omega)
 | ((with_reducible first | apply go_elN h | apply go_f1 h | apply go_rf1 h | apply go_rel h); (case hi => omega); (try case hx => exact inferInstance); (try case hv => rfl))
 | ((with_reducible apply go_fa h); omega; omega)
))
  have h1 : Sat w0 (Cl p #[.int .i64 n, .int .i64 next, mr, mi] 110 :: MapH kI rowV mr R :: MapH ekS kI mi I :: Cl _ #[.int .i64 n, .int .i64 next, .map (some r1), .map (some r2)] 110 :: MapH kI rowV (.map (some r1)) R :: MapH ekS kI (.map (some r2)) I :: L) _ := h.got
  have h2 := boardA_iff.2 ⟨R, I, H, board_iff.2 ⟨p, mr, mi, rfl, h1⟩⟩
  have h3 : Sat w0 (Cl _ #[.int .i64 n, .int .i64 next, .map (some r1), .map (some r2)] 110 :: MapH kI rowV (.map (some r1)) R :: MapH ekS kI (.map (some r2)) I :: BoardA (ptr p) n next rs :: L) _ := h2.got
  exact hK _ _ (boardA_iff.2 ⟨R, I, H, board_iff.2 ⟨_, _, _, rfl, h3⟩⟩)
theorem rexp_put {s0 s1 s2 s8 s9 s10 : Value} {q k : Nat} {o : List Row} {R3 : Value → Value → Value → Value → Value → Value → World → Prop} (hl : o.length ≤ 1073741824) (hk : k ≤ o.length) (h : Sat w0 (Cl q (cRow r).toArray 33 :: LsH cRow 11 33 s8 o :: L) w)
    (hE : ∀ s8' w', Sat w0 (LsH cRow 11 33 s8' (o.take k ++ r :: o.drop k) :: L) w' → F95_6 s0 s1 s2 s8' s9 s10 w' K R3) : F95_9 s0 s1 s2 s8 s9 s10 (ptr q) (.int .i64 (k : Nat)) w K R3 := by
  unfold F95_9 F95_9b
  refine go_subTo' h (i := k) hk fun v1 r1 => ?_
  replace h := Sat.nilLs cRow 11 33 h
  refine ls_app (l := []) (m := o.take k) CR h sl74 ss74 (r1 h.drop inferInstance) (by simp; omega) fun s1 w h => ?_
  (repeat (first
 | (simp (disch := omega) only [evA, evB, evC, bAdd_i64, bSub_i64])
 | (with_reducible apply go_ld1 h)
 | ((with_reducible first | apply go_ldA h | apply go_rd h | apply go_rdN h | apply go_rlen h); rfl)
 | (with_reducible first | apply go_ldN h | apply go_lenL h)
 | ((with_reducible apply go_st h); intro _ h)
 | ((with_reducible apply go_stA h); rfl; rfl; (first | rfl | simp [OneV.o]); intro _ h)
 | ((with_reducible apply go_stN h); rfl; (first | rfl | simp [OneV.o]); intro _ h)
 | ((with_reducible apply go_box h); rfl; intro _ _ h)
 | ((with_reducible apply go_ix h); omega)
 | ((with_reducible first | apply go_elN h | apply go_f1 h | apply go_rf1 h | apply go_rel h); (case hi => omega); (try case hx => exact inferInstance); (try case hv => rfl))
 | ((with_reducible apply go_fa h); omega; omega)
 | ((with_reducible first | apply go_lit0 CR h u74 (by kernel_rfl) | apply go_lit1 CR h u74 (fbRow _) rfl); intro _ _ h)
 | ((with_reducible apply go_app h sl74 ss74); (case hm => repeat (first | exact .here | apply Fnt.there)); (case hb => first | omega | (simp; omega)); intro _ _ _ h)
))
  refine go_subFrom' (v := s8) (l := o) h (i := k) hk fun v2 r2 => ?_
  refine ls_app (l := ([] ++ o.take k) ++ [r]) (m := o.drop k) CR (h.frt) sl74 ss74 (r2 h inferInstance) (by simp; omega) fun s3 w h => ?_
  refine hE s3 w ?_
  have e : [] ++ o.take k ++ [r] ++ o.drop k = o.take k ++ r :: o.drop k := by simp
  rw [e] at h
  exact h.got
theorem rexp_find {s0 s1 s2 s8 s9 s10 : Value} {q : Nat} {o : List Row} {R3 : Value → Value → Value → Value → Value → Value → World → Prop} (hl : o.length ≤ 1073741824)
    (hE : ∀ s8' w', Sat w0 (LsH cRow 11 33 s8' (insL r o) :: L) w' → F95_6 s0 s1 s2 s8' s9 s10 w' K R3) :
    ∀ (d k : Nat) (w : World), o.length - k < d → k ≤ o.length → (∀ x ∈ o.take k, x.last ≤ r.last) → Sat w0 (Cl q (cRow r).toArray 33 :: LsH cRow 11 33 s8 o :: L) w → F95_8L d s0 s1 s2 s8 s9 s10 (ptr q) (.int .i64 (k : Nat)) w K R3 := by
  intro d
  induction d with
  | zero => intro k w hd; omega
  | succ d ih =>
    intro k w hd hk hle h
    have tk : ∀ (hs : ∀ x, o[k]? = some x → ¬ x.last ≤ r.last), o.take k ++ r :: o.drop k = insL r o := by
      intro hs
      unfold insL
      have e1 : o.takeWhile (fun d => decide (d.last ≤ r.last)) = o.take k ∧ o.dropWhile (fun d => decide (d.last ≤ r.last)) = o.drop k := by
        have e0 : o = o.take k ++ o.drop k := (List.take_append_drop k o).symm
        have h1 : (o.take k).all (fun d => decide (d.last ≤ r.last)) = true := by
          rw [List.all_eq_true]; intro x hx; simpa using hle x hx
        constructor
        · conv => lhs; rw [e0]
          rw [List.takeWhile_append_of_pos (by intro x hx; simpa using hle x hx)]
          cases hd : o.drop k with
          | nil => simp
          | cons y t =>
            have : o[k]? = some y := by rw [← List.head?_drop, hd]; rfl
            have := hs y this
            rw [List.takeWhile_cons, if_neg (by simpa using this), List.append_nil]
        · conv => lhs; rw [e0]
          rw [List.dropWhile_append_of_pos (by intro x hx; simpa using hle x hx)]
          cases hd : o.drop k with
          | nil => simp
          | cons y t =>
            have : o[k]? = some y := by rw [← List.head?_drop, hd]; rfl
            have := hs y this
            rw [List.dropWhile_cons, if_neg (by simpa using this)]
      rw [e1.1, e1.2]
    rw [F95_8L]
    unfold F95_8b
    by_cases g : k < o.length
    · have g' : decide ((k : Int) < (o.length : Int)) = true := by simpa using g
      by_cases g2 : o[k].last ≤ r.last
      · have g2' : decide (o[k].last ≤ r.last) = true := by simpa using g2
        (repeat (first
 | (simp (disch := omega) only [evA, evB, evC, bAdd_i64, bSub_i64, g', g2'])
 | (with_reducible apply go_ld1 h)
 | ((with_reducible first | apply go_ldA h | apply go_rd h | apply go_rdN h | apply go_rlen h); rfl)
 | (with_reducible first | apply go_ldN h | apply go_lenL h)
 | ((with_reducible apply go_st h); intro _ h)
 | ((with_reducible apply go_stA h); rfl; rfl; (first | rfl | simp [OneV.o]); intro _ h)
 | ((with_reducible apply go_stN h); rfl; (first | rfl | simp [OneV.o]); intro _ h)
 | ((with_reducible apply go_box h); rfl; intro _ _ h)
 | ((with_reducible apply go_ix h); omega)
 | ((with_reducible first | apply go_elN h | apply go_f1 h | apply go_rf1 h | apply go_rel h); (case hi => omega); (try case hx => exact inferInstance); (try case hv => rfl))
 | ((with_reducible apply go_fa h); omega; omega)
))
        refine ih (k + 1) _ (by omega) (by omega) (fun x hx => ?_) h.drew
        rw [List.take_succ_eq_append_getElem g] at hx
        rcases List.mem_append.1 hx with hx | hx
        · exact hle x hx
        · simp at hx; subst hx; exact g2
      · have g2' : decide (o[k].last ≤ r.last) = false := by simpa using g2
        (repeat (first
 | (simp (disch := omega) only [evA, evB, evC, bAdd_i64, bSub_i64, g', g2'])
 | (with_reducible apply go_ld1 h)
 | ((with_reducible first | apply go_ldA h | apply go_rd h | apply go_rdN h | apply go_rlen h); rfl)
 | (with_reducible first | apply go_ldN h | apply go_lenL h)
 | ((with_reducible apply go_st h); intro _ h)
 | ((with_reducible apply go_stA h); rfl; rfl; (first | rfl | simp [OneV.o]); intro _ h)
 | ((with_reducible apply go_stN h); rfl; (first | rfl | simp [OneV.o]); intro _ h)
 | ((with_reducible apply go_box h); rfl; intro _ _ h)
 | ((with_reducible apply go_ix h); omega)
 | ((with_reducible first | apply go_elN h | apply go_f1 h | apply go_rf1 h | apply go_rel h); (case hi => omega); (try case hx => exact inferInstance); (try case hv => rfl))
 | ((with_reducible apply go_fa h); omega; omega)
))
        refine rexp_put hl hk h.drew fun s8' w' h => hE s8' w' ?_
        rw [tk fun x hx => by rw [List.getElem?_eq_getElem g] at hx; cases hx; exact g2] at h
        exact h
    · have g' : decide ((k : Int) < (o.length : Int)) = false := by simpa using g
      (repeat (first
 | (simp (disch := omega) only [evA, evB, evC, bAdd_i64, bSub_i64, g'])
 | (with_reducible apply go_ld1 h)
 | ((with_reducible first | apply go_ldA h | apply go_rd h | apply go_rdN h | apply go_rlen h); rfl)
 | (with_reducible first | apply go_ldN h | apply go_lenL h)
 | ((with_reducible apply go_st h); intro _ h)
 | ((with_reducible apply go_stA h); rfl; rfl; (first | rfl | simp [OneV.o]); intro _ h)
 | ((with_reducible apply go_stN h); rfl; (first | rfl | simp [OneV.o]); intro _ h)
 | ((with_reducible apply go_box h); rfl; intro _ _ h)
 | ((with_reducible apply go_ix h); omega)
 | ((with_reducible first | apply go_elN h | apply go_f1 h | apply go_rf1 h | apply go_rel h); (case hi => omega); (try case hx => exact inferInstance); (try case hv => rfl))
 | ((with_reducible apply go_fa h); omega; omega)
))
      refine rexp_put hl hk h.drew fun s8' w' h => hE s8' w' ?_
      rw [tk fun x hx => by rw [List.getElem?_eq_none (by omega)] at hx; cases hx] at h
      exact h
theorem rexp_loop {p : Nat} {s : Value} {now keep : Int} (hl : rs.length ≤ 65536) (ht : timeP now = true) (hk : 1 ≤ keep ∧ keep ≤ 2305843009213693952) (hK : ∀ s8 w', Sat w0 (LsH cRow 11 33 s8 (expO (now - keep) rs []) :: RefB (ptr p) n next (rs.filter fun d => !oldP (now - keep) d) :: L) w' → K (.tuple #[s8, .int .i64 0]) w') :
    ∀ (d i : Nat) (o f : List Row) (s8 s9 : Value) (w : World), rs.length - i < d → i ≤ rs.length → o.length ≤ i → f.length ≤ i → expO (now - keep) (rs.drop i) o = expO (now - keep) rs [] → f ++ ((rs.drop i).filter fun d => !oldP (now - keep) d) = (rs.filter fun d => !oldP (now - keep) d) →
      Sat w0 (LsH cRow 11 33 s8 o :: LsH cRow 11 33 s9 f :: Cl p #[.int .i64 n, .int .i64 next, s] 149 :: LsH cRow 11 33 s rs :: L) w → F95_2L d (ptr p) (.int .i64 now) (.int .i64 keep) s8 s9 (.int .i64 i) w K := by
  intro d
  induction d with
  | zero => intro i _ _ _ _ _ hd; omega
  | succ d ih =>
    intro i o f s8 s9 w hd hi ho hf he hfe h
    rw [F95_2L]
    unfold F95_4 F95_4b
    by_cases g : i < rs.length
    · have g' : decide ((i : Int) < (rs.length : Int)) = true := by simpa using g
      have ht' : 0 ≤ now ∧ now ≤ 2305843009213693952 := by unfold timeP at ht; simpa using ht
      (repeat (first
 | (simp (disch := omega) only [evA, evB, evC, bAdd_i64, bSub_i64, g'])
 | (with_reducible apply go_ld1 h)
 | ((with_reducible first | apply go_ldA h | apply go_rd h | apply go_rdN h | apply go_rlen h); rfl)
 | (with_reducible first | apply go_ldN h | apply go_lenL h)
 | ((with_reducible apply go_st h); intro _ h)
 | ((with_reducible apply go_stA h); rfl; rfl; (first | rfl | simp [OneV.o]); intro _ h)
 | ((with_reducible apply go_stN h); rfl; (first | rfl | simp [OneV.o]); intro _ h)
 | ((with_reducible apply go_box h); rfl; intro _ _ h)
 | ((with_reducible apply go_ix h); omega)
 | ((with_reducible first | apply go_elN h | apply go_f1 h | apply go_rf1 h | apply go_rel h); (case hi => omega); (try case hx => exact inferInstance); (try case hv => rfl))
 | ((with_reducible apply go_fa h); omega; omega)
))
      unfold F95_5 F95_7 F95_7b
      (repeat (first
 | (simp (disch := omega) only [evA, evB, evC, bAdd_i64, bSub_i64])
 | (with_reducible apply go_ld1 h)
 | ((with_reducible first | apply go_ldA h | apply go_rd h | apply go_rdN h | apply go_rlen h); rfl)
 | (with_reducible first | apply go_ldN h | apply go_lenL h)
 | ((with_reducible apply go_st h); intro _ h)
 | ((with_reducible apply go_stA h); rfl; rfl; (first | rfl | simp [OneV.o]); intro _ h)
 | ((with_reducible apply go_stN h); rfl; (first | rfl | simp [OneV.o]); intro _ h)
 | ((with_reducible apply go_box h); rfl; intro _ _ h)
 | ((with_reducible apply go_ix h); omega)
 | ((with_reducible first | apply go_elN h | apply go_f1 h | apply go_rf1 h | apply go_rel h); (case hi => omega); (try case hx => exact inferInstance); (try case hv => rfl))
 | ((with_reducible apply go_fa h); omega; omega)
))
      rw [List.drop_eq_getElem_cons g] at he hfe
      generalize rs[i] = r at he hfe
      refine go_alloc h zR rfl fun q _ h => ?_
      replace he : expO (now - keep) (rs.drop (i + 1)) (if oldP (now - keep) r = true then insL r o else o) = _ := he
      by_cases g2 : r.last > now - keep
      · have g2' : decide (r.last > now - keep) = true := by simpa using g2
        have g3 : oldP (now - keep) r = false := by simp [oldP]; omega
        (repeat (first
 | (simp (disch := omega) only [evA, evB, evC, bAdd_i64, bSub_i64, g2'])
 | (with_reducible apply go_ld1 h)
 | ((with_reducible first | apply go_ldA h | apply go_rd h | apply go_rdN h | apply go_rlen h); rfl)
 | (with_reducible first | apply go_ldN h | apply go_lenL h)
 | ((with_reducible apply go_st h); intro _ h)
 | ((with_reducible apply go_stA h); rfl; rfl; (first | rfl | simp [OneV.o]); intro _ h)
 | ((with_reducible apply go_stN h); rfl; (first | rfl | simp [OneV.o]); intro _ h)
 | ((with_reducible apply go_box h); rfl; intro _ _ h)
 | ((with_reducible apply go_ix h); omega)
 | ((with_reducible first | apply go_elN h | apply go_f1 h | apply go_rf1 h | apply go_rel h); (case hi => omega); (try case hx => exact inferInstance); (try case hv => rfl))
 | ((with_reducible apply go_fa h); omega; omega)
 | ((with_reducible first | apply go_lit0 CR h u74 (by kernel_rfl) | apply go_lit1 CR h u74 (fbRow _) rfl); intro _ _ h)
 | ((with_reducible apply go_app h sl74 ss74); (case hm => repeat (first | exact .here | apply Fnt.there)); (case hb => first | omega | (simp; omega)); intro _ _ _ h)
))
        unfold F95_6 F95_6b
        (repeat (first
 | (simp (disch := omega) only [evA, evB, evC, bAdd_i64, bSub_i64])
 | (with_reducible apply go_ld1 h)
 | ((with_reducible first | apply go_ldA h | apply go_rd h | apply go_rdN h | apply go_rlen h); rfl)
 | (with_reducible first | apply go_ldN h | apply go_lenL h)
 | ((with_reducible apply go_st h); intro _ h)
 | ((with_reducible apply go_stA h); rfl; rfl; (first | rfl | simp [OneV.o]); intro _ h)
 | ((with_reducible apply go_stN h); rfl; (first | rfl | simp [OneV.o]); intro _ h)
 | ((with_reducible apply go_box h); rfl; intro _ _ h)
 | ((with_reducible apply go_ix h); omega)
 | ((with_reducible first | apply go_elN h | apply go_f1 h | apply go_rf1 h | apply go_rel h); (case hi => omega); (try case hx => exact inferInstance); (try case hv => rfl))
 | ((with_reducible apply go_fa h); omega; omega)
))
        rw [if_neg (by rw [g3]; simp)] at he
        rw [List.filter_cons, if_pos (by rw [g3]; rfl)] at hfe
        refine ih (i + 1) o (f ++ [r]) _ _ _ (by omega) (by omega) (by omega) (by simp; omega) he (by simpa using hfe) (h.got)
      · have g2' : decide (r.last > now - keep) = false := by simpa using g2
        have g3 : oldP (now - keep) r = true := by simp [oldP]; omega
        (repeat (first
 | (simp (disch := omega) only [evA, evB, evC, bAdd_i64, bSub_i64, g2'])
 | (with_reducible apply go_ld1 h)
 | ((with_reducible first | apply go_ldA h | apply go_rd h | apply go_rdN h | apply go_rlen h); rfl)
 | (with_reducible first | apply go_ldN h | apply go_lenL h)
 | ((with_reducible apply go_st h); intro _ h)
 | ((with_reducible apply go_stA h); rfl; rfl; (first | rfl | simp [OneV.o]); intro _ h)
 | ((with_reducible apply go_stN h); rfl; (first | rfl | simp [OneV.o]); intro _ h)
 | ((with_reducible apply go_box h); rfl; intro _ _ h)
 | ((with_reducible apply go_ix h); omega)
 | ((with_reducible first | apply go_elN h | apply go_f1 h | apply go_rf1 h | apply go_rel h); (case hi => omega); (try case hx => exact inferInstance); (try case hv => rfl))
 | ((with_reducible apply go_fa h); omega; omega)
))
        unfold F95_8
        rw [if_pos g3] at he
        rw [List.filter_cons, if_neg (by rw [g3]; simp)] at hfe
        refine rexp_find (L := LsH cRow 11 33 s9 f :: Cl p #[.int .i64 n, .int .i64 next, s] 149 :: LsH cRow 11 33 s rs :: L) (o := o) (by omega) (fun s8' w h => ?_) fuel 0 _ (by unfold fuel; omega) (by omega) (by simp) (h.got)
        unfold F95_6 F95_6b
        (repeat (first
 | (simp (disch := omega) only [evA, evB, evC, bAdd_i64, bSub_i64])
 | (with_reducible apply go_ld1 h)
 | ((with_reducible first | apply go_ldA h | apply go_rd h | apply go_rdN h | apply go_rlen h); rfl)
 | (with_reducible first | apply go_ldN h | apply go_lenL h)
 | ((with_reducible apply go_st h); intro _ h)
 | ((with_reducible apply go_stA h); rfl; rfl; (first | rfl | simp [OneV.o]); intro _ h)
 | ((with_reducible apply go_stN h); rfl; (first | rfl | simp [OneV.o]); intro _ h)
 | ((with_reducible apply go_box h); rfl; intro _ _ h)
 | ((with_reducible apply go_ix h); omega)
 | ((with_reducible first | apply go_elN h | apply go_f1 h | apply go_rf1 h | apply go_rel h); (case hi => omega); (try case hx => exact inferInstance); (try case hv => rfl))
 | ((with_reducible apply go_fa h); omega; omega)
))
        refine ih (i + 1) _ f _ _ _ (by omega) (by omega) ?_ (by omega) he hfe h
        have := (insL_perm r o).length_eq; simp at this; omega
    · have g' : decide ((i : Int) < (rs.length : Int)) = false := by simpa using g
      rw [List.drop_eq_nil_of_le (by omega)] at he hfe
      simp only [expO, List.filter_nil, List.append_nil] at he hfe
      have := ls_one (h.frt (A := LsH cRow 11 33 s9 f))
      (repeat (first
 | (simp (disch := omega) only [evA, evB, evC, bAdd_i64, bSub_i64, g'])
 | (with_reducible apply go_ld1 h)
 | ((with_reducible first | apply go_ldA h | apply go_rd h | apply go_rdN h | apply go_rlen h); rfl)
 | (with_reducible first | apply go_ldN h | apply go_lenL h)
 | ((with_reducible apply go_st h); intro _ h)
 | ((with_reducible apply go_stA h); rfl; rfl; (first | rfl | simp [OneV.o]); intro _ h)
 | ((with_reducible apply go_stN h); rfl; (first | rfl | simp [OneV.o]); intro _ h)
 | ((with_reducible apply go_box h); rfl; intro _ _ h)
 | ((with_reducible apply go_ix h); omega)
 | ((with_reducible first | apply go_elN h | apply go_f1 h | apply go_rf1 h | apply go_rel h); (case hi => omega); (try case hx => exact inferInstance); (try case hv => rfl))
 | ((with_reducible apply go_fa h); omega; omega)
))
      unfold F95_3 F95_3b
      (repeat (first
 | (simp (disch := omega) only [evA, evB, evC, bAdd_i64, bSub_i64])
 | (with_reducible apply go_ld1 h)
 | ((with_reducible first | apply go_ldA h | apply go_rd h | apply go_rdN h | apply go_rlen h); rfl)
 | (with_reducible first | apply go_ldN h | apply go_lenL h)
 | ((with_reducible apply go_st h); intro _ h)
 | ((with_reducible apply go_stA h); rfl; rfl; (first | rfl | simp [OneV.o]); intro _ h)
 | ((with_reducible apply go_stN h); rfl; (first | rfl | simp [OneV.o]); intro _ h)
 | ((with_reducible apply go_box h); rfl; intro _ _ h)
 | ((with_reducible apply go_ix h); omega)
 | ((with_reducible first | apply go_elN h | apply go_f1 h | apply go_rf1 h | apply go_rel h); (case hi => omega); (try case hx => exact inferInstance); (try case hv => rfl))
 | ((with_reducible apply go_fa h); omega; omega)
))
      subst he hfe
      exact hK s8 _ (Sat.f1 (refB_iff.2 ⟨p, s9, rfl, h.got⟩))
theorem rexpire_spec {now keep : Int} (hl : rs.length ≤ 65536) (h : Sat w0 (RefB v n next rs :: L) w)
    (hK0 : expA rs now keep = none → ∀ w', Sat w0 (RefB v n next rs :: L) w' → K (.tuple #[.slice none 0 0, .int .i64 1]) w')
    (hK1 : ∀ g l, expA rs now keep = some (g, l) → ∀ s w', Sat w0 (LsH cRow 11 33 s g :: RefB v n next l :: L) w' → K (.tuple #[s, .int .i64 0]) w') : callP G95 [v, .int .i64 now, .int .i64 keep] w K := by
  obtain ⟨p, rfl⟩ := refB_ptr h
  refine c95 ?_
  unfold F95 F95_1 F95_1b
  refine fbistime_spec ?_
  cases g0 : timeP now
  · (repeat (first
 | (simp (disch := omega) only [evA, evB, evC, bAdd_i64, bSub_i64])
 | (with_reducible apply go_ld1 h)
 | ((with_reducible first | apply go_ldA h | apply go_rd h | apply go_rdN h | apply go_rlen h); rfl)
 | (with_reducible first | apply go_ldN h | apply go_lenL h)
 | ((with_reducible apply go_st h); intro _ h)
 | ((with_reducible apply go_stA h); rfl; rfl; (first | rfl | simp [OneV.o]); intro _ h)
 | ((with_reducible apply go_stN h); rfl; (first | rfl | simp [OneV.o]); intro _ h)
 | ((with_reducible apply go_box h); rfl; intro _ _ h)
 | ((with_reducible apply go_ix h); omega)
 | ((with_reducible first | apply go_elN h | apply go_f1 h | apply go_rf1 h | apply go_rel h); (case hi => omega); (try case hx => exact inferInstance); (try case hv => rfl))
 | ((with_reducible apply go_fa h); omega; omega)
))
    exact hK0 (by unfold expA; rw [if_pos (.inl g0)]) _ h
  by_cases g1 : keep < 1
  · have g1' : decide (keep < 1) = true := by simpa using g1
    (repeat (first
 | (simp (disch := omega) only [evA, evB, evC, bAdd_i64, bSub_i64, g1'])
 | (with_reducible apply go_ld1 h)
 | ((with_reducible first | apply go_ldA h | apply go_rd h | apply go_rdN h | apply go_rlen h); rfl)
 | (with_reducible first | apply go_ldN h | apply go_lenL h)
 | ((with_reducible apply go_st h); intro _ h)
 | ((with_reducible apply go_stA h); rfl; rfl; (first | rfl | simp [OneV.o]); intro _ h)
 | ((with_reducible apply go_stN h); rfl; (first | rfl | simp [OneV.o]); intro _ h)
 | ((with_reducible apply go_box h); rfl; intro _ _ h)
 | ((with_reducible apply go_ix h); omega)
 | ((with_reducible first | apply go_elN h | apply go_f1 h | apply go_rf1 h | apply go_rel h); (case hi => omega); (try case hx => exact inferInstance); (try case hv => rfl))
 | ((with_reducible apply go_fa h); omega; omega)
))
    exact hK0 (by unfold expA; rw [if_pos (.inr (.inl g1))]) _ h
  have g1' : decide (keep < 1) = false := by simpa using g1
  by_cases g2 : keep > 2305843009213693952
  · have g2' : decide (keep > 2305843009213693952) = true := by simpa using g2
    (repeat (first
 | (simp (disch := omega) only [evA, evB, evC, bAdd_i64, bSub_i64, g1', g2'])
 | (with_reducible apply go_ld1 h)
 | ((with_reducible first | apply go_ldA h | apply go_rd h | apply go_rdN h | apply go_rlen h); rfl)
 | (with_reducible first | apply go_ldN h | apply go_lenL h)
 | ((with_reducible apply go_st h); intro _ h)
 | ((with_reducible apply go_stA h); rfl; rfl; (first | rfl | simp [OneV.o]); intro _ h)
 | ((with_reducible apply go_stN h); rfl; (first | rfl | simp [OneV.o]); intro _ h)
 | ((with_reducible apply go_box h); rfl; intro _ _ h)
 | ((with_reducible apply go_ix h); omega)
 | ((with_reducible first | apply go_elN h | apply go_f1 h | apply go_rf1 h | apply go_rel h); (case hi => omega); (try case hx => exact inferInstance); (try case hv => rfl))
 | ((with_reducible apply go_fa h); omega; omega)
))
    exact hK0 (by unfold expA; rw [if_pos (.inr (.inr g2))]) _ h
  have g2' : decide (keep > 2305843009213693952) = false := by simpa using g2
  (repeat (first
 | (simp (disch := omega) only [evA, evB, evC, bAdd_i64, bSub_i64, g1', g2'])
 | (with_reducible apply go_ld1 h)
 | ((with_reducible first | apply go_ldA h | apply go_rd h | apply go_rdN h | apply go_rlen h); rfl)
 | (with_reducible first | apply go_ldN h | apply go_lenL h)
 | ((with_reducible apply go_st h); intro _ h)
 | ((with_reducible apply go_stA h); rfl; rfl; (first | rfl | simp [OneV.o]); intro _ h)
 | ((with_reducible apply go_stN h); rfl; (first | rfl | simp [OneV.o]); intro _ h)
 | ((with_reducible apply go_box h); rfl; intro _ _ h)
 | ((with_reducible apply go_ix h); omega)
 | ((with_reducible first | apply go_elN h | apply go_f1 h | apply go_rf1 h | apply go_rel h); (case hi => omega); (try case hx => exact inferInstance); (try case hv => rfl))
 | ((with_reducible apply go_fa h); omega; omega)
))
  unfold F95_2
  obtain ⟨s, h⟩ := refB_at h
  have hA : expA rs now keep = some (expO (now - keep) rs [], rs.filter fun d => !oldP (now - keep) d) := by
    unfold expA; rw [if_neg]; rw [g0]; simp; omega
  have h2 := Sat.nilLs cRow 11 33 (Sat.nilLs cRow 11 33 h)
  exact rexp_loop hl g0 (by omega) (fun s8 w h => hK1 _ _ hA s8 w h) fuel 0 [] [] _ _ _ (by unfold fuel; omega) (by omega) (by simp) (by simp) rfl (by simp) h2
end
end Go.Proofs.Gong

/- Bp4 -/
namespace Go.Proofs.Gong
open Go Go.Sx Go.Proofs
set_option maxRecDepth 100000
theorem insR_at {r : Row} {o : List Row} {k : Nat} (hle : ∀ x ∈ o.take k, x.id < r.id) (hs : ∀ x, o[k]? = some x → ¬ x.id < r.id) : o.take k ++ r :: o.drop k = insR r o := by
  unfold insR
  have e0 : o = o.take k ++ o.drop k := (List.take_append_drop k o).symm
  have e1 : o.takeWhile (fun d => decide (d.id < r.id)) = o.take k ∧ o.dropWhile (fun d => decide (d.id < r.id)) = o.drop k := by
    constructor
    · conv => lhs; rw [e0]
      rw [List.takeWhile_append_of_pos (by intro x hx; simpa using hle x hx)]
      cases hd : o.drop k with
      | nil => simp
      | cons y t =>
        have : o[k]? = some y := by rw [← List.head?_drop, hd]; rfl
        have := hs y this
        rw [List.takeWhile_cons, if_neg (by simpa using this), List.append_nil]
    · conv => lhs; rw [e0]
      rw [List.dropWhile_append_of_pos (by intro x hx; simpa using hle x hx)]
      cases hd : o.drop k with
      | nil => simp
      | cons y t =>
        have : o[k]? = some y := by rw [← List.head?_drop, hd]; rfl
        have := hs y this
        rw [List.dropWhile_cons, if_neg (by simpa using this)]
  rw [e1.1, e1.2]
attribute [local irreducible] fBuild fLook fZero eqv bEqv Cl MapH LsH SlH ld1 ldN st callP eBox eAlloc lenM lenL eMapSet eDelete eAppend eBuildSl eRange eNext
section
variable {w0 w : World} {L : List HP} {K : Value → World → Prop} {v : Value} {n next : Int} {rs : List Row} {r : Row}
theorem rload_put {s0 sv s2 s7 : Value} {i k : Nat} {o l : List Row} {R3 : Value → Value → Value → Value → Value → World → Prop} [hrd : RdIn w0 L sv Row cRow 11 l] (hi : i < l.length) (hl : o.length ≤ 1073741824) (hk : k ≤ o.length) (h : Sat w0 (LsH cRow 11 33 s7 o :: L) w)
    (hE : ∀ s7' w', Sat w0 (LsH cRow 11 33 s7' (o.take k ++ l[i] :: o.drop k) :: L) w' → F97_6 s0 sv s2 s7' (.int .i64 i) w' K R3) : F97_11 s0 sv s2 s7 (.int .i64 (i : Nat)) (.int .i64 (k : Nat)) w K R3 := by
  unfold F97_11 F97_11b
  refine go_subTo' h (i := k) hk fun v1 r1 => ?_
  replace h := Sat.nilLs cRow 11 33 h
  refine ls_app (l := []) (m := o.take k) CR h sl74 ss74 (r1 h.drop inferInstance) (by simp; omega) fun s1 w h => ?_
  (repeat (first
 | (simp (disch := omega) only [evA, evB, evC, bAdd_i64, bSub_i64])
 | (with_reducible apply go_ld1 h)
 | ((with_reducible first | apply go_ldA h | apply go_rd h | apply go_rdN h); rfl)
 | (with_reducible first | apply go_ldN h | apply go_lenR h)
 | ((with_reducible apply go_st h); intro _ h)
 | ((with_reducible apply go_stA h); rfl; rfl; (first | rfl | simp [OneV.o]); intro _ h)
 | ((with_reducible apply go_stN h); rfl; (first | rfl | simp [OneV.o]); intro _ h)
 | ((with_reducible apply go_box h); rfl; intro _ _ h)
 | ((with_reducible apply go_ixR h); omega)
 | ((with_reducible first | apply go_elR h | apply go_f1R h | apply go_rf1R h | apply go_relR h); (case hc => exact inferInstance); (case hi => omega); (try case hx => exact inferInstance); (try case hv => rfl))
 | ((with_reducible apply go_fNR h); (case hc => exact inferInstance); (case hi => omega); (try case hp => exact inferInstance); (try case hv => rfl))
 | ((with_reducible apply go_faR h); (case hc => exact inferInstance); omega; omega)
 | ((with_reducible apply go_rlenR h); rfl)
 | ((with_reducible first | apply go_lit0 CR h u74 (by kernel_rfl) | apply go_lit1 CR h u74 (fbRow _) rfl); intro _ _ h)
 | ((with_reducible apply go_appR h sl74 ss74); (case hm => repeat (first | exact .here | apply Fnt.there)); (case hb => first | omega | (simp; omega)); intro _ _ _ h)
))
  refine go_subFrom' (v := s7) (l := o) h (i := k) hk fun v2 r2 => ?_
  refine ls_app (l := ([] ++ o.take k) ++ [l[i]]) (m := o.drop k) CR (h.frt) sl74 ss74 (r2 h inferInstance) (by simp; omega) fun s3 w h => ?_
  refine hE s3 w ?_
  have e : [] ++ o.take k ++ [l[i]] ++ o.drop k = o.take k ++ l[i] :: o.drop k := by simp
  rw [e] at h
  exact h.got
theorem rload_find {s0 sv s2 s7 : Value} {i : Nat} {o l : List Row} {R3 : Value → Value → Value → Value → Value → World → Prop} [hrd : RdIn w0 L sv Row cRow 11 l] (hi : i < l.length) (hl : o.length ≤ 1073741824)
    (hE : ∀ s7' w', Sat w0 (LsH cRow 11 33 s7' (insR l[i] o) :: L) w' → F97_6 s0 sv s2 s7' (.int .i64 i) w' K R3) :
    ∀ (d k : Nat) (w : World), o.length - k < d → k ≤ o.length → (∀ x ∈ o.take k, x.id < l[i].id) → Sat w0 (LsH cRow 11 33 s7 o :: L) w → F97_10L d s0 sv s2 s7 (.int .i64 (i : Nat)) (.int .i64 (k : Nat)) w K R3 := by
  intro d
  induction d with
  | zero => intro k w hd; omega
  | succ d ih =>
    intro k w hd hk hle h
    rw [F97_10L]
    unfold F97_10b
    by_cases g : k < o.length
    · have g' : decide ((k : Int) < (o.length : Int)) = true := by simpa using g
      by_cases g2 : o[k].id < l[i].id
      · have g2' : decide (o[k].id < l[i].id) = true := by simpa using g2
        (repeat (first
 | (simp (disch := omega) only [evA, evB, evC, bAdd_i64, bSub_i64, g', g2'])
 | (with_reducible apply go_ld1 h)
 | ((with_reducible first | apply go_ldA h | apply go_rd h | apply go_rdN h); rfl)
 | (with_reducible first | apply go_ldN h | apply go_lenR h)
 | ((with_reducible apply go_st h); intro _ h)
 | ((with_reducible apply go_stA h); rfl; rfl; (first | rfl | simp [OneV.o]); intro _ h)
 | ((with_reducible apply go_stN h); rfl; (first | rfl | simp [OneV.o]); intro _ h)
 | ((with_reducible apply go_box h); rfl; intro _ _ h)
 | ((with_reducible apply go_ixR h); omega)
 | ((with_reducible first | apply go_elR h | apply go_f1R h | apply go_rf1R h | apply go_relR h); (case hc => exact inferInstance); (case hi => omega); (try case hx => exact inferInstance); (try case hv => rfl))
 | ((with_reducible apply go_fNR h); (case hc => exact inferInstance); (case hi => omega); (try case hp => exact inferInstance); (try case hv => rfl))
 | ((with_reducible apply go_faR h); (case hc => exact inferInstance); omega; omega)
 | ((with_reducible apply go_rlenR h); rfl)
))
        refine ih (k + 1) _ (by omega) (by omega) (fun x hx => ?_) h.drew
        rw [List.take_succ_eq_append_getElem g] at hx
        rcases List.mem_append.1 hx with hx | hx
        · exact hle x hx
        · simp at hx; subst hx; exact g2
      · have g2' : decide (o[k].id < l[i].id) = false := by simpa using g2
        (repeat (first
 | (simp (disch := omega) only [evA, evB, evC, bAdd_i64, bSub_i64, g', g2'])
 | (with_reducible apply go_ld1 h)
 | ((with_reducible first | apply go_ldA h | apply go_rd h | apply go_rdN h); rfl)
 | (with_reducible first | apply go_ldN h | apply go_lenR h)
 | ((with_reducible apply go_st h); intro _ h)
 | ((with_reducible apply go_stA h); rfl; rfl; (first | rfl | simp [OneV.o]); intro _ h)
 | ((with_reducible apply go_stN h); rfl; (first | rfl | simp [OneV.o]); intro _ h)
 | ((with_reducible apply go_box h); rfl; intro _ _ h)
 | ((with_reducible apply go_ixR h); omega)
 | ((with_reducible first | apply go_elR h | apply go_f1R h | apply go_rf1R h | apply go_relR h); (case hc => exact inferInstance); (case hi => omega); (try case hx => exact inferInstance); (try case hv => rfl))
 | ((with_reducible apply go_fNR h); (case hc => exact inferInstance); (case hi => omega); (try case hp => exact inferInstance); (try case hv => rfl))
 | ((with_reducible apply go_faR h); (case hc => exact inferInstance); omega; omega)
 | ((with_reducible apply go_rlenR h); rfl)
))
        refine rload_put hi hl hk h.drew fun s7' w' h => hE s7' w' ?_
        rw [insR_at hle fun x hx => by rw [List.getElem?_eq_getElem g] at hx; cases hx; exact g2] at h
        exact h
    · have g' : decide ((k : Int) < (o.length : Int)) = false := by simpa using g
      (repeat (first
 | (simp (disch := omega) only [evA, evB, evC, bAdd_i64, bSub_i64, g'])
 | (with_reducible apply go_ld1 h)
 | ((with_reducible first | apply go_ldA h | apply go_rd h | apply go_rdN h); rfl)
 | (with_reducible first | apply go_ldN h | apply go_lenR h)
 | ((with_reducible apply go_st h); intro _ h)
 | ((with_reducible apply go_stA h); rfl; rfl; (first | rfl | simp [OneV.o]); intro _ h)
 | ((with_reducible apply go_stN h); rfl; (first | rfl | simp [OneV.o]); intro _ h)
 | ((with_reducible apply go_box h); rfl; intro _ _ h)
 | ((with_reducible apply go_ixR h); omega)
 | ((with_reducible first | apply go_elR h | apply go_f1R h | apply go_rf1R h | apply go_relR h); (case hc => exact inferInstance); (case hi => omega); (try case hx => exact inferInstance); (try case hv => rfl))
 | ((with_reducible apply go_fNR h); (case hc => exact inferInstance); (case hi => omega); (try case hp => exact inferInstance); (try case hv => rfl))
 | ((with_reducible apply go_faR h); (case hc => exact inferInstance); omega; omega)
 | ((with_reducible apply go_rlenR h); rfl)
))
      refine rload_put hi hl hk h.drew fun s7' w' h => hE s7' w' ?_
      rw [insR_at hle fun x hx => by rw [List.getElem?_eq_none (by omega)] at hx; cases hx] at h
      exact h
theorem rload_twin {s0 sv s2 s7 : Value} {i : Nat} {o l : List Row} {R3 : Value → Value → Value → Value → Value → World → Prop} [hrd : RdIn w0 L sv Row cRow 11 l] (hi : i < l.length) (hl : l.length ≤ 1073741824)
    (hK0 : (∃ k, ∃ hk : k < i, l[k].id = l[i].id ∨ sgOf l[k].e = sgOf l[i].e) → ∀ w', Sat w0 (LsH cRow 11 33 s7 o :: L) w' → K (.int .i64 4) w')
    (hE : (∀ k, ∀ hk : k < i, l[k].id ≠ l[i].id ∧ sgOf l[k].e ≠ sgOf l[i].e) → ∀ w', Sat w0 (LsH cRow 11 33 s7 o :: L) w' → F97_9 s0 sv s2 s7 (.int .i64 i) w' K R3) :
    ∀ (d k : Nat) (w : World), i - k < d → k ≤ i → (∀ j, ∀ hj : j < k, ∀ hji : j < i, l[j].id ≠ l[i].id ∧ sgOf l[j].e ≠ sgOf l[i].e) → Sat w0 (LsH cRow 11 33 s7 o :: L) w → F97_8L d s0 sv s2 s7 (.int .i64 (i : Nat)) (.int .i64 (k : Nat)) w K R3 := by
  intro d
  induction d with
  | zero => intro k w hd; omega
  | succ d ih =>
    intro k w hd hk hno h
    rw [F97_8L]
    unfold F97_8b
    by_cases g : k < i
    · have g' : decide ((k : Int) < (i : Int)) = true := by simpa using g
      have hkl : k < l.length := by omega
      by_cases g2 : l[k].id = l[i].id
      · have g2' : decide (l[k].id = l[i].id) = true := by simpa using g2
        (repeat (first
 | (simp (disch := omega) only [evA, evB, evC, bAdd_i64, bSub_i64, g', g2'])
 | (with_reducible apply go_ld1 h)
 | ((with_reducible first | apply go_ldA h | apply go_rd h | apply go_rdN h); rfl)
 | (with_reducible first | apply go_ldN h | apply go_lenR h)
 | ((with_reducible apply go_st h); intro _ h)
 | ((with_reducible apply go_stA h); rfl; rfl; (first | rfl | simp [OneV.o]); intro _ h)
 | ((with_reducible apply go_stN h); rfl; (first | rfl | simp [OneV.o]); intro _ h)
 | ((with_reducible apply go_box h); rfl; intro _ _ h)
 | ((with_reducible apply go_ixR h); omega)
 | ((with_reducible first | apply go_elR h | apply go_f1R h | apply go_rf1R h | apply go_relR h); (case hc => exact inferInstance); (case hi => omega); (try case hx => exact inferInstance); (try case hv => rfl))
 | ((with_reducible apply go_fNR h); (case hc => exact inferInstance); (case hi => omega); (try case hp => exact inferInstance); (try case hv => rfl))
 | ((with_reducible apply go_faR h); (case hc => exact inferInstance); omega; omega)
 | ((with_reducible apply go_rlenR h); rfl)
))
        exact hK0 ⟨k, g, .inl g2⟩ _ h.drew
      · have g2' : decide (l[k].id = l[i].id) = false := by simpa using g2
        (repeat (first
 | (simp (disch := omega) only [evA, evB, evC, bAdd_i64, bSub_i64, g', g2'])
 | (with_reducible apply go_ld1 h)
 | ((with_reducible first | apply go_ldA h | apply go_rd h | apply go_rdN h); rfl)
 | (with_reducible first | apply go_ldN h | apply go_lenR h)
 | ((with_reducible apply go_st h); intro _ h)
 | ((with_reducible apply go_stA h); rfl; rfl; (first | rfl | simp [OneV.o]); intro _ h)
 | ((with_reducible apply go_stN h); rfl; (first | rfl | simp [OneV.o]); intro _ h)
 | ((with_reducible apply go_box h); rfl; intro _ _ h)
 | ((with_reducible apply go_ixR h); omega)
 | ((with_reducible first | apply go_elR h | apply go_f1R h | apply go_rf1R h | apply go_relR h); (case hc => exact inferInstance); (case hi => omega); (try case hx => exact inferInstance); (try case hv => rfl))
 | ((with_reducible apply go_fNR h); (case hc => exact inferInstance); (case hi => omega); (try case hp => exact inferInstance); (try case hv => rfl))
 | ((with_reducible apply go_faR h); (case hc => exact inferInstance); omega; omega)
 | ((with_reducible apply go_rlenR h); rfl)
))
        refine rsign_spec (a := l[k].e) (b := l[i].e) h.drew fun w h => ?_
        by_cases g3 : sgOf l[k].e = sgOf l[i].e
        · rw [decide_eq_true g3]
          (repeat (first
 | (simp (disch := omega) only [evA, evB, evC, bAdd_i64, bSub_i64])
 | (with_reducible apply go_ld1 h)
 | ((with_reducible first | apply go_ldA h | apply go_rd h | apply go_rdN h | apply go_rlen h); rfl)
 | (with_reducible first | apply go_ldN h | apply go_lenL h)
 | ((with_reducible apply go_st h); intro _ h)
 | ((with_reducible apply go_stA h); rfl; rfl; (first | rfl | simp [OneV.o]); intro _ h)
 | ((with_reducible apply go_stN h); rfl; (first | rfl | simp [OneV.o]); intro _ h)
 | ((with_reducible apply go_box h); rfl; intro _ _ h)
 | ((with_reducible apply go_ix h); omega)
 | ((with_reducible first | apply go_elN h | apply go_f1 h | apply go_rf1 h | apply go_rel h); (case hi => omega); (try case hx => exact inferInstance); (try case hv => rfl))
 | ((with_reducible apply go_fa h); omega; omega)
))
          exact hK0 ⟨k, g, .inr g3⟩ _ h
        · rw [decide_eq_false g3]
          (repeat (first
 | (simp (disch := omega) only [evA, evB, evC, bAdd_i64, bSub_i64])
 | (with_reducible apply go_ld1 h)
 | ((with_reducible first | apply go_ldA h | apply go_rd h | apply go_rdN h | apply go_rlen h); rfl)
 | (with_reducible first | apply go_ldN h | apply go_lenL h)
 | ((with_reducible apply go_st h); intro _ h)
 | ((with_reducible apply go_stA h); rfl; rfl; (first | rfl | simp [OneV.o]); intro _ h)
 | ((with_reducible apply go_stN h); rfl; (first | rfl | simp [OneV.o]); intro _ h)
 | ((with_reducible apply go_box h); rfl; intro _ _ h)
 | ((with_reducible apply go_ix h); omega)
 | ((with_reducible first | apply go_elN h | apply go_f1 h | apply go_rf1 h | apply go_rel h); (case hi => omega); (try case hx => exact inferInstance); (try case hv => rfl))
 | ((with_reducible apply go_fa h); omega; omega)
))
          refine ih (k + 1) _ (by omega) (by omega) (fun j hj hji => ?_) h
          by_cases ej : j = k
          · subst ej; exact ⟨g2, g3⟩
          · exact hno j (by omega) hji
    · have g' : decide ((k : Int) < (i : Int)) = false := by simpa using g
      (repeat (first
 | (simp (disch := omega) only [evA, evB, evC, bAdd_i64, bSub_i64, g'])
 | (with_reducible apply go_ld1 h)
 | ((with_reducible first | apply go_ldA h | apply go_rd h | apply go_rdN h | apply go_rlen h); rfl)
 | (with_reducible first | apply go_ldN h | apply go_lenL h)
 | ((with_reducible apply go_st h); intro _ h)
 | ((with_reducible apply go_stA h); rfl; rfl; (first | rfl | simp [OneV.o]); intro _ h)
 | ((with_reducible apply go_stN h); rfl; (first | rfl | simp [OneV.o]); intro _ h)
 | ((with_reducible apply go_box h); rfl; intro _ _ h)
 | ((with_reducible apply go_ix h); omega)
 | ((with_reducible first | apply go_elN h | apply go_f1 h | apply go_rf1 h | apply go_rel h); (case hi => omega); (try case hx => exact inferInstance); (try case hv => rfl))
 | ((with_reducible apply go_fa h); omega; omega)
))
      exact hE (fun j hj => hno j (by omega) hj) _ h
theorem rload_loop {p : Nat} {s sv : Value} {l : List Row} {next0 : Int} [hrd : RdIn w0 L sv Row cRow 11 l] (hfit : ∀ x ∈ l, x.e.fits ∧ x.who.length < 1073741824) (hlen : l.length ≤ 65536)
    (hK0 : loadR next l [] = none → ∀ w', Sat w0 (RefB (ptr p) n next0 rs :: L) w' → K (.int .i64 4) w')
    (hK1 : ∀ ds, loadR next l [] = some ds → n < l.length → ∀ w', Sat w0 (RefB (ptr p) n next0 rs :: L) w' → K (.int .i64 200) w')
    (hK2 : ∀ ds, loadR next l [] = some ds → (l.length : Int) ≤ n → ∀ w', Sat w0 (RefB (ptr p) n next ds :: L) w' → K (.int .i64 0) w') :
    ∀ (d i : Nat) (o : List Row) (s7 : Value) (w : World), l.length - i < d → i ≤ l.length → o.Perm (l.take i) → loadR next l [] = loadR next (l.drop i) o →
      Sat w0 (LsH cRow 11 33 s7 o :: Cl p #[.int .i64 n, .int .i64 next0, s] 149 :: LsH cRow 11 33 s rs :: L) w → F97_2L d (ptr p) sv (.int .i64 next) s7 (.int .i64 i) w K := by
  intro d
  induction d with
  | zero => intro i _ _ _ hd; omega
  | succ d ih =>
    intro i o s7 w hd hi hp he h
    rw [F97_2L]
    unfold F97_4 F97_4b
    have hol := hp.length_eq
    rw [List.length_take, Nat.min_eq_left hi] at hol
    by_cases g : i < l.length
    · have g' : decide ((i : Int) < (l.length : Int)) = true := by simpa using g
      (repeat (first
 | (simp (disch := omega) only [evA, evB, evC, bAdd_i64, bSub_i64, g'])
 | (with_reducible apply go_ld1 h)
 | ((with_reducible first | apply go_ldA h | apply go_rd h | apply go_rdN h); rfl)
 | (with_reducible first | apply go_ldN h | apply go_lenR h)
 | ((with_reducible apply go_st h); intro _ h)
 | ((with_reducible apply go_stA h); rfl; rfl; (first | rfl | simp [OneV.o]); intro _ h)
 | ((with_reducible apply go_stN h); rfl; (first | rfl | simp [OneV.o]); intro _ h)
 | ((with_reducible apply go_box h); rfl; intro _ _ h)
 | ((with_reducible apply go_ixR h); omega)
 | ((with_reducible first | apply go_elR h | apply go_f1R h | apply go_rf1R h | apply go_relR h); (case hc => exact inferInstance); (case hi => omega); (try case hx => exact inferInstance); (try case hv => rfl))
 | ((with_reducible apply go_fNR h); (case hc => exact inferInstance); (case hi => omega); (try case hp => exact inferInstance); (try case hv => rfl))
 | ((with_reducible apply go_faR h); (case hc => exact inferInstance); omega; omega)
 | ((with_reducible apply go_rlenR h); rfl)
))
      unfold F97_5 F97_7 F97_7b
      (repeat (first
 | (simp (disch := omega) only [evA, evB, evC, bAdd_i64, bSub_i64])
 | (with_reducible apply go_ld1 h)
 | ((with_reducible first | apply go_ldA h | apply go_rd h | apply go_rdN h); rfl)
 | (with_reducible first | apply go_ldN h | apply go_lenR h)
 | ((with_reducible apply go_st h); intro _ h)
 | ((with_reducible apply go_stA h); rfl; rfl; (first | rfl | simp [OneV.o]); intro _ h)
 | ((with_reducible apply go_stN h); rfl; (first | rfl | simp [OneV.o]); intro _ h)
 | ((with_reducible apply go_box h); rfl; intro _ _ h)
 | ((with_reducible apply go_ixR h); omega)
 | ((with_reducible first | apply go_elR h | apply go_f1R h | apply go_rf1R h | apply go_relR h); (case hc => exact inferInstance); (case hi => omega); (try case hx => exact inferInstance); (try case hv => rfl))
 | ((with_reducible apply go_fNR h); (case hc => exact inferInstance); (case hi => omega); (try case hp => exact inferInstance); (try case hv => rfl))
 | ((with_reducible apply go_faR h); (case hc => exact inferInstance); omega; omega)
 | ((with_reducible apply go_rlenR h); rfl)
))
      have hfc := hfit _ (List.getElem_mem g)
      rw [List.drop_eq_getElem_cons g] at he
      have hbad : loadStepR next o l[i] = none → loadR next l [] = none := fun h => by rw [he]; simp [loadR, h]
      refine fbcheck_spec (r := l[i]) hfc.1 hfc.2 h fun w h => ?_
      unfold chkR
      cases g1 : okR l[i]
      · have d4 : decide ((4 : Int) = 0) = false := by decide
        (repeat (first
 | (simp (disch := omega) only [evA, evB, evC, bAdd_i64, bSub_i64, Bool.false_eq_true, if_false, d4])
 | (with_reducible apply go_ld1 h)
 | ((with_reducible first | apply go_ldA h | apply go_rd h | apply go_rdN h | apply go_rlen h); rfl)
 | (with_reducible first | apply go_ldN h | apply go_lenL h)
 | ((with_reducible apply go_st h); intro _ h)
 | ((with_reducible apply go_stA h); rfl; rfl; (first | rfl | simp [OneV.o]); intro _ h)
 | ((with_reducible apply go_stN h); rfl; (first | rfl | simp [OneV.o]); intro _ h)
 | ((with_reducible apply go_box h); rfl; intro _ _ h)
 | ((with_reducible apply go_ix h); omega)
 | ((with_reducible first | apply go_elN h | apply go_f1 h | apply go_rf1 h | apply go_rel h); (case hi => omega); (try case hx => exact inferInstance); (try case hv => rfl))
 | ((with_reducible apply go_fa h); omega; omega)
))
        exact hK0 (hbad (by unfold loadStepR; rw [if_neg]; simp [g1])) _ (refB_iff.2 ⟨p, s, rfl, h.got⟩)
      by_cases g3 : l[i].id ≥ next
      · have g3' : decide (l[i].id ≥ next) = true := by simpa using g3
        (repeat (first
 | (simp (disch := omega) only [evA, evB, evC, bAdd_i64, bSub_i64, if_true, g3'])
 | (with_reducible apply go_ld1 h)
 | ((with_reducible first | apply go_ldA h | apply go_rd h | apply go_rdN h); rfl)
 | (with_reducible first | apply go_ldN h | apply go_lenR h)
 | ((with_reducible apply go_st h); intro _ h)
 | ((with_reducible apply go_stA h); rfl; rfl; (first | rfl | simp [OneV.o]); intro _ h)
 | ((with_reducible apply go_stN h); rfl; (first | rfl | simp [OneV.o]); intro _ h)
 | ((with_reducible apply go_box h); rfl; intro _ _ h)
 | ((with_reducible apply go_ixR h); omega)
 | ((with_reducible first | apply go_elR h | apply go_f1R h | apply go_rf1R h | apply go_relR h); (case hc => exact inferInstance); (case hi => omega); (try case hx => exact inferInstance); (try case hv => rfl))
 | ((with_reducible apply go_fNR h); (case hc => exact inferInstance); (case hi => omega); (try case hp => exact inferInstance); (try case hv => rfl))
 | ((with_reducible apply go_faR h); (case hc => exact inferInstance); omega; omega)
 | ((with_reducible apply go_rlenR h); rfl)
))
        exact hK0 (hbad (by unfold loadStepR; rw [if_neg]; omega)) _ (refB_iff.2 ⟨p, s, rfl, h.got⟩)
      have g3' : decide (l[i].id ≥ next) = false := by simpa using g3
      (repeat (first
 | (simp (disch := omega) only [evA, evB, evC, bAdd_i64, bSub_i64, if_true, g3'])
 | (with_reducible apply go_ld1 h)
 | ((with_reducible first | apply go_ldA h | apply go_rd h | apply go_rdN h); rfl)
 | (with_reducible first | apply go_ldN h | apply go_lenR h)
 | ((with_reducible apply go_st h); intro _ h)
 | ((with_reducible apply go_stA h); rfl; rfl; (first | rfl | simp [OneV.o]); intro _ h)
 | ((with_reducible apply go_stN h); rfl; (first | rfl | simp [OneV.o]); intro _ h)
 | ((with_reducible apply go_box h); rfl; intro _ _ h)
 | ((with_reducible apply go_ixR h); omega)
 | ((with_reducible first | apply go_elR h | apply go_f1R h | apply go_rf1R h | apply go_relR h); (case hc => exact inferInstance); (case hi => omega); (try case hx => exact inferInstance); (try case hv => rfl))
 | ((with_reducible apply go_fNR h); (case hc => exact inferInstance); (case hi => omega); (try case hp => exact inferInstance); (try case hv => rfl))
 | ((with_reducible apply go_faR h); (case hc => exact inferInstance); omega; omega)
 | ((with_reducible apply go_rlenR h); rfl)
))
      unfold F97_8
      refine rload_twin (L := Cl p #[.int .i64 n, .int .i64 next0, s] 149 :: LsH cRow 11 33 s rs :: L) (o := o) (l := l) g (by omega) (fun hx w h => ?_) (fun hno w h => ?_) fuel 0 _ (by unfold fuel; omega) (by omega) (fun j h => by omega) h
      · refine hK0 (hbad ?_) _ (refB_iff.2 ⟨p, s, rfl, h.got⟩)
        unfold loadStepR
        rw [if_neg]
        rintro ⟨_, _, h1, h2⟩
        obtain ⟨k, hk, hx⟩ := hx
        have hm : l[k] ∈ o := hp.mem_iff.2 (List.mem_iff_getElem.2 ⟨k, by rw [List.length_take]; omega, by simp⟩)
        rcases hx with hx | hx
        · exact h1 _ hm hx
        · exact h2 _ hm hx
      · unfold F97_9 F97_9b F97_10
        refine rload_find (L := Cl p #[.int .i64 n, .int .i64 next0, s] 149 :: LsH cRow 11 33 s rs :: L) (o := o) (l := l) g (by omega) (fun s7' w h => ?_) fuel 0 _ (by unfold fuel; omega) (by omega) (by simp) h
        unfold F97_6 F97_6b
        (repeat (first
 | (simp (disch := omega) only [evA, evB, evC, bAdd_i64, bSub_i64])
 | (with_reducible apply go_ld1 h)
 | ((with_reducible first | apply go_ldA h | apply go_rd h | apply go_rdN h | apply go_rlen h); rfl)
 | (with_reducible first | apply go_ldN h | apply go_lenL h)
 | ((with_reducible apply go_st h); intro _ h)
 | ((with_reducible apply go_stA h); rfl; rfl; (first | rfl | simp [OneV.o]); intro _ h)
 | ((with_reducible apply go_stN h); rfl; (first | rfl | simp [OneV.o]); intro _ h)
 | ((with_reducible apply go_box h); rfl; intro _ _ h)
 | ((with_reducible apply go_ix h); omega)
 | ((with_reducible first | apply go_elN h | apply go_f1 h | apply go_rf1 h | apply go_rel h); (case hi => omega); (try case hx => exact inferInstance); (try case hv => rfl))
 | ((with_reducible apply go_fa h); omega; omega)
))
        have hst : loadStepR next o l[i] = some (insR l[i] o) := by
          unfold loadStepR
          have hmem : ∀ d ∈ o, ∃ k, ∃ hk : k < i, d = l[k] := fun d hd => by
            obtain ⟨k, hk, e⟩ := List.mem_iff_getElem.1 (hp.mem_iff.1 hd)
            rw [List.length_take] at hk
            exact ⟨k, by omega, by rw [← e]; simp⟩
          rw [if_pos]
          refine ⟨g1, by omega, fun d hd => ?_, fun d hd => ?_⟩
          · obtain ⟨k, hk, rfl⟩ := hmem d hd; exact (hno k hk).1
          · obtain ⟨k, hk, rfl⟩ := hmem d hd; exact (hno k hk).2
        refine ih (i + 1) _ s7' _ (by omega) (by omega) ?_ ?_ h
        · rw [List.take_succ_eq_append_getElem g]
          exact (insR_perm _ _).trans ((hp.cons _).trans (List.perm_append_singleton _ _).symm)
        · rw [he]; simp [loadR, hst]
    · have g' : decide ((i : Int) < (l.length : Int)) = false := by simpa using g
      rw [List.drop_eq_nil_of_le (by omega)] at he
      simp only [loadR] at he
      (repeat (first
 | (simp (disch := omega) only [evA, evB, evC, bAdd_i64, bSub_i64, g'])
 | (with_reducible apply go_ld1 h)
 | ((with_reducible first | apply go_ldA h | apply go_rd h | apply go_rdN h); rfl)
 | (with_reducible first | apply go_ldN h | apply go_lenR h)
 | ((with_reducible apply go_st h); intro _ h)
 | ((with_reducible apply go_stA h); rfl; rfl; (first | rfl | simp [OneV.o]); intro _ h)
 | ((with_reducible apply go_stN h); rfl; (first | rfl | simp [OneV.o]); intro _ h)
 | ((with_reducible apply go_box h); rfl; intro _ _ h)
 | ((with_reducible apply go_ixR h); omega)
 | ((with_reducible first | apply go_elR h | apply go_f1R h | apply go_rf1R h | apply go_relR h); (case hc => exact inferInstance); (case hi => omega); (try case hx => exact inferInstance); (try case hv => rfl))
 | ((with_reducible apply go_fNR h); (case hc => exact inferInstance); (case hi => omega); (try case hp => exact inferInstance); (try case hv => rfl))
 | ((with_reducible apply go_faR h); (case hc => exact inferInstance); omega; omega)
 | ((with_reducible apply go_rlenR h); rfl)
))
      unfold F97_3 F97_3b
      by_cases g3 : (l.length : Int) > n
      · have g3' : decide ((l.length : Int) > n) = true := by simpa using g3
        (repeat (first
 | (simp (disch := omega) only [evA, evB, evC, bAdd_i64, bSub_i64, g3'])
 | (with_reducible apply go_ld1 h)
 | ((with_reducible first | apply go_ldA h | apply go_rd h | apply go_rdN h); rfl)
 | (with_reducible first | apply go_ldN h | apply go_lenR h)
 | ((with_reducible apply go_st h); intro _ h)
 | ((with_reducible apply go_stA h); rfl; rfl; (first | rfl | simp [OneV.o]); intro _ h)
 | ((with_reducible apply go_stN h); rfl; (first | rfl | simp [OneV.o]); intro _ h)
 | ((with_reducible apply go_box h); rfl; intro _ _ h)
 | ((with_reducible apply go_ixR h); omega)
 | ((with_reducible first | apply go_elR h | apply go_f1R h | apply go_rf1R h | apply go_relR h); (case hc => exact inferInstance); (case hi => omega); (try case hx => exact inferInstance); (try case hv => rfl))
 | ((with_reducible apply go_fNR h); (case hc => exact inferInstance); (case hi => omega); (try case hp => exact inferInstance); (try case hv => rfl))
 | ((with_reducible apply go_faR h); (case hc => exact inferInstance); omega; omega)
 | ((with_reducible apply go_rlenR h); rfl)
))
        exact hK1 _ he (by omega) _ (refB_iff.2 ⟨p, s, rfl, h.got⟩)
      · have g3' : decide ((l.length : Int) > n) = false := by simpa using g3
        have := ls_one h
        (repeat (first
 | (simp (disch := omega) only [evA, evB, evC, bAdd_i64, bSub_i64, g3'])
 | (with_reducible apply go_ld1 h)
 | ((with_reducible first | apply go_ldA h | apply go_rd h | apply go_rdN h); rfl)
 | (with_reducible first | apply go_ldN h | apply go_lenR h)
 | ((with_reducible apply go_st h); intro _ h)
 | ((with_reducible apply go_stA h); rfl; rfl; (first | rfl | simp [OneV.o]); intro _ h)
 | ((with_reducible apply go_stN h); rfl; (first | rfl | simp [OneV.o]); intro _ h)
 | ((with_reducible apply go_box h); rfl; intro _ _ h)
 | ((with_reducible apply go_ixR h); omega)
 | ((with_reducible first | apply go_elR h | apply go_f1R h | apply go_rf1R h | apply go_relR h); (case hc => exact inferInstance); (case hi => omega); (try case hx => exact inferInstance); (try case hv => rfl))
 | ((with_reducible apply go_fNR h); (case hc => exact inferInstance); (case hi => omega); (try case hp => exact inferInstance); (try case hv => rfl))
 | ((with_reducible apply go_faR h); (case hc => exact inferInstance); omega; omega)
 | ((with_reducible apply go_rlenR h); rfl)
))
        exact hK2 _ he (by omega) _ (refB_iff.2 ⟨p, s7, rfl, h.got⟩)
theorem rload_spec {sv : Value} {l : List Row} {next0 : Int} [hrd : RdIn w0 L sv Row cRow 11 l] (hfit : ∀ x ∈ l, x.e.fits ∧ x.who.length < 1073741824) (hlen : l.length ≤ 65536) (h : Sat w0 (RefB v n next0 rs :: L) w)
    (hK : ∀ w', Sat w0 (RefB v n (loadA n next0 rs l next).2.1 (loadA n next0 rs l next).2.2 :: L) w' → K (.int .i64 (loadA n next0 rs l next).1) w') : callP G97 [v, sv, .int .i64 next] w K := by
  obtain ⟨p, rfl⟩ := refB_ptr h
  unfold loadA at hK
  refine c97 ?_
  unfold F97 F97_1 F97_1b
  by_cases g1 : next < 1
  · have g1' : decide (next < 1) = true := by simpa using g1
    rw [if_pos (.inl g1)] at hK
    (repeat (first
 | (simp (disch := omega) only [evA, evB, evC, bAdd_i64, bSub_i64, g1'])
 | (with_reducible apply go_ld1 h)
 | ((with_reducible first | apply go_ldA h | apply go_rd h | apply go_rdN h | apply go_rlen h); rfl)
 | (with_reducible first | apply go_ldN h | apply go_lenL h)
 | ((with_reducible apply go_st h); intro _ h)
 | ((with_reducible apply go_stA h); rfl; rfl; (first | rfl | simp [OneV.o]); intro _ h)
 | ((with_reducible apply go_stN h); rfl; (first | rfl | simp [OneV.o]); intro _ h)
 | ((with_reducible apply go_box h); rfl; intro _ _ h)
 | ((with_reducible apply go_ix h); omega)
 | ((with_reducible first | apply go_elN h | apply go_f1 h | apply go_rf1 h | apply go_rel h); (case hi => omega); (try case hx => exact inferInstance); (try case hv => rfl))
 | ((with_reducible apply go_fa h); omega; omega)
))
    exact hK _ h
  have g1' : decide (next < 1) = false := by simpa using g1
  by_cases g2 : next > 1152921504606846976
  · have g2' : decide (next > 1152921504606846976) = true := by simpa using g2
    rw [if_pos (.inr g2)] at hK
    (repeat (first
 | (simp (disch := omega) only [evA, evB, evC, bAdd_i64, bSub_i64, g1', g2'])
 | (with_reducible apply go_ld1 h)
 | ((with_reducible first | apply go_ldA h | apply go_rd h | apply go_rdN h | apply go_rlen h); rfl)
 | (with_reducible first | apply go_ldN h | apply go_lenL h)
 | ((with_reducible apply go_st h); intro _ h)
 | ((with_reducible apply go_stA h); rfl; rfl; (first | rfl | simp [OneV.o]); intro _ h)
 | ((with_reducible apply go_stN h); rfl; (first | rfl | simp [OneV.o]); intro _ h)
 | ((with_reducible apply go_box h); rfl; intro _ _ h)
 | ((with_reducible apply go_ix h); omega)
 | ((with_reducible first | apply go_elN h | apply go_f1 h | apply go_rf1 h | apply go_rel h); (case hi => omega); (try case hx => exact inferInstance); (try case hv => rfl))
 | ((with_reducible apply go_fa h); omega; omega)
))
    exact hK _ h
  have g2' : decide (next > 1152921504606846976) = false := by simpa using g2
  rw [if_neg (by omega)] at hK
  (repeat (first
 | (simp (disch := omega) only [evA, evB, evC, bAdd_i64, bSub_i64, g1', g2'])
 | (with_reducible apply go_ld1 h)
 | ((with_reducible first | apply go_ldA h | apply go_rd h | apply go_rdN h | apply go_rlen h); rfl)
 | (with_reducible first | apply go_ldN h | apply go_lenL h)
 | ((with_reducible apply go_st h); intro _ h)
 | ((with_reducible apply go_stA h); rfl; rfl; (first | rfl | simp [OneV.o]); intro _ h)
 | ((with_reducible apply go_stN h); rfl; (first | rfl | simp [OneV.o]); intro _ h)
 | ((with_reducible apply go_box h); rfl; intro _ _ h)
 | ((with_reducible apply go_ix h); omega)
 | ((with_reducible first | apply go_elN h | apply go_f1 h | apply go_rf1 h | apply go_rel h); (case hi => omega); (try case hx => exact inferInstance); (try case hv => rfl))
 | ((with_reducible apply go_fa h); omega; omega)
))
  unfold F97_2
  obtain ⟨s, h⟩ := refB_at h
  refine rload_loop (next := next) (rs := rs) (n := n) (next0 := next0) (l := l) hfit hlen (fun e w h => ?_) (fun ds e hlt w h => ?_) (fun ds e hle w h => ?_) fuel 0 [] _ _ (by unfold fuel; omega) (by omega) (by simp) (by simp) (Sat.nilLs cRow 11 33 h)
  · rw [e] at hK; exact hK w h
  · rw [e] at hK; simp only at hK; rw [if_pos hlt] at hK; exact hK w h
  · rw [e] at hK; simp only at hK; rw [if_neg (by omega)] at hK; exact hK w h
end
end Go.Proofs.Gong

/- Bp5 -/
namespace Go.Proofs.Gong
open Go Go.Sx Go.Proofs
set_option maxRecDepth 100000
structure BAct where
  kind : Int
  n : Int
  id : Int
  keep : Int
  e : Evt
  who : List UInt8
  la : Option Addr
  ln : Nat
  lc : Nat
@[reducible] def lvA (a : BAct) : Value := .slice a.la a.ln a.lc
@[reducible] def cBA (a : BAct) : List Value := [.int .i64 a.kind, .int .i64 a.n, .int .i64 a.id, .int .i64 a.keep, .string (bs a.e.node), .string (bs a.e.cls), .string (bs a.e.key), .int .i64 a.e.level, .string (bs a.e.text), .string (bs a.who), lvA a]
abbrev actV (a : BAct) : Value := .agg (cBA a).toArray
theorem CBA : Cod cBA 11 := ⟨fun _ => rfl, fun _ => rfl, by omega⟩
instance : CodC cBA 11 := ⟨CBA⟩
theorem nxt_le {n next now : Int} {rs : List Row} {e : Evt} : next ≤ (raiseA n next rs e now).2.1 ∧ (raiseA n next rs e now).2.1 ≤ next + 1 := raise_next
attribute [local irreducible] fBuild fLook fZero eqv bEqv Cl MapH LsH SlH ld1 ldN st callP eBox eAlloc lenM lenL eMapSet eDelete eAppend eBuildSl eRange eNext
section
variable {w0 w : World} {L : List HP} {K : Value → World → Prop} {v rv : Value} {n next : Int} {rs : List Row} {r : Row}
theorem eqB (x y : Operand) (a b : Bool) : bEq Try.prog 4 x y (.bool a) (.bool b) = some (.bool (a == b)) := bEq_bool ub4 a b
theorem eqR' (x y : Operand) (a : Row) : bEq Try.prog 33 x y (rowV a) (rowV a) = some (.bool true) := by rw [eqR, decide_eq_true rfl]
theorem last_bd {n next : Int} {R : List (Int × Row)} {I : List (Sg × Int)} {rs : List Row} (H : BInv n next R I rs) : ∀ r ∈ rs, 0 ≤ r.last ∧ r.last ≤ 2305843009213693952 := fun r hr => by
  have := (okR_parts (H.ok r hr).1).2.2.2.2.2.1
  unfold timeP at this; simpa using this
theorem bspoil_loop {s0 s1 s7 s8 s9 s10 s11 s12 s13 s14 s15 s16 s17 s18 s20 x : Value} (hK : ∀ w', Sat w0 L w' → F49_3 s0 s1 s7 s8 s9 s10 s11 s12 s13 s14 s15 s16 s17 s18 s20 w' K) :
    ∀ (d i : Nat) (l : List Row) (w : World), l.length - i < d → i ≤ l.length → l.length ≤ 65536 → Sat w0 (LsH cRow 11 33 x l :: L) w → F49_2L d s0 s1 s7 s8 s9 s10 s11 s12 s13 s14 s15 s16 s17 s18 x s20 (.int .i64 i) w K := by
  intro d
  induction d with
  | zero => intro i l w hd; omega
  | succ d ih =>
    intro i l w hd hi hl h
    rw [F49_2L]
    unfold F49_2b
    by_cases g : i < l.length
    · have g' : decide ((i : Int) < (l.length : Int)) = true := by simpa using g
      (repeat (first
 | (simp (disch := omega) only [evA, evB, evC, bAdd_i64, bSub_i64, g'])
 | (with_reducible apply go_ld1 h)
 | ((with_reducible first | apply go_ldA h | apply go_rd h | apply go_rdN h | apply go_rlen h); rfl)
 | (with_reducible first | apply go_ldN h | apply go_lenL h)
 | ((with_reducible apply go_st h); intro _ h)
 | ((with_reducible apply go_stA h); rfl; rfl; (first | rfl | simp [OneV.o]); intro _ h)
 | ((with_reducible apply go_stN h); rfl; (first | rfl | simp [OneV.o]); intro _ h)
 | ((with_reducible apply go_box h); rfl; intro _ _ h)
 | ((with_reducible apply go_ix h); omega)
 | ((with_reducible first | apply go_elN h | apply go_f1 h | apply go_rf1 h | apply go_rel h); (case hi => omega); (try case hx => exact inferInstance); (try case hv => rfl))
 | ((with_reducible apply go_fa h); omega; omega)
))
      refine go_stF (x' := { l[i] with id := -9 }) h (by repeat (first | exact .here | apply Fnt.there)) CR g (by omega) rfl fun w h => ?_
      (repeat (first
 | (simp (disch := omega) only [evA, evB, evC, bAdd_i64, bSub_i64])
 | (with_reducible apply go_ld1 h)
 | ((with_reducible first | apply go_ldA h | apply go_rd h | apply go_rdN h | apply go_rlen h); rfl)
 | (with_reducible first | apply go_ldN h | apply go_lenL h)
 | ((with_reducible apply go_st h); intro _ h)
 | ((with_reducible apply go_stA h); rfl; rfl; (first | rfl | simp [OneV.o]); intro _ h)
 | ((with_reducible apply go_stN h); rfl; (first | rfl | simp [OneV.o]); intro _ h)
 | ((with_reducible apply go_box h); rfl; intro _ _ h)
 | ((with_reducible apply go_ix h); omega)
 | ((with_reducible first | apply go_elN h | apply go_f1 h | apply go_rf1 h | apply go_rel h); (case hi => omega); (try case hx => exact inferInstance); (try case hv => rfl))
 | ((with_reducible apply go_fa h); omega; omega)
))
      exact ih (i + 1) _ w (by simp; omega) (by simp; omega) (by simpa using hl) h
    · have g' : decide ((i : Int) < (l.length : Int)) = false := by simpa using g
      (repeat (first
 | (simp (disch := omega) only [evA, evB, evC, bAdd_i64, bSub_i64, g'])
 | (with_reducible apply go_ld1 h)
 | ((with_reducible first | apply go_ldA h | apply go_rd h | apply go_rdN h | apply go_rlen h); rfl)
 | (with_reducible first | apply go_ldN h | apply go_lenL h)
 | ((with_reducible apply go_st h); intro _ h)
 | ((with_reducible apply go_stA h); rfl; rfl; (first | rfl | simp [OneV.o]); intro _ h)
 | ((with_reducible apply go_stN h); rfl; (first | rfl | simp [OneV.o]); intro _ h)
 | ((with_reducible apply go_box h); rfl; intro _ _ h)
 | ((with_reducible apply go_ix h); omega)
 | ((with_reducible first | apply go_elN h | apply go_f1 h | apply go_rf1 h | apply go_rel h); (case hi => omega); (try case hx => exact inferInstance); (try case hv => rfl))
 | ((with_reducible apply go_fa h); omega; omega)
))
      exact hK _ h.drop
theorem bstands_spec {a : BAct} (h : Sat w0 (BoardA v n next rs :: RefB rv n next rs :: L) w) (hK : ∀ w', Sat w0 (BoardA v n next rs :: RefB rv n next rs :: L) w' → K (.bool true) w') : callP G49 [v, rv, actV a] w K := by
  obtain ⟨R, I, H⟩ := boardA_inv h
  have hb := H.bd
  have hl : rs.length ≤ 1073741824 := by omega
  obtain ⟨p, rfl⟩ := refB_ptr h.f1
  refine c49 ?_
  unfold F49 F49_1 F49_1b
  (repeat (first
 | (simp (disch := omega) only [evA, evB, evC, bAdd_i64, bSub_i64])
 | (with_reducible apply go_ld1 h)
 | ((with_reducible first | apply go_ldA h | apply go_rd h | apply go_rdN h | apply go_rlen h); rfl)
 | (with_reducible first | apply go_ldN h | apply go_lenL h)
 | ((with_reducible apply go_st h); intro _ h)
 | ((with_reducible apply go_stA h); rfl; rfl; (first | rfl | simp [OneV.o]); intro _ h)
 | ((with_reducible apply go_stN h); rfl; (first | rfl | simp [OneV.o]); intro _ h)
 | ((with_reducible apply go_box h); rfl; intro _ _ h)
 | ((with_reducible apply go_ix h); omega)
 | ((with_reducible first | apply go_elN h | apply go_f1 h | apply go_rf1 h | apply go_rel h); (case hi => omega); (try case hx => exact inferInstance); (try case hv => rfl))
 | ((with_reducible apply go_fa h); omega; omega)
))
  refine baget_spec (rs := rs) (n := n) (next := next) (h.frt) fun w h => ?_
  (repeat (first
 | (simp (disch := omega) only [evA, evB, evC, bAdd_i64, bSub_i64])
 | (with_reducible apply go_ld1 h)
 | ((with_reducible first | apply go_ldA h | apply go_rd h | apply go_rdN h | apply go_rlen h); rfl)
 | (with_reducible first | apply go_ldN h | apply go_lenL h)
 | ((with_reducible apply go_st h); intro _ h)
 | ((with_reducible apply go_stA h); rfl; rfl; (first | rfl | simp [OneV.o]); intro _ h)
 | ((with_reducible apply go_stN h); rfl; (first | rfl | simp [OneV.o]); intro _ h)
 | ((with_reducible apply go_box h); rfl; intro _ _ h)
 | ((with_reducible apply go_ix h); omega)
 | ((with_reducible first | apply go_elN h | apply go_f1 h | apply go_rf1 h | apply go_rel h); (case hi => omega); (try case hx => exact inferInstance); (try case hv => rfl))
 | ((with_reducible apply go_fa h); omega; omega)
))
  refine go_alloc h zR rfl fun q7 _ h => ?_
  (repeat (first
 | (simp (disch := omega) only [evA, evB, evC, bAdd_i64, bSub_i64])
 | (with_reducible apply go_ld1 h)
 | ((with_reducible first | apply go_ldA h | apply go_rd h | apply go_rdN h | apply go_rlen h); rfl)
 | (with_reducible first | apply go_ldN h | apply go_lenL h)
 | ((with_reducible apply go_st h); intro _ h)
 | ((with_reducible apply go_stA h); rfl; rfl; (first | rfl | simp [OneV.o]); intro _ h)
 | ((with_reducible apply go_stN h); rfl; (first | rfl | simp [OneV.o]); intro _ h)
 | ((with_reducible apply go_box h); rfl; intro _ _ h)
 | ((with_reducible apply go_ix h); omega)
 | ((with_reducible first | apply go_elN h | apply go_f1 h | apply go_rf1 h | apply go_rel h); (case hi => omega); (try case hx => exact inferInstance); (try case hv => rfl))
 | ((with_reducible apply go_fa h); omega; omega)
))
  refine rget_spec (rs := rs) (n := n) (next := next) hl (h.frt) fun w h => ?_
  (repeat (first
 | (simp (disch := omega) only [evA, evB, evC, bAdd_i64, bSub_i64])
 | (with_reducible apply go_ld1 h)
 | ((with_reducible first | apply go_ldA h | apply go_rd h | apply go_rdN h | apply go_rlen h); rfl)
 | (with_reducible first | apply go_ldN h | apply go_lenL h)
 | ((with_reducible apply go_st h); intro _ h)
 | ((with_reducible apply go_stA h); rfl; rfl; (first | rfl | simp [OneV.o]); intro _ h)
 | ((with_reducible apply go_stN h); rfl; (first | rfl | simp [OneV.o]); intro _ h)
 | ((with_reducible apply go_box h); rfl; intro _ _ h)
 | ((with_reducible apply go_ix h); omega)
 | ((with_reducible first | apply go_elN h | apply go_f1 h | apply go_rf1 h | apply go_rel h); (case hi => omega); (try case hx => exact inferInstance); (try case hv => rfl))
 | ((with_reducible apply go_fa h); omega; omega)
))
  refine go_alloc h zR rfl fun q9 _ h => ?_
  (repeat (first
 | (simp (disch := omega) only [evA, evB, evC, bAdd_i64, bSub_i64])
 | (with_reducible apply go_ld1 h)
 | ((with_reducible first | apply go_ldA h | apply go_rd h | apply go_rdN h | apply go_rlen h); rfl)
 | (with_reducible first | apply go_ldN h | apply go_lenL h)
 | ((with_reducible apply go_st h); intro _ h)
 | ((with_reducible apply go_stA h); rfl; rfl; (first | rfl | simp [OneV.o]); intro _ h)
 | ((with_reducible apply go_stN h); rfl; (first | rfl | simp [OneV.o]); intro _ h)
 | ((with_reducible apply go_box h); rfl; intro _ _ h)
 | ((with_reducible apply go_ix h); omega)
 | ((with_reducible first | apply go_elN h | apply go_f1 h | apply go_rf1 h | apply go_rel h); (case hi => omega); (try case hx => exact inferInstance); (try case hv => rfl))
 | ((with_reducible apply go_fa h); omega; omega)
))
  refine bafind_spec (rs := rs) (n := n) (next := next) (h.frt) fun w h => ?_
  (repeat (first
 | (simp (disch := omega) only [evA, evB, evC, bAdd_i64, bSub_i64])
 | (with_reducible apply go_ld1 h)
 | ((with_reducible first | apply go_ldA h | apply go_rd h | apply go_rdN h | apply go_rlen h); rfl)
 | (with_reducible first | apply go_ldN h | apply go_lenL h)
 | ((with_reducible apply go_st h); intro _ h)
 | ((with_reducible apply go_stA h); rfl; rfl; (first | rfl | simp [OneV.o]); intro _ h)
 | ((with_reducible apply go_stN h); rfl; (first | rfl | simp [OneV.o]); intro _ h)
 | ((with_reducible apply go_box h); rfl; intro _ _ h)
 | ((with_reducible apply go_ix h); omega)
 | ((with_reducible first | apply go_elN h | apply go_f1 h | apply go_rf1 h | apply go_rel h); (case hi => omega); (try case hx => exact inferInstance); (try case hv => rfl))
 | ((with_reducible apply go_fa h); omega; omega)
))
  refine go_alloc h zR rfl fun q11 _ h => ?_
  (repeat (first
 | (simp (disch := omega) only [evA, evB, evC, bAdd_i64, bSub_i64])
 | (with_reducible apply go_ld1 h)
 | ((with_reducible first | apply go_ldA h | apply go_rd h | apply go_rdN h | apply go_rlen h); rfl)
 | (with_reducible first | apply go_ldN h | apply go_lenL h)
 | ((with_reducible apply go_st h); intro _ h)
 | ((with_reducible apply go_stA h); rfl; rfl; (first | rfl | simp [OneV.o]); intro _ h)
 | ((with_reducible apply go_stN h); rfl; (first | rfl | simp [OneV.o]); intro _ h)
 | ((with_reducible apply go_box h); rfl; intro _ _ h)
 | ((with_reducible apply go_ix h); omega)
 | ((with_reducible first | apply go_elN h | apply go_f1 h | apply go_rf1 h | apply go_rel h); (case hi => omega); (try case hx => exact inferInstance); (try case hv => rfl))
 | ((with_reducible apply go_fa h); omega; omega)
))
  refine rfind_spec (rs := rs) (n := n) (next := next) hl (h.frt) fun w h => ?_
  (repeat (first
 | (simp (disch := omega) only [evA, evB, evC, bAdd_i64, bSub_i64])
 | (with_reducible apply go_ld1 h)
 | ((with_reducible first | apply go_ldA h | apply go_rd h | apply go_rdN h | apply go_rlen h); rfl)
 | (with_reducible first | apply go_ldN h | apply go_lenL h)
 | ((with_reducible apply go_st h); intro _ h)
 | ((with_reducible apply go_stA h); rfl; rfl; (first | rfl | simp [OneV.o]); intro _ h)
 | ((with_reducible apply go_stN h); rfl; (first | rfl | simp [OneV.o]); intro _ h)
 | ((with_reducible apply go_box h); rfl; intro _ _ h)
 | ((with_reducible apply go_ix h); omega)
 | ((with_reducible first | apply go_elN h | apply go_f1 h | apply go_rf1 h | apply go_rel h); (case hi => omega); (try case hx => exact inferInstance); (try case hv => rfl))
 | ((with_reducible apply go_fa h); omega; omega)
))
  refine go_alloc h zR rfl fun q13 _ h => ?_
  (repeat (first
 | (simp (disch := omega) only [evA, evB, evC, bAdd_i64, bSub_i64])
 | (with_reducible apply go_ld1 h)
 | ((with_reducible first | apply go_ldA h | apply go_rd h | apply go_rdN h | apply go_rlen h); rfl)
 | (with_reducible first | apply go_ldN h | apply go_lenL h)
 | ((with_reducible apply go_st h); intro _ h)
 | ((with_reducible apply go_stA h); rfl; rfl; (first | rfl | simp [OneV.o]); intro _ h)
 | ((with_reducible apply go_stN h); rfl; (first | rfl | simp [OneV.o]); intro _ h)
 | ((with_reducible apply go_box h); rfl; intro _ _ h)
 | ((with_reducible apply go_ix h); omega)
 | ((with_reducible first | apply go_elN h | apply go_f1 h | apply go_rf1 h | apply go_rel h); (case hi => omega); (try case hx => exact inferInstance); (try case hv => rfl))
 | ((with_reducible apply go_fa h); omega; omega)
))
  refine basoon_spec (rs := rs) (n := n) (next := next) (last_bd H) (h.frt) fun w h => ?_
  (repeat (first
 | (simp (disch := omega) only [evA, evB, evC, bAdd_i64, bSub_i64])
 | (with_reducible apply go_ld1 h)
 | ((with_reducible first | apply go_ldA h | apply go_rd h | apply go_rdN h | apply go_rlen h); rfl)
 | (with_reducible first | apply go_ldN h | apply go_lenL h)
 | ((with_reducible apply go_st h); intro _ h)
 | ((with_reducible apply go_stA h); rfl; rfl; (first | rfl | simp [OneV.o]); intro _ h)
 | ((with_reducible apply go_stN h); rfl; (first | rfl | simp [OneV.o]); intro _ h)
 | ((with_reducible apply go_box h); rfl; intro _ _ h)
 | ((with_reducible apply go_ix h); omega)
 | ((with_reducible first | apply go_elN h | apply go_f1 h | apply go_rf1 h | apply go_rel h); (case hi => omega); (try case hx => exact inferInstance); (try case hv => rfl))
 | ((with_reducible apply go_fa h); omega; omega)
))
  refine rsoon_spec (rs := rs) (n := n) (next := next) hl (last_bd H) (h.frt) ?_
  (repeat (first
 | (simp (disch := omega) only [evA, evB, evC, bAdd_i64, bSub_i64])
 | (with_reducible apply go_ld1 h)
 | ((with_reducible first | apply go_ldA h | apply go_rd h | apply go_rdN h | apply go_rlen h); rfl)
 | (with_reducible first | apply go_ldN h | apply go_lenL h)
 | ((with_reducible apply go_st h); intro _ h)
 | ((with_reducible apply go_stA h); rfl; rfl; (first | rfl | simp [OneV.o]); intro _ h)
 | ((with_reducible apply go_stN h); rfl; (first | rfl | simp [OneV.o]); intro _ h)
 | ((with_reducible apply go_box h); rfl; intro _ _ h)
 | ((with_reducible apply go_ix h); omega)
 | ((with_reducible first | apply go_elN h | apply go_f1 h | apply go_rf1 h | apply go_rel h); (case hi => omega); (try case hx => exact inferInstance); (try case hv => rfl))
 | ((with_reducible apply go_fa h); omega; omega)
))
  refine baall_spec (v := v) (rs := rs) (n := n) (next := next) (h.frt) fun x w h => ?_
  replace h := h.frt (A := RefB (ptr p) n next rs)
  obtain ⟨sv, h⟩ := refB_at h
  (repeat (first
 | (simp (disch := omega) only [evA, evB, evC, bAdd_i64, bSub_i64])
 | (with_reducible apply go_ld1 h)
 | ((with_reducible first | apply go_ldA h | apply go_rd h | apply go_rdN h | apply go_rlen h); rfl)
 | (with_reducible first | apply go_ldN h | apply go_lenL h)
 | ((with_reducible apply go_st h); intro _ h)
 | ((with_reducible apply go_stA h); rfl; rfl; (first | rfl | simp [OneV.o]); intro _ h)
 | ((with_reducible apply go_stN h); rfl; (first | rfl | simp [OneV.o]); intro _ h)
 | ((with_reducible apply go_box h); rfl; intro _ _ h)
 | ((with_reducible apply go_ix h); omega)
 | ((with_reducible first | apply go_elN h | apply go_f1 h | apply go_rf1 h | apply go_rel h); (case hi => omega); (try case hx => exact inferInstance); (try case hv => rfl))
 | ((with_reducible apply go_fa h); omega; omega)
))
  refine rows_spec (rs := rs) (a := x) (b := sv) hl (w0 := w0) (Sat.front (Sat.front h (A := LsH cRow 11 33 sv rs) (by repeat (first | exact .here | apply Fnt.there))) (A := LsH cRow 11 33 x rs) (by repeat (first | exact .here | apply Fnt.there))) fun w h => ?_
  unfold F49_2
  refine bspoil_loop (x := x) (L := _) (fun w h => ?_) fuel 0 rs w (by unfold fuel; omega) (by omega) (by omega) (h.frt)
  unfold F49_3 F49_3b
  (repeat (first
 | (simp (disch := omega) only [evA, evB, evC, bAdd_i64, bSub_i64])
 | (with_reducible apply go_ld1 h)
 | ((with_reducible first | apply go_ldA h | apply go_rd h | apply go_rdN h | apply go_rlen h); rfl)
 | (with_reducible first | apply go_ldN h | apply go_lenL h)
 | ((with_reducible apply go_st h); intro _ h)
 | ((with_reducible apply go_stA h); rfl; rfl; (first | rfl | simp [OneV.o]); intro _ h)
 | ((with_reducible apply go_stN h); rfl; (first | rfl | simp [OneV.o]); intro _ h)
 | ((with_reducible apply go_box h); rfl; intro _ _ h)
 | ((with_reducible apply go_ix h); omega)
 | ((with_reducible first | apply go_elN h | apply go_f1 h | apply go_rf1 h | apply go_rel h); (case hi => omega); (try case hx => exact inferInstance); (try case hv => rfl))
 | ((with_reducible apply go_fa h); omega; omega)
))
  refine baall_spec (v := v) (rs := rs) (n := n) (next := next) (h.drew.frt) fun y w h => ?_
  (repeat (first
 | (simp (disch := omega) only [evA, evB, evC, bAdd_i64, bSub_i64])
 | (with_reducible apply go_ld1 h)
 | ((with_reducible first | apply go_ldA h | apply go_rd h | apply go_rdN h | apply go_rlen h); rfl)
 | (with_reducible first | apply go_ldN h | apply go_lenL h)
 | ((with_reducible apply go_st h); intro _ h)
 | ((with_reducible apply go_stA h); rfl; rfl; (first | rfl | simp [OneV.o]); intro _ h)
 | ((with_reducible apply go_stN h); rfl; (first | rfl | simp [OneV.o]); intro _ h)
 | ((with_reducible apply go_box h); rfl; intro _ _ h)
 | ((with_reducible apply go_ix h); omega)
 | ((with_reducible first | apply go_elN h | apply go_f1 h | apply go_rf1 h | apply go_rel h); (case hi => omega); (try case hx => exact inferInstance); (try case hv => rfl))
 | ((with_reducible apply go_fa h); omega; omega)
))
  refine rows_spec (rs := rs) (a := y) (b := sv) hl (w0 := w0) (Sat.front (Sat.front h (A := LsH cRow 11 33 sv rs) (by repeat (first | exact .here | apply Fnt.there))) (A := LsH cRow 11 33 y rs) (by repeat (first | exact .here | apply Fnt.there))) fun w h => ?_
  (repeat (first
 | (simp (disch := omega) only [evA, evB, evC, bAdd_i64, bSub_i64, eqR', eqB, beq_self_eq_true])
 | (with_reducible apply go_ld1 h)
 | ((with_reducible first | apply go_ldA h | apply go_rd h | apply go_rdN h | apply go_rlen h); rfl)
 | (with_reducible first | apply go_ldN h | apply go_lenL h)
 | ((with_reducible apply go_st h); intro _ h)
 | ((with_reducible apply go_stA h); rfl; rfl; (first | rfl | simp [OneV.o]); intro _ h)
 | ((with_reducible apply go_stN h); rfl; (first | rfl | simp [OneV.o]); intro _ h)
 | ((with_reducible apply go_box h); rfl; intro _ _ h)
 | ((with_reducible apply go_ix h); omega)
 | ((with_reducible first | apply go_elN h | apply go_f1 h | apply go_rf1 h | apply go_rel h); (case hi => omega); (try case hx => exact inferInstance); (try case hv => rfl))
 | ((with_reducible apply go_fa h); omega; omega)
))
  refine balen_spec (v := v) (rs := rs) (n := n) (next := next) (h.frt) ?_
  (repeat (first
 | (simp (disch := omega) only [evA, evB, evC, bAdd_i64, bSub_i64])
 | (with_reducible apply go_ld1 h)
 | ((with_reducible first | apply go_ldA h | apply go_rd h | apply go_rdN h | apply go_rlen h); rfl)
 | (with_reducible first | apply go_ldN h | apply go_lenL h)
 | ((with_reducible apply go_st h); intro _ h)
 | ((with_reducible apply go_stA h); rfl; rfl; (first | rfl | simp [OneV.o]); intro _ h)
 | ((with_reducible apply go_stN h); rfl; (first | rfl | simp [OneV.o]); intro _ h)
 | ((with_reducible apply go_box h); rfl; intro _ _ h)
 | ((with_reducible apply go_ix h); omega)
 | ((with_reducible first | apply go_elN h | apply go_f1 h | apply go_rf1 h | apply go_rel h); (case hi => omega); (try case hx => exact inferInstance); (try case hv => rfl))
 | ((with_reducible apply go_fa h); omega; omega)
))
  refine bnext_spec (v := v) (rs := rs) (n := n) (next := next) (h.frt) ?_
  (repeat (first
 | (simp (disch := omega) only [evA, evB, evC, bAdd_i64, bSub_i64])
 | (with_reducible apply go_ld1 h)
 | ((with_reducible first | apply go_ldA h | apply go_rd h | apply go_rdN h | apply go_rlen h); rfl)
 | (with_reducible first | apply go_ldN h | apply go_lenL h)
 | ((with_reducible apply go_st h); intro _ h)
 | ((with_reducible apply go_stA h); rfl; rfl; (first | rfl | simp [OneV.o]); intro _ h)
 | ((with_reducible apply go_stN h); rfl; (first | rfl | simp [OneV.o]); intro _ h)
 | ((with_reducible apply go_box h); rfl; intro _ _ h)
 | ((with_reducible apply go_ix h); omega)
 | ((with_reducible first | apply go_elN h | apply go_f1 h | apply go_rf1 h | apply go_rel h); (case hi => omega); (try case hx => exact inferInstance); (try case hv => rfl))
 | ((with_reducible apply go_fa h); omega; omega)
))
  refine hK _ (Sat.f1 (refB_iff.2 ⟨p, sv, rfl, ?_⟩))
  exact h.got
end
end Go.Proofs.Gong

/- Bp6 -/
namespace Go.Proofs.Gong
open Go Go.Sx Go.Proofs
set_option maxRecDepth 100000
def BFit (a : BAct) : Prop := a.e.fits ∧ a.who.length < 1073741824
theorem fit_ack {rs : List Row} {id : Int} {who : List UInt8} (h : FitRs rs) (hw : who.length < 1073741824) : FitRs (ackA rs id who).2 := by
  unfold ackA
  split
  · exact h
  · rename_i r hr
    have := (rowAt_some hr).1
    split
    · exact h
    split
    · exact h
    · exact fit_repl h ⟨(h r this).1, hw⟩
theorem fit_close {rs : List Row} {id : Int} (h : FitRs rs) : FitRs (closeA rs id).2 := by
  unfold closeA
  split
  · exact h
  · exact fit_rem h
theorem fit_exp {rs g l : List Row} {now keep : Int} (h : FitRs rs) (he : expA rs now keep = some (g, l)) : FitRs l := by
  unfold expA at he
  split at he
  · cases he
  · cases he; exact fun d hd => h d (List.mem_filter.1 hd).1
theorem loadR_sub {next : Int} : ∀ {l o ds : List Row}, loadR next l o = some ds → ∀ d ∈ ds, d ∈ o ∨ d ∈ l
  | [], o, ds, h, d, hd => by simp [loadR] at h; subst h; exact .inl hd
  | c :: l, o, ds, h, d, hd => by
    unfold loadR loadStepR at h
    split at h
    · rcases loadR_sub (l := l) h d hd with g | g
      · rcases List.mem_cons.1 ((insR_perm c o).mem_iff.1 g) with rfl | g
        · exact .inr (by simp)
        · exact .inl g
      · exact .inr (List.mem_cons_of_mem _ g)
    · cases h
theorem fit_load {n next0 next : Int} {rs l : List Row} (h : FitRs rs) (hl : FitRs l) : FitRs (loadA n next0 rs l next).2.2 := by
  unfold loadA
  split
  · exact h
  split
  · exact h
  · rename_i ds hd
    split
    · exact h
    · intro d hds
      rcases loadR_sub hd d hds with g | g
      · simp at g
      · exact hl d g
theorem load_next {n next0 next : Int} {rs l : List Row} : (loadA n next0 rs l next).2.1 = next0 ∨ (1 ≤ (loadA n next0 rs l next).2.1 ∧ (loadA n next0 rs l next).2.1 ≤ 1152921504606846976) := by
  unfold loadA
  split
  · exact .inl rfl
  · rename_i g
    split
    · exact .inl rfl
    · split
      · exact .inl rfl
      · exact .inr (by simp; omega)
attribute [local irreducible] fBuild fLook fZero eqv bEqv Cl MapH LsH SlH ld1 ldN st callP eBox eAlloc lenM lenL eMapSet eDelete eAppend eBuildSl eRange eNext
section
variable {w0 w : World} {L : List HP} {K : Value → World → Prop} {v rv : Value} {n next : Int} {rs : List Row} {r : Row} {p pa : Nat} {a : BAct}
theorem does_raise (hfa : BFit a) (hf : FitRs rs) (hn : 1 ≤ next ∧ next + 1 ≤ 4611686018427387904) (h : Sat w0 (Cl pa (cBA a).toArray 90 :: BoardA v n next rs :: RefB (ptr p) n next rs :: L) w)
    (hK : ∀ next' rs' w', (next' ≤ next + 1 ∨ next' ≤ 1152921504606846976) → FitRs rs' → Sat w0 (BoardA v n next' rs' :: RefB (ptr p) n next' rs' :: L) w' → K (.bool true) w') : F48_6 v (ptr p) (ptr pa) w K := by
  unfold F48_6 F48_6b
  obtain ⟨R, I, H⟩ := boardA_inv h.f1
  (repeat (first
 | (simp (disch := omega) only [evA, evB, evC, bAdd_i64, bSub_i64])
 | (with_reducible apply go_ld1 h)
 | ((with_reducible first | apply go_ldA h | apply go_rd h | apply go_rdN h | apply go_rlen h); rfl)
 | (with_reducible first | apply go_ldN h | apply go_lenL h)
 | ((with_reducible apply go_st h); intro _ h)
 | ((with_reducible apply go_stA h); rfl; rfl; (first | rfl | simp [OneV.o]); intro _ h)
 | ((with_reducible apply go_stN h); rfl; (first | rfl | simp [OneV.o]); intro _ h)
 | ((with_reducible apply go_box h); rfl; intro _ _ h)
 | ((with_reducible apply go_ix h); omega)
 | ((with_reducible first | apply go_elN h | apply go_f1 h | apply go_rf1 h | apply go_rel h); (case hi => omega); (try case hx => exact inferInstance); (try case hv => rfl))
 | ((with_reducible apply go_fa h); omega; omega)
))
  refine baraise_spec (e := a.e) (now := a.n) (n := n) (next := next) (rs := rs) hfa.1 (by omega) (h.frt) fun w h => ?_
  have hnx := nxt_le (n := n) (next := next) (now := a.n) (rs := rs) (e := a.e)
  have hf2 := fit_raise (n := n) (next := next) (now := a.n) hf hfa.1
  (repeat (first
 | (simp (disch := omega) only [evA, evB, evC, bAdd_i64, bSub_i64])
 | (with_reducible apply go_ld1 h)
 | ((with_reducible first | apply go_ldA h | apply go_rd h | apply go_rdN h | apply go_rlen h); rfl)
 | (with_reducible first | apply go_ldN h | apply go_lenL h)
 | ((with_reducible apply go_st h); intro _ h)
 | ((with_reducible apply go_stA h); rfl; rfl; (first | rfl | simp [OneV.o]); intro _ h)
 | ((with_reducible apply go_stN h); rfl; (first | rfl | simp [OneV.o]); intro _ h)
 | ((with_reducible apply go_box h); rfl; intro _ _ h)
 | ((with_reducible apply go_ix h); omega)
 | ((with_reducible first | apply go_elN h | apply go_f1 h | apply go_rf1 h | apply go_rel h); (case hi => omega); (try case hx => exact inferInstance); (try case hv => rfl))
 | ((with_reducible apply go_fa h); omega; omega)
))
  refine go_alloc h zR rfl fun _ _ h => ?_
  (repeat (first
 | (simp (disch := omega) only [evA, evB, evC, bAdd_i64, bSub_i64])
 | (with_reducible apply go_ld1 h)
 | ((with_reducible first | apply go_ldA h | apply go_rd h | apply go_rdN h | apply go_rlen h); rfl)
 | (with_reducible first | apply go_ldN h | apply go_lenL h)
 | ((with_reducible apply go_st h); intro _ h)
 | ((with_reducible apply go_stA h); rfl; rfl; (first | rfl | simp [OneV.o]); intro _ h)
 | ((with_reducible apply go_stN h); rfl; (first | rfl | simp [OneV.o]); intro _ h)
 | ((with_reducible apply go_box h); rfl; intro _ _ h)
 | ((with_reducible apply go_ix h); omega)
 | ((with_reducible first | apply go_elN h | apply go_f1 h | apply go_rf1 h | apply go_rel h); (case hi => omega); (try case hx => exact inferInstance); (try case hv => rfl))
 | ((with_reducible apply go_fa h); omega; omega)
))
  refine rraise_spec (v := ptr p) (e := a.e) (now := a.n) (n := n) (next := next) (rs := rs) hfa.1 H (by omega) (h.frt) fun w h => ?_
  (repeat (first
 | (simp (disch := omega) only [evA, evB, evC, bAdd_i64, bSub_i64])
 | (with_reducible apply go_ld1 h)
 | ((with_reducible first | apply go_ldA h | apply go_rd h | apply go_rdN h | apply go_rlen h); rfl)
 | (with_reducible first | apply go_ldN h | apply go_lenL h)
 | ((with_reducible apply go_st h); intro _ h)
 | ((with_reducible apply go_stA h); rfl; rfl; (first | rfl | simp [OneV.o]); intro _ h)
 | ((with_reducible apply go_stN h); rfl; (first | rfl | simp [OneV.o]); intro _ h)
 | ((with_reducible apply go_box h); rfl; intro _ _ h)
 | ((with_reducible apply go_ix h); omega)
 | ((with_reducible first | apply go_elN h | apply go_f1 h | apply go_rf1 h | apply go_rel h); (case hi => omega); (try case hx => exact inferInstance); (try case hv => rfl))
 | ((with_reducible apply go_fa h); omega; omega)
))
  refine go_alloc h zR rfl fun _ _ h => ?_
  (repeat (first
 | (simp (disch := omega) only [evA, evB, evC, bAdd_i64, bSub_i64, eqR'])
 | (with_reducible apply go_ld1 h)
 | ((with_reducible first | apply go_ldA h | apply go_rd h | apply go_rdN h | apply go_rlen h); rfl)
 | (with_reducible first | apply go_ldN h | apply go_lenL h)
 | ((with_reducible apply go_st h); intro _ h)
 | ((with_reducible apply go_stA h); rfl; rfl; (first | rfl | simp [OneV.o]); intro _ h)
 | ((with_reducible apply go_stN h); rfl; (first | rfl | simp [OneV.o]); intro _ h)
 | ((with_reducible apply go_box h); rfl; intro _ _ h)
 | ((with_reducible apply go_ix h); omega)
 | ((with_reducible first | apply go_elN h | apply go_f1 h | apply go_rf1 h | apply go_rel h); (case hi => omega); (try case hx => exact inferInstance); (try case hv => rfl))
 | ((with_reducible apply go_fa h); omega; omega)
))
  exact hK _ _ _ (.inl hnx.2) hf2 (h.got)
theorem does_ack {id : Int} (hfa : BFit a) (hf : FitRs rs) (h : Sat w0 (Cl pa (cBA a).toArray 90 :: BoardA v n next rs :: RefB (ptr p) n next rs :: L) w)
    (hK : ∀ rs' w', FitRs rs' → Sat w0 (BoardA v n next rs' :: RefB (ptr p) n next rs' :: L) w' → K (.bool true) w') : F48_9 v (ptr p) (ptr pa) (.int .i64 id) w K := by
  unfold F48_9 F48_9b
  obtain ⟨R, I, H⟩ := boardA_inv h.f1
  have hb := H.bd
  (repeat (first
 | (simp (disch := omega) only [evA, evB, evC, bAdd_i64, bSub_i64])
 | (with_reducible apply go_ld1 h)
 | ((with_reducible first | apply go_ldA h | apply go_rd h | apply go_rdN h | apply go_rlen h); rfl)
 | (with_reducible first | apply go_ldN h | apply go_lenL h)
 | ((with_reducible apply go_st h); intro _ h)
 | ((with_reducible apply go_stA h); rfl; rfl; (first | rfl | simp [OneV.o]); intro _ h)
 | ((with_reducible apply go_stN h); rfl; (first | rfl | simp [OneV.o]); intro _ h)
 | ((with_reducible apply go_box h); rfl; intro _ _ h)
 | ((with_reducible apply go_ix h); omega)
 | ((with_reducible first | apply go_elN h | apply go_f1 h | apply go_rf1 h | apply go_rel h); (case hi => omega); (try case hx => exact inferInstance); (try case hv => rfl))
 | ((with_reducible apply go_fa h); omega; omega)
))
  refine baack_pure (who := a.who) (n := n) (next := next) (rs := rs) hfa.2 (h.frt) fun w h => ?_
  (repeat (first
 | (simp (disch := omega) only [evA, evB, evC, bAdd_i64, bSub_i64])
 | (with_reducible apply go_ld1 h)
 | ((with_reducible first | apply go_ldA h | apply go_rd h | apply go_rdN h | apply go_rlen h); rfl)
 | (with_reducible first | apply go_ldN h | apply go_lenL h)
 | ((with_reducible apply go_st h); intro _ h)
 | ((with_reducible apply go_stA h); rfl; rfl; (first | rfl | simp [OneV.o]); intro _ h)
 | ((with_reducible apply go_stN h); rfl; (first | rfl | simp [OneV.o]); intro _ h)
 | ((with_reducible apply go_box h); rfl; intro _ _ h)
 | ((with_reducible apply go_ix h); omega)
 | ((with_reducible first | apply go_elN h | apply go_f1 h | apply go_rf1 h | apply go_rel h); (case hi => omega); (try case hx => exact inferInstance); (try case hv => rfl))
 | ((with_reducible apply go_fa h); omega; omega)
))
  refine go_alloc h zR rfl fun _ _ h => ?_
  (repeat (first
 | (simp (disch := omega) only [evA, evB, evC, bAdd_i64, bSub_i64])
 | (with_reducible apply go_ld1 h)
 | ((with_reducible first | apply go_ldA h | apply go_rd h | apply go_rdN h | apply go_rlen h); rfl)
 | (with_reducible first | apply go_ldN h | apply go_lenL h)
 | ((with_reducible apply go_st h); intro _ h)
 | ((with_reducible apply go_stA h); rfl; rfl; (first | rfl | simp [OneV.o]); intro _ h)
 | ((with_reducible apply go_stN h); rfl; (first | rfl | simp [OneV.o]); intro _ h)
 | ((with_reducible apply go_box h); rfl; intro _ _ h)
 | ((with_reducible apply go_ix h); omega)
 | ((with_reducible first | apply go_elN h | apply go_f1 h | apply go_rf1 h | apply go_rel h); (case hi => omega); (try case hx => exact inferInstance); (try case hv => rfl))
 | ((with_reducible apply go_fa h); omega; omega)
))
  refine rack_spec (v := ptr p) (who := a.who) (n := n) (next := next) (rs := rs) hfa.2 (by omega) H.asc (h.frt) fun w h => ?_
  (repeat (first
 | (simp (disch := omega) only [evA, evB, evC, bAdd_i64, bSub_i64])
 | (with_reducible apply go_ld1 h)
 | ((with_reducible first | apply go_ldA h | apply go_rd h | apply go_rdN h | apply go_rlen h); rfl)
 | (with_reducible first | apply go_ldN h | apply go_lenL h)
 | ((with_reducible apply go_st h); intro _ h)
 | ((with_reducible apply go_stA h); rfl; rfl; (first | rfl | simp [OneV.o]); intro _ h)
 | ((with_reducible apply go_stN h); rfl; (first | rfl | simp [OneV.o]); intro _ h)
 | ((with_reducible apply go_box h); rfl; intro _ _ h)
 | ((with_reducible apply go_ix h); omega)
 | ((with_reducible first | apply go_elN h | apply go_f1 h | apply go_rf1 h | apply go_rel h); (case hi => omega); (try case hx => exact inferInstance); (try case hv => rfl))
 | ((with_reducible apply go_fa h); omega; omega)
))
  refine go_alloc h zR rfl fun _ _ h => ?_
  (repeat (first
 | (simp (disch := omega) only [evA, evB, evC, bAdd_i64, bSub_i64, eqR'])
 | (with_reducible apply go_ld1 h)
 | ((with_reducible first | apply go_ldA h | apply go_rd h | apply go_rdN h | apply go_rlen h); rfl)
 | (with_reducible first | apply go_ldN h | apply go_lenL h)
 | ((with_reducible apply go_st h); intro _ h)
 | ((with_reducible apply go_stA h); rfl; rfl; (first | rfl | simp [OneV.o]); intro _ h)
 | ((with_reducible apply go_stN h); rfl; (first | rfl | simp [OneV.o]); intro _ h)
 | ((with_reducible apply go_box h); rfl; intro _ _ h)
 | ((with_reducible apply go_ix h); omega)
 | ((with_reducible first | apply go_elN h | apply go_f1 h | apply go_rf1 h | apply go_rel h); (case hi => omega); (try case hx => exact inferInstance); (try case hv => rfl))
 | ((with_reducible apply go_fa h); omega; omega)
))
  exact hK _ _ (fit_ack hf hfa.2) (h.got)
theorem does_close {id : Int} (hf : FitRs rs) (h : Sat w0 (Cl pa (cBA a).toArray 90 :: BoardA v n next rs :: RefB (ptr p) n next rs :: L) w)
    (hK : ∀ rs' w', FitRs rs' → Sat w0 (BoardA v n next rs' :: RefB (ptr p) n next rs' :: L) w' → K (.bool true) w') : F48_12 v (ptr p) (.int .i64 id) w K := by
  unfold F48_12 F48_12b
  obtain ⟨R, I, H⟩ := boardA_inv h.f1
  have hb := H.bd
  (repeat (first
 | (simp (disch := omega) only [evA, evB, evC, bAdd_i64, bSub_i64])
 | (with_reducible apply go_ld1 h)
 | ((with_reducible first | apply go_ldA h | apply go_rd h | apply go_rdN h | apply go_rlen h); rfl)
 | (with_reducible first | apply go_ldN h | apply go_lenL h)
 | ((with_reducible apply go_st h); intro _ h)
 | ((with_reducible apply go_stA h); rfl; rfl; (first | rfl | simp [OneV.o]); intro _ h)
 | ((with_reducible apply go_stN h); rfl; (first | rfl | simp [OneV.o]); intro _ h)
 | ((with_reducible apply go_box h); rfl; intro _ _ h)
 | ((with_reducible apply go_ix h); omega)
 | ((with_reducible first | apply go_elN h | apply go_f1 h | apply go_rf1 h | apply go_rel h); (case hi => omega); (try case hx => exact inferInstance); (try case hv => rfl))
 | ((with_reducible apply go_fa h); omega; omega)
))
  refine baclose_pure (n := n) (next := next) (rs := rs) (h.frt) fun w h => ?_
  (repeat (first
 | (simp (disch := omega) only [evA, evB, evC, bAdd_i64, bSub_i64])
 | (with_reducible apply go_ld1 h)
 | ((with_reducible first | apply go_ldA h | apply go_rd h | apply go_rdN h | apply go_rlen h); rfl)
 | (with_reducible first | apply go_ldN h | apply go_lenL h)
 | ((with_reducible apply go_st h); intro _ h)
 | ((with_reducible apply go_stA h); rfl; rfl; (first | rfl | simp [OneV.o]); intro _ h)
 | ((with_reducible apply go_stN h); rfl; (first | rfl | simp [OneV.o]); intro _ h)
 | ((with_reducible apply go_box h); rfl; intro _ _ h)
 | ((with_reducible apply go_ix h); omega)
 | ((with_reducible first | apply go_elN h | apply go_f1 h | apply go_rf1 h | apply go_rel h); (case hi => omega); (try case hx => exact inferInstance); (try case hv => rfl))
 | ((with_reducible apply go_fa h); omega; omega)
))
  refine go_alloc h zR rfl fun _ _ h => ?_
  (repeat (first
 | (simp (disch := omega) only [evA, evB, evC, bAdd_i64, bSub_i64])
 | (with_reducible apply go_ld1 h)
 | ((with_reducible first | apply go_ldA h | apply go_rd h | apply go_rdN h | apply go_rlen h); rfl)
 | (with_reducible first | apply go_ldN h | apply go_lenL h)
 | ((with_reducible apply go_st h); intro _ h)
 | ((with_reducible apply go_stA h); rfl; rfl; (first | rfl | simp [OneV.o]); intro _ h)
 | ((with_reducible apply go_stN h); rfl; (first | rfl | simp [OneV.o]); intro _ h)
 | ((with_reducible apply go_box h); rfl; intro _ _ h)
 | ((with_reducible apply go_ix h); omega)
 | ((with_reducible first | apply go_elN h | apply go_f1 h | apply go_rf1 h | apply go_rel h); (case hi => omega); (try case hx => exact inferInstance); (try case hv => rfl))
 | ((with_reducible apply go_fa h); omega; omega)
))
  refine rclose_spec (v := ptr p) (n := n) (next := next) (rs := rs) (by omega) H.asc (h.frt) fun w h => ?_
  (repeat (first
 | (simp (disch := omega) only [evA, evB, evC, bAdd_i64, bSub_i64])
 | (with_reducible apply go_ld1 h)
 | ((with_reducible first | apply go_ldA h | apply go_rd h | apply go_rdN h | apply go_rlen h); rfl)
 | (with_reducible first | apply go_ldN h | apply go_lenL h)
 | ((with_reducible apply go_st h); intro _ h)
 | ((with_reducible apply go_stA h); rfl; rfl; (first | rfl | simp [OneV.o]); intro _ h)
 | ((with_reducible apply go_stN h); rfl; (first | rfl | simp [OneV.o]); intro _ h)
 | ((with_reducible apply go_box h); rfl; intro _ _ h)
 | ((with_reducible apply go_ix h); omega)
 | ((with_reducible first | apply go_elN h | apply go_f1 h | apply go_rf1 h | apply go_rel h); (case hi => omega); (try case hx => exact inferInstance); (try case hv => rfl))
 | ((with_reducible apply go_fa h); omega; omega)
))
  refine go_alloc h zR rfl fun _ _ h => ?_
  (repeat (first
 | (simp (disch := omega) only [evA, evB, evC, bAdd_i64, bSub_i64, eqR'])
 | (with_reducible apply go_ld1 h)
 | ((with_reducible first | apply go_ldA h | apply go_rd h | apply go_rdN h | apply go_rlen h); rfl)
 | (with_reducible first | apply go_ldN h | apply go_lenL h)
 | ((with_reducible apply go_st h); intro _ h)
 | ((with_reducible apply go_stA h); rfl; rfl; (first | rfl | simp [OneV.o]); intro _ h)
 | ((with_reducible apply go_stN h); rfl; (first | rfl | simp [OneV.o]); intro _ h)
 | ((with_reducible apply go_box h); rfl; intro _ _ h)
 | ((with_reducible apply go_ix h); omega)
 | ((with_reducible first | apply go_elN h | apply go_f1 h | apply go_rf1 h | apply go_rel h); (case hi => omega); (try case hx => exact inferInstance); (try case hv => rfl))
 | ((with_reducible apply go_fa h); omega; omega)
))
  exact hK _ _ (fit_close hf) (h.got)
theorem rows_nil (h : Sat w0 L w) (hK : ∀ w', Sat w0 L w' → K (.bool true) w') : callP G46 [.slice none 0 0, .slice none 0 0] w K := by
  have h2 := Sat.nilLs cRow 11 33 (Sat.nilLs cRow 11 33 h)
  exact rows_spec (rs := []) (by simp) h2 fun w h => hK w (h.got)
theorem does_exp (hf : FitRs rs) (h : Sat w0 (Cl pa (cBA a).toArray 90 :: BoardA v n next rs :: RefB (ptr p) n next rs :: L) w)
    (hK : ∀ rs' w', FitRs rs' → Sat w0 (BoardA v n next rs' :: RefB (ptr p) n next rs' :: L) w' → K (.bool true) w') : F48_15 v (ptr p) (ptr pa) w K := by
  unfold F48_15 F48_15b
  obtain ⟨R, I, H⟩ := boardA_inv h.f1
  have hb := H.bd
  (repeat (first
 | (simp (disch := omega) only [evA, evB, evC, bAdd_i64, bSub_i64])
 | (with_reducible apply go_ld1 h)
 | ((with_reducible first | apply go_ldA h | apply go_rd h | apply go_rdN h | apply go_rlen h); rfl)
 | (with_reducible first | apply go_ldN h | apply go_lenL h)
 | ((with_reducible apply go_st h); intro _ h)
 | ((with_reducible apply go_stA h); rfl; rfl; (first | rfl | simp [OneV.o]); intro _ h)
 | ((with_reducible apply go_stN h); rfl; (first | rfl | simp [OneV.o]); intro _ h)
 | ((with_reducible apply go_box h); rfl; intro _ _ h)
 | ((with_reducible apply go_ix h); omega)
 | ((with_reducible first | apply go_elN h | apply go_f1 h | apply go_rf1 h | apply go_rel h); (case hi => omega); (try case hx => exact inferInstance); (try case hv => rfl))
 | ((with_reducible apply go_fa h); omega; omega)
))
  refine baexpire_pure (n := n) (next := next) (rs := rs) (h.frt) (fun e w h => ?_) fun g l e s w h => ?_
  · (repeat (first
 | (simp (disch := omega) only [evA, evB, evC, bAdd_i64, bSub_i64])
 | (with_reducible apply go_ld1 h)
 | ((with_reducible first | apply go_ldA h | apply go_rd h | apply go_rdN h | apply go_rlen h); rfl)
 | (with_reducible first | apply go_ldN h | apply go_lenL h)
 | ((with_reducible apply go_st h); intro _ h)
 | ((with_reducible apply go_stA h); rfl; rfl; (first | rfl | simp [OneV.o]); intro _ h)
 | ((with_reducible apply go_stN h); rfl; (first | rfl | simp [OneV.o]); intro _ h)
 | ((with_reducible apply go_box h); rfl; intro _ _ h)
 | ((with_reducible apply go_ix h); omega)
 | ((with_reducible first | apply go_elN h | apply go_f1 h | apply go_rf1 h | apply go_rel h); (case hi => omega); (try case hx => exact inferInstance); (try case hv => rfl))
 | ((with_reducible apply go_fa h); omega; omega)
))
    refine rexpire_spec (v := ptr p) (n := n) (next := next) (rs := rs) (by omega) (h.frt) (fun _ w h => ?_) fun g l e2 s w h => ?_
    · (repeat (first
 | (simp (disch := omega) only [evA, evB, evC, bAdd_i64, bSub_i64])
 | (with_reducible apply go_ld1 h)
 | ((with_reducible first | apply go_ldA h | apply go_rd h | apply go_rdN h | apply go_rlen h); rfl)
 | (with_reducible first | apply go_ldN h | apply go_lenL h)
 | ((with_reducible apply go_st h); intro _ h)
 | ((with_reducible apply go_stA h); rfl; rfl; (first | rfl | simp [OneV.o]); intro _ h)
 | ((with_reducible apply go_stN h); rfl; (first | rfl | simp [OneV.o]); intro _ h)
 | ((with_reducible apply go_box h); rfl; intro _ _ h)
 | ((with_reducible apply go_ix h); omega)
 | ((with_reducible first | apply go_elN h | apply go_f1 h | apply go_rf1 h | apply go_rel h); (case hi => omega); (try case hx => exact inferInstance); (try case hv => rfl))
 | ((with_reducible apply go_fa h); omega; omega)
))
      refine rows_nil h fun w h => ?_
      (repeat (first
 | (simp (disch := omega) only [evA, evB, evC, bAdd_i64, bSub_i64])
 | (with_reducible apply go_ld1 h)
 | ((with_reducible first | apply go_ldA h | apply go_rd h | apply go_rdN h | apply go_rlen h); rfl)
 | (with_reducible first | apply go_ldN h | apply go_lenL h)
 | ((with_reducible apply go_st h); intro _ h)
 | ((with_reducible apply go_stA h); rfl; rfl; (first | rfl | simp [OneV.o]); intro _ h)
 | ((with_reducible apply go_stN h); rfl; (first | rfl | simp [OneV.o]); intro _ h)
 | ((with_reducible apply go_box h); rfl; intro _ _ h)
 | ((with_reducible apply go_ix h); omega)
 | ((with_reducible first | apply go_elN h | apply go_f1 h | apply go_rf1 h | apply go_rel h); (case hi => omega); (try case hx => exact inferInstance); (try case hv => rfl))
 | ((with_reducible apply go_fa h); omega; omega)
))
      exact hK _ _ hf (h.got)
    · rw [e] at e2; cases e2
  · (repeat (first
 | (simp (disch := omega) only [evA, evB, evC, bAdd_i64, bSub_i64])
 | (with_reducible apply go_ld1 h)
 | ((with_reducible first | apply go_ldA h | apply go_rd h | apply go_rdN h | apply go_rlen h); rfl)
 | (with_reducible first | apply go_ldN h | apply go_lenL h)
 | ((with_reducible apply go_st h); intro _ h)
 | ((with_reducible apply go_stA h); rfl; rfl; (first | rfl | simp [OneV.o]); intro _ h)
 | ((with_reducible apply go_stN h); rfl; (first | rfl | simp [OneV.o]); intro _ h)
 | ((with_reducible apply go_box h); rfl; intro _ _ h)
 | ((with_reducible apply go_ix h); omega)
 | ((with_reducible first | apply go_elN h | apply go_f1 h | apply go_rf1 h | apply go_rel h); (case hi => omega); (try case hx => exact inferInstance); (try case hv => rfl))
 | ((with_reducible apply go_fa h); omega; omega)
))
    refine rexpire_spec (v := ptr p) (n := n) (next := next) (rs := rs) (by omega) (h.frt) (fun e2 w h => ?_) fun g' l' e2 s' w h => ?_
    · rw [e] at e2; cases e2
    · rw [e] at e2; cases e2
      have hg : g.length ≤ rs.length := by
        unfold expA at e
        split at e
        · cases e
        · cases e; exact expO_len
      (repeat (first
 | (simp (disch := omega) only [evA, evB, evC, bAdd_i64, bSub_i64])
 | (with_reducible apply go_ld1 h)
 | ((with_reducible first | apply go_ldA h | apply go_rd h | apply go_rdN h | apply go_rlen h); rfl)
 | (with_reducible first | apply go_ldN h | apply go_lenL h)
 | ((with_reducible apply go_st h); intro _ h)
 | ((with_reducible apply go_stA h); rfl; rfl; (first | rfl | simp [OneV.o]); intro _ h)
 | ((with_reducible apply go_stN h); rfl; (first | rfl | simp [OneV.o]); intro _ h)
 | ((with_reducible apply go_box h); rfl; intro _ _ h)
 | ((with_reducible apply go_ix h); omega)
 | ((with_reducible first | apply go_elN h | apply go_f1 h | apply go_rf1 h | apply go_rel h); (case hi => omega); (try case hx => exact inferInstance); (try case hv => rfl))
 | ((with_reducible apply go_fa h); omega; omega)
))
      refine rows_spec (rs := g) (a := s) (b := s') (by omega) (w0 := w0) (Sat.front (Sat.front h (A := LsH cRow 11 33 s' g) (by repeat (first | exact .here | apply Fnt.there))) (A := LsH cRow 11 33 s g) (by repeat (first | exact .here | apply Fnt.there))) fun w h => ?_
      (repeat (first
 | (simp (disch := omega) only [evA, evB, evC, bAdd_i64, bSub_i64])
 | (with_reducible apply go_ld1 h)
 | ((with_reducible first | apply go_ldA h | apply go_rd h | apply go_rdN h | apply go_rlen h); rfl)
 | (with_reducible first | apply go_ldN h | apply go_lenL h)
 | ((with_reducible apply go_st h); intro _ h)
 | ((with_reducible apply go_stA h); rfl; rfl; (first | rfl | simp [OneV.o]); intro _ h)
 | ((with_reducible apply go_stN h); rfl; (first | rfl | simp [OneV.o]); intro _ h)
 | ((with_reducible apply go_box h); rfl; intro _ _ h)
 | ((with_reducible apply go_ix h); omega)
 | ((with_reducible first | apply go_elN h | apply go_f1 h | apply go_rf1 h | apply go_rel h); (case hi => omega); (try case hx => exact inferInstance); (try case hv => rfl))
 | ((with_reducible apply go_fa h); omega; omega)
))
      exact hK _ _ (fit_exp hf e) (h.got)
theorem does_fork (hfa : BFit a) (hn : 1 ≤ next ∧ next + 1 ≤ 4611686018427387904) (h : Sat w0 (Cl pa (cBA a).toArray 90 :: BoardA v n next rs :: RefB (ptr p) n next rs :: L) w)
    (hK : ∀ w', Sat w0 (BoardA v n next rs :: RefB (ptr p) n next rs :: L) w' → K (.bool true) w') : F48_18 v (ptr p) (ptr pa) w K := by
  unfold F48_18 F48_18b
  refine bafork_spec (n := n) (next := next) (rs := rs) (h.frt) fun q w h => ?_
  (repeat (first
 | (simp (disch := omega) only [evA, evB, evC, bAdd_i64, bSub_i64])
 | (refine go_some (bEq_nilp up23 ..) ?_)
 | (with_reducible apply go_ld1 h)
 | ((with_reducible first | apply go_ldA h | apply go_rd h | apply go_rdN h | apply go_rlen h); rfl)
 | (with_reducible first | apply go_ldN h | apply go_lenL h)
 | ((with_reducible apply go_st h); intro _ h)
 | ((with_reducible apply go_stA h); rfl; rfl; (first | rfl | simp [OneV.o]); intro _ h)
 | ((with_reducible apply go_stN h); rfl; (first | rfl | simp [OneV.o]); intro _ h)
 | ((with_reducible apply go_box h); rfl; intro _ _ h)
 | ((with_reducible apply go_ix h); omega)
 | ((with_reducible first | apply go_elN h | apply go_f1 h | apply go_rf1 h | apply go_rel h); (case hi => omega); (try case hx => exact inferInstance); (try case hv => rfl))
 | ((with_reducible apply go_fa h); omega; omega)
))
  refine bstands_spec (a := a) (v := ptr q) (rv := ptr p) (n := n) (next := next) (rs := rs) (w0 := w0) (Sat.front (Sat.front h (A := RefB (ptr p) n next rs) (by repeat (first | exact .here | apply Fnt.there))) (A := BoardA (ptr q) n next rs) (by repeat (first | exact .here | apply Fnt.there))) fun w h => ?_
  (repeat (first
 | (simp (disch := omega) only [evA, evB, evC, bAdd_i64, bSub_i64])
 | (with_reducible apply go_ld1 h)
 | ((with_reducible first | apply go_ldA h | apply go_rd h | apply go_rdN h | apply go_rlen h); rfl)
 | (with_reducible first | apply go_ldN h | apply go_lenL h)
 | ((with_reducible apply go_st h); intro _ h)
 | ((with_reducible apply go_stA h); rfl; rfl; (first | rfl | simp [OneV.o]); intro _ h)
 | ((with_reducible apply go_stN h); rfl; (first | rfl | simp [OneV.o]); intro _ h)
 | ((with_reducible apply go_box h); rfl; intro _ _ h)
 | ((with_reducible apply go_ix h); omega)
 | ((with_reducible first | apply go_elN h | apply go_f1 h | apply go_rf1 h | apply go_rel h); (case hi => omega); (try case hx => exact inferInstance); (try case hv => rfl))
 | ((with_reducible apply go_fa h); omega; omega)
))
  refine baraise_spec (v := ptr q) (e := a.e) (now := a.n) (n := n) (next := next) (rs := rs) hfa.1 (by omega) (h.frt) fun w h => ?_
  generalize (raiseA n next rs a.e a.n).2.1 = nx at h
  generalize (raiseA n next rs a.e a.n).2.2 = rs' at h
  (repeat (first
 | (simp (disch := omega) only [evA, evB, evC, bAdd_i64, bSub_i64])
 | (with_reducible apply go_ld1 h)
 | ((with_reducible first | apply go_ldA h | apply go_rd h | apply go_rdN h | apply go_rlen h); rfl)
 | (with_reducible first | apply go_ldN h | apply go_lenL h)
 | ((with_reducible apply go_st h); intro _ h)
 | ((with_reducible apply go_stA h); rfl; rfl; (first | rfl | simp [OneV.o]); intro _ h)
 | ((with_reducible apply go_stN h); rfl; (first | rfl | simp [OneV.o]); intro _ h)
 | ((with_reducible apply go_box h); rfl; intro _ _ h)
 | ((with_reducible apply go_ix h); omega)
 | ((with_reducible first | apply go_elN h | apply go_f1 h | apply go_rf1 h | apply go_rel h); (case hi => omega); (try case hx => exact inferInstance); (try case hv => rfl))
 | ((with_reducible apply go_fa h); omega; omega)
))
  refine baexpire_pure (v := ptr q) (n := n) (next := nx) (rs := rs') (h.frt) (fun e w h => ?_) fun g l e s w h => ?_
  · exact hK _ (h.got)
  · exact hK _ (h.got)
end
end Go.Proofs.Gong
