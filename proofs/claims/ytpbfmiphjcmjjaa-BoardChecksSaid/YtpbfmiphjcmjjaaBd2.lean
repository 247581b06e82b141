/- A part of the proofs: what stands below it, told in lemmas. No condition. -/
import Derived.Test.YtpbfmiphjcmjjaaBd1
set_option linter.all false
namespace Go.Proofs.Gong
open Go Go.Sx Go.Proofs
set_option maxRecDepth 100000
section
variable {w0 w : World} {L : List HP} {K : Value → World → Prop} {r : Row}
theorem fbcheck_spec (he : r.e.fits) (hw : r.who.length < 1000000) (h : Sat w0 L w) (hK : ∀ w', Sat w0 L w' → K (.int .i64 (chkR r)) w') : callP G19 [rowV r] w K := by
  refine c19 ?_
  unfold F19
  refine eBox_sat h fun p w1 h1 => ?_
  have e0 : (rowV r).cells = (cRow r).toArray := rfl
  rw [e0] at h1
  have cs : ∀ {w' : World}, Sat w0 (Cl p (cRow r).toArray 33 :: L) w' → ∀ i, w'.cell? ⟨p, i, none⟩ = (cRow r)[i]? := fun h i => by rw [cell_of h.cl, List.getElem?_toArray]
  have k0 : (cRow r)[0]? = some (.int .i64 r.id) := rfl
  have k4 : (cRow r)[4]? = some (.int .i64 r.e.level) := rfl
  have k6 : (cRow r)[6]? = some (.int .i64 r.tally) := rfl
  have k7 : (cRow r)[7]? = some (.int .i64 r.first) := rfl
  have k8 : (cRow r)[8]? = some (.int .i64 r.last) := rfl
  have k9 : (cRow r)[9]? = some (.bool r.acked) := rfl
  have k10 : (cRow r)[10]? = some (.string (bs r.who)) := rfl
  have cN : ldN 5 (.pointer (some ⟨p, 1, none⟩)) w1 = some (evV r.e) := by rw [ldN_of h1.cl (by simp [cRow])]; rfl
  have bad : ∀ w', Sat w0 (Cl p (cRow r).toArray 33 :: L) w' → okR r = false → K (.int .i64 4) w' := by
    intro w' hs ho
    have := hK _ hs.drop
    unfold chkR at this
    rw [ho] at this
    exact this
  rw [nil_b]
  simp only [ptr, cs h1, cN, ld1_ptr, k0, k4, k6, k7, k8, k9, k10, gd_undef, uNot_bool, decide_true, decide_false, Bool.not_true, Bool.not_false, gd_true, gd_false, stepG_true, stepG_false, stepE_true, stepE_false, stepM_true, stepM_false, pPick_true, pPick_false, pFieldAddr_ptr, Nat.zero_add, bindP_some, ifB_true, ifB_false, bLt_int, bGt_int, bNe_int, bNe_str, bs_beq, bs_inj]
  by_cases g1 : r.id < 1
  · have ho : okR r = false := by
      have : ¬ (1 ≤ r.id) := by omega
      simp [okR, this]
    simp only [g1, cs h1, ld1_ptr, k0, k4, k6, k7, k8, k9, k10, gd_undef, uNot_bool, decide_true, decide_false, Bool.not_true, Bool.not_false, gd_true, gd_false, stepG_true, stepG_false, stepE_true, stepE_false, stepM_true, stepM_false, pPick_true, pPick_false, pFieldAddr_ptr, Nat.zero_add, bindP_some, ifB_true, ifB_false, bLt_int, bGt_int, bNe_int, bNe_str, bs_beq, bs_inj]
    exact bad _ h1 ho
  · simp only [g1, cN, ld1_ptr, k0, k4, k6, k7, k8, k9, k10, gd_undef, uNot_bool, decide_true, decide_false, Bool.not_true, Bool.not_false, gd_true, gd_false, stepG_true, stepG_false, stepE_true, stepE_false, stepM_true, stepM_false, pPick_true, pPick_false, pFieldAddr_ptr, Nat.zero_add, bindP_some, ifB_true, ifB_false, bLt_int, bGt_int, bNe_int, bNe_str, bs_beq, bs_inj]
    refine nfcheck_spec he h1 fun w2 h2 => ?_
    unfold chkE
    by_cases g7 : okE r.e = true
    · rw [if_pos g7]
      simp only [cs h2, ld1_ptr, k0, k4, k6, k7, k8, k9, k10, gd_undef, uNot_bool, decide_true, decide_false, Bool.not_true, Bool.not_false, gd_true, gd_false, stepG_true, stepG_false, stepE_true, stepE_false, stepM_true, stepM_false, pPick_true, pPick_false, pFieldAddr_ptr, Nat.zero_add, bindP_some, ifB_true, ifB_false, bLt_int, bGt_int, bNe_int, bNe_str, bs_beq, bs_inj]
      by_cases g2 : r.e.level < 1
      · have ho : okR r = false := by
          have : ¬ (1 ≤ r.e.level) := by omega
          simp [okR, this]
        simp only [g2, cs h2, ld1_ptr, k0, k4, k6, k7, k8, k9, k10, gd_undef, uNot_bool, decide_true, decide_false, Bool.not_true, Bool.not_false, gd_true, gd_false, stepG_true, stepG_false, stepE_true, stepE_false, stepM_true, stepM_false, pPick_true, pPick_false, pFieldAddr_ptr, Nat.zero_add, bindP_some, ifB_true, ifB_false, bLt_int, bGt_int, bNe_int, bNe_str, bs_beq, bs_inj]
        exact bad _ h2 ho
      · by_cases g3 : r.tally < 1
        · have ho : okR r = false := by
            have : ¬ (1 ≤ r.tally) := by omega
            simp [okR, this]
          simp only [g2, g3, cs h2, ld1_ptr, k0, k4, k6, k7, k8, k9, k10, gd_undef, uNot_bool, decide_true, decide_false, Bool.not_true, Bool.not_false, gd_true, gd_false, stepG_true, stepG_false, stepE_true, stepE_false, stepM_true, stepM_false, pPick_true, pPick_false, pFieldAddr_ptr, Nat.zero_add, bindP_some, ifB_true, ifB_false, bLt_int, bGt_int, bNe_int, bNe_str, bs_beq, bs_inj]
          exact bad _ h2 ho
        · by_cases g4 : r.tally > 1099511627776
          · have ho : okR r = false := by
              have : ¬ (r.tally ≤ 1099511627776) := by omega
              simp [okR, this]
            simp only [g2, g3, g4, cs h2, ld1_ptr, k0, k4, k6, k7, k8, k9, k10, gd_undef, uNot_bool, decide_true, decide_false, Bool.not_true, Bool.not_false, gd_true, gd_false, stepG_true, stepG_false, stepE_true, stepE_false, stepM_true, stepM_false, pPick_true, pPick_false, pFieldAddr_ptr, Nat.zero_add, bindP_some, ifB_true, ifB_false, bLt_int, bGt_int, bNe_int, bNe_str, bs_beq, bs_inj]
            exact bad _ h2 ho
          · simp only [g2, g3, g4, cs h2, ld1_ptr, k0, k4, k6, k7, k8, k9, k10, gd_undef, uNot_bool, decide_true, decide_false, Bool.not_true, Bool.not_false, gd_true, gd_false, stepG_true, stepG_false, stepE_true, stepE_false, stepM_true, stepM_false, pPick_true, pPick_false, pFieldAddr_ptr, Nat.zero_add, bindP_some, ifB_true, ifB_false, bLt_int, bGt_int, bNe_int, bNe_str, bs_beq, bs_inj]
            refine fbistime_spec ?_
            by_cases t1 : timeP r.first = true
            · simp only [t1, cs h2, ld1_ptr, k0, k4, k6, k7, k8, k9, k10, gd_undef, uNot_bool, decide_true, decide_false, Bool.not_true, Bool.not_false, gd_true, gd_false, stepG_true, stepG_false, stepE_true, stepE_false, stepM_true, stepM_false, pPick_true, pPick_false, pFieldAddr_ptr, Nat.zero_add, bindP_some, ifB_true, ifB_false, bLt_int, bGt_int, bNe_int, bNe_str, bs_beq, bs_inj]
              refine fbistime_spec ?_
              by_cases t2 : timeP r.last = true
              · simp only [t2, cs h2, ld1_ptr, k0, k4, k6, k7, k8, k9, k10, gd_undef, uNot_bool, decide_true, decide_false, Bool.not_true, Bool.not_false, gd_true, gd_false, stepG_true, stepG_false, stepE_true, stepE_false, stepM_true, stepM_false, pPick_true, pPick_false, pFieldAddr_ptr, Nat.zero_add, bindP_some, ifB_true, ifB_false, bLt_int, bGt_int, bNe_int, bNe_str, bs_beq, bs_inj]
                by_cases t3 : r.first > r.last
                · have ho : okR r = false := by
                    have : ¬ (r.first ≤ r.last) := by omega
                    simp [okR, timesR, this]
                  simp only [t3, ld1_ptr, k0, k4, k6, k7, k8, k9, k10, gd_undef, uNot_bool, decide_true, decide_false, Bool.not_true, Bool.not_false, gd_true, gd_false, stepG_true, stepG_false, stepE_true, stepE_false, stepM_true, stepM_false, pPick_true, pPick_false, pFieldAddr_ptr, Nat.zero_add, bindP_some, ifB_true, ifB_false, bLt_int, bGt_int, bNe_int, bNe_str, bs_beq, bs_inj]
                  exact bad _ h2 ho
                · have tt : timesR r = true := by
                    have : r.first ≤ r.last := by omega
                    simp [timesR, t1, t2, this]
                  have fin : ∀ w', Sat w0 (Cl p (cRow r).toArray 33 :: L) w' → whoR r = true → K (.int .i64 0) w' := by
                    intro w' hs hwho
                    have hk := hK _ hs.drop
                    have ho : okR r = true := by
                      have a1 : 1 ≤ r.id := by omega
                      have a2 : 1 ≤ r.e.level := by omega
                      have a3 : 1 ≤ r.tally := by omega
                      have a4 : r.tally ≤ 1099511627776 := by omega
                      simp [okR, a1, a2, a3, a4, tt, hwho, g7]
                    unfold chkR at hk
                    rw [if_pos ho] at hk
                    exact hk
                  simp only [t3, cs h2, ld1_ptr, k0, k4, k6, k7, k8, k9, k10, gd_undef, uNot_bool, decide_true, decide_false, Bool.not_true, Bool.not_false, gd_true, gd_false, stepG_true, stepG_false, stepE_true, stepE_false, stepM_true, stepM_false, pPick_true, pPick_false, pFieldAddr_ptr, Nat.zero_add, bindP_some, ifB_true, ifB_false, bLt_int, bGt_int, bNe_int, bNe_str, bs_beq, bs_inj]
                  by_cases ha : r.acked = true
                  · simp only [ha, cs h2, ld1_ptr, k0, k4, k6, k7, k8, k9, k10, gd_undef, uNot_bool, decide_true, decide_false, Bool.not_true, Bool.not_false, gd_true, gd_false, stepG_true, stepG_false, stepE_true, stepE_false, stepM_true, stepM_false, pPick_true, pPick_false, pFieldAddr_ptr, Nat.zero_add, bindP_some, ifB_true, ifB_false, bLt_int, bGt_int, bNe_int, bNe_str, bs_beq, bs_inj]
                    refine fiswho_spec hw h2 fun w3 h3 => ?_
                    by_cases hq : whoP r.who = true
                    · simp only [hq, ha, cs h3, ld1_ptr, k0, k4, k6, k7, k8, k9, k10, gd_undef, uNot_bool, decide_true, decide_false, Bool.not_true, Bool.not_false, gd_true, gd_false, stepG_true, stepG_false, stepE_true, stepE_false, stepM_true, stepM_false, pPick_true, pPick_false, pFieldAddr_ptr, Nat.zero_add, bindP_some, ifB_true, ifB_false, bLt_int, bGt_int, bNe_int, bNe_str, bs_beq, bs_inj]
                      exact fin _ h3 (by simp [whoR, ha, hq])
                    · have hq' : whoP r.who = false := by simpa using hq
                      simp only [hq', ha, cs h3, ld1_ptr, k0, k4, k6, k7, k8, k9, k10, gd_undef, uNot_bool, decide_true, decide_false, Bool.not_true, Bool.not_false, gd_true, gd_false, stepG_true, stepG_false, stepE_true, stepE_false, stepM_true, stepM_false, pPick_true, pPick_false, pFieldAddr_ptr, Nat.zero_add, bindP_some, ifB_true, ifB_false, bLt_int, bGt_int, bNe_int, bNe_str, bs_beq, bs_inj]
                      exact bad _ h3 (by simp [okR, whoR, ha, hq'])
                  · have ha' : r.acked = false := by simpa using ha
                    by_cases hq : r.who = []
                    · simp only [ha', hq, cs h2, ld1_ptr, k0, k4, k6, k7, k8, k9, k10, gd_undef, uNot_bool, decide_true, decide_false, Bool.not_true, Bool.not_false, gd_true, gd_false, stepG_true, stepG_false, stepE_true, stepE_false, stepM_true, stepM_false, pPick_true, pPick_false, pFieldAddr_ptr, Nat.zero_add, bindP_some, ifB_true, ifB_false, bLt_int, bGt_int, bNe_int, bNe_str, bs_beq, bs_inj]
                      exact fin _ h2 (by simp [whoR, ha', hq])
                    · simp only [ha', hq, cs h2, ld1_ptr, k0, k4, k6, k7, k8, k9, k10, gd_undef, uNot_bool, decide_true, decide_false, Bool.not_true, Bool.not_false, gd_true, gd_false, stepG_true, stepG_false, stepE_true, stepE_false, stepM_true, stepM_false, pPick_true, pPick_false, pFieldAddr_ptr, Nat.zero_add, bindP_some, ifB_true, ifB_false, bLt_int, bGt_int, bNe_int, bNe_str, bs_beq, bs_inj]
                      exact bad _ h2 (by simp [okR, whoR, ha', hq])
              · have t2' : timeP r.last = false := by simpa using t2
                simp only [t2', cs h2, ld1_ptr, k0, k4, k6, k7, k8, k9, k10, gd_undef, uNot_bool, decide_true, decide_false, Bool.not_true, Bool.not_false, gd_true, gd_false, stepG_true, stepG_false, stepE_true, stepE_false, stepM_true, stepM_false, pPick_true, pPick_false, pFieldAddr_ptr, Nat.zero_add, bindP_some, ifB_true, ifB_false, bLt_int, bGt_int, bNe_int, bNe_str, bs_beq, bs_inj]
                exact bad _ h2 (by simp [okR, timesR, t2'])
            · have t1' : timeP r.first = false := by simpa using t1
              simp only [t1', cs h2, ld1_ptr, k0, k4, k6, k7, k8, k9, k10, gd_undef, uNot_bool, decide_true, decide_false, Bool.not_true, Bool.not_false, gd_true, gd_false, stepG_true, stepG_false, stepE_true, stepE_false, stepM_true, stepM_false, pPick_true, pPick_false, pFieldAddr_ptr, Nat.zero_add, bindP_some, ifB_true, ifB_false, bLt_int, bGt_int, bNe_int, bNe_str, bs_beq, bs_inj]
              exact bad _ h2 (by simp [okR, timesR, t1'])
    · have ho : okR r = false := by
        have g7' : okE r.e = false := by simpa using g7
        simp [okR, g7']
      rw [if_neg g7]
      have e1 : decide ((180 : Int) = 0) = false := by decide
      simp only [e1, ld1_ptr, k0, k4, k6, k7, k8, k9, k10, gd_undef, uNot_bool, decide_true, decide_false, Bool.not_true, Bool.not_false, gd_true, gd_false, stepG_true, stepG_false, stepE_true, stepE_false, stepM_true, stepM_false, pPick_true, pPick_false, pFieldAddr_ptr, Nat.zero_add, bindP_some, ifB_true, ifB_false, bLt_int, bGt_int, bNe_int, bNe_str, bs_beq, bs_inj]
      exact bad _ h2 ho
end
end Go.Proofs.Gong
