/- A part of the proofs: what stands below it, told in lemmas. No condition. -/
import Derived.Test.YtpbfmiphjcmjjaaBd0
set_option linter.all false
namespace Go.Proofs.Gong
open Go Go.Sx Go.Proofs
set_option maxRecDepth 100000
section
variable {w0 w : World} {L : List HP} {K : Value → World → Prop} {r : Row}
theorem times_blk {p : Nat} {k : Value → World → Prop} (c7 : w.cell? ⟨p, 7, none⟩ = some (.int .i64 r.first)) (c8 : w.cell? ⟨p, 8, none⟩ = some (.int .i64 r.last)) (hk : k (.bool (timesR r)) w) :
    bindP (pFieldAddr 7 (ptr p)) fun v3 => bindP (ld1 v3 w) fun v4 => callP G62 [v4] w fun v6 w5 =>
    Sx.stepG (gd true v6) (pFieldAddr 8 (ptr p)) fun v7 => Sx.stepG (gd true v6) (ld1 v7 w5) fun v8 => stepE (gd true v6) (fun k => callP G62 [v8] w5 k) w5 fun v10 w9 =>
    bindP (pPick v6 v10 (.bool false)) fun v11 => Sx.stepG (gd true v11) (pFieldAddr 7 (ptr p)) fun v12 => Sx.stepG (gd true v11) (ld1 v12 w9) fun v13 =>
    Sx.stepG (gd true v11) (pFieldAddr 8 (ptr p)) fun v14 => Sx.stepG (gd true v11) (ld1 v14 w9) fun v15 => Sx.stepG (gd true v11) (bLe v13 v15) fun v16 => bindP (pPick v11 v16 (.bool false)) fun v17 => k v17 w9 := by
  simp only [ptr, pFieldAddr_ptr, bindP_some, Nat.zero_add, ld1_ptr, c7, c8]
  refine bistime_spec ?_
  unfold timesR at hk
  by_cases t1 : timeP r.first = true
  · simp only [t1, gd_true, stepG_true, bindP_some, ld1_ptr, c8, stepE_true]
    refine bistime_spec ?_
    by_cases t2 : timeP r.last = true
    · simp only [t2, pPick_true, bindP_some, gd_true, stepG_true, ld1_ptr, c7, c8, bLe_int]
      simpa [t1, t2] using hk
    · have t2' : timeP r.last = false := by simpa using t2
      simp only [t2', pPick_true, bindP_some, gd_true, stepG_false, pPick_false]
      simpa [t1, t2'] using hk
  · have t1' : timeP r.first = false := by simpa using t1
    simp only [t1', gd_true, stepG_false, stepE_false, pPick_false, bindP_some]
    simpa [t1'] using hk
theorem who_blk {p : Nat} {k : Value → World → Prop} (h : Sat w0 (Cl p (cRow r).toArray 33 :: L) w) (hs : r.who.length < 1000000) (hk : ∀ w', Sat w0 (Cl p (cRow r).toArray 33 :: L) w' → k (.bool (whoR r)) w') :
    bindP (pFieldAddr 9 (ptr p)) fun v18 => bindP (ld1 v18 w) fun v19 => Sx.stepG (gd true v19) (pFieldAddr 10 (ptr p)) fun v20 => Sx.stepG (gd true v19) (ld1 v20 w) fun v21 =>
    stepE (gd true v19) (fun k => callP G67 [v21] w k) w fun v23 w22 => bindP (pPick v19 v23 (.bool false)) fun v24 => Sx.stepG (gd false v24) (pFieldAddr 9 (ptr p)) fun v25 =>
    Sx.stepG (gd false v24) (ld1 v25 w22) fun v26 => Sx.stepG (gd false v24) (uNot v26) fun v27 => stepM (gd false v24) v27 fun v28 => Sx.stepG (gd true v28) (pFieldAddr 10 (ptr p)) fun v29 =>
    Sx.stepG (gd true v28) (ld1 v29 w22) fun v30 => Sx.stepG (gd true v28) (bEq Try.prog 9 (.tmp 33) (.const (.string ⟨#[]⟩)) v30 (.string ⟨#[]⟩)) fun v31 =>
    Sx.stepG (gd false v24) (pPick v28 v31 (.bool false)) fun v32 => bindP (pPick v24 (.bool true) v32) fun v33 => k v33 w22 := by
  have cs : ∀ {w' : World}, Sat w0 (Cl p (cRow r).toArray 33 :: L) w' → ∀ i, w'.cell? ⟨p, i, none⟩ = (cRow r)[i]? := fun h i => by rw [cell_of h.cl, List.getElem?_toArray]
  have k9 : (cRow r)[9]? = some (.bool r.acked) := rfl
  have k10 : (cRow r)[10]? = some (.string (bs r.who)) := rfl
  unfold whoR at hk
  rw [nil_b]
  simp only [ptr, pFieldAddr_ptr, bindP_some, Nat.zero_add, ld1_ptr, cs h, k9, k10]
  by_cases ha : r.acked = true
  · rw [if_pos ha] at hk
    simp only [ha, gd_true, stepG_true, bindP_some, ld1_ptr, cs h, k10, stepE_true]
    refine iswho_spec hs h fun w2 h2 => ?_
    have hk2 := hk w2 h2
    by_cases hw : whoP r.who = true
    · rw [hw] at hk2
      simp only [hw, pPick_true, bindP_some, gd_false, Bool.not_true, stepG_false, stepM_false, gd_undef]
      exact hk2
    · have hw' : whoP r.who = false := by simpa using hw
      rw [hw'] at hk2
      simp only [hw', pPick_true, pPick_false, bindP_some, gd_false, gd_true, Bool.not_false, Bool.not_true, stepG_true, stepG_false, stepM_true, ld1_ptr, cs h2, k9, ha, uNot_bool]
      exact hk2
  · have ha' : r.acked = false := by simpa using ha
    rw [if_neg ha] at hk
    have hk2 := hk w h
    simp only [ha', gd_true, stepG_false, stepE_false, pPick_false, bindP_some, gd_false, Bool.not_false, stepG_true, ld1_ptr, cs h, k9, uNot_bool, stepM_true, k10, bEq_str, bs_beq, bs_inj, pPick_true]
    exact hk2
theorem bcheck_spec (he : r.e.fits) (hw : r.who.length < 1000000) (h : Sat w0 L w) (hK : ∀ w', Sat w0 L w' → K (.int .i64 (chkR r)) w') : callP G18 [rowV r] w K := by
  refine c18 ?_
  unfold F18
  refine eBox_sat h fun p w1 h1 => ?_
  have e0 : (rowV r).cells = (cRow r).toArray := rfl
  rw [e0] at h1
  have cs : ∀ {w' : World}, Sat w0 (Cl p (cRow r).toArray 33 :: L) w' → ∀ i, w'.cell? ⟨p, i, none⟩ = (cRow r)[i]? := fun h i => by rw [cell_of h.cl, List.getElem?_toArray]
  have k0 : (cRow r)[0]? = some (.int .i64 r.id) := rfl
  have k4 : (cRow r)[4]? = some (.int .i64 r.e.level) := rfl
  have k6 : (cRow r)[6]? = some (.int .i64 r.tally) := rfl
  refine times_blk (r := r) (by rw [cs h1]; rfl) (by rw [cs h1]; rfl) ?_
  refine who_blk h1 hw fun w2 h2 => ?_
  have cN : ldN 5 (.pointer (some ⟨p, 1, none⟩)) w2 = some (evV r.e) := by rw [ldN_of h2.cl (by simp [cRow])]; rfl
  have bad : ∀ w', Sat w0 (Cl p (cRow r).toArray 33 :: L) w' → okR r = false → K (.int .i64 4) w' := by
    intro w' hs ho
    have := hK _ hs.drop
    unfold chkR at this
    rw [ho] at this
    exact this
  simp only [ptr, cs h2, ld1_ptr, k0, k4, k6, gd_undef, uNot_bool, decide_true, decide_false, Bool.not_true, Bool.not_false, gd_true, gd_false, stepG_true, stepG_false, stepE_true, stepE_false, stepM_true, stepM_false, pPick_true, pPick_false, pFieldAddr_ptr, Nat.zero_add, bindP_some, ifB_true, ifB_false, bLt_int, bGt_int, bNe_int]
  by_cases g1 : r.id < 1
  · have ho : okR r = false := by
      have : ¬ (1 ≤ r.id) := by omega
      simp [okR, this]
    simp only [g1, ld1_ptr, k0, k4, k6, gd_undef, uNot_bool, decide_true, decide_false, Bool.not_true, Bool.not_false, gd_true, gd_false, stepG_true, stepG_false, stepE_true, stepE_false, stepM_true, stepM_false, pPick_true, pPick_false, pFieldAddr_ptr, Nat.zero_add, bindP_some, ifB_true, ifB_false, bLt_int, bGt_int, bNe_int]
    exact bad _ h2 ho
  · by_cases g2 : r.e.level < 1
    · have ho : okR r = false := by
        have : ¬ (1 ≤ r.e.level) := by omega
        simp [okR, this]
      simp only [g1, g2, cs h2, ld1_ptr, k0, k4, k6, gd_undef, uNot_bool, decide_true, decide_false, Bool.not_true, Bool.not_false, gd_true, gd_false, stepG_true, stepG_false, stepE_true, stepE_false, stepM_true, stepM_false, pPick_true, pPick_false, pFieldAddr_ptr, Nat.zero_add, bindP_some, ifB_true, ifB_false, bLt_int, bGt_int, bNe_int]
      exact bad _ h2 ho
    · by_cases g3 : r.tally < 1
      · have ho : okR r = false := by
          have : ¬ (1 ≤ r.tally) := by omega
          simp [okR, this]
        simp only [g1, g2, g3, cs h2, ld1_ptr, k0, k4, k6, gd_undef, uNot_bool, decide_true, decide_false, Bool.not_true, Bool.not_false, gd_true, gd_false, stepG_true, stepG_false, stepE_true, stepE_false, stepM_true, stepM_false, pPick_true, pPick_false, pFieldAddr_ptr, Nat.zero_add, bindP_some, ifB_true, ifB_false, bLt_int, bGt_int, bNe_int]
        exact bad _ h2 ho
      · by_cases g4 : r.tally > 1099511627776
        · have ho : okR r = false := by
            have : ¬ (r.tally ≤ 1099511627776) := by omega
            simp [okR, this]
          simp only [g1, g2, g3, g4, cs h2, ld1_ptr, k0, k4, k6, gd_undef, uNot_bool, decide_true, decide_false, Bool.not_true, Bool.not_false, gd_true, gd_false, stepG_true, stepG_false, stepE_true, stepE_false, stepM_true, stepM_false, pPick_true, pPick_false, pFieldAddr_ptr, Nat.zero_add, bindP_some, ifB_true, ifB_false, bLt_int, bGt_int, bNe_int]
          exact bad _ h2 ho
        · by_cases g5 : timesR r = true
          · by_cases g6 : whoR r = true
            · simp only [g1, g2, g3, g4, g5, g6, cs h2, cN, ld1_ptr, k0, k4, k6, gd_undef, uNot_bool, decide_true, decide_false, Bool.not_true, Bool.not_false, gd_true, gd_false, stepG_true, stepG_false, stepE_true, stepE_false, stepM_true, stepM_false, pPick_true, pPick_false, pFieldAddr_ptr, Nat.zero_add, bindP_some, ifB_true, ifB_false, bLt_int, bGt_int, bNe_int]
              refine ncheck_spec he h2 fun w3 h3 => ?_
              unfold chkE
              by_cases g7 : okE r.e = true
              · have hk := hK _ h3.drop
                have ho : okR r = true := by
                  have a1 : 1 ≤ r.id := by omega
                  have a2 : 1 ≤ r.e.level := by omega
                  have a3 : 1 ≤ r.tally := by omega
                  have a4 : r.tally ≤ 1099511627776 := by omega
                  simp [okR, a1, a2, a3, a4, g5, g6, g7]
                unfold chkR at hk
                rw [if_pos ho] at hk
                rw [if_pos g7]
                simp only [ld1_ptr, k0, k4, k6, gd_undef, uNot_bool, decide_true, decide_false, Bool.not_true, Bool.not_false, gd_true, gd_false, stepG_true, stepG_false, stepE_true, stepE_false, stepM_true, stepM_false, pPick_true, pPick_false, pFieldAddr_ptr, Nat.zero_add, bindP_some, ifB_true, ifB_false, bLt_int, bGt_int, bNe_int]
                exact hk
              · have ho : okR r = false := by
                  have g7' : okE r.e = false := by simpa using g7
                  simp [okR, g7']
                rw [if_neg g7]
                have e1 : decide ((180 : Int) = 0) = false := by decide
                simp only [e1, ld1_ptr, k0, k4, k6, gd_undef, uNot_bool, decide_true, decide_false, Bool.not_true, Bool.not_false, gd_true, gd_false, stepG_true, stepG_false, stepE_true, stepE_false, stepM_true, stepM_false, pPick_true, pPick_false, pFieldAddr_ptr, Nat.zero_add, bindP_some, ifB_true, ifB_false, bLt_int, bGt_int, bNe_int]
                exact bad _ h3 ho
            · have g6' : whoR r = false := by simpa using g6
              have ho : okR r = false := by simp [okR, g6']
              simp only [g1, g2, g3, g4, g5, g6', cs h2, ld1_ptr, k0, k4, k6, gd_undef, uNot_bool, decide_true, decide_false, Bool.not_true, Bool.not_false, gd_true, gd_false, stepG_true, stepG_false, stepE_true, stepE_false, stepM_true, stepM_false, pPick_true, pPick_false, pFieldAddr_ptr, Nat.zero_add, bindP_some, ifB_true, ifB_false, bLt_int, bGt_int, bNe_int]
              exact bad _ h2 ho
          · have g5' : timesR r = false := by simpa using g5
            have ho : okR r = false := by simp [okR, g5']
            simp only [g1, g2, g3, g4, g5', cs h2, ld1_ptr, k0, k4, k6, gd_undef, uNot_bool, decide_true, decide_false, Bool.not_true, Bool.not_false, gd_true, gd_false, stepG_true, stepG_false, stepE_true, stepE_false, stepM_true, stepM_false, pPick_true, pPick_false, pFieldAddr_ptr, Nat.zero_add, bindP_some, ifB_true, ifB_false, bLt_int, bGt_int, bNe_int]
            exact bad _ h2 ho
end
end Go.Proofs.Gong
