/- A part of the proofs: what stands below it, told in lemmas. No condition. -/
import Derived.Test.YtbbfjgmnemlolaaGreatDoorP3
import Derived.Test.YtbbfjgmnemlolaaGreatDoorP1
import Derived.Test.YtbbfjgmnemlolaaGreatDoorP2
import Derived.Test.YtbbfjgmnemlolaaGreatDoorP0
import Derived.Lib.ItoaLen
import Derived.Lib.Join
set_option linter.all false

/- Bd1 -/
namespace Go.Proofs.Gong
open Go Go.Sx Go.Proofs
set_option maxRecDepth 100000
section
variable {w0 w : World} {L : List HP} {K : Value → World → Prop} {r : Row}
theorem times_blk {p : Nat} {k : Value → World → Prop} (c7 : w.cell? ⟨p, 7, none⟩ = some (.int .i64 r.first)) (c8 : w.cell? ⟨p, 8, none⟩ = some (.int .i64 r.last)) (hk : k (.bool (timesR r)) w) :
    bindP (pFieldAddr 7 (ptr p)) fun v3 => bindP (ld1 v3 w) fun v4 => callP G74 [v4] w fun v6 w5 =>
    Sx.stepG (gd true v6) (pFieldAddr 8 (ptr p)) fun v7 => Sx.stepG (gd true v6) (ld1 v7 w5) fun v8 => stepE (gd true v6) (fun k => callP G74 [v8] w5 k) w5 fun v10 w9 =>
    bindP (pPick v6 v10 (.bool false)) fun v11 => Sx.stepG (gd true v11) (pFieldAddr 7 (ptr p)) fun v12 => Sx.stepG (gd true v11) (ld1 v12 w9) fun v13 =>
    Sx.stepG (gd true v11) (pFieldAddr 8 (ptr p)) fun v14 => Sx.stepG (gd true v11) (ld1 v14 w9) fun v15 => Sx.stepG (gd true v11) (bLe v13 v15) fun v16 => bindP (pPick v11 v16 (.bool false)) fun v17 => k v17 w9 := by
  simp only [ptr, pFieldAddr_ptr, bindP_some, Nat.zero_add, ld1_ptr, c7, c8]
  refine bistime_spec ?_
  unfold timesR at hk
  by_cases t1 : timeP r.first = true
  · simp only [t1, gd_true, stepG_true, bindP_some, ld1_ptr, c8, stepE_true]
    refine bistime_spec ?_
    by_cases t2 : timeP r.last = true
    · simp only [t2, pPick_true, bindP_some, gd_true, stepG_true, ld1_ptr, c7, c8, bLe_int]
      simpa [t1, t2] using hk
    · have t2' : timeP r.last = false := by simpa using t2
      simp only [t2', pPick_true, bindP_some, gd_true, stepG_false, pPick_false]
      simpa [t1, t2'] using hk
  · have t1' : timeP r.first = false := by simpa using t1
    simp only [t1', gd_true, stepG_false, stepE_false, pPick_false, bindP_some]
    simpa [t1'] using hk
theorem who_blk {p : Nat} {k : Value → World → Prop} (h : Sat w0 (Cl p (cRow r).toArray 45 :: L) w) (hs : r.who.length < 1073741824) (hk : ∀ w', Sat w0 (Cl p (cRow r).toArray 45 :: L) w' → k (.bool (whoR r)) w') :
    bindP (pFieldAddr 9 (ptr p)) fun v18 => bindP (ld1 v18 w) fun v19 => Sx.stepG (gd true v19) (pFieldAddr 10 (ptr p)) fun v20 => Sx.stepG (gd true v19) (ld1 v20 w) fun v21 =>
    stepE (gd true v19) (fun k => callP G75 [v21] w k) w fun v23 w22 => bindP (pPick v19 v23 (.bool false)) fun v24 => Sx.stepG (gd false v24) (pFieldAddr 9 (ptr p)) fun v25 =>
    Sx.stepG (gd false v24) (ld1 v25 w22) fun v26 => Sx.stepG (gd false v24) (uNot v26) fun v27 => stepM (gd false v24) v27 fun v28 => Sx.stepG (gd true v28) (pFieldAddr 10 (ptr p)) fun v29 =>
    Sx.stepG (gd true v28) (ld1 v29 w22) fun v30 => Sx.stepG (gd true v28) (bEq Tryz.prog 9 (.tmp 33) (.const (.string ⟨#[]⟩)) v30 (.string ⟨#[]⟩)) fun v31 =>
    Sx.stepG (gd false v24) (pPick v28 v31 (.bool false)) fun v32 => bindP (pPick v24 (.bool true) v32) fun v33 => k v33 w22 := by
  have cs : ∀ {w' : World}, Sat w0 (Cl p (cRow r).toArray 45 :: L) w' → ∀ i, w'.cell? ⟨p, i, none⟩ = (cRow r)[i]? := fun h i => by rw [cell_of h.cl, List.getElem?_toArray]
  have k9 : (cRow r)[9]? = some (.bool r.acked) := rfl
  have k10 : (cRow r)[10]? = some (.string (bs r.who)) := rfl
  unfold whoR at hk
  rw [nil_b]
  simp only [ptr, pFieldAddr_ptr, bindP_some, Nat.zero_add, ld1_ptr, cs h, k9, k10]
  by_cases ha : r.acked = true
  · rw [if_pos ha] at hk
    simp only [ha, gd_true, stepG_true, bindP_some, ld1_ptr, cs h, k10, stepE_true]
    refine iswho_spec hs h fun w2 h2 => ?_
    have hk2 := hk w2 h2
    by_cases hw : whoP r.who = true
    · rw [hw] at hk2
      simp only [hw, pPick_true, bindP_some, gd_false, Bool.not_true, stepG_false, stepM_false, gd_undef]
      exact hk2
    · have hw' : whoP r.who = false := by simpa using hw
      rw [hw'] at hk2
      simp only [hw', pPick_true, pPick_false, bindP_some, gd_false, gd_true, Bool.not_false, Bool.not_true, stepG_true, stepG_false, stepM_true, ld1_ptr, cs h2, k9, ha, uNot_bool]
      exact hk2
  · have ha' : r.acked = false := by simpa using ha
    rw [if_neg ha] at hk
    have hk2 := hk w h
    simp only [ha', gd_true, stepG_false, stepE_false, pPick_false, bindP_some, gd_false, Bool.not_false, stepG_true, ld1_ptr, cs h, k9, uNot_bool, stepM_true, k10, bEq_str, bs_beq, bs_inj, pPick_true]
    exact hk2
theorem bcheck_spec (he : r.e.fits) (hw : r.who.length < 1073741824) (h : Sat w0 L w) (hK : ∀ w', Sat w0 L w' → K (.int .i64 (chkR r)) w') : callP G41 [rowV r] w K := by
  refine c41 ?_
  unfold F41
  refine eBox_sat h fun p w1 h1 => ?_
  have e0 : (rowV r).cells = (cRow r).toArray := rfl
  rw [e0] at h1
  have cs : ∀ {w' : World}, Sat w0 (Cl p (cRow r).toArray 45 :: L) w' → ∀ i, w'.cell? ⟨p, i, none⟩ = (cRow r)[i]? := fun h i => by rw [cell_of h.cl, List.getElem?_toArray]
  have k0 : (cRow r)[0]? = some (.int .i64 r.id) := rfl
  have k4 : (cRow r)[4]? = some (.int .i64 r.e.level) := rfl
  have k6 : (cRow r)[6]? = some (.int .i64 r.tally) := rfl
  refine times_blk (r := r) (by rw [cs h1]; rfl) (by rw [cs h1]; rfl) ?_
  refine who_blk h1 hw fun w2 h2 => ?_
  have cN : ldN 5 (.pointer (some ⟨p, 1, none⟩)) w2 = some (evV r.e) := by rw [ldN_of h2.cl (by simp [cRow])]; rfl
  have bad : ∀ w', Sat w0 (Cl p (cRow r).toArray 45 :: L) w' → okR r = false → K (.int .i64 4) w' := by
    intro w' hs ho
    have := hK _ hs.drop
    unfold chkR at this
    rw [ho] at this
    exact this
  simp only [ptr, cs h2, ld1_ptr, k0, k4, k6, gd_undef, uNot_bool, decide_true, decide_false, Bool.not_true, Bool.not_false, gd_true, gd_false, stepG_true, stepG_false, stepE_true, stepE_false, stepM_true, stepM_false, pPick_true, pPick_false, pFieldAddr_ptr, Nat.zero_add, bindP_some, ifB_true, ifB_false, bLt_int, bGt_int, bNe_int]
  by_cases g1 : r.id < 1
  · have ho : okR r = false := by
      have : ¬ (1 ≤ r.id) := by omega
      simp [okR, this]
    simp only [g1, ld1_ptr, k0, k4, k6, gd_undef, uNot_bool, decide_true, decide_false, Bool.not_true, Bool.not_false, gd_true, gd_false, stepG_true, stepG_false, stepE_true, stepE_false, stepM_true, stepM_false, pPick_true, pPick_false, pFieldAddr_ptr, Nat.zero_add, bindP_some, ifB_true, ifB_false, bLt_int, bGt_int, bNe_int]
    exact bad _ h2 ho
  · by_cases g2 : r.e.level < 1
    · have ho : okR r = false := by
        have : ¬ (1 ≤ r.e.level) := by omega
        simp [okR, this]
      simp only [g1, g2, cs h2, ld1_ptr, k0, k4, k6, gd_undef, uNot_bool, decide_true, decide_false, Bool.not_true, Bool.not_false, gd_true, gd_false, stepG_true, stepG_false, stepE_true, stepE_false, stepM_true, stepM_false, pPick_true, pPick_false, pFieldAddr_ptr, Nat.zero_add, bindP_some, ifB_true, ifB_false, bLt_int, bGt_int, bNe_int]
      exact bad _ h2 ho
    · by_cases g3 : r.tally < 1
      · have ho : okR r = false := by
          have : ¬ (1 ≤ r.tally) := by omega
          simp [okR, this]
        simp only [g1, g2, g3, cs h2, ld1_ptr, k0, k4, k6, gd_undef, uNot_bool, decide_true, decide_false, Bool.not_true, Bool.not_false, gd_true, gd_false, stepG_true, stepG_false, stepE_true, stepE_false, stepM_true, stepM_false, pPick_true, pPick_false, pFieldAddr_ptr, Nat.zero_add, bindP_some, ifB_true, ifB_false, bLt_int, bGt_int, bNe_int]
        exact bad _ h2 ho
      · by_cases g4 : r.tally > 1099511627776
        · have ho : okR r = false := by
            have : ¬ (r.tally ≤ 1099511627776) := by omega
            simp [okR, this]
          simp only [g1, g2, g3, g4, cs h2, ld1_ptr, k0, k4, k6, gd_undef, uNot_bool, decide_true, decide_false, Bool.not_true, Bool.not_false, gd_true, gd_false, stepG_true, stepG_false, stepE_true, stepE_false, stepM_true, stepM_false, pPick_true, pPick_false, pFieldAddr_ptr, Nat.zero_add, bindP_some, ifB_true, ifB_false, bLt_int, bGt_int, bNe_int]
          exact bad _ h2 ho
        · by_cases g5 : timesR r = true
          · by_cases g6 : whoR r = true
            · simp only [g1, g2, g3, g4, g5, g6, cs h2, cN, ld1_ptr, k0, k4, k6, gd_undef, uNot_bool, decide_true, decide_false, Bool.not_true, Bool.not_false, gd_true, gd_false, stepG_true, stepG_false, stepE_true, stepE_false, stepM_true, stepM_false, pPick_true, pPick_false, pFieldAddr_ptr, Nat.zero_add, bindP_some, ifB_true, ifB_false, bLt_int, bGt_int, bNe_int]
              refine ncheck_spec he h2 fun w3 h3 => ?_
              unfold chkE
              by_cases g7 : okE r.e = true
              · have hk := hK _ h3.drop
                have ho : okR r = true := by
                  have a1 : 1 ≤ r.id := by omega
                  have a2 : 1 ≤ r.e.level := by omega
                  have a3 : 1 ≤ r.tally := by omega
                  have a4 : r.tally ≤ 1099511627776 := by omega
                  simp [okR, a1, a2, a3, a4, g5, g6, g7]
                unfold chkR at hk
                rw [if_pos ho] at hk
                rw [if_pos g7]
                simp only [ld1_ptr, k0, k4, k6, gd_undef, uNot_bool, decide_true, decide_false, Bool.not_true, Bool.not_false, gd_true, gd_false, stepG_true, stepG_false, stepE_true, stepE_false, stepM_true, stepM_false, pPick_true, pPick_false, pFieldAddr_ptr, Nat.zero_add, bindP_some, ifB_true, ifB_false, bLt_int, bGt_int, bNe_int]
                exact hk
              · have ho : okR r = false := by
                  have g7' : okE r.e = false := by simpa using g7
                  simp [okR, g7']
                rw [if_neg g7]
                have e1 : decide ((180 : Int) = 0) = false := by decide
                simp only [e1, ld1_ptr, k0, k4, k6, gd_undef, uNot_bool, decide_true, decide_false, Bool.not_true, Bool.not_false, gd_true, gd_false, stepG_true, stepG_false, stepE_true, stepE_false, stepM_true, stepM_false, pPick_true, pPick_false, pFieldAddr_ptr, Nat.zero_add, bindP_some, ifB_true, ifB_false, bLt_int, bGt_int, bNe_int]
                exact bad _ h3 ho
            · have g6' : whoR r = false := by simpa using g6
              have ho : okR r = false := by simp [okR, g6']
              simp only [g1, g2, g3, g4, g5, g6', cs h2, ld1_ptr, k0, k4, k6, gd_undef, uNot_bool, decide_true, decide_false, Bool.not_true, Bool.not_false, gd_true, gd_false, stepG_true, stepG_false, stepE_true, stepE_false, stepM_true, stepM_false, pPick_true, pPick_false, pFieldAddr_ptr, Nat.zero_add, bindP_some, ifB_true, ifB_false, bLt_int, bGt_int, bNe_int]
              exact bad _ h2 ho
          · have g5' : timesR r = false := by simpa using g5
            have ho : okR r = false := by simp [okR, g5']
            simp only [g1, g2, g3, g4, g5', cs h2, ld1_ptr, k0, k4, k6, gd_undef, uNot_bool, decide_true, decide_false, Bool.not_true, Bool.not_false, gd_true, gd_false, stepG_true, stepG_false, stepE_true, stepE_false, stepM_true, stepM_false, pPick_true, pPick_false, pFieldAddr_ptr, Nat.zero_add, bindP_some, ifB_true, ifB_false, bLt_int, bGt_int, bNe_int]
            exact bad _ h2 ho
end
end Go.Proofs.Gong

/- Bd2 -/
namespace Go.Proofs.Gong
open Go Go.Sx Go.Proofs
set_option maxRecDepth 100000
section
variable {w0 w : World} {L : List HP} {K : Value → World → Prop} {r : Row}
theorem fbcheck_spec (he : r.e.fits) (hw : r.who.length < 1073741824) (h : Sat w0 L w) (hK : ∀ w', Sat w0 L w' → K (.int .i64 (chkR r)) w') : callP G38 [rowV r] w K := by
  refine c38 ?_
  unfold F38
  refine eBox_sat h fun p w1 h1 => ?_
  have e0 : (rowV r).cells = (cRow r).toArray := rfl
  rw [e0] at h1
  have cs : ∀ {w' : World}, Sat w0 (Cl p (cRow r).toArray 45 :: L) w' → ∀ i, w'.cell? ⟨p, i, none⟩ = (cRow r)[i]? := fun h i => by rw [cell_of h.cl, List.getElem?_toArray]
  have k0 : (cRow r)[0]? = some (.int .i64 r.id) := rfl
  have k4 : (cRow r)[4]? = some (.int .i64 r.e.level) := rfl
  have k6 : (cRow r)[6]? = some (.int .i64 r.tally) := rfl
  have k7 : (cRow r)[7]? = some (.int .i64 r.first) := rfl
  have k8 : (cRow r)[8]? = some (.int .i64 r.last) := rfl
  have k9 : (cRow r)[9]? = some (.bool r.acked) := rfl
  have k10 : (cRow r)[10]? = some (.string (bs r.who)) := rfl
  have cN : ldN 5 (.pointer (some ⟨p, 1, none⟩)) w1 = some (evV r.e) := by rw [ldN_of h1.cl (by simp [cRow])]; rfl
  have bad : ∀ w', Sat w0 (Cl p (cRow r).toArray 45 :: L) w' → okR r = false → K (.int .i64 4) w' := by
    intro w' hs ho
    have := hK _ hs.drop
    unfold chkR at this
    rw [ho] at this
    exact this
  rw [nil_b]
  simp only [ptr, cs h1, cN, ld1_ptr, k0, k4, k6, k7, k8, k9, k10, gd_undef, uNot_bool, decide_true, decide_false, Bool.not_true, Bool.not_false, gd_true, gd_false, stepG_true, stepG_false, stepE_true, stepE_false, stepM_true, stepM_false, pPick_true, pPick_false, pFieldAddr_ptr, Nat.zero_add, bindP_some, ifB_true, ifB_false, bLt_int, bGt_int, bNe_int, bNe_str, bs_beq, bs_inj]
  by_cases g1 : r.id < 1
  · have ho : okR r = false := by
      have : ¬ (1 ≤ r.id) := by omega
      simp [okR, this]
    simp only [g1, cs h1, ld1_ptr, k0, k4, k6, k7, k8, k9, k10, gd_undef, uNot_bool, decide_true, decide_false, Bool.not_true, Bool.not_false, gd_true, gd_false, stepG_true, stepG_false, stepE_true, stepE_false, stepM_true, stepM_false, pPick_true, pPick_false, pFieldAddr_ptr, Nat.zero_add, bindP_some, ifB_true, ifB_false, bLt_int, bGt_int, bNe_int, bNe_str, bs_beq, bs_inj]
    exact bad _ h1 ho
  · simp only [g1, cN, ld1_ptr, k0, k4, k6, k7, k8, k9, k10, gd_undef, uNot_bool, decide_true, decide_false, Bool.not_true, Bool.not_false, gd_true, gd_false, stepG_true, stepG_false, stepE_true, stepE_false, stepM_true, stepM_false, pPick_true, pPick_false, pFieldAddr_ptr, Nat.zero_add, bindP_some, ifB_true, ifB_false, bLt_int, bGt_int, bNe_int, bNe_str, bs_beq, bs_inj]
    refine nfcheck_spec he h1 fun w2 h2 => ?_
    unfold chkE
    by_cases g7 : okE r.e = true
    · rw [if_pos g7]
      simp only [cs h2, ld1_ptr, k0, k4, k6, k7, k8, k9, k10, gd_undef, uNot_bool, decide_true, decide_false, Bool.not_true, Bool.not_false, gd_true, gd_false, stepG_true, stepG_false, stepE_true, stepE_false, stepM_true, stepM_false, pPick_true, pPick_false, pFieldAddr_ptr, Nat.zero_add, bindP_some, ifB_true, ifB_false, bLt_int, bGt_int, bNe_int, bNe_str, bs_beq, bs_inj]
      by_cases g2 : r.e.level < 1
      · have ho : okR r = false := by
          have : ¬ (1 ≤ r.e.level) := by omega
          simp [okR, this]
        simp only [g2, cs h2, ld1_ptr, k0, k4, k6, k7, k8, k9, k10, gd_undef, uNot_bool, decide_true, decide_false, Bool.not_true, Bool.not_false, gd_true, gd_false, stepG_true, stepG_false, stepE_true, stepE_false, stepM_true, stepM_false, pPick_true, pPick_false, pFieldAddr_ptr, Nat.zero_add, bindP_some, ifB_true, ifB_false, bLt_int, bGt_int, bNe_int, bNe_str, bs_beq, bs_inj]
        exact bad _ h2 ho
      · by_cases g3 : r.tally < 1
        · have ho : okR r = false := by
            have : ¬ (1 ≤ r.tally) := by omega
            simp [okR, this]
          simp only [g2, g3, cs h2, ld1_ptr, k0, k4, k6, k7, k8, k9, k10, gd_undef, uNot_bool, decide_true, decide_false, Bool.not_true, Bool.not_false, gd_true, gd_false, stepG_true, stepG_false, stepE_true, stepE_false, stepM_true, stepM_false, pPick_true, pPick_false, pFieldAddr_ptr, Nat.zero_add, bindP_some, ifB_true, ifB_false, bLt_int, bGt_int, bNe_int, bNe_str, bs_beq, bs_inj]
          exact bad _ h2 ho
        · by_cases g4 : r.tally > 1099511627776
          · have ho : okR r = false := by
              have : ¬ (r.tally ≤ 1099511627776) := by omega
              simp [okR, this]
            simp only [g2, g3, g4, cs h2, ld1_ptr, k0, k4, k6, k7, k8, k9, k10, gd_undef, uNot_bool, decide_true, decide_false, Bool.not_true, Bool.not_false, gd_true, gd_false, stepG_true, stepG_false, stepE_true, stepE_false, stepM_true, stepM_false, pPick_true, pPick_false, pFieldAddr_ptr, Nat.zero_add, bindP_some, ifB_true, ifB_false, bLt_int, bGt_int, bNe_int, bNe_str, bs_beq, bs_inj]
            exact bad _ h2 ho
          · simp only [g2, g3, g4, cs h2, ld1_ptr, k0, k4, k6, k7, k8, k9, k10, gd_undef, uNot_bool, decide_true, decide_false, Bool.not_true, Bool.not_false, gd_true, gd_false, stepG_true, stepG_false, stepE_true, stepE_false, stepM_true, stepM_false, pPick_true, pPick_false, pFieldAddr_ptr, Nat.zero_add, bindP_some, ifB_true, ifB_false, bLt_int, bGt_int, bNe_int, bNe_str, bs_beq, bs_inj]
            refine fbistime_spec ?_
            by_cases t1 : timeP r.first = true
            · simp only [t1, cs h2, ld1_ptr, k0, k4, k6, k7, k8, k9, k10, gd_undef, uNot_bool, decide_true, decide_false, Bool.not_true, Bool.not_false, gd_true, gd_false, stepG_true, stepG_false, stepE_true, stepE_false, stepM_true, stepM_false, pPick_true, pPick_false, pFieldAddr_ptr, Nat.zero_add, bindP_some, ifB_true, ifB_false, bLt_int, bGt_int, bNe_int, bNe_str, bs_beq, bs_inj]
              refine fbistime_spec ?_
              by_cases t2 : timeP r.last = true
              · simp only [t2, cs h2, ld1_ptr, k0, k4, k6, k7, k8, k9, k10, gd_undef, uNot_bool, decide_true, decide_false, Bool.not_true, Bool.not_false, gd_true, gd_false, stepG_true, stepG_false, stepE_true, stepE_false, stepM_true, stepM_false, pPick_true, pPick_false, pFieldAddr_ptr, Nat.zero_add, bindP_some, ifB_true, ifB_false, bLt_int, bGt_int, bNe_int, bNe_str, bs_beq, bs_inj]
                by_cases t3 : r.first > r.last
                · have ho : okR r = false := by
                    have : ¬ (r.first ≤ r.last) := by omega
                    simp [okR, timesR, this]
                  simp only [t3, ld1_ptr, k0, k4, k6, k7, k8, k9, k10, gd_undef, uNot_bool, decide_true, decide_false, Bool.not_true, Bool.not_false, gd_true, gd_false, stepG_true, stepG_false, stepE_true, stepE_false, stepM_true, stepM_false, pPick_true, pPick_false, pFieldAddr_ptr, Nat.zero_add, bindP_some, ifB_true, ifB_false, bLt_int, bGt_int, bNe_int, bNe_str, bs_beq, bs_inj]
                  exact bad _ h2 ho
                · have tt : timesR r = true := by
                    have : r.first ≤ r.last := by omega
                    simp [timesR, t1, t2, this]
                  have fin : ∀ w', Sat w0 (Cl p (cRow r).toArray 45 :: L) w' → whoR r = true → K (.int .i64 0) w' := by
                    intro w' hs hwho
                    have hk := hK _ hs.drop
                    have ho : okR r = true := by
                      have a1 : 1 ≤ r.id := by omega
                      have a2 : 1 ≤ r.e.level := by omega
                      have a3 : 1 ≤ r.tally := by omega
                      have a4 : r.tally ≤ 1099511627776 := by omega
                      simp [okR, a1, a2, a3, a4, tt, hwho, g7]
                    unfold chkR at hk
                    rw [if_pos ho] at hk
                    exact hk
                  simp only [t3, cs h2, ld1_ptr, k0, k4, k6, k7, k8, k9, k10, gd_undef, uNot_bool, decide_true, decide_false, Bool.not_true, Bool.not_false, gd_true, gd_false, stepG_true, stepG_false, stepE_true, stepE_false, stepM_true, stepM_false, pPick_true, pPick_false, pFieldAddr_ptr, Nat.zero_add, bindP_some, ifB_true, ifB_false, bLt_int, bGt_int, bNe_int, bNe_str, bs_beq, bs_inj]
                  by_cases ha : r.acked = true
                  · simp only [ha, cs h2, ld1_ptr, k0, k4, k6, k7, k8, k9, k10, gd_undef, uNot_bool, decide_true, decide_false, Bool.not_true, Bool.not_false, gd_true, gd_false, stepG_true, stepG_false, stepE_true, stepE_false, stepM_true, stepM_false, pPick_true, pPick_false, pFieldAddr_ptr, Nat.zero_add, bindP_some, ifB_true, ifB_false, bLt_int, bGt_int, bNe_int, bNe_str, bs_beq, bs_inj]
                    refine fiswho_spec hw h2 fun w3 h3 => ?_
                    by_cases hq : whoP r.who = true
                    · simp only [hq, ha, cs h3, ld1_ptr, k0, k4, k6, k7, k8, k9, k10, gd_undef, uNot_bool, decide_true, decide_false, Bool.not_true, Bool.not_false, gd_true, gd_false, stepG_true, stepG_false, stepE_true, stepE_false, stepM_true, stepM_false, pPick_true, pPick_false, pFieldAddr_ptr, Nat.zero_add, bindP_some, ifB_true, ifB_false, bLt_int, bGt_int, bNe_int, bNe_str, bs_beq, bs_inj]
                      exact fin _ h3 (by simp [whoR, ha, hq])
                    · have hq' : whoP r.who = false := by simpa using hq
                      simp only [hq', ha, cs h3, ld1_ptr, k0, k4, k6, k7, k8, k9, k10, gd_undef, uNot_bool, decide_true, decide_false, Bool.not_true, Bool.not_false, gd_true, gd_false, stepG_true, stepG_false, stepE_true, stepE_false, stepM_true, stepM_false, pPick_true, pPick_false, pFieldAddr_ptr, Nat.zero_add, bindP_some, ifB_true, ifB_false, bLt_int, bGt_int, bNe_int, bNe_str, bs_beq, bs_inj]
                      exact bad _ h3 (by simp [okR, whoR, ha, hq'])
                  · have ha' : r.acked = false := by simpa using ha
                    by_cases hq : r.who = []
                    · simp only [ha', hq, cs h2, ld1_ptr, k0, k4, k6, k7, k8, k9, k10, gd_undef, uNot_bool, decide_true, decide_false, Bool.not_true, Bool.not_false, gd_true, gd_false, stepG_true, stepG_false, stepE_true, stepE_false, stepM_true, stepM_false, pPick_true, pPick_false, pFieldAddr_ptr, Nat.zero_add, bindP_some, ifB_true, ifB_false, bLt_int, bGt_int, bNe_int, bNe_str, bs_beq, bs_inj]
                      exact fin _ h2 (by simp [whoR, ha', hq])
                    · simp only [ha', hq, cs h2, ld1_ptr, k0, k4, k6, k7, k8, k9, k10, gd_undef, uNot_bool, decide_true, decide_false, Bool.not_true, Bool.not_false, gd_true, gd_false, stepG_true, stepG_false, stepE_true, stepE_false, stepM_true, stepM_false, pPick_true, pPick_false, pFieldAddr_ptr, Nat.zero_add, bindP_some, ifB_true, ifB_false, bLt_int, bGt_int, bNe_int, bNe_str, bs_beq, bs_inj]
                      exact bad _ h2 (by simp [okR, whoR, ha', hq])
              · have t2' : timeP r.last = false := by simpa using t2
                simp only [t2', cs h2, ld1_ptr, k0, k4, k6, k7, k8, k9, k10, gd_undef, uNot_bool, decide_true, decide_false, Bool.not_true, Bool.not_false, gd_true, gd_false, stepG_true, stepG_false, stepE_true, stepE_false, stepM_true, stepM_false, pPick_true, pPick_false, pFieldAddr_ptr, Nat.zero_add, bindP_some, ifB_true, ifB_false, bLt_int, bGt_int, bNe_int, bNe_str, bs_beq, bs_inj]
                exact bad _ h2 (by simp [okR, timesR, t2'])
            · have t1' : timeP r.first = false := by simpa using t1
              simp only [t1', cs h2, ld1_ptr, k0, k4, k6, k7, k8, k9, k10, gd_undef, uNot_bool, decide_true, decide_false, Bool.not_true, Bool.not_false, gd_true, gd_false, stepG_true, stepG_false, stepE_true, stepE_false, stepM_true, stepM_false, pPick_true, pPick_false, pFieldAddr_ptr, Nat.zero_add, bindP_some, ifB_true, ifB_false, bLt_int, bGt_int, bNe_int, bNe_str, bs_beq, bs_inj]
              exact bad _ h2 (by simp [okR, timesR, t1'])
    · have ho : okR r = false := by
        have g7' : okE r.e = false := by simpa using g7
        simp [okR, g7']
      rw [if_neg g7]
      have e1 : decide ((180 : Int) = 0) = false := by decide
      simp only [e1, ld1_ptr, k0, k4, k6, k7, k8, k9, k10, gd_undef, uNot_bool, decide_true, decide_false, Bool.not_true, Bool.not_false, gd_true, gd_false, stepG_true, stepG_false, stepE_true, stepE_false, stepM_true, stepM_false, pPick_true, pPick_false, pFieldAddr_ptr, Nat.zero_add, bindP_some, ifB_true, ifB_false, bLt_int, bGt_int, bNe_int, bNe_str, bs_beq, bs_inj]
      exact bad _ h2 ho
end
end Go.Proofs.Gong

/- Bd3 -/
namespace Go.Proofs.Gong
open Go Go.Sx Go.Proofs
set_option maxRecDepth 100000
abbrev Sg := List UInt8 × List UInt8 × List UInt8
@[reducible] def cSg (s : Sg) : List Value := [.string (bs s.1), .string (bs s.2.1), .string (bs s.2.2)]
abbrev ekS (s : Sg) : Value := .agg (cSg s).toArray
abbrev kI (n : Int) : Value := .int .i64 n
def sgOf (e : Evt) : Sg := (e.node, e.cls, e.key)
theorem eqvS (a b c d e f : ByteArray) : eqv Tryz.prog Op.maxDepth 125 (.agg #[.string a, .string b, .string c]) (.agg #[.string d, .string e, .string f]) = andO (some (sEq a d)) (andO (some (sEq b e)) (andO (some (sEq c f)) (some true))) := by kernel_rfl
theorem KS : KeyT Tryz.prog 125 ekS where
  u := by kernel_rfl
  ck := fun k => by kernel_rfl
  eq := fun a b => by
    unfold ekS cSg
    rw [eqvS]
    simp only [andO_some, Option.some.injEq]
    rw [Bool.eq_iff_iff]
    obtain ⟨a1, a2, a3⟩ := a
    obtain ⟨b1, b2, b3⟩ := b
    simp [sEq_eq]
  sb := fun a => by
    unfold ekS cSg
    simp [Instr.sameBits]
def BoardI (v : Value) (n next : Int) (R : List (Int × Row)) (I : List (Sg × Int)) : HP :=
  HEx fun p => HEx fun mr => HEx fun mi => HPr (v = ptr p) (HSt (Cl p #[.int .i64 n, .int .i64 next, mr, mi] 94) (HSt (MapH kI rowV mr R) (MapH ekS kI mi I)))
section
variable {w0 w : World} {L : List HP} {K : Value → World → Prop} {v : Value} {n next : Int} {R : List (Int × Row)} {I : List (Sg × Int)}
theorem board_iff : Sat w0 (BoardI v n next R I :: L) w ↔ ∃ p mr mi, v = ptr p ∧ Sat w0 (Cl p #[.int .i64 n, .int .i64 next, mr, mi] 94 :: MapH kI rowV mr R :: MapH ekS kI mi I :: L) w := by
  simp only [BoardI, Sat.ex_iff, Sat.pr_iff, Sat.star_iff]
  constructor
  · rintro ⟨p, mr, mi, h1, h2⟩
    exact ⟨p, mr, mi, h1, h2.conv fun _ h => h.tail fun _ h => SepL.star.1 h⟩
  · rintro ⟨p, mr, mi, h1, h2⟩
    exact ⟨p, mr, mi, h1, h2.conv fun _ h => h.tail fun _ h => SepL.star.2 h⟩
theorem of_spec {e : Evt} (h : Sat w0 L w) (hK : ∀ w', Sat w0 L w' → K (ekS (sgOf e)) w') : callP G40 [evV e] w K := by
  refine c40 ?_
  unfold F40
  refine eBox_sat h fun p w1 h1 => ?_
  have e0 : (evV e).cells = (cEv e).toArray := rfl
  rw [e0] at h1
  refine eAlloc_sat h1 z125 fun q w2 h2 => ?_
  have c0 : w2.cell? ⟨p, 0, none⟩ = some (.string (bs e.node)) := by rw [cell_of h2.f1.cl]; rfl
  have c1 : w2.cell? ⟨p, 1, none⟩ = some (.string (bs e.cls)) := by rw [cell_of h2.f1.cl]; rfl
  have c2 : w2.cell? ⟨p, 2, none⟩ = some (.string (bs e.key)) := by rw [cell_of h2.f1.cl]; rfl
  simp only [ptr, pFieldAddr_ptr, bindP_some, Nat.zero_add, ld1_ptr, c0, c1, c2]
  have eb : fBuild Tryz.prog 125 [(0, .string (bs e.node)), (1, .string (bs e.cls)), (2, .string (bs e.key))] = some (ekS (sgOf e)) := by kernel_rfl
  rw [eb]
  simp only [bindP_some]
  refine bindW_stN h2 (by simp [ekS, cSg]) (by simp [ekS, cSg]) (by simp) fun w3 h3 => ?_
  have ew : wr (Value.agg #[(.string ⟨#[]⟩), (.string ⟨#[]⟩), (.string ⟨#[]⟩)]).cells 0 (ekS (sgOf e)).cells.toList = (cSg (sgOf e)).toArray := by rfl
  rw [ew] at h3
  have cN : ldN 3 (.pointer (some ⟨q, 0, none⟩)) w3 = some (ekS (sgOf e)) := by rw [ldN_of h3.cl (by simp [cSg])]; rfl
  rw [cN]
  simp only [bindP_some]
  exact hK _ h3.drop.drop
theorem bnew_spec {n : Int} (h : Sat w0 L w) (h1 : 1 ≤ n) (h2 : n ≤ 65536) (hK : ∀ p w', Sat w0 (BoardI (ptr p) n 1 [] [] :: L) w' → K (.tuple #[ptr p, .int .i64 0]) w') : callP G65 [.int .i64 n] w K := by
  refine c65 ?_
  unfold F65
  have e1 : decide (n < 1) = false := by simp; omega
  have e2 : decide (n > 65536) = false := by simp; omega
  simp only [bLt_int, bGt_int, e1, e2, bindP_some, gd_false, Bool.not_false, stepM_true, stepG_true, pPick_false, ifB_false]
  refine eMakeMap_sat kI rowV h fun mr w1 g1 => ?_
  refine eMakeMap_sat ekS kI g1 fun mi w2 g2 => ?_
  obtain ⟨r1, es1, c1, ⟨rfl, _⟩, _⟩ := map_iff.1 g1
  obtain ⟨r2, es2, c2, ⟨rfl, _⟩, _⟩ := map_iff.1 g2
  have eb : fBuild Tryz.prog 94 [(0, .int .i64 n), (1, .int .i64 1), (2, .map (some r1)), (3, .map (some r2))] = some (.agg #[.int .i64 n, .int .i64 1, .map (some r1), .map (some r2)]) := by kernel_rfl
  rw [eb]
  simp only [bindP_some]
  refine eBox_sat g2 fun p w3 g3 => hK p w3 (board_iff.2 ⟨p, .map (some r1), .map (some r2), rfl, ?_⟩)
  exact g3.conv fun _ h => h.tail fun _ h => h.swap
theorem blen_spec (h : Sat w0 (BoardI v n next R I :: L) w) (hK : K (.int .i64 R.length) w) : callP G91 [v] w K := by
  refine c91 ?_
  unfold F91
  obtain ⟨p, mr, mi, rfl, hs⟩ := board_iff.1 h
  have c2 : w.cell? ⟨p, 2, none⟩ = some mr := by rw [cell_of hs.cl]; rfl
  simp only [ptr, pNil_ptr, pFieldAddr_ptr, bindP_some, Nat.zero_add, ld1_ptr, c2, lenM_map hs.f1]
  exact hK
end
end Go.Proofs.Gong

/- Bd4 -/
namespace Go.Proofs.Gong
open Go Go.Sx Go.Proofs
set_option maxRecDepth 100000
theorem KIr : KeyT Tryz.prog 3 kI := KeyT.int (by kernel_rfl)
section
variable {w0 w : World} {L : List HP} {K : Value → World → Prop} {v : Value} {n next : Int} {R : List (Int × Row)} {I : List (Sg × Int)}
theorem put_bspec {r : Row} (h : Sat w0 (BoardI v n next R I :: L) w) (hK : ∀ w', Sat w0 (BoardI v n next (aSet r.id r R) (aSet (sgOf r.e) r.id I) :: L) w' → K (.tuple #[]) w') : callP G42 [v, rowV r] w K := by
  refine c42 ?_
  unfold F42
  refine eBox_sat h fun q w1 h1 => ?_
  have e0 : (rowV r).cells = (cRow r).toArray := rfl
  rw [e0] at h1
  obtain ⟨p, mr, mi, rfl, hs⟩ := board_iff.1 h1.f1
  have hd := hs.drew
  have c2 : w1.drew.cell? ⟨p, 2, none⟩ = some mr := by rw [cell_of hd.cl]; rfl
  have hq := hd.f3
  have cq : w1.drew.cell? ⟨q, 0, none⟩ = some (kI r.id) := by rw [cell_of hq.cl]; rfl
  have cN : ldN 11 (.pointer (some ⟨q, 0, none⟩)) w1.drew = some (rowV r) := by rw [ldN_of hq.cl (by simp [cRow])]; rfl
  simp only [ptr, pNil_ptr, pFieldAddr_ptr, bindP_some, Nat.zero_add, ld1_ptr, c2, cq, cN]
  refine eMapSet_sat hd.f1 KIr um91 r.id r fun w2 h2 => ?_
  have h2 := h2.drew
  have hb := h2.f1
  have c3 : w2.drew.cell? ⟨p, 3, none⟩ = some mi := by rw [cell_of hb.cl]; rfl
  have hq := h2.f3
  have cq : w2.drew.cell? ⟨q, 0, none⟩ = some (kI r.id) := by rw [cell_of hq.cl]; rfl
  have cN : ldN 5 (.pointer (some ⟨q, 1, none⟩)) w2.drew = some (evV r.e) := by rw [ldN_of hq.cl (by simp [cRow])]; rfl
  simp only [pNil_ptr, pFieldAddr_ptr, bindP_some, Nat.zero_add, ld1_ptr, c3, cq, cN]
  refine of_spec h2 fun w3 h3 => ?_
  have hb := h3.f1
  have c3' : w3.cell? ⟨p, 3, none⟩ = some mi := by rw [cell_of hb.cl]; rfl
  have cq' : w3.cell? ⟨q, 0, none⟩ = some (kI r.id) := by rw [cell_of h3.f3.cl]; rfl
  refine ⟨⟨by rw [fok_true]; exact c3', by rw [fok_true]; exact cq'⟩, ?_⟩
  refine eMapSet_sat h3.f2 KS um92 (sgOf r.e) r.id fun w4 h4 => ?_
  refine hK _ (board_iff.2 ⟨p, mr, mi, rfl, ?_⟩)
  exact (h4.f3.drop.f2).conv fun _ h => h.tail fun _ h => h.swap
end
end Go.Proofs.Gong

/- Bd5 -/
namespace Go.Proofs.Gong
open Go Go.Sx Go.Proofs
set_option maxRecDepth 100000
section
variable {w0 w : World} {L : List HP} {K : Value → World → Prop} {r : Row}
def zeroR : Row := ⟨0, ⟨[], [], [], 0, []⟩, 0, 0, 0, false, []⟩
theorem zR : fZero Tryz.prog 45 = some (rowV zeroR) := z45
end
end Go.Proofs.Gong

/- Bd6 -/
namespace Go.Proofs.Gong
open Go Go.Sx Go.Proofs
set_option maxRecDepth 100000
attribute [local irreducible] fBuild fLook fZero eqv bEqv Cl MapH LsH SlH ld1 ldN st callP eBox eAlloc lenM lenL eMapSet eDelete eAppend eBuildSl eRange eNext
theorem elimR (o : Option Row) : o.elim (rowV zeroR) rowV = rowV (o.getD zeroR) := by cases o <;> rfl
section
variable {w0 w : World} {L : List HP} {K : Value → World → Prop} {v : Value} {n next : Int} {R : List (Int × Row)} {I : List (Sg × Int)}
end
end Go.Proofs.Gong

/- Bd7 -/
namespace Go.Proofs.Gong
open Go Go.Sx Go.Proofs
set_option maxRecDepth 100000
attribute [local irreducible] fBuild fLook fZero eqv bEqv Cl MapH LsH SlH ld1 ldN st callP eBox eAlloc lenM lenL eMapSet eDelete eAppend eBuildSl eRange eNext
section
variable {w0 w : World} {L : List HP} {K : Value → World → Prop}
end
end Go.Proofs.Gong

/- Bd8 -/
namespace Go.Proofs.Gong
open Go Go.Sx Go.Proofs
set_option maxRecDepth 100000
attribute [local irreducible] fBuild fLook fZero eqv bEqv Cl MapH LsH SlH ld1 ldN st callP eBox eAlloc lenM lenL eMapSet eDelete eAppend eBuildSl eRange eNext
section
variable {w0 w : World} {L : List HP} {K : Value → World → Prop}
end
end Go.Proofs.Gong

/- Ho0 -/
namespace Go.Proofs.Gong
open Go Go.Sx Go.Proofs
set_option maxRecDepth 100000
attribute [local irreducible] fBuild fLook fZero eqv bEqv Cl MapH LsH SlH ld1 ldN st callP eBox eAlloc lenM lenL eMapSet eDelete eAppend eBuildSl eRange eNext
instance : CodC cI 1 := ⟨CI⟩
def RdL {α : Type} (w0 : World) (L : List HP) (f : α → List Value) (es : Nat) (v : Value) (l : List α) : Prop := ∀ w, Sat w0 L w → Rd w es v l.length (l.flatMap f)
theorem RdL.get {α : Type} {w0 : World} {L L' : List HP} {f : α → List Value} {es : Nat} {v : Value} {l : List α} (h : RdL w0 L f es v l) (g : Get L' L) : RdL w0 L' f es v l := fun w hs => h w (hs.get g)
theorem RdL.got {α : Type} {w0 : World} {L L' : List HP} {f : α → List Value} {es : Nat} {v : Value} {l : List α} (h : RdL w0 L f es v l) (g : Get L' L := by repeat (first | exact .done | (refine .pick (by repeat (first | exact .here | apply Fnt.there)) ?_) | refine .skip ?_)) : RdL w0 L' f es v l := fun w hs => h w (hs.get g)
theorem RdL.cons {α : Type} {w0 : World} {L : List HP} {X : HP} {f : α → List Value} {es : Nat} {v : Value} {l : List α} (h : RdL w0 L f es v l) : RdL w0 (X :: L) f es v l := h.get (.skip .done)
def ascI : List Int → Bool
  | a :: b :: r => decide (a ≤ b) && ascI (b :: r)
  | _ => true
section
variable {w0 w : World} {L : List HP} {K : Value → World → Prop}
end
end Go.Proofs.Gong

/- Ho1 -/
namespace Go.Proofs.Gong
open Go Go.Sx Go.Proofs
set_option maxRecDepth 100000
attribute [local irreducible] fBuild fLook fZero eqv bEqv Cl MapH LsH SlH ld1 ldN st callP eBox eAlloc lenM lenL eMapSet eDelete eAppend eBuildSl eRange eNext
structure Ctx where
  id : Int
  watch : Int
  node : List UInt8
  key : List UInt8
  at' : Int
  e : Evt
  times : List Int
  deriving DecidableEq
@[reducible] def cCtx (c : Ctx) (tv : Value) : List Value := [.int .i64 c.id, .int .i64 c.watch, .string (bs c.node), .string (bs c.key), .int .i64 c.at', .string (bs c.e.node), .string (bs c.e.cls), .string (bs c.e.key), .int .i64 c.e.level, .string (bs c.e.text), tv]
abbrev ctxV (c : Ctx) (tv : Value) : Value := .agg (cCtx c tv).toArray
def zeroE : Evt := ⟨[], [], [], 0, []⟩
def okSign (node key : List UInt8) : Bool := okE ⟨node, [99], key, 0, []⟩
def okEv (e : Evt) : Bool := decide (e = zeroE) || okE e
def okTimes (l : List Int) : Bool := decide (l.length ≤ 1000) && (ascI l && l.all timeP)
def okC (c : Ctx) : Bool := decide (0 ≤ c.watch) && decide (c.watch ≤ 63) && okSign c.node c.key && okEv c.e && okTimes c.times && timeP c.at'
def Ctx.fits (c : Ctx) : Prop := c.node.length < 1073741824 ∧ c.key.length < 1073741824 ∧ c.e.fits ∧ c.times.length < 1073741824
section
variable {w0 w : World} {L : List HP} {K : Value → World → Prop} {c : Ctx} {tv : Value}
end
end Go.Proofs.Gong

/- Ho2 -/
namespace Go.Proofs.Gong
open Go Go.Sx Go.Proofs
set_option maxRecDepth 100000
attribute [local irreducible] fBuild fLook fZero eqv bEqv Cl MapH LsH SlH ld1 ldN st callP eBox eAlloc lenM lenL eMapSet eDelete eAppend eBuildSl eRange eNext
structure Sgn where
  watch : Int
  node : List UInt8
  key : List UInt8
  deriving DecidableEq
@[reducible] def cSgn (s : Sgn) : List Value := [.int .i64 s.watch, .string (bs s.node), .string (bs s.key)]
abbrev sgnV (s : Sgn) : Value := .agg (cSgn s).toArray
def sgnOf (c : Ctx) : Sgn := ⟨c.watch, c.node, c.key⟩
section
variable {w0 w : World} {L : List HP} {K : Value → World → Prop} {a b : Ctx} {tv tv' : Value}
end
end Go.Proofs.Gong

/- Ho3 -/
namespace Go.Proofs.Gong
open Go Go.Sx Go.Proofs
set_option maxRecDepth 100000
abbrev kH (n : Int) : Value := .int .i64 n
attribute [local irreducible] fBuild fLook fZero eqv bEqv Cl MapH LsH SlH ld1 ldN st callP eBox eAlloc lenM lenL eMapSet eDelete eAppend eBuildSl eRange eNext
abbrev Held := List (Int × (Ctx × Value))
abbrev ctxE (x : Ctx × Value) : Value := ctxV x.1 x.2
def heldP (x : Int × (Ctx × Value)) : HP := LsH cI 1 3 x.2.2 x.2.1.times
def bag (m : Held) : HP := HS (m.map heldP)
def HoldI (v : Value) (n next hn : Int) (m : Held) (I : List (Sgn × Int)) (M : List It) : HP := HEx fun p => HEx fun dp => HEx fun ml => HEx fun mi =>
  HPr (v = ptr p) (HS [Cl p #[dp, .int .i64 n, .int .i64 next, ml, mi] 252, HeapH dp hn M, MapH kH ctxE ml m, MapH sgnV kH mi I, bag m])
section
variable {w0 w : World} {L : List HP} {K : Value → World → Prop} {v : Value} {n next hn : Int} {m : Held} {I : List (Sgn × Int)} {M : List It} {c : Ctx} {tv : Value}
theorem hold_iff : Sat w0 (HoldI v n next hn m I M :: L) w ↔ ∃ p dp ml mi, v = ptr p ∧ Sat w0 (Cl p #[dp, .int .i64 n, .int .i64 next, ml, mi] 252 :: HeapH dp hn M :: MapH kH ctxE ml m :: MapH sgnV kH mi I :: bag m :: L) w := by
  simp only [HoldI, Sat.ex_iff, Sat.pr_iff, Sat.hs_iff, List.cons_append, List.nil_append]
theorem bag_iff : Sat w0 (bag m :: L) w ↔ Sat w0 (m.map heldP ++ L) w := Sat.hs_iff
theorem okC_id (c : Ctx) (i : Int) : okC { c with id := i } = okC c := rfl
theorem hlen_spec (h : Sat w0 (HoldI v n next hn m I M :: L) w) (hK : K (.int .i64 m.length) w) : callP G93 [v] w K := by
  refine c93 ?_
  unfold F93
  replace h := hold_iff.1 h
  obtain ⟨p, dp, ml, mi, rfl, h⟩ := h
  (repeat(first
|simp(disch:=omega)only[evA,evB,evC,bAdd_i64,bSub_i64]
|with_reducible refine go_s h ?_))
  refine go_lenM h (by repeat(first|exact .here|apply Fnt.there)) ?_
  exact hK
theorem hempty_spec (h1 : 1 ≤ n) (h2 : n ≤ 65536) (h : Sat w0 L w) (hK : ∀ p w', Sat w0 (HoldI (ptr p) n next n [] [] [] :: L) w' → K (ptr p) w') : callP G109 [.int .i64 n, .int .i64 next] w K := by
  refine c109 ?_
  unfold F109
  refine new_spec h (fun h => by omega) fun d w _ _ h => ?_
  (repeat(first
|simp(disch:=omega)only[evA,evB,evC,bAdd_i64,bSub_i64]
|refine go_some (fb248_0 ..) ?_))
  refine eMakeMap_sat kH ctxE h fun ml w h => ?_
  obtain ⟨r1, _, _, ⟨e1, _⟩, _⟩ := map_iff.1 h
  refine eMakeMap_sat sgnV kH h fun mi w h => ?_
  obtain ⟨r2, _, _, ⟨e2, _⟩, _⟩ := map_iff.1 h
  subst e1 e2
  have close : ∀ q w', Sat w0 (Cl q #[ptr d, .int .i64 n, .int .i64 next, .map (some r1), .map (some r2)] 252 :: MapH sgnV kH (.map (some r2)) [] :: MapH kH ctxE (.map (some r1)) [] :: HeapH (ptr d) n [] :: L) w' → Sat w0 (HoldI (ptr q) n next n [] [] [] :: L) w' := by
    intro q w' h
    have h3 : Sat w0 (bag [] :: _) w' := bag_iff.2 h
    exact hold_iff.2 ⟨q, ptr d, .map (some r1), .map (some r2), rfl, h3.got⟩
  (repeat(first
|refine go_some (fb252_0_1_2_3_4 ..) ?_
|((with_reducible apply go_box h);rfl;intro _ _ h)))
  exact hK _ _ (close _ _ h)
theorem hnew_spec (h1 : 1 ≤ n) (h2 : n ≤ 65536) (h : Sat w0 L w) (hK : ∀ p w', Sat w0 (HoldI (ptr p) n 1 n [] [] [] :: L) w' → K (.tuple #[ptr p, .int .i64 0]) w') : callP G66 [.int .i64 n] w K := by
  refine c66 ?_
  unfold F66
  have e1 : decide (n < 1) = false := by simp; omega
  have e2 : decide (n > 65536) = false := by simp; omega
  (repeat simp(disch:=omega)only[evA,evB,evC,bAdd_i64,bSub_i64,e1,e2])
  exact hempty_spec h1 h2 h fun p w h => hK p w h
end
end Go.Proofs.Gong

/- Ho5 -/
namespace Go.Proofs.Gong
open Go Go.Sx Go.Proofs
set_option maxRecDepth 100000
structure HInv (n next hn : Int) (m : Held) (I : List (Sgn × Int)) (M : List It) (cs : List Ctx) : Prop where
  pm : (m.map fun x => x.2.1).Perm cs
  key : ∀ x ∈ m, x.1 = x.2.1.id
  asc : cs.Pairwise fun a b => a.id < b.id
  pI : I.Perm (cs.map fun c => (sgnOf c, c.id))
  sg : cs.Pairwise fun a b => sgnOf a ≠ sgnOf b
  pM : M.Perm (cs.map fun c => (c.id, c.at'))
  aM : Asc M
  bd : (cs.length : Int) ≤ n ∧ 1 ≤ n ∧ n ≤ hn ∧ hn ≤ 65536
  ok : ∀ c ∈ cs, okC c = true ∧ c.fits ∧ 1 ≤ c.id ∧ c.id < next
def dropL (id : Int) (cs : List Ctx) : List Ctx := cs.filter fun d => decide (d.id ≠ id)
def FirstC (c : Ctx) (cs : List Ctx) : Prop := c ∈ cs ∧ ∀ d ∈ cs, itLt (d.id, d.at') (c.id, c.at') = false
section
variable {n next hn : Int} {m : Held} {I : List (Sgn × Int)} {M : List It} {cs : List Ctx} {c d : Ctx} {s : Value}
theorem asc_split (h : cs.Pairwise fun a b => a.id < b.id) (hc : c ∈ cs) : ∃ l r, cs = l ++ c :: r ∧ (∀ d ∈ l, d.id ≠ c.id) ∧ (∀ d ∈ r, d.id ≠ c.id) := by
  obtain ⟨l, r, rfl⟩ := List.append_of_mem hc
  rw [List.pairwise_append] at h
  obtain ⟨_, h2, h3⟩ := h
  refine ⟨l, r, rfl, fun d hd e => ?_, fun d hd e => ?_⟩
  · have := h3 d hd c (by simp); omega
  · have := (List.pairwise_cons.1 h2).1 d hd; omega
theorem dropL_split {l r : List Ctx} (h1 : ∀ d ∈ l, d.id ≠ c.id) (h2 : ∀ d ∈ r, d.id ≠ c.id) : dropL c.id (l ++ c :: r) = l ++ r := by
  unfold dropL
  rw [List.filter_append, List.filter_cons, List.filter_eq_self.2 (fun d hd => by simpa using h1 d hd), List.filter_eq_self.2 (fun d hd => by simpa using h2 d hd)]
  simp
theorem asc_eq (h : cs.Pairwise fun a b => a.id < b.id) (hc : c ∈ cs) (hd : d ∈ cs) (e : c.id = d.id) : c = d := by
  obtain ⟨l, r, rfl, h1, h2⟩ := asc_split h hc
  rcases List.mem_append.1 hd with g | g
  · exact absurd e.symm (h1 d g)
  · rcases List.mem_cons.1 g with rfl | g
    · rfl
    · exact absurd e.symm (h2 d g)
variable (H : HInv n next hn m I M cs)
include H
theorem HInv.len : m.length = cs.length := by
  have := H.pm.length_eq; simpa using this
theorem HInv.mem {k : Int} (hg : aGet k m = some (c, s)) : c ∈ cs ∧ c.id = k := by
  have hm := aGet_mem hg
  refine ⟨H.pm.mem_iff.1 (List.mem_map.2 ⟨_, hm, rfl⟩), ?_⟩
  exact (H.key _ hm).symm
theorem HInv.keys : (m.map Prod.fst).Nodup := by
  have e : m.map Prod.fst = (m.map fun x => x.2.1).map (·.id) := by
    rw [List.map_map]
    exact List.map_congr_left fun x hx => H.key x hx
  rw [e]
  refine ((H.pm.map (·.id)).nodup_iff).2 ?_
  exact List.pairwise_map.2 (H.asc.imp fun h e => by omega)
theorem HInv.get (hc : c ∈ cs) : ∃ s, aGet c.id m = some (c, s) := by
  obtain ⟨x, hx, rfl⟩ := List.mem_map.1 (H.pm.mem_iff.2 hc)
  refine ⟨x.2.2, mem_aGet H.keys ?_⟩
  have := H.key x hx
  rw [← this]; exact hx
theorem HInv.get_none {k : Int} (h : ∀ c ∈ cs, c.id ≠ k) : aGet k m = none := aGet_none_of fun y hy => by
  have h1 := H.key _ hy
  exact h y.1 (H.pm.mem_iff.1 (List.mem_map.2 ⟨_, hy, rfl⟩)) h1.symm
theorem HInv.sgs : (I.map Prod.fst).Nodup := by
  refine ((H.pI.map Prod.fst).nodup_iff).2 ?_
  rw [List.map_map]
  exact List.pairwise_map.2 (H.sg.imp fun h => h)
theorem HInv.sget (hc : c ∈ cs) : aGet (sgnOf c) I = some c.id := mem_aGet H.sgs (H.pI.mem_iff.2 (List.mem_map.2 ⟨c, hc, rfl⟩))
theorem HInv.snone {g : Sgn} (h : ∀ c ∈ cs, sgnOf c ≠ g) : aGet g I = none := aGet_none_of fun y hy => by
  obtain ⟨c, hc, e⟩ := List.mem_map.1 (H.pI.mem_iff.1 hy)
  simp only [Prod.mk.injEq] at e
  exact h c hc e.1
theorem HInv.mids : (M.map (·.1)).Nodup := by
  refine ((H.pM.map (·.1)).nodup_iff).2 ?_
  rw [List.map_map]
  exact List.pairwise_map.2 (H.asc.imp fun h e => by simp at e; omega)
theorem HInv.mlen : M.length = cs.length := by
  have := H.pM.length_eq; simpa using this
omit H in
theorem okC_time (h : okC c = true) : 0 ≤ c.at' ∧ c.at' ≤ 2305843009213693952 := by
  unfold okC timeP at h
  simp only [Bool.and_eq_true, decide_eq_true_eq] at h
  exact h.2
omit H in
theorem HInv.add (H : HInv n next hn m I M cs) (ho : okC c = true) (hf : c.fits) (hs : ∀ d ∈ cs, sgnOf d ≠ sgnOf c) (hl : (cs.length : Int) < n) (hid : 1 ≤ next) :
    HInv n (next + 1) hn (aSet next ({ c with id := next }, s) m) (aSet (sgnOf c) next I) (setR hn next c.at' M).2 (cs ++ [{ c with id := next }]) := by
  have hnew : ∀ d ∈ cs, d.id ≠ next := fun d hd e => by have := (H.ok d hd).2.2.2; omega
  have g1 := H.get_none hnew
  have g2 := H.snone hs
  have g3 : ∀ t, (next, t) ∉ M := fun t ht => by
    obtain ⟨d, hd, e⟩ := List.mem_map.1 (H.pM.mem_iff.1 ht)
    simp only [Prod.mk.injEq] at e
    exact hnew d hd e.1
  have hb := H.bd
  have ht := okC_time ho
  have hM : (setR hn next c.at' M).2 = setM next c.at' M := by
    unfold setR
    rw [if_neg (by omega), if_neg (by rw [H.mlen]; omega)]
  rw [aSet_new g1, aSet_new g2, hM]
  refine ⟨?_, ?_, ?_, ?_, ?_, ?_, ?_, ?_, ?_⟩
  · rw [List.map_append]
    exact H.pm.append_right _
  · intro x hx
    rcases List.mem_append.1 hx with hx | hx
    · exact H.key x hx
    · simp at hx; subst hx; rfl
  · rw [List.pairwise_append]
    refine ⟨H.asc, by simp, fun a ha b hb => ?_⟩
    simp at hb; subst hb
    exact (H.ok a ha).2.2.2
  · rw [List.map_append]
    exact H.pI.append_right _
  · rw [List.pairwise_append]
    refine ⟨H.sg, by simp, fun a ha b hb => ?_⟩
    simp at hb; subst hb
    exact hs a ha
  · unfold setM
    rw [List.map_append]
    refine (insM_perm _ _).trans ?_
    rw [drop_absent g3]
    exact (H.pM.cons _).trans (List.perm_append_comm (l₁ := [(next, c.at')]))
  · exact (H.aM.drop _).ins _
  · simp; omega
  · intro d hd
    rcases List.mem_append.1 hd with hd | hd
    · have := H.ok d hd
      exact ⟨this.1, this.2.1, this.2.2.1, by omega⟩
    · simp at hd; subst hd
      exact ⟨(okC_id c next).trans ho, hf, hid, by show next < next + 1; omega⟩
omit H in
theorem HInv.drop (H : HInv n next hn m I M cs) (hc : c ∈ cs) : HInv n next hn (aDel c.id m) (aDel (sgnOf c) I) (dropM c.id M) (dropL c.id cs) := by
  obtain ⟨s0, g1⟩ := H.get hc
  have g2 := H.sget hc
  have hbm : (c.id, c.at') ∈ M := H.pM.mem_iff.2 (List.mem_map.2 ⟨c, hc, rfl⟩)
  obtain ⟨l, r, rfl, h1, h2⟩ := asc_split H.asc hc
  rw [dropL_split h1 h2]
  have hp := aDel_perm g1
  have sub : List.Sublist (l ++ r) (l ++ c :: r) := List.Sublist.append_left (List.sublist_cons_self _ _) _
  refine ⟨?_, ?_, H.asc.sublist sub, ?_, H.sg.sublist sub, ?_, H.aM.drop _, ?_, ?_⟩
  · have := ((hp.map fun x => x.2.1).trans H.pm).trans List.perm_middle
    exact List.Perm.cons_inv this
  · intro x hx
    exact H.key x (hp.mem_iff.1 (List.mem_cons_of_mem _ hx))
  · have hq := (aDel_perm g2).trans H.pI
    rw [List.map_append, List.map_cons] at hq
    rw [List.map_append]
    exact List.Perm.cons_inv (hq.trans List.perm_middle)
  · have hq := (drop_perm H.mids hbm).trans H.pM
    rw [List.map_append, List.map_cons] at hq
    rw [List.map_append]
    exact List.Perm.cons_inv (hq.trans List.perm_middle)
  · have := H.bd; simp at this ⊢; omega
  · exact fun d hd => H.ok d (sub.subset hd)
theorem HInv.first {x : It} (h : M.head? = some x) : ∃ c, FirstC c cs ∧ c.id = x.1 ∧ c.at' = x.2 := by
  obtain ⟨y, R, rfl⟩ : ∃ y R, M = y :: R := by
    cases M with
    | nil => simp at h
    | cons y R => exact ⟨y, R, rfl⟩
  obtain rfl : y = x := by simpa using h
  obtain ⟨c, hc, e⟩ := List.mem_map.1 (H.pM.mem_iff.1 (List.mem_cons_self ..))
  refine ⟨c, ⟨hc, fun d hd => ?_⟩, by rw [← e], by rw [← e]⟩
  rw [e]
  have hm := H.pM.mem_iff.2 (List.mem_map.2 ⟨d, hd, rfl⟩)
  rcases List.mem_cons.1 hm with h1 | h1
  · rw [h1]; exact itSWO.irr _
  · exact (List.pairwise_cons.1 H.aM).1 _ h1
end
theorem FirstC.eq {c d : Ctx} {cs : List Ctx} (h : cs.Pairwise fun a b => a.id < b.id) (hc : FirstC c cs) (hd : FirstC d cs) : c = d := by
  have := itTot (c.id, c.at') (d.id, d.at') (hd.2 c hc.1) (hc.2 d hd.1)
  exact asc_eq h hc.1 hd.1 (Prod.mk.inj this).1
theorem HInv.start {n : Int} (h1 : 1 ≤ n) (h2 : n ≤ 65536) (next : Int) : HInv n next n [] [] [] [] :=
  ⟨.nil, by simp, .nil, .nil, .nil, .nil, .nil, ⟨by simp; omega, h1, by omega, h2⟩, by simp⟩
end Go.Proofs.Gong

/- Hold2 -/

/- Ho6 -/
namespace Go.Proofs.Gong
open Go Go.Sx Go.Proofs
set_option maxRecDepth 100000
attribute [local irreducible] fBuild fLook fZero eqv bEqv Cl MapH LsH SlH ld1 ldN st callP eBox eAlloc lenM lenL eMapSet eDelete eAppend eBuildSl eRange eNext
def HoldA (v : Value) (n next : Int) (cs : List Ctx) : HP := HEx fun hn => HEx fun m => HEx fun I => HEx fun M => HPr (HInv n next hn m I M cs ∧ 1 ≤ next ∧ next ≤ 4611686018427387904) (HoldI v n next hn m I M)
section
variable {w0 w : World} {L : List HP} {K : Value → World → Prop} {v : Value} {n next hn : Int} {m : Held} {I : List (Sgn × Int)} {M : List It} {cs : List Ctx} {c : Ctx} {tv s : Value}
theorem holdA_iff : Sat w0 (HoldA v n next cs :: L) w ↔ ∃ hn m I M, (HInv n next hn m I M cs ∧ 1 ≤ next ∧ next ≤ 4611686018427387904) ∧ Sat w0 (HoldI v n next hn m I M :: L) w := by
  simp only [HoldA, Sat.ex_iff, Sat.pr_iff]
theorem alen_spec (h : Sat w0 (HoldA v n next cs :: L) w) (hK : K (.int .i64 cs.length) w) : callP G93 [v] w K := by
  replace h := holdA_iff.1 h
  obtain ⟨hn, m, I, M, H, h⟩ := h
  refine hlen_spec h ?_
  rw [H.1.len]; exact hK
theorem anew_spec (h1 : 1 ≤ n) (h2 : n ≤ 65536) (h : Sat w0 L w) (hK : ∀ p w', Sat w0 (HoldA (ptr p) n 1 [] :: L) w' → K (.tuple #[ptr p, .int .i64 0]) w') : callP G66 [.int .i64 n] w K :=
  hnew_spec h1 h2 h fun p w h => hK p w (holdA_iff.2 ⟨n, [], [], [], ⟨.start h1 h2 1, by omega, by omega⟩, h⟩)
end
end Go.Proofs.Gong

/- Be0 -/
namespace Go.Proofs.Gong
open Go Go.Sx Go.Proofs
set_option maxRecDepth 100000
structure BInv (n next : Int) (R : List (Int × Row)) (I : List (Sg × Int)) (rs : List Row) : Prop where
  pm : (R.map Prod.snd).Perm rs
  key : ∀ x ∈ R, x.1 = x.2.id
  asc : rs.Pairwise fun a b => a.id < b.id
  pI : I.Perm (rs.map fun r => (sgOf r.e, r.id))
  sg : rs.Pairwise fun a b => sgOf a.e ≠ sgOf b.e
  bd : (rs.length : Int) ≤ n ∧ 1 ≤ n ∧ n ≤ 65536
  ok : ∀ r ∈ rs, okR r = true ∧ r.id < next
def remL (id : Int) (rs : List Row) : List Row := rs.filter fun d => decide (d.id ≠ id)
def insR (r : Row) (rs : List Row) : List Row := rs.takeWhile (fun d => decide (d.id < r.id)) ++ r :: rs.dropWhile (fun d => decide (d.id < r.id))
section
variable {n next : Int} {R : List (Int × Row)} {I : List (Sg × Int)} {rs : List Row} {r d : Row}
theorem rasc_split (h : rs.Pairwise fun a b => a.id < b.id) (hc : r ∈ rs) : ∃ l t, rs = l ++ r :: t ∧ (∀ d ∈ l, d.id ≠ r.id) ∧ (∀ d ∈ t, d.id ≠ r.id) := by
  obtain ⟨l, t, rfl⟩ := List.append_of_mem hc
  rw [List.pairwise_append] at h
  obtain ⟨_, h2, h3⟩ := h
  refine ⟨l, t, rfl, fun d hd e => ?_, fun d hd e => ?_⟩
  · have := h3 d hd r (by simp); omega
  · have := (List.pairwise_cons.1 h2).1 d hd; omega
theorem remL_split {l t : List Row} (h1 : ∀ d ∈ l, d.id ≠ r.id) (h2 : ∀ d ∈ t, d.id ≠ r.id) : remL r.id (l ++ r :: t) = l ++ t := by
  unfold remL
  rw [List.filter_append, List.filter_cons, List.filter_eq_self.2 (fun d hd => by simpa using h1 d hd), List.filter_eq_self.2 (fun d hd => by simpa using h2 d hd)]
  simp
theorem rasc_eq (h : rs.Pairwise fun a b => a.id < b.id) (hc : r ∈ rs) (hd : d ∈ rs) (e : r.id = d.id) : r = d := by
  obtain ⟨l, t, rfl, h1, h2⟩ := rasc_split h hc
  rcases List.mem_append.1 hd with g | g
  · exact absurd e.symm (h1 d g)
  · rcases List.mem_cons.1 g with rfl | g
    · rfl
    · exact absurd e.symm (h2 d g)
theorem insR_perm (c : Row) (cs : List Row) : (insR c cs).Perm (c :: cs) := by
  unfold insR
  exact List.perm_middle.trans (by rw [List.takeWhile_append_dropWhile])
theorem insR_asc {c : Row} : ∀ {cs : List Row}, (cs.Pairwise fun a b => a.id < b.id) → (∀ d ∈ cs, d.id ≠ c.id) → (insR c cs).Pairwise fun a b => a.id < b.id
  | [], _, _ => by simp [insR]
  | d :: r, h, hn => by
    obtain ⟨h1, h2⟩ := List.pairwise_cons.1 h
    have hd := hn d (by simp)
    by_cases g : d.id < c.id
    · have e : insR c (d :: r) = d :: insR c r := by simp [insR, g]
      rw [e]
      refine List.pairwise_cons.2 ⟨fun x hx => ?_, insR_asc h2 fun x hx => hn x (List.mem_cons_of_mem _ hx)⟩
      rcases List.mem_cons.1 ((insR_perm c r).mem_iff.1 hx) with rfl | hx
      · exact g
      · exact h1 x hx
    · have e : insR c (d :: r) = c :: d :: r := by simp [insR, g]
      rw [e]
      refine List.pairwise_cons.2 ⟨fun x hx => ?_, h⟩
      rcases List.mem_cons.1 hx with rfl | hx
      · omega
      · have := h1 x hx; omega
variable (H : BInv n next R I rs)
include H
theorem BInv.len : R.length = rs.length := by
  have := H.pm.length_eq; simpa using this
theorem BInv.mem {k : Int} (hg : aGet k R = some r) : r ∈ rs ∧ r.id = k := by
  have hm := aGet_mem hg
  exact ⟨H.pm.mem_iff.1 (List.mem_map.2 ⟨_, hm, rfl⟩), (H.key _ hm).symm⟩
theorem BInv.keys : (R.map Prod.fst).Nodup := by
  have e : R.map Prod.fst = (R.map Prod.snd).map (·.id) := by
    rw [List.map_map]
    exact List.map_congr_left fun x hx => H.key x hx
  rw [e]
  refine ((H.pm.map (·.id)).nodup_iff).2 ?_
  exact List.pairwise_map.2 (H.asc.imp fun h e => by omega)
theorem BInv.get (hc : r ∈ rs) : aGet r.id R = some r := by
  obtain ⟨x, hx, rfl⟩ := List.mem_map.1 (H.pm.mem_iff.2 hc)
  refine mem_aGet H.keys ?_
  rw [← H.key x hx]; exact hx
theorem BInv.get_none {k : Int} (h : ∀ c ∈ rs, c.id ≠ k) : aGet k R = none := aGet_none_of fun y hy => by
  have h1 := H.key _ hy
  exact h y (H.pm.mem_iff.1 (List.mem_map.2 ⟨_, hy, rfl⟩)) h1.symm
theorem BInv.sgs : (I.map Prod.fst).Nodup := by
  refine ((H.pI.map Prod.fst).nodup_iff).2 ?_
  rw [List.map_map]
  exact List.pairwise_map.2 (H.sg.imp fun h => h)
theorem BInv.sget (hc : r ∈ rs) : aGet (sgOf r.e) I = some r.id := mem_aGet H.sgs (H.pI.mem_iff.2 (List.mem_map.2 ⟨r, hc, rfl⟩))
theorem BInv.snone {g : Sg} (h : ∀ c ∈ rs, sgOf c.e ≠ g) : aGet g I = none := aGet_none_of fun y hy => by
  obtain ⟨c, hc, e⟩ := List.mem_map.1 (H.pI.mem_iff.1 hy)
  simp only [Prod.mk.injEq] at e
  exact h c hc e.1
omit H in
theorem BInv.ins (H : BInv n next R I rs) (ho : okR r = true) (hs : ∀ d ∈ rs, sgOf d.e ≠ sgOf r.e) (hnew : ∀ d ∈ rs, d.id ≠ r.id) (hl : (rs.length : Int) < n) (h2 : r.id < next) :
    BInv n next (aSet r.id r R) (aSet (sgOf r.e) r.id I) (insR r rs) := by
  have g1 := H.get_none hnew
  have g2 := H.snone hs
  rw [aSet_new g1, aSet_new g2]
  have hp := insR_perm r rs
  refine ⟨?_, ?_, insR_asc H.asc hnew, ?_, ?_, ?_, ?_⟩
  · rw [List.map_append]
    refine (List.perm_append_comm.trans ?_).trans hp.symm
    exact H.pm.cons _
  · intro x hx
    rcases List.mem_append.1 hx with hx | hx
    · exact H.key x hx
    · simp at hx; subst hx; rfl
  · refine (List.perm_append_comm.trans ?_).trans (hp.map _).symm
    exact H.pI.cons _
  · refine hp.symm.pairwise ?_ (fun h => h.symm)
    exact List.pairwise_cons.2 ⟨fun d hd e => hs d hd e.symm, H.sg⟩
  · have := hp.length_eq; have := H.bd; simp at *; omega
  · intro d hd
    rcases List.mem_cons.1 (hp.mem_iff.1 hd) with rfl | hd
    · exact ⟨ho, h2⟩
    · exact H.ok d hd
omit H in
theorem BInv.rem (H : BInv n next R I rs) (hc : r ∈ rs) : BInv n next (aDel r.id R) (aDel (sgOf r.e) I) (remL r.id rs) := by
  have g1 := H.get hc
  have g2 := H.sget hc
  obtain ⟨l, t, rfl, h1, h2⟩ := rasc_split H.asc hc
  rw [remL_split h1 h2]
  have hp := aDel_perm g1
  have sub : List.Sublist (l ++ t) (l ++ r :: t) := List.Sublist.append_left (List.sublist_cons_self _ _) _
  refine ⟨?_, ?_, H.asc.sublist sub, ?_, H.sg.sublist sub, ?_, ?_⟩
  · have := ((hp.map Prod.snd).trans H.pm).trans List.perm_middle
    exact List.Perm.cons_inv this
  · intro x hx
    exact H.key x (hp.mem_iff.1 (List.mem_cons_of_mem _ hx))
  · have hq := (aDel_perm g2).trans H.pI
    rw [List.map_append, List.map_cons] at hq
    rw [List.map_append]
    exact List.Perm.cons_inv (hq.trans List.perm_middle)
  · have := H.bd; simp at this ⊢; omega
  · exact fun d hd => H.ok d (sub.subset hd)
end
theorem BInv.start {n : Int} (h1 : 1 ≤ n) (h2 : n ≤ 65536) (next : Int) : BInv n next [] [] [] := ⟨.nil, by simp, .nil, .nil, .nil, ⟨by simp; omega, h1, h2⟩, by simp⟩
end Go.Proofs.Gong

/- Board2 -/

/- Be1 -/
namespace Go.Proofs.Gong
open Go Go.Sx Go.Proofs
set_option maxRecDepth 100000
attribute [local irreducible] fBuild fLook fZero eqv bEqv Cl MapH LsH SlH ld1 ldN st callP eBox eAlloc lenM lenL eMapSet eDelete eAppend eBuildSl eRange eNext
theorem CR : Cod cRow 11 := ⟨fun _ => rfl, fun _ => rfl, by omega⟩
instance : CodC cRow 11 := ⟨CR⟩
instance : Inhabited Row := ⟨zeroR⟩
def BoardA (v : Value) (n next : Int) (rs : List Row) : HP := HEx fun R => HEx fun I => HPr (BInv n next R I rs ∧ 1 ≤ next ∧ next ≤ 4611686018427387904) (BoardI v n next R I)
def idV (x y : Row) : Int := if x.id < y.id then -1 else if y.id < x.id then 1 else 0
def idLt (x y : Row) : Bool := decide (x.id < y.id)
theorem idSWO : SWO idLt := by
  constructor <;> intros <;> simp_all [idLt] <;> omega
theorem idV_neg (x y : Row) : idV x y < 0 ↔ idLt x y = true := by unfold idV idLt; split <;> (try split) <;> simp_all
section
variable {w0 w : World} {L : List HP} {K : Value → World → Prop} {v : Value} {n next : Int} {R : List (Int × Row)} {I : List (Sg × Int)} {rs : List Row} {r : Row}
theorem boardA_iff : Sat w0 (BoardA v n next rs :: L) w ↔ ∃ R I, (BInv n next R I rs ∧ 1 ≤ next ∧ next ≤ 4611686018427387904) ∧ Sat w0 (BoardI v n next R I :: L) w := by
  simp only [BoardA, Sat.ex_iff, Sat.pr_iff]
theorem boardA_inv (h : Sat w0 (BoardA v n next rs :: L) w) : ∃ R I, BInv n next R I rs := by
  obtain ⟨R, I, H, _⟩ := boardA_iff.1 h
  exact ⟨R, I, H.1⟩
theorem byid_calls (W : World) (x y : Row) : callP G25 [.agg (cRow x).toArray, .agg (cRow y).toArray] W fun v w' => v = .int .i64 (idV x y) ∧ Gr W w' := by
  refine c25 ?_
  unfold F25
  refine eBox_ex (Sat.start W) (Gr.refl W) fun p w1 h1 g1 => ?_
  refine eBox_ex h1 g1 fun q w2 h2 g2 => ?_
  have hp := h2.f1.cl
  have hq := h2.cl
  simp only [cRow, cells_agg] at hp hq
  simp [ptr, cell_of hp, cell_of hq]
  exact cmp_spec ⟨rfl, g2⟩
theorem balen_spec (h : Sat w0 (BoardA v n next rs :: L) w) (hK : K (.int .i64 rs.length) w) : callP G91 [v] w K := by
  replace h := boardA_iff.1 h
  obtain ⟨R, I, H, h⟩ := h
  refine blen_spec h ?_
  rw [H.1.len]; exact hK
theorem banew_spec (h1 : 1 ≤ n) (h2 : n ≤ 65536) (h : Sat w0 L w) (hK : ∀ p w', Sat w0 (BoardA (ptr p) n 1 [] :: L) w' → K (.tuple #[ptr p, .int .i64 0]) w') : callP G65 [.int .i64 n] w K :=
  bnew_spec h h1 h2 fun p w h => hK p w (boardA_iff.2 ⟨[], [], ⟨.start h1 h2 1, by omega, by omega⟩, h⟩)
theorem fbRow (x : Row) : fBuildSl Tryz.prog 45 1 [(0, .agg (cRow x).toArray)] = some (cRow x).toArray := by kernel_rfl
theorem baall_spec (h : Sat w0 (BoardA v n next rs :: L) w) (hK : ∀ s w', Sat w0 (LsH cRow 11 45 s rs :: BoardA v n next rs :: L) w' → K s w') : callP G8 [v] w K := by
  refine c8 ?_
  unfold F8
  replace h := boardA_iff.1 h
  obtain ⟨R, I, H, h⟩ := h
  replace h := board_iff.1 h
  obtain ⟨p, mr, mi, rfl, h⟩ := h
  obtain ⟨r1, _, _, ⟨rfl, _⟩, _⟩ := map_iff.1 (h.frt (A := MapH kI rowV mr R))
  (repeat(first
|simp(disch:=omega)only[evA,evB,evC,bAdd_i64,bSub_i64]
|with_reducible refine go_s h ?_))
  refine c24 ?_
  unfold F24
  (repeat(first
|simp(disch:=omega)only[evA,evB,evC,bAdd_i64,bSub_i64]
|((with_reducible apply go_box h);rfl;intro _ _ h)))
  refine c23 ?_
  unfold F23
  refine c44 ?_
  unfold F44
  have hb := H.1.bd
  refine appS_sat (ek := kI) (ev := rowV) (fv := cRow) (m := R) (L := Cl p #[.int .i64 n, .int .i64 next, .map (some r1), mi] 94 :: MapH ekS kI mi I :: L) CR (fun _ => rfl) fbRow (by rw [H.1.len]; omega) (h.got) fun l s w hp h => ?_
  have hll : l.length = rs.length := by
    have := hp.length_eq
    rw [List.length_map, H.1.len] at this; exact this
  refine sortF_sat (lt := idLt) (cf := idV) (l := l) h (by omega) CR idSWO idV_neg ok25 Tryz.call25 byid_calls fun l' w h3 h4 h => ?_
  have el : l' = rs := by
    refine List.Perm.eq_of_pairwise (le := fun a b : Row => idLt b a = false) (fun a b ha hb h1 h2 => ?_) h4 (H.1.asc.imp fun h => by simp [idLt]; omega) ((h3.trans hp).trans H.1.pm)
    have hp2 := (h3.trans hp).trans H.1.pm
    simp [idLt] at h1 h2
    exact rasc_eq H.1.asc (hp2.mem_iff.1 ha) hb (by omega)
  subst el
  exact hK _ _ (Sat.f1 (boardA_iff.2 ⟨R, I, H, board_iff.2 ⟨p, _, mi, rfl, h.got⟩⟩))
end
end Go.Proofs.Gong

/- Be2 -/
namespace Go.Proofs.Gong
open Go Go.Sx Go.Proofs
set_option maxRecDepth 100000
attribute [local irreducible] fBuild fLook fZero eqv bEqv Cl MapH LsH SlH ld1 ldN st callP eBox eAlloc lenM lenL eMapSet eDelete eAppend eBuildSl eRange eNext
section
variable {w0 w : World} {L : List HP} {K : Value → World → Prop} {v : Value} {n next : Int} {R : List (Int × Row)} {I : List (Sg × Int)} {rs : List Row} {r : Row}
end
end Go.Proofs.Gong

/- Be3 -/
namespace Go.Proofs.Gong
open Go Go.Sx Go.Proofs
set_option maxRecDepth 100000
attribute [local irreducible] fBuild fLook fZero eqv bEqv Cl MapH LsH SlH ld1 ldN st callP eBox eAlloc lenM lenL eMapSet eDelete eAppend eBuildSl eRange eNext
section
variable {w0 w : World} {L : List HP} {K : Value → World → Prop} {v : Value} {n next : Int} {R : List (Int × Row)} {I : List (Sg × Int)} {rs : List Row} {r : Row}
end
end Go.Proofs.Gong

/- Be4 -/
namespace Go.Proofs.Gong
open Go Go.Sx Go.Proofs
set_option maxRecDepth 100000
attribute [local irreducible] fBuild fLook fZero eqv bEqv Cl MapH LsH SlH ld1 ldN st callP eBox eAlloc lenM lenL eMapSet eDelete eAppend eBuildSl eRange eNext
section
variable {w0 w : World} {L : List HP} {K : Value → World → Prop} {v : Value} {n next : Int} {R : List (Int × Row)} {I : List (Sg × Int)} {rs : List Row} {r : Row}
end
end Go.Proofs.Gong

/- Be5 -/
namespace Go.Proofs.Gong
open Go Go.Sx Go.Proofs
set_option maxRecDepth 100000
def loadStepR (next : Int) (rs : List Row) (r : Row) : Option (List Row) :=
  if okR r = true ∧ r.id < next ∧ (∀ d ∈ rs, d.id ≠ r.id) ∧ (∀ d ∈ rs, sgOf d.e ≠ sgOf r.e) then some (insR r rs) else none
def loadR (next : Int) : List Row → List Row → Option (List Row)
  | [], rs => some rs
  | r :: l, rs => (loadStepR next rs r).bind (loadR next l)
attribute [local irreducible] fBuild fLook fZero eqv bEqv Cl MapH LsH SlH ld1 ldN st callP eBox eAlloc lenM lenL eMapSet eDelete eAppend eBuildSl eRange eNext
section
variable {w0 w : World} {L : List HP} {K : Value → World → Prop} {v : Value} {n next : Int} {R : List (Int × Row)} {I : List (Sg × Int)} {rs : List Row} {r : Row}
theorem bload2 {p : Nat} {sv : Value} {l ds : List Row} {next0 : Int} (hlen : (l.length : Int) ≤ n) (hn : 1 ≤ n ∧ n ≤ 65536) (hnx : 1 ≤ next ∧ next ≤ 1152921504606846976) (hrd : RdL w0 L cRow 11 sv l)
    (hK : ∀ w', Sat w0 (BoardA (ptr p) n next ds :: L) w' → K (.int .i64 0) w') :
    ∀ (d i : Nat) (cs : List Row) (R : List (Int × Row)) (I : List (Sg × Int)) (w : World), l.length - i < d → i ≤ l.length → cs.length = i → loadR next (l.drop i) cs = some ds → BInv n next R I cs →
      Sat w0 (BoardI (ptr p) n next0 R I :: L) w → F20_4L d (ptr p) (.int .i64 next) sv (.int .i64 (l.length : Nat)) (.int .i64 i) w K := by
  intro d
  induction d with
  | zero => intro i _ _ _ _ hd; omega
  | succ d ih =>
    intro i cs R I w hd hi hc he H h
    rw [F20_4L]
    unfold F20_4b
    by_cases g : i < l.length
    · have g' : decide ((i : Int) < (l.length : Int)) = true := by simpa using g
      rw [List.drop_eq_getElem_cons g] at he
      unfold loadR loadStepR at he
      split at he
      case isFalse => cases he
      rename_i hs
      have hrL : Rd w 11 sv l.length (l.flatMap cRow) := hrd w (h.got)
      (repeat simp(disch:=omega)only[evA,evB,evC,bAdd_i64,bSub_i64,g'])
      refine go_some (ix_el hrL g) ?_
      refine go_some (rd_ld CR hrL g) ?_
      skip
      refine go_alloc h zR rfl fun _ _ h => ?_
      (repeat(first
|with_reducible refine go_s h ?_
|((with_reducible apply go_stA h);rfl;rfl;(first|rfl|simp[OneV.o]);intro _ h)))
      refine put_bspec (r := l[i]) (v := ptr p) (n := n) (next := next0) (R := R) (I := I) (L := _ :: L) (h.got) fun w h => ?_
      skip
      refine ih (i + 1) (insR l[i] cs) _ _ w (by omega) (by omega) ?_ he (H.ins hs.1 hs.2.2.2 hs.2.2.1 (by omega) hs.2.1) (h.got)
      have := (insR_perm l[i] cs).length_eq; simp at this; omega
    · have g' : decide ((i : Int) < (l.length : Int)) = false := by simpa using g
      rw [List.drop_eq_nil_of_le (by omega)] at he
      simp only [loadR, Option.some.injEq] at he
      subst he
      (repeat simp(disch:=omega)only[evA,evB,evC,bAdd_i64,bSub_i64,g'])
      unfold F20_5 F20_5b
      replace h := board_iff.1 h
      obtain ⟨p', mr, mi, e, h⟩ := h
      cases e
      (repeat(first
|simp(disch:=omega)only[evA,evB,evC,bAdd_i64,bSub_i64]
|((with_reducible refine go_w h ?_);intro _ h)))
      exact hK _ (boardA_iff.2 ⟨R, I, ⟨H, by omega, by omega⟩, board_iff.2 ⟨p, mr, mi, rfl, h.got⟩⟩)
theorem bload1 {q : Nat} {v sv : Value} {l : List Row} (hfit : ∀ x ∈ l, x.e.fits ∧ x.who.length < 1073741824) (hlen : l.length ≤ 65536) (hnx : 1 ≤ next ∧ next ≤ 1152921504606846976) (hrd : RdL w0 L cRow 11 sv l)
    (hK0 : loadR next l [] = none → ∀ w', Sat w0 L w' → K (.int .i64 4) w') (hK1 : ∀ ds, loadR next l [] = some ds → ∀ w', Sat w0 L w' → F20_3 v sv (.int .i64 next) w' K) :
    ∀ (d i : Nat) (cs : List Row) (R : List (Int × Row)) (I : List (Sg × Int)) (w : World), l.length - i < d → i ≤ l.length → cs.length = i → loadR next l [] = loadR next (l.drop i) cs → BInv 65536 next R I cs →
      Sat w0 (BoardI (ptr q) n next R I :: L) w → F20_2L d v sv (.int .i64 next) (ptr q) sv (.int .i64 (l.length : Nat)) (.int .i64 i) w K := by
  intro d
  induction d with
  | zero => intro i _ _ _ _ hd; omega
  | succ d ih =>
    intro i cs R I w hd hi hc he H h
    rw [F20_2L]
    unfold F20_2b
    by_cases g : i < l.length
    · have g' : decide ((i : Int) < (l.length : Int)) = true := by simpa using g
      rw [List.drop_eq_getElem_cons g] at he
      replace h := board_iff.1 h
      obtain ⟨p', mr, mi, e, h⟩ := h
      cases e
      have := map_one (h.frt (A := MapH kI rowV mr R))
      have := map_one (h.frt (A := MapH ekS kI mi I))
      have hrL : Rd w 11 sv l.length (l.flatMap cRow) := hrd w (h.got)
      (repeat simp(disch:=omega)only[evA,evB,evC,bAdd_i64,bSub_i64,g'])
      refine go_some (ix_el hrL g) ?_
      refine go_some (rd_ld CR hrL g) ?_
      have hfc := hfit _ (List.getElem_mem g)
      generalize l[i] = c at he hfc
      have hbad : loadStepR next cs c = none → loadR next l [] = none := fun h => by rw [he]; simp [loadR, h]
      skip
      refine go_alloc h zR rfl fun _ _ h => ?_
      (repeat(first
|simp(disch:=omega)only[evA,evB,evC,bAdd_i64,bSub_i64]
|with_reducible refine go_s h ?_
|((with_reducible apply go_stA h);rfl;rfl;(first|rfl|simp[OneV.o]);intro _ h)))
      refine go_look2 h (by repeat(first|exact .here|apply Fnt.there)) KIr um91 zR c.id ?_
      rw [elimR]
      (repeat simp(disch:=omega)only[evA,evB,evC,bAdd_i64,bSub_i64])
      refine go_alloc h zR rfl fun _ _ h => ?_
      (repeat with_reducible refine go_s h ?_)
      refine go_fok ((look2 (h.frt) KIr um91 zR c.id).trans (by rw [elimR])) ?_
      (repeat(first
|with_reducible refine go_s h ?_
|((with_reducible apply go_stA h);rfl;rfl;(first|rfl|simp[OneV.o]);intro _ h)))
      refine of_spec (e := c.e) h.drew fun w h => ?_
      (repeat with_reducible refine go_s h ?_)
      refine go_look2 h (by repeat(first|exact .here|apply Fnt.there)) KS um92 z3 (sgOf c.e) ?_
      (repeat(first
|simp(disch:=omega)only[evA,evB,evC,bAdd_i64,bSub_i64]
|with_reducible refine go_s h ?_))
      refine bcheck_spec (r := c) hfc.1 hfc.2 h fun w h => ?_
      unfold chkR
      cases g1 : okR c
      · have d4 : decide ((4 : Int) = 0) = false := by decide
        (repeat simp(disch:=omega)only[evA,evB,evC,bAdd_i64,bSub_i64,Bool.false_eq_true,if_false,d4])
        exact hK0 (hbad (by unfold loadStepR; rw [if_neg]; simp [g1])) _ (h.got)
      by_cases g3 : c.id ≥ next
      · have g3' : decide (c.id ≥ next) = true := by simpa using g3
        (repeat(first
|simp(disch:=omega)only[evA,evB,evC,bAdd_i64,bSub_i64,if_true,g3']
|with_reducible refine go_s h ?_))
        exact hK0 (hbad (by unfold loadStepR; rw [if_neg]; omega)) _ (h.got)
      have g3' : decide (c.id ≥ next) = false := by simpa using g3
      cases g4 : (aGet c.id R).isSome
      case true =>
        (repeat(first
|simp(disch:=omega)only[evA,evB,evC,bAdd_i64,bSub_i64,if_true,g3']
|with_reducible refine go_s h ?_))
        refine hK0 (hbad ?_) _ (h.got)
        unfold loadStepR
        rw [if_neg]
        intro hh
        rw [H.get_none hh.2.2.1] at g4; cases g4
      cases g5 : (aGet (sgOf c.e) I).isSome
      case true =>
        (repeat(first
|simp(disch:=omega)only[evA,evB,evC,bAdd_i64,bSub_i64,if_true,g3']
|with_reducible refine go_s h ?_))
        refine hK0 (hbad ?_) _ (h.got)
        unfold loadStepR
        rw [if_neg]
        intro hh
        rw [H.snone hh.2.2.2] at g5; cases g5
      have n1 : ∀ d ∈ cs, d.id ≠ c.id := fun d hd e => by
        have hs := H.get hd
        rw [e] at hs; rw [hs] at g4; cases g4
      have n2 : ∀ d ∈ cs, sgOf d.e ≠ sgOf c.e := fun d hd e => by
        have hs := H.sget hd
        rw [e] at hs; rw [hs] at g5; cases g5
      have hstep : loadStepR next cs c = some (insR c cs) := by
        unfold loadStepR
        rw [if_pos ⟨g1, by omega, n1, n2⟩]
      (repeat(first
|simp(disch:=omega)only[evA,evB,evC,bAdd_i64,bSub_i64,if_true,g3']
|with_reducible refine go_s h ?_))
      refine put_bspec (r := c) (v := ptr q) (n := n) (next := next) (R := R) (I := I) (L := _ :: _ :: L) (board_iff.2 ⟨q, mr, mi, rfl, h.got⟩) fun w h => ?_
      skip
      refine ih (i + 1) (insR c cs) _ _ w (by omega) (by omega) ?_ ?_ (H.ins g1 n2 n1 (by omega) (by omega)) (h.got)
      · have := (insR_perm c cs).length_eq; simp at this; omega
      · rw [he]; simp [loadR, hstep]
    · have g' : decide ((i : Int) < (l.length : Int)) = false := by simpa using g
      (repeat simp(disch:=omega)only[evA,evB,evC,bAdd_i64,bSub_i64,g'])
      refine hK1 cs ?_ w (h.got)
      rw [he, List.drop_eq_nil_of_le (by omega)]; rfl
theorem baload_spec {sv : Value} {l : List Row} {next0 : Int} (hfit : ∀ x ∈ l, x.e.fits ∧ x.who.length < 1073741824) (hlen : l.length ≤ 65536) (hl : ∀ {w}, Sat w0 L w → lenL sv = some (.int .i64 l.length)) (hrd : RdL w0 L cRow 11 sv l)
    (h : Sat w0 (BoardA v n next0 rs :: L) w)
    (hKbad : (next < 1 ∨ 1152921504606846976 < next ∨ loadR next l [] = none) → ∀ w', Sat w0 (BoardA v n next0 rs :: L) w' → K (.int .i64 4) w')
    (hKfull : ∀ ds, loadR next l [] = some ds → 1 ≤ next ∧ next ≤ 1152921504606846976 → n < l.length → ∀ w', Sat w0 (BoardA v n next0 rs :: L) w' → K (.int .i64 200) w')
    (hK : ∀ ds, loadR next l [] = some ds → 1 ≤ next ∧ next ≤ 1152921504606846976 → (l.length : Int) ≤ n → ∀ w', Sat w0 (BoardA v n next ds :: L) w' → K (.int .i64 0) w') : callP G20 [v, sv, .int .i64 next] w K := by
  refine c20 ?_
  unfold F20 F20_1 F20_1b F20_2
  have hl := hl h.drop
  by_cases g1 : next < 1
  · have g1' : decide (next < 1) = true := by simpa using g1
    (repeat simp(disch:=omega)only[evA,evB,evC,bAdd_i64,bSub_i64,g1'])
    exact hKbad (.inl g1) _ h
  have g1' : decide (next < 1) = false := by simpa using g1
  by_cases g2 : next > 1152921504606846976
  · have g2' : decide (next > 1152921504606846976) = true := by simpa using g2
    (repeat simp(disch:=omega)only[evA,evB,evC,bAdd_i64,bSub_i64,g1',g2'])
    exact hKbad (.inr (.inl g2)) _ h
  have g2' : decide (next > 1152921504606846976) = false := by simpa using g2
  replace h := boardA_iff.1 h
  obtain ⟨R, I, H, h⟩ := h
  replace h := board_iff.1 h
  obtain ⟨p, mr, mi, rfl, h⟩ := h
  (repeat(first
|simp(disch:=omega)only[evA,evB,evC,bAdd_i64,bSub_i64,g1',g2']
|with_reducible refine go_s h ?_))
  refine eMakeMap_sat kI rowV h fun m1 w h => ?_
  obtain ⟨r1, _, _, ⟨e1, _⟩, _⟩ := map_iff.1 h
  refine eMakeMap_sat ekS kI h fun m2 w h => ?_
  obtain ⟨r2, _, _, ⟨e2, _⟩, _⟩ := map_iff.1 h
  subst e1 e2
  have eb : fBuild Tryz.prog 94 [(0, .int .i64 n), (1, .int .i64 next), (2, .map (some r1)), (3, .map (some r2))] = some (.agg #[.int .i64 n, .int .i64 next, .map (some r1), .map (some r2)]) := by kernel_rfl
  refine go_some eb ?_
  refine eBox_sat h fun q w h => ?_
  simp only [cells_agg] at h
  refine go_some hl ?_
  have h2 : Sat w0 (BoardI (ptr q) n next [] [] :: BoardA (ptr p) n next0 rs :: L) w := by
    refine board_iff.2 ⟨q, .map (some r1), .map (some r2), rfl, ?_⟩
    have h3 : Sat w0 (BoardA (ptr p) n next0 rs :: Cl q #[.int .i64 n, .int .i64 next, .map (some r1), .map (some r2)] 94 :: MapH ekS kI (.map (some r2)) [] :: MapH kI rowV (.map (some r1)) [] :: L) w := boardA_iff.2 ⟨R, I, H, board_iff.2 ⟨p, mr, mi, rfl, h.got⟩⟩
    exact h3.got
  refine bload1 (L := BoardA (ptr p) n next0 rs :: L) hfit hlen (by omega) hrd.cons (fun hb w h => hKbad (.inr (.inr hb)) w h) (fun ds hds w h => ?_) fuel 0 [] [] [] w (by unfold fuel; omega) (by omega) rfl (by simp) (.start (by omega) (by omega) next) h2
  clear h2
  unfold F20_3 F20_3b
  replace h := boardA_iff.1 h
  obtain ⟨R, I, H, h⟩ := h
  replace h := board_iff.1 h
  obtain ⟨p', mr, mi, e, h⟩ := h
  cases e
  have := map_one (h.frt (A := MapH kI rowV mr R))
  have := map_one (h.frt (A := MapH ekS kI mi I))
  by_cases g3 : (l.length : Int) > n
  · have g3' : decide ((l.length : Int) > n) = true := by simpa using g3
    (repeat(first
|simp(disch:=omega)only[evA,evB,evC,bAdd_i64,bSub_i64,hl,g3']
|with_reducible refine go_s h ?_))
    exact hKfull ds hds (by omega) (by omega) _ (boardA_iff.2 ⟨R, I, H, board_iff.2 ⟨p, mr, mi, rfl, h.got⟩⟩)
  · have g3' : decide ((l.length : Int) > n) = false := by simpa using g3
    (repeat(first
|simp(disch:=omega)only[evA,evB,evC,bAdd_i64,bSub_i64,hl,g3']
|with_reducible refine go_s h ?_))
    refine eClear_sat (h.frt (A := MapH kI rowV mr R)) um91 fun w h => ?_
    (repeat with_reducible refine go_s h ?_)
    refine eClear_sat (h.frt (A := MapH ekS kI mi I)) um92 fun w h => ?_
    skip
    unfold F20_4
    have hb := H.1.bd
    refine bload2 (next0 := next0) (by omega) (by omega) (by omega) hrd (fun w h => hK ds hds (by omega) (by omega) w h) fuel 0 [] [] [] w (by unfold fuel; omega) (by omega) rfl (by simpa using hds) (.start (by omega) (by omega) next) (board_iff.2 ⟨p, mr, mi, rfl, h.got⟩)
end
end Go.Proofs.Gong

/- Be6 -/
namespace Go.Proofs.Gong
open Go Go.Sx Go.Proofs
set_option maxRecDepth 100000
attribute [local irreducible] fBuild fLook fZero eqv bEqv Cl MapH LsH SlH ld1 ldN st callP eBox eAlloc lenM lenL eMapSet eDelete eAppend eBuildSl eRange eNext
section
variable {w0 w : World} {L : List HP} {K : Value → World → Prop} {ha hb s0 s1 s2 : Value} {n next : Int} {cs : List Row}
end
end Go.Proofs.Gong

/- Be7 -/
namespace Go.Proofs.Gong
open Go Go.Sx Go.Proofs
set_option maxRecDepth 100000
attribute [local irreducible] fBuild fLook fZero eqv bEqv Cl MapH LsH SlH ld1 ldN st callP eBox eAlloc lenM lenL eMapSet eDelete eAppend eBuildSl eRange eNext
section
variable {w0 w : World} {L : List HP} {K : Value → World → Prop} {v : Value} {n next : Int} {R : List (Int × Row)} {I : List (Sg × Int)} {rs : List Row} {r : Row}
end
end Go.Proofs.Gong

/- Be8 -/
namespace Go.Proofs.Gong
open Go Go.Sx Go.Proofs
set_option maxRecDepth 100000
attribute [local irreducible] fBuild fLook fZero eqv bEqv Cl MapH LsH SlH ld1 ldN st callP eBox eAlloc lenM lenL eMapSet eDelete eAppend eBuildSl eRange eNext
section
variable {w0 w : World} {L : List HP} {K : Value → World → Prop} {n next : Int} {rs : List Row}
end
end Go.Proofs.Gong

/- Be9 -/
namespace Go.Proofs.Gong
open Go Go.Sx Go.Proofs
set_option maxRecDepth 100000
attribute [local irreducible] fBuild fLook fZero eqv bEqv Cl MapH LsH SlH ld1 ldN st callP eBox eAlloc lenM lenL eMapSet eDelete eAppend eBuildSl eRange eNext
section
variable {w0 w : World} {L : List HP} {K : Value → World → Prop} {n next : Int} {rs : List Row}
end
end Go.Proofs.Gong

/- Bf0 -/
namespace Go.Proofs.Gong
open Go Go.Sx Go.Proofs
set_option maxRecDepth 100000
section
variable {n next : Int} {rs : List Row} {op : List (Int × Bool)}
end
attribute [local irreducible] fBuild fLook fZero eqv bEqv Cl MapH LsH SlH ld1 ldN st callP eBox eAlloc lenM lenL eMapSet eDelete eAppend eBuildSl eRange eNext
section
variable {w0 w : World} {L : List HP} {K : Value → World → Prop} {n next last : Int} {rs : List Row} {s0 s1 b ov : Value} {op : List (Int × Bool)} {i0 : Nat} {l cl : List Int} {R3 : Value → Value → Value → Value → Value → Value → World → Prop}
end
end Go.Proofs.Gong

/- Bf1 -/
namespace Go.Proofs.Gong
open Go Go.Sx Go.Proofs
set_option maxRecDepth 100000
attribute [local irreducible] fBuild fLook fZero eqv bEqv Cl MapH LsH SlH ld1 ldN st callP eBox eAlloc lenM lenL eMapSet eDelete eAppend eBuildSl eRange eNext
section
variable {w0 w : World} {L : List HP} {K : Value → World → Prop} {n next last : Int} {rs : List Row} {s0 s1 b ov : Value} {op : List (Int × Bool)} {i0 : Nat} {l cl : List Int} {R3 : Value → Value → Value → Value → Value → Value → World → Prop}
end
end Go.Proofs.Gong

/- Board3 -/

/- Bp0 -/
namespace Go.Proofs.Gong
open Go Go.Sx Go.Proofs
set_option maxRecDepth 100000
def RefB (v : Value) (n next : Int) (rs : List Row) : HP := HEx fun p => HEx fun s => HPr (v = ptr p) (HSt (Cl p #[.int .i64 n, .int .i64 next, s] 122) (LsH cRow 11 45 s rs))
section
variable {rs : List Row} {i : Nat}
end
attribute [local irreducible] fBuild fLook fZero eqv bEqv Cl MapH LsH SlH ld1 ldN st callP eBox eAlloc lenM lenL eMapSet eDelete eAppend eBuildSl eRange eNext
section
variable {w0 w : World} {L : List HP} {K : Value → World → Prop} {v : Value} {n next : Int} {rs : List Row} {r : Row}
theorem refB_iff : Sat w0 (RefB v n next rs :: L) w ↔ ∃ p s, v = ptr p ∧ Sat w0 (Cl p #[.int .i64 n, .int .i64 next, s] 122 :: LsH cRow 11 45 s rs :: L) w := by
  simp only [RefB, Sat.ex_iff, Sat.pr_iff, Sat.star_iff]
theorem rsign_spec {a b : Evt} (h : Sat w0 L w) (hK : ∀ w', Sat w0 L w' → K (.bool (decide (sgOf a = sgOf b))) w') : callP G39 [evV a, evV b] w K := by
  refine c39 ?_
  unfold F39
  (repeat(first
|simp(disch:=omega)only[evA,evB,evC,bAdd_i64,bSub_i64]
|with_reducible refine go_s h ?_
|((with_reducible apply go_box h);rfl;intro _ _ h)))
  by_cases e1 : a.node = b.node
  case' neg =>
    have e2 : decide (sgOf a = sgOf b) = false := by simp [sgOf, e1]
    rw [e2] at hK
    rw [decide_eq_false e1]
    (repeat simp(disch:=omega)only[evA,evB,evC,bAdd_i64,bSub_i64])
    exact hK _ (h.got)
  rw [decide_eq_true e1]
  (repeat(first
|simp(disch:=omega)only[evA,evB,evC,bAdd_i64,bSub_i64]
|with_reducible refine go_s h ?_))
  by_cases e2 : a.cls = b.cls
  case' neg =>
    have e2 : decide (sgOf a = sgOf b) = false := by simp [sgOf, e2]
    rw [e2] at hK
    rw [decide_eq_false ‹¬ a.cls = b.cls›]
    (repeat simp(disch:=omega)only[evA,evB,evC,bAdd_i64,bSub_i64])
    exact hK _ (h.got)
  rw [decide_eq_true e2]
  (repeat(first
|simp(disch:=omega)only[evA,evB,evC,bAdd_i64,bSub_i64]
|with_reducible refine go_s h ?_))
  have e3 : decide (a.key = b.key) = decide (sgOf a = sgOf b) := by simp [sgOf, e1, e2]
  rw [e3]
  exact hK _ (h.got)
end
end Go.Proofs.Gong

/- Bp1 -/
namespace Go.Proofs.Gong
open Go Go.Sx Go.Proofs
set_option maxRecDepth 100000
attribute [local irreducible] fBuild fLook fZero eqv bEqv Cl MapH LsH SlH ld1 ldN st callP eBox eAlloc lenM lenL eMapSet eDelete eAppend eBuildSl eRange eNext
section
variable {w0 w : World} {L : List HP} {K : Value → World → Prop} {v : Value} {n next : Int} {rs : List Row} {r : Row} {R : List (Int × Row)} {I : List (Sg × Int)}
theorem refB_ptr (h : Sat w0 (RefB v n next rs :: L) w) : ∃ p, v = ptr p := by
  obtain ⟨p, s, hv, _⟩ := refB_iff.1 h; exact ⟨p, hv⟩
theorem refB_at {p : Nat} (h : Sat w0 (RefB (ptr p) n next rs :: L) w) : ∃ s, Sat w0 (Cl p #[.int .i64 n, .int .i64 next, s] 122 :: LsH cRow 11 45 s rs :: L) w := by
  obtain ⟨q, s, hv, h⟩ := refB_iff.1 h; cases hv; exact ⟨s, h⟩
end
end Go.Proofs.Gong

/- Bp2 -/
namespace Go.Proofs.Gong
open Go Go.Sx Go.Proofs
set_option maxRecDepth 100000
def rowAt (rs : List Row) (id : Int) : Option Row := rs.find? fun d => decide (d.id = id)
theorem rowAt_none {rs : List Row} {id : Int} : rowAt rs id = none ↔ ∀ r ∈ rs, r.id ≠ id := by
  unfold rowAt; rw [List.find?_eq_none]; simp
theorem rowAt_some {rs : List Row} {id : Int} {r : Row} (h : rowAt rs id = some r) : r ∈ rs ∧ r.id = id := by
  unfold rowAt at h
  exact ⟨List.mem_of_find?_eq_some h, by simpa using List.find?_some h⟩
theorem rowAt_of {rs : List Row} {r : Row} (ha : rs.Pairwise fun a b => a.id < b.id) (hr : r ∈ rs) : rowAt rs r.id = some r := by
  cases h : rowAt rs r.id with
  | none => exact absurd rfl (rowAt_none.1 h r hr)
  | some d =>
    obtain ⟨h1, h2⟩ := rowAt_some h
    rw [rasc_eq ha h1 hr h2]
attribute [local irreducible] fBuild fLook fZero eqv bEqv Cl MapH LsH SlH ld1 ldN st callP eBox eAlloc lenM lenL eMapSet eDelete eAppend eBuildSl eRange eNext
section
variable {w0 w : World} {L : List HP} {K : Value → World → Prop} {v : Value} {n next : Int} {rs : List Row} {r : Row} {R : List (Int × Row)} {I : List (Sg × Int)}
theorem rnew_spec {m : Int} (h : Sat w0 L w) (hK0 : (m < 1 ∨ 65536 < m) → K (.tuple #[.pointer none, .int .i64 1]) w) (hK1 : 1 ≤ m → m ≤ 65536 → ∀ p w', Sat w0 (RefB (ptr p) m 1 [] :: L) w' → K (.tuple #[ptr p, .int .i64 0]) w') : callP G69 [.int .i64 m] w K := by
  refine c69 ?_
  unfold F69
  by_cases g1 : m < 1
  · have g1' : decide (m < 1) = true := by simpa using g1
    (repeat simp(disch:=omega)only[evA,evB,evC,bAdd_i64,bSub_i64,g1'])
    exact hK0 (.inl g1)
  have g1' : decide (m < 1) = false := by simpa using g1
  by_cases g2 : m > 65536
  · have g2' : decide (m > 65536) = true := by simpa using g2
    (repeat simp(disch:=omega)only[evA,evB,evC,bAdd_i64,bSub_i64,g1',g2'])
    exact hK0 (.inr g2)
  have g2' : decide (m > 65536) = false := by simpa using g2
  have eb : fBuild Tryz.prog 122 [(0, .int .i64 m), (1, .int .i64 1)] = some (.agg #[.int .i64 m, .int .i64 1, .slice none 0 0]) := by kernel_rfl
  (repeat(first
|simp(disch:=omega)only[evA,evB,evC,bAdd_i64,bSub_i64,g1',g2']
|refine go_some (eb ..) ?_
|((with_reducible apply go_box h);rfl;intro _ _ h)))
  have h2 := Sat.nilLs cRow 11 45 h
  exact hK1 (by omega) (by omega) _ _ (refB_iff.2 ⟨_, _, rfl, h2.got⟩)
theorem BInv.rowAt (H : BInv n next R I rs) (id : Int) : aGet id R = rowAt rs id := by
  cases h : Gong.rowAt rs id with
  | none => exact H.get_none (rowAt_none.1 h)
  | some r =>
    obtain ⟨h1, rfl⟩ := rowAt_some h
    exact H.get h1
theorem baget_spec {id : Int} (h : Sat w0 (BoardA v n next rs :: L) w)
    (hK : ∀ w', Sat w0 (BoardA v n next rs :: L) w' → K (.tuple #[rowV ((rowAt rs id).getD zeroR), .bool (rowAt rs id).isSome]) w') : callP G13 [v, .int .i64 id] w K := by
  replace h := boardA_iff.1 h
  obtain ⟨R, I, H, h⟩ := h
  rw [← H.1.rowAt] at hK
  refine c13 ?_
  unfold F13
  replace h := board_iff.1 h
  obtain ⟨p, mr, mi, rfl, h⟩ := h
  have := map_one (h.frt (A := MapH kI rowV mr R))
  refine go_alloc h zR rfl fun _ _ h => ?_
  (repeat(first
|simp(disch:=omega)only[evA,evB,evC,bAdd_i64,bSub_i64]
|with_reducible refine go_s h ?_))
  refine go_look2 h (by repeat(first|exact .here|apply Fnt.there)) KIr um91 zR id ?_
  rw [elimR]
  (repeat simp(disch:=omega)only[evA,evB,evC,bAdd_i64,bSub_i64])
  refine go_alloc h zR rfl fun _ _ h => ?_
  (repeat(first
|with_reducible refine go_s h ?_
|((with_reducible apply go_stA h);rfl;rfl;(first|rfl|simp[OneV.o]);intro _ h)))
  exact hK _ (boardA_iff.2 ⟨R, I, H, board_iff.2 ⟨p, mr, mi, rfl, h.got⟩⟩)
end
end Go.Proofs.Gong

/- Bp3 -/
namespace Go.Proofs.Gong
open Go Go.Sx Go.Proofs
set_option maxRecDepth 100000
def loadA (n next0 : Int) (rs l : List Row) (next : Int) : Int × Int × List Row := if next < 1 ∨ 1152921504606846976 < next then (4, next0, rs) else match loadR next l [] with
  | none => (4, next0, rs)
  | some ds => if n < (l.length : Int) then (200, next0, rs) else (0, next, ds)
attribute [local irreducible] fBuild fLook fZero eqv bEqv Cl MapH LsH SlH ld1 ldN st callP eBox eAlloc lenM lenL eMapSet eDelete eAppend eBuildSl eRange eNext
section
variable {w0 w : World} {L : List HP} {K : Value → World → Prop} {v : Value} {n next : Int} {rs : List Row} {r : Row} {R : List (Int × Row)} {I : List (Sg × Int)}
end
end Go.Proofs.Gong

/- Bp4 -/
namespace Go.Proofs.Gong
open Go Go.Sx Go.Proofs
set_option maxRecDepth 100000
theorem insR_at {r : Row} {o : List Row} {k : Nat} (hle : ∀ x ∈ o.take k, x.id < r.id) (hs : ∀ x, o[k]? = some x → ¬ x.id < r.id) : o.take k ++ r :: o.drop k = insR r o := by
  unfold insR
  have e0 : o = o.take k ++ o.drop k := (List.take_append_drop k o).symm
  have e1 : o.takeWhile (fun d => decide (d.id < r.id)) = o.take k ∧ o.dropWhile (fun d => decide (d.id < r.id)) = o.drop k := by
    constructor
    · conv => lhs; rw [e0]
      rw [List.takeWhile_append_of_pos (by intro x hx; simpa using hle x hx)]
      cases hd : o.drop k with
      | nil => simp
      | cons y t =>
        have : o[k]? = some y := by rw [← List.head?_drop, hd]; rfl
        have := hs y this
        rw [List.takeWhile_cons, if_neg (by simpa using this), List.append_nil]
    · conv => lhs; rw [e0]
      rw [List.dropWhile_append_of_pos (by intro x hx; simpa using hle x hx)]
      cases hd : o.drop k with
      | nil => simp
      | cons y t =>
        have : o[k]? = some y := by rw [← List.head?_drop, hd]; rfl
        have := hs y this
        rw [List.dropWhile_cons, if_neg (by simpa using this)]
  rw [e1.1, e1.2]
attribute [local irreducible] fBuild fLook fZero eqv bEqv Cl MapH LsH SlH ld1 ldN st callP eBox eAlloc lenM lenL eMapSet eDelete eAppend eBuildSl eRange eNext
section
variable {w0 w : World} {L : List HP} {K : Value → World → Prop} {v : Value} {n next : Int} {rs : List Row} {r : Row}
theorem rload_put {s0 sv s2 s7 : Value} {i k : Nat} {o l : List Row} {R3 : Value → Value → Value → Value → Value → World → Prop} [hrd : RdIn w0 L sv Row cRow 11 l] (hi : i < l.length) (hl : o.length ≤ 1073741824) (hk : k ≤ o.length) (h : Sat w0 (LsH cRow 11 45 s7 o :: L) w)
    (hE : ∀ s7' w', Sat w0 (LsH cRow 11 45 s7' (o.take k ++ l[i] :: o.drop k) :: L) w' → F19_6 s0 sv s2 s7' (.int .i64 i) w' K R3) : F19_11 s0 sv s2 s7 (.int .i64 (i : Nat)) (.int .i64 (k : Nat)) w K R3 := by
  unfold F19_11 F19_11b
  refine go_subTo' h (i := k) hk fun v1 r1 => ?_
  replace h := Sat.nilLs cRow 11 45 h
  refine ls_app (l := []) (m := o.take k) CR h sl22 ss22 (r1 h.drop inferInstance) (by simp; omega) fun s1 w h => ?_
  (repeat(first
|simp(disch:=omega)only[evA,evB,evC,bAdd_i64,bSub_i64]
|((with_reducible apply go_ixR h);omega)
|((with_reducible first|apply go_elR h|apply go_f1R h|apply go_rf1R h|apply go_relR h|apply go_e1R h|apply go_re1R h);(case hc=>exact inferInstance);(case hi=>omega);(try case hx=>exact inferInstance);(try case hv=>rfl))
|((with_reducible first|apply go_lit0 CR h u22 (by kernel_rfl)|apply go_lit1 CR h u22 (fbRow _) rfl);intro _ _ h)
|((with_reducible apply go_appR h sl22 ss22);(case hm=>repeat(first|exact .here|apply Fnt.there));(case hb=>first|omega|(simp;omega));intro _ _ _ h)))
  refine go_subFrom' (v := s7) (l := o) h (i := k) hk fun v2 r2 => ?_
  refine ls_app (l := ([] ++ o.take k) ++ [l[i]]) (m := o.drop k) CR (h.frt) sl22 ss22 (r2 h inferInstance) (by simp; omega) fun s3 w h => ?_
  refine hE s3 w ?_
  have e : [] ++ o.take k ++ [l[i]] ++ o.drop k = o.take k ++ l[i] :: o.drop k := by simp
  rw [e] at h
  exact h.got
theorem rload_find {s0 sv s2 s7 : Value} {i : Nat} {o l : List Row} {R3 : Value → Value → Value → Value → Value → World → Prop} [hrd : RdIn w0 L sv Row cRow 11 l] (hi : i < l.length) (hl : o.length ≤ 1073741824)
    (hE : ∀ s7' w', Sat w0 (LsH cRow 11 45 s7' (insR l[i] o) :: L) w' → F19_6 s0 sv s2 s7' (.int .i64 i) w' K R3) :
    ∀ (d k : Nat) (w : World), o.length - k < d → k ≤ o.length → (∀ x ∈ o.take k, x.id < l[i].id) → Sat w0 (LsH cRow 11 45 s7 o :: L) w → F19_10L d s0 sv s2 s7 (.int .i64 (i : Nat)) (.int .i64 (k : Nat)) w K R3 := by
  intro d
  induction d with
  | zero => intro k w hd; omega
  | succ d ih =>
    intro k w hd hk hle h
    rw [F19_10L]
    unfold F19_10b
    by_cases g : k < o.length
    · have g' : decide ((k : Int) < (o.length : Int)) = true := by simpa using g
      by_cases g2 : o[k].id < l[i].id
      · have g2' : decide (o[k].id < l[i].id) = true := by simpa using g2
        (repeat(first
|simp(disch:=omega)only[evA,evB,evC,bAdd_i64,bSub_i64,g',g2']
|with_reducible refine go_s h ?_
|((with_reducible apply go_ixR h);omega)
|((with_reducible first|apply go_elR h|apply go_f1R h|apply go_rf1R h|apply go_relR h|apply go_e1R h|apply go_re1R h);(case hc=>exact inferInstance);(case hi=>omega);(try case hx=>exact inferInstance);(try case hv=>rfl))
|((with_reducible apply go_faR h);(case hc=>exact inferInstance);omega;omega)))
        refine ih (k + 1) _ (by omega) (by omega) (fun x hx => ?_) h.drew
        rw [List.take_succ_eq_append_getElem g] at hx
        rcases List.mem_append.1 hx with hx | hx
        · exact hle x hx
        · simp at hx; subst hx; exact g2
      · have g2' : decide (o[k].id < l[i].id) = false := by simpa using g2
        (repeat(first
|simp(disch:=omega)only[evA,evB,evC,bAdd_i64,bSub_i64,g',g2']
|with_reducible refine go_s h ?_
|((with_reducible apply go_ixR h);omega)
|((with_reducible first|apply go_elR h|apply go_f1R h|apply go_rf1R h|apply go_relR h|apply go_e1R h|apply go_re1R h);(case hc=>exact inferInstance);(case hi=>omega);(try case hx=>exact inferInstance);(try case hv=>rfl))
|((with_reducible apply go_faR h);(case hc=>exact inferInstance);omega;omega)))
        refine rload_put hi hl hk h.drew fun s7' w' h => hE s7' w' ?_
        rw [insR_at hle fun x hx => by rw [List.getElem?_eq_getElem g] at hx; cases hx; exact g2] at h
        exact h
    · have g' : decide ((k : Int) < (o.length : Int)) = false := by simpa using g
      (repeat(first
|simp(disch:=omega)only[evA,evB,evC,bAdd_i64,bSub_i64,g']
|with_reducible refine go_s h ?_))
      refine rload_put hi hl hk h.drew fun s7' w' h => hE s7' w' ?_
      rw [insR_at hle fun x hx => by rw [List.getElem?_eq_none (by omega)] at hx; cases hx] at h
      exact h
theorem rload_twin {s0 sv s2 s7 : Value} {i : Nat} {o l : List Row} {R3 : Value → Value → Value → Value → Value → World → Prop} [hrd : RdIn w0 L sv Row cRow 11 l] (hi : i < l.length) (hl : l.length ≤ 1073741824)
    (hK0 : (∃ k, ∃ hk : k < i, l[k].id = l[i].id ∨ sgOf l[k].e = sgOf l[i].e) → ∀ w', Sat w0 (LsH cRow 11 45 s7 o :: L) w' → K (.int .i64 4) w')
    (hE : (∀ k, ∀ hk : k < i, l[k].id ≠ l[i].id ∧ sgOf l[k].e ≠ sgOf l[i].e) → ∀ w', Sat w0 (LsH cRow 11 45 s7 o :: L) w' → F19_9 s0 sv s2 s7 (.int .i64 i) w' K R3) :
    ∀ (d k : Nat) (w : World), i - k < d → k ≤ i → (∀ j, ∀ hj : j < k, ∀ hji : j < i, l[j].id ≠ l[i].id ∧ sgOf l[j].e ≠ sgOf l[i].e) → Sat w0 (LsH cRow 11 45 s7 o :: L) w → F19_8L d s0 sv s2 s7 (.int .i64 (i : Nat)) (.int .i64 (k : Nat)) w K R3 := by
  intro d
  induction d with
  | zero => intro k w hd; omega
  | succ d ih =>
    intro k w hd hk hno h
    rw [F19_8L]
    unfold F19_8b
    by_cases g : k < i
    · have g' : decide ((k : Int) < (i : Int)) = true := by simpa using g
      have hkl : k < l.length := by omega
      by_cases g2 : l[k].id = l[i].id
      · have g2' : decide (l[k].id = l[i].id) = true := by simpa using g2
        (repeat(first
|simp(disch:=omega)only[evA,evB,evC,bAdd_i64,bSub_i64,g',g2']
|((with_reducible apply go_ixR h);omega)
|((with_reducible first|apply go_elR h|apply go_f1R h|apply go_rf1R h|apply go_relR h|apply go_e1R h|apply go_re1R h);(case hc=>exact inferInstance);(case hi=>omega);(try case hx=>exact inferInstance);(try case hv=>rfl))
|((with_reducible apply go_faR h);(case hc=>exact inferInstance);omega;omega)))
        exact hK0 ⟨k, g, .inl g2⟩ _ h.drew
      · have g2' : decide (l[k].id = l[i].id) = false := by simpa using g2
        (repeat(first
|simp(disch:=omega)only[evA,evB,evC,bAdd_i64,bSub_i64,g',g2']
|((with_reducible apply go_ixR h);omega)
|((with_reducible first|apply go_elR h|apply go_f1R h|apply go_rf1R h|apply go_relR h|apply go_e1R h|apply go_re1R h);(case hc=>exact inferInstance);(case hi=>omega);(try case hx=>exact inferInstance);(try case hv=>rfl))
|((with_reducible apply go_fNR h);(case hc=>exact inferInstance);(case hi=>omega);(try case hp=>exact inferInstance);(try case hv=>rfl))
|((with_reducible apply go_faR h);(case hc=>exact inferInstance);omega;omega)))
        refine rsign_spec (a := l[k].e) (b := l[i].e) h.drew fun w h => ?_
        by_cases g3 : sgOf l[k].e = sgOf l[i].e
        · rw [decide_eq_true g3]
          (repeat simp(disch:=omega)only[evA,evB,evC,bAdd_i64,bSub_i64])
          exact hK0 ⟨k, g, .inr g3⟩ _ h
        · rw [decide_eq_false g3]
          (repeat simp(disch:=omega)only[evA,evB,evC,bAdd_i64,bSub_i64])
          refine ih (k + 1) _ (by omega) (by omega) (fun j hj hji => ?_) h
          by_cases ej : j = k
          · subst ej; exact ⟨g2, g3⟩
          · exact hno j (by omega) hji
    · have g' : decide ((k : Int) < (i : Int)) = false := by simpa using g
      (repeat simp(disch:=omega)only[evA,evB,evC,bAdd_i64,bSub_i64,g'])
      exact hE (fun j hj => hno j (by omega) hj) _ h
theorem rload_loop {p : Nat} {s sv : Value} {l : List Row} {next0 : Int} [hrd : RdIn w0 L sv Row cRow 11 l] (hfit : ∀ x ∈ l, x.e.fits ∧ x.who.length < 1073741824) (hlen : l.length ≤ 65536)
    (hK0 : loadR next l [] = none → ∀ w', Sat w0 (RefB (ptr p) n next0 rs :: L) w' → K (.int .i64 4) w')
    (hK1 : ∀ ds, loadR next l [] = some ds → n < l.length → ∀ w', Sat w0 (RefB (ptr p) n next0 rs :: L) w' → K (.int .i64 200) w')
    (hK2 : ∀ ds, loadR next l [] = some ds → (l.length : Int) ≤ n → ∀ w', Sat w0 (RefB (ptr p) n next ds :: L) w' → K (.int .i64 0) w') :
    ∀ (d i : Nat) (o : List Row) (s7 : Value) (w : World), l.length - i < d → i ≤ l.length → o.Perm (l.take i) → loadR next l [] = loadR next (l.drop i) o →
      Sat w0 (LsH cRow 11 45 s7 o :: Cl p #[.int .i64 n, .int .i64 next0, s] 122 :: LsH cRow 11 45 s rs :: L) w → F19_2L d (ptr p) sv (.int .i64 next) s7 (.int .i64 i) w K := by
  intro d
  induction d with
  | zero => intro i _ _ _ hd; omega
  | succ d ih =>
    intro i o s7 w hd hi hp he h
    rw [F19_2L]
    unfold F19_4 F19_4b
    have hol := hp.length_eq
    rw [List.length_take, Nat.min_eq_left hi] at hol
    by_cases g : i < l.length
    · have g' : decide ((i : Int) < (l.length : Int)) = true := by simpa using g
      (repeat(first
|simp(disch:=omega)only[evA,evB,evC,bAdd_i64,bSub_i64,g']
|with_reducible apply go_lenR h))
      unfold F19_5 F19_7 F19_7b
      (repeat(first
|simp(disch:=omega)only[evA,evB,evC,bAdd_i64,bSub_i64]
|((with_reducible apply go_ixR h);omega)
|((with_reducible first|apply go_elR h|apply go_f1R h|apply go_rf1R h|apply go_relR h|apply go_e1R h|apply go_re1R h);(case hc=>exact inferInstance);(case hi=>omega);(try case hx=>exact inferInstance);(try case hv=>rfl))))
      have hfc := hfit _ (List.getElem_mem g)
      rw [List.drop_eq_getElem_cons g] at he
      have hbad : loadStepR next o l[i] = none → loadR next l [] = none := fun h => by rw [he]; simp [loadR, h]
      refine fbcheck_spec (r := l[i]) hfc.1 hfc.2 h fun w h => ?_
      unfold chkR
      cases g1 : okR l[i]
      · have d4 : decide ((4 : Int) = 0) = false := by decide
        (repeat simp(disch:=omega)only[evA,evB,evC,bAdd_i64,bSub_i64,Bool.false_eq_true,if_false,d4])
        exact hK0 (hbad (by unfold loadStepR; rw [if_neg]; simp [g1])) _ (refB_iff.2 ⟨p, s, rfl, h.got⟩)
      by_cases g3 : l[i].id ≥ next
      · have g3' : decide (l[i].id ≥ next) = true := by simpa using g3
        (repeat(first
|simp(disch:=omega)only[evA,evB,evC,bAdd_i64,bSub_i64,if_true,g3']
|((with_reducible apply go_ixR h);omega)
|((with_reducible first|apply go_elR h|apply go_f1R h|apply go_rf1R h|apply go_relR h|apply go_e1R h|apply go_re1R h);(case hc=>exact inferInstance);(case hi=>omega);(try case hx=>exact inferInstance);(try case hv=>rfl))
|((with_reducible apply go_faR h);(case hc=>exact inferInstance);omega;omega)))
        exact hK0 (hbad (by unfold loadStepR; rw [if_neg]; omega)) _ (refB_iff.2 ⟨p, s, rfl, h.got⟩)
      have g3' : decide (l[i].id ≥ next) = false := by simpa using g3
      (repeat(first
|simp(disch:=omega)only[evA,evB,evC,bAdd_i64,bSub_i64,if_true,g3']
|((with_reducible apply go_ixR h);omega)
|((with_reducible first|apply go_elR h|apply go_f1R h|apply go_rf1R h|apply go_relR h|apply go_e1R h|apply go_re1R h);(case hc=>exact inferInstance);(case hi=>omega);(try case hx=>exact inferInstance);(try case hv=>rfl))
|((with_reducible apply go_faR h);(case hc=>exact inferInstance);omega;omega)))
      unfold F19_8
      refine rload_twin (L := Cl p #[.int .i64 n, .int .i64 next0, s] 122 :: LsH cRow 11 45 s rs :: L) (o := o) (l := l) g (by omega) (fun hx w h => ?_) (fun hno w h => ?_) fuel 0 _ (by unfold fuel; omega) (by omega) (fun j h => by omega) h
      · refine hK0 (hbad ?_) _ (refB_iff.2 ⟨p, s, rfl, h.got⟩)
        unfold loadStepR
        rw [if_neg]
        rintro ⟨_, _, h1, h2⟩
        obtain ⟨k, hk, hx⟩ := hx
        have hm : l[k] ∈ o := hp.mem_iff.2 (List.mem_iff_getElem.2 ⟨k, by rw [List.length_take]; omega, by simp⟩)
        rcases hx with hx | hx
        · exact h1 _ hm hx
        · exact h2 _ hm hx
      · unfold F19_9 F19_9b F19_10
        refine rload_find (L := Cl p #[.int .i64 n, .int .i64 next0, s] 122 :: LsH cRow 11 45 s rs :: L) (o := o) (l := l) g (by omega) (fun s7' w h => ?_) fuel 0 _ (by unfold fuel; omega) (by omega) (by simp) h
        unfold F19_6 F19_6b
        (repeat simp(disch:=omega)only[evA,evB,evC,bAdd_i64,bSub_i64])
        have hst : loadStepR next o l[i] = some (insR l[i] o) := by
          unfold loadStepR
          have hmem : ∀ d ∈ o, ∃ k, ∃ hk : k < i, d = l[k] := fun d hd => by
            obtain ⟨k, hk, e⟩ := List.mem_iff_getElem.1 (hp.mem_iff.1 hd)
            rw [List.length_take] at hk
            exact ⟨k, by omega, by rw [← e]; simp⟩
          rw [if_pos]
          refine ⟨g1, by omega, fun d hd => ?_, fun d hd => ?_⟩
          · obtain ⟨k, hk, rfl⟩ := hmem d hd; exact (hno k hk).1
          · obtain ⟨k, hk, rfl⟩ := hmem d hd; exact (hno k hk).2
        refine ih (i + 1) _ s7' _ (by omega) (by omega) ?_ ?_ h
        · rw [List.take_succ_eq_append_getElem g]
          exact (insR_perm _ _).trans ((hp.cons _).trans (List.perm_append_singleton _ _).symm)
        · rw [he]; simp [loadR, hst]
    · have g' : decide ((i : Int) < (l.length : Int)) = false := by simpa using g
      rw [List.drop_eq_nil_of_le (by omega)] at he
      simp only [loadR] at he
      (repeat(first
|simp(disch:=omega)only[evA,evB,evC,bAdd_i64,bSub_i64,g']
|with_reducible apply go_lenR h))
      unfold F19_3 F19_3b
      by_cases g3 : (l.length : Int) > n
      · have g3' : decide ((l.length : Int) > n) = true := by simpa using g3
        (repeat(first
|simp(disch:=omega)only[evA,evB,evC,bAdd_i64,bSub_i64,g3']
|with_reducible refine go_s h ?_
|with_reducible apply go_lenR h))
        exact hK1 _ he (by omega) _ (refB_iff.2 ⟨p, s, rfl, h.got⟩)
      · have g3' : decide ((l.length : Int) > n) = false := by simpa using g3
        have := ls_one h
        (repeat(first
|simp(disch:=omega)only[evA,evB,evC,bAdd_i64,bSub_i64,g3']
|with_reducible refine go_s h ?_
|with_reducible apply go_lenR h
|((with_reducible refine go_w h ?_);intro _ h)))
        exact hK2 _ he (by omega) _ (refB_iff.2 ⟨p, s7, rfl, h.got⟩)
theorem rload_spec {sv : Value} {l : List Row} {next0 : Int} [hrd : RdIn w0 L sv Row cRow 11 l] (hfit : ∀ x ∈ l, x.e.fits ∧ x.who.length < 1073741824) (hlen : l.length ≤ 65536) (h : Sat w0 (RefB v n next0 rs :: L) w)
    (hK : ∀ w', Sat w0 (RefB v n (loadA n next0 rs l next).2.1 (loadA n next0 rs l next).2.2 :: L) w' → K (.int .i64 (loadA n next0 rs l next).1) w') : callP G19 [v, sv, .int .i64 next] w K := by
  obtain ⟨p, rfl⟩ := refB_ptr h
  unfold loadA at hK
  refine c19 ?_
  unfold F19 F19_1 F19_1b
  by_cases g1 : next < 1
  · have g1' : decide (next < 1) = true := by simpa using g1
    rw [if_pos (.inl g1)] at hK
    (repeat simp(disch:=omega)only[evA,evB,evC,bAdd_i64,bSub_i64,g1'])
    exact hK _ h
  have g1' : decide (next < 1) = false := by simpa using g1
  by_cases g2 : next > 1152921504606846976
  · have g2' : decide (next > 1152921504606846976) = true := by simpa using g2
    rw [if_pos (.inr g2)] at hK
    (repeat simp(disch:=omega)only[evA,evB,evC,bAdd_i64,bSub_i64,g1',g2'])
    exact hK _ h
  have g2' : decide (next > 1152921504606846976) = false := by simpa using g2
  rw [if_neg (by omega)] at hK
  (repeat simp(disch:=omega)only[evA,evB,evC,bAdd_i64,bSub_i64,g1',g2'])
  unfold F19_2
  obtain ⟨s, h⟩ := refB_at h
  refine rload_loop (next := next) (rs := rs) (n := n) (next0 := next0) (l := l) hfit hlen (fun e w h => ?_) (fun ds e hlt w h => ?_) (fun ds e hle w h => ?_) fuel 0 [] _ _ (by unfold fuel; omega) (by omega) (by simp) (by simp) (Sat.nilLs cRow 11 45 h)
  · rw [e] at hK; exact hK w h
  · rw [e] at hK; simp only at hK; rw [if_pos hlt] at hK; exact hK w h
  · rw [e] at hK; simp only at hK; rw [if_neg (by omega)] at hK; exact hK w h
end
end Go.Proofs.Gong

/- Ob0 -/
namespace Go.Proofs.Gong
open Go Go.Sx Go.Proofs
set_option maxRecDepth 100000
structure Tk where
  seq : Int
  what : Int
  r : Row
@[reducible] def cTk (t : Tk) : List Value := [.int .i64 t.seq, .int .i64 t.what, .int .i64 t.r.id, .string (bs t.r.e.node), .string (bs t.r.e.cls), .string (bs t.r.e.key), .int .i64 t.r.e.level, .string (bs t.r.e.text), .int .i64 t.r.tally, .int .i64 t.r.first, .int .i64 t.r.last, .bool t.r.acked, .string (bs t.r.who)]
abbrev tkV (t : Tk) : Value := .agg (cTk t).toArray
structure Ltr where
  t : Tk
  sent : Nat
  at_ : Int
abbrev lKey (x : Ltr) : Int := x.t.seq
def pauseN (base top : Int) : Nat → Int
  | 0 => base
  | k + 1 => min (2 * pauseN base top k) top
structure Ob where
  most : Int
  base : Int
  top : Int
  last : Int
  refused : Int
  mark : Int
  ls : List Ltr
def newO (most base top : Int) : Ob := ⟨most, base, top, 0, 0, 0, []⟩
def putO (what : Int) (r : Row) (o : Ob) : (Int × Int) × Ob :=
  if (decide (what < 1) || decide (5 < what) || !okR r) = true then ((0, 4), o) else
  if o.most ≤ (o.ls.length : Int) then ((0, 200), { o with refused := o.refused + 1 }) else
  ((o.last + 1, 0), { o with last := o.last + 1, ls := o.ls ++ [⟨⟨o.last + 1, what, r⟩, 0, 0⟩] })
structure OOk (o : Ob) : Prop where
  most : 1 ≤ o.most ∧ o.most ≤ 65536
  base : 1 ≤ o.base ∧ o.base ≤ o.top ∧ o.top ≤ 144115188075855872
  len : (o.ls.length : Int) ≤ o.most
  last : 0 ≤ o.last ∧ o.last ≤ 2305843009213693952
  refused : 0 ≤ o.refused ∧ o.refused ≤ 2305843009213693952
  mark : 0 ≤ o.mark ∧ o.mark ≤ o.last
  asc : KAsc ltI lKey o.ls
  ok : ∀ x ∈ o.ls, 1 ≤ x.t.seq ∧ x.t.seq ≤ o.last ∧ 0 ≤ x.at_ ∧ x.at_ ≤ 2305843009213693952 ∧ okR x.t.r = true ∧ 1 ≤ x.t.what ∧ x.t.what ≤ 5
theorem newO_ok {most base top : Int} (h1 : 1 ≤ most ∧ most ≤ 65536) (h2 : 1 ≤ base ∧ base ≤ top ∧ top ≤ 144115188075855872) : OOk (newO most base top) :=
  ⟨h1, h2, by simp [newO]; omega, by simp [newO], by simp [newO], by simp [newO], .nil, by simp [newO]⟩
section
variable {o : Ob} (H : OOk o)
include H
theorem putO_ok {what : Int} {r : Row} (hl : o.last < 2305843009213693952) (hr : o.refused < 2305843009213693952) : OOk (putO what r o).2 := by
  unfold putO
  split
  · exact H
  rename_i h1
  simp only [Bool.or_eq_true, decide_eq_true_eq, Bool.not_eq_true', not_or, Bool.not_eq_false] at h1
  split
  · exact ⟨H.most, H.base, H.len, H.last, by have := H.refused; simp; omega, H.mark, H.asc, H.ok⟩
  · rename_i h2
    have hlast := H.last
    have hm := H.mark
    refine ⟨H.most, H.base, by simp; omega, by simp; omega, H.refused, by simp; omega, ?_, fun x hx => ?_⟩
    · unfold KAsc
      rw [List.pairwise_append]
      refine ⟨H.asc, by simp, fun a ha b hb => ?_⟩
      simp at hb; subst hb
      have := H.ok a ha
      simp [ltI, lKey]; omega
    · rcases List.mem_append.1 hx with hx | hx
      · have := H.ok x hx
        refine ⟨this.1, ?_, this.2.2⟩
        simp; omega
      · simp at hx; subst hx
        refine ⟨by simp; omega, by simp, by simp, by simp, by simpa using h1.2, by simp; omega, by simp; omega⟩
end
end Go.Proofs.Gong

/- Ob1 -/
namespace Go.Proofs.Gong
open Go Go.Sx Go.Proofs
set_option maxRecDepth 100000
def evO1 : Evt := ⟨[110], [99], [], 3, []⟩
def rowO (n : Int) : Row := ⟨1 + bel n 50, evO1, 1 + bel (n.tdiv 50) 9, 0, 0, false, []⟩
end Go.Proofs.Gong

/- Ob2 -/
namespace Go.Proofs.Gong
open Go Go.Sx Go.Proofs
set_option maxRecDepth 100000
abbrev kO (n : Int) : Value := .int .i64 n
theorem KIO : KeyT Tryz.prog 3 kO := KeyT.int (by kernel_rfl)
@[reducible] def cLt (y : Tk × Int × Int) : List Value := [.int .i64 y.1.seq, .int .i64 y.1.what, .int .i64 y.1.r.id, .string (bs y.1.r.e.node), .string (bs y.1.r.e.cls), .string (bs y.1.r.e.key), .int .i64 y.1.r.e.level, .string (bs y.1.r.e.text), .int .i64 y.1.r.tally, .int .i64 y.1.r.first, .int .i64 y.1.r.last, .bool y.1.r.acked, .string (bs y.1.r.who), .int .i64 y.2.1, .int .i64 y.2.2]
abbrev ltV (y : Tk × Int × Int) : Value := .agg (cLt y).toArray
def lVal (base top : Int) (x : Ltr) : Tk × Int × Int := (x.t, pauseN base top x.sent, x.at_)
abbrev LMap := List (Int × (Tk × Int × Int))
abbrev OCl (p : Nat) (o : Ob) (m : Value) : HP := Cl p #[.int .i64 o.most, .int .i64 o.base, .int .i64 o.top, .int .i64 o.last, .int .i64 o.refused, .int .i64 o.mark, m] 109
def OutA (v : Value) (o : Ob) : HP := HEx fun M => HEx fun p => HEx fun m => HPr (v = ptr p ∧ KInv ltI lKey (lVal o.base o.top) M o.ls ∧ OOk o) (HSt (OCl p o m) (MapH kO ltV m M))
theorem fbTk (n what : Int) (r : Row) : fBuild Tryz.prog 130 [(0, .int .i64 n), (1, .int .i64 what), (2, .agg (cRow r).toArray)] = some (tkV ⟨n, what, r⟩) := by kernel_rfl
theorem fbLt (t : Tk) (b : Int) : fBuild Tryz.prog 178 [(0, .agg (cTk t).toArray), (1, .int .i64 b)] = some (ltV (t, b, 0)) := by kernel_rfl
attribute [local irreducible] fBuild fLook fZero eqv bEqv Cl MapH LsH SlH ld1 ldN st callP eBox eAlloc lenM lenL eMapSet eDelete eAppend eBuildSl eRange eNext
section
variable {w0 w : World} {L : List HP} {K : Value → World → Prop} {v : Value} {o : Ob} {n : Int} {M : LMap}
theorem outA_iff : Sat w0 (OutA v o :: L) w ↔ ∃ M p m, (v = ptr p ∧ KInv ltI lKey (lVal o.base o.top) M o.ls ∧ OOk o) ∧ Sat w0 (OCl p o m :: MapH kO ltV m M :: L) w := by
  simp only [OutA, Sat.ex_iff, Sat.pr_iff, Sat.star_iff]
theorem outA_open (h : Sat w0 (OutA v o :: L) w) : ∃ p m M, v = ptr p ∧ KInv ltI lKey (lVal o.base o.top) M o.ls ∧ OOk o ∧ Sat w0 (OCl p o m :: MapH kO ltV m M :: L) w := by
  obtain ⟨M, p, m, ⟨h1, h2, h3⟩, h⟩ := outA_iff.1 h
  exact ⟨p, m, M, h1, h2, h3, h⟩
theorem outA_close {p : Nat} {m : Value} (H : KInv ltI lKey (lVal o.base o.top) M o.ls) (ok : OOk o) (h : Sat w0 (OCl p o m :: MapH kO ltV m M :: L) w) : Sat w0 (OutA (ptr p) o :: L) w :=
  outA_iff.2 ⟨M, p, m, ⟨rfl, H, ok⟩, h⟩
theorem outA_ok (h : Sat w0 (OutA v o :: L) w) : OOk o := by
  obtain ⟨_, _, _, _, _, h, _⟩ := outA_open h
  exact h
theorem onew_spec {m b t : Int} (h1 : 1 ≤ m ∧ m ≤ 65536) (h2 : 1 ≤ b ∧ b ≤ t ∧ t ≤ 144115188075855872) (h : Sat w0 L w) (hK : ∀ p w', Sat w0 (OutA (ptr p) (newO m b t) :: L) w' → K (.tuple #[ptr p, .int .i64 0]) w') : callP G35 [.int .i64 m, .int .i64 b, .int .i64 t] w K := by
  refine c35 ?_
  unfold F35
  have g1 : decide (m < 1) = false := by simp; omega
  have g2 : decide (m > 65536) = false := by simp; omega
  have g3 : decide (b < 1) = false := by simp; omega
  have g4 : decide (b > t) = false := by simp; omega
  have g5 : decide (t > 144115188075855872) = false := by simp; omega
  (repeat simp(disch:=omega)only[evA,evB,evC,bAdd_i64,bSub_i64,g1,g2,g3,g4,g5])
  refine eMakeMap_sat kO ltV h fun mv w h => ?_
  obtain ⟨r1, _, _, ⟨rfl, _⟩, _⟩ := map_iff.1 h
  have eb : fBuild Tryz.prog 109 [(0, .int .i64 m), (1, .int .i64 b), (2, .int .i64 t), (6, .map (some r1))] = some (.agg #[.int .i64 m, .int .i64 b, .int .i64 t, .int .i64 0, .int .i64 0, .int .i64 0, .map (some r1)]) := by kernel_rfl
  (repeat(first
|refine go_some (eb ..) ?_
|((with_reducible apply go_box h);rfl;intro _ _ h)))
  exact hK _ _ (outA_close (o := newO m b t) .nil (newO_ok h1 h2) h)
theorem olen_spec (h : Sat w0 (OutA v o :: L) w) (hK : K (.int .i64 (o.ls.length : Nat)) w) : callP G15 [v] w K := by
  obtain ⟨p, m, M, rfl, H, ok, h⟩ := outA_open h
  have := map_one (h.frt (A := MapH kO ltV m M))
  refine c15 ?_
  unfold F15
  (repeat(first
|simp(disch:=omega)only[evA,evB,evC,bAdd_i64,bSub_i64]
|with_reducible refine go_s h ?_))
  refine go_lenM h (by repeat(first|exact .here|apply Fnt.there)) ?_
  rw [H.len]
  exact hK
theorem olast_spec (h : Sat w0 (OutA v o :: L) w) (hK : K (.int .i64 o.last) w) : callP G94 [v] w K := by
  obtain ⟨p, m, M, rfl, H, ok, h⟩ := outA_open h
  refine c94 ?_
  unfold F94
  (repeat(first
|simp(disch:=omega)only[evA,evB,evC,bAdd_i64,bSub_i64]
|with_reducible refine go_s h ?_))
  exact hK
theorem orefused_spec (h : Sat w0 (OutA v o :: L) w) (hK : K (.int .i64 o.refused) w) : callP G95 [v] w K := by
  obtain ⟨p, m, M, rfl, H, ok, h⟩ := outA_open h
  refine c95 ?_
  unfold F95
  (repeat(first
|simp(disch:=omega)only[evA,evB,evC,bAdd_i64,bSub_i64]
|with_reducible refine go_s h ?_))
  exact hK
theorem oput_spec {what : Int} {r : Row} (hl : o.last < 2305843009213693952) (hr : o.refused < 2305843009213693952) (he : r.e.fits) (hw : r.who.length < 1073741824) (h : Sat w0 (OutA v o :: L) w)
    (hK : ∀ w', Sat w0 (OutA v (putO what r o).2 :: L) w' → K (.tuple #[.int .i64 (putO what r o).1.1, .int .i64 (putO what r o).1.2]) w') : callP G21 [v, .int .i64 what, rowV r] w K := by
  have oka := putO_ok (outA_ok h) hl hr (what := what) (r := r)
  unfold putO at oka hK
  obtain ⟨p, m, M, rfl, H, ok, h2⟩ := outA_open h
  refine c21 ?_
  unfold F21
  clear h
  have h := h2
  clear h2
  have := map_one (h.frt (A := MapH kO ltV m M))
  have hlb := ok.last
  have hrb := ok.refused
  have hln := ok.len
  have hmb := ok.most
  by_cases g1 : what < 1
  · have g1' : decide (what < 1) = true := by simpa using g1
    rw [if_pos (by rw [g1']; rfl)] at hK
    (repeat(first
|simp(disch:=omega)only[evA,evB,evC,bAdd_i64,bSub_i64,g1']
|((with_reducible apply go_box h);rfl;intro _ _ h)))
    exact hK _ (outA_close H ok (h.got))
  have g1' : decide (what < 1) = false := by simpa using g1
  by_cases g2 : 5 < what
  · have g2' : decide (what > 5) = true := by simpa using g2
    rw [if_pos (by rw [show decide (5 < what) = true from g2']; simp)] at hK
    (repeat(first
|simp(disch:=omega)only[evA,evB,evC,bAdd_i64,bSub_i64,g1',g2']
|((with_reducible apply go_box h);rfl;intro _ _ h)))
    exact hK _ (outA_close H ok (h.got))
  have g2' : decide (what > 5) = false := by simpa using g2
  (repeat(first
|simp(disch:=omega)only[evA,evB,evC,bAdd_i64,bSub_i64,g1',g2']
|with_reducible refine go_s h ?_
|((with_reducible apply go_box h);rfl;intro _ _ h)))
  refine bcheck_spec he hw h fun w h => ?_
  unfold chkR
  cases g3 : okR r
  · rw [if_pos (by simp [g3])] at hK
    rw [if_neg (by simp)]
    (repeat simp(disch:=omega)only[evA,evB,evC,bAdd_i64,bSub_i64,Int.reduceEq])
    exact hK _ (outA_close H ok (h.got))
  rw [if_neg (by rw [g1', show decide (5 < what) = false from g2', g3]; simp)] at hK oka
  rw [if_pos rfl]
  (repeat(first
|simp(disch:=omega)only[evA,evB,evC,bAdd_i64,bSub_i64,Int.reduceEq]
|with_reducible refine go_s h ?_))
  refine go_lenM h (by repeat(first|exact .here|apply Fnt.there)) ?_
  rw [H.len]
  (repeat(first
|simp(disch:=omega)only[evA,evB,evC,bAdd_i64,bSub_i64]
|with_reducible refine go_s h ?_))
  by_cases g4 : o.most ≤ (o.ls.length : Int)
  · have g4' : decide ((o.ls.length : Int) ≥ o.most) = true := by simpa using g4
    rw [if_pos g4] at hK oka
    (repeat(first
|simp(disch:=omega)only[evA,evB,evC,bAdd_i64,bSub_i64,g4']
|with_reducible refine go_s h ?_
|((with_reducible refine go_w h ?_);intro _ h)))
    exact hK _ (outA_close (o := { o with refused := o.refused + 1 }) H oka (h.got))
  have g4' : decide ((o.ls.length : Int) ≥ o.most) = false := by simp; omega
  rw [if_neg g4] at hK oka
  (repeat(first
|simp(disch:=omega)only[evA,evB,evC,bAdd_i64,bSub_i64,g4']
|with_reducible refine go_s h ?_
|((with_reducible refine go_w h ?_);intro _ h)))
  refine go_some (fbTk (o.last + 1) what r) ?_
  refine c43 ?_
  unfold F43
  (repeat(first
|simp(disch:=omega)only[evA,evB,evC,bAdd_i64,bSub_i64]
|with_reducible refine go_s h ?_
|((with_reducible apply go_box h);rfl;intro _ _ h)))
  refine go_some (fbLt ⟨o.last + 1, what, r⟩ o.base) ?_
  refine eMapSet_sat (h.drew.frt (A := MapH kO ltV m M)) KIO um107 (o.last + 1) ((⟨o.last + 1, what, r⟩, o.base, 0) : Tk × Int × Int) fun w h => ?_
  (repeat with_reducible refine go_s h ?_)
  refine hK _ (outA_close (o := { o with last := o.last + 1, ls := o.ls ++ [⟨⟨o.last + 1, what, r⟩, 0, 0⟩] }) ?_ oka (h.got))
  have h1 := H.put STO.int ⟨⟨o.last + 1, what, r⟩, 0, 0⟩
  rw [kPut_last STO.int fun d hd => by have := ok.ok d hd; simp [ltI, lKey]; omega] at h1
  exact h1
end
end Go.Proofs.Gong

/- Ob3 -/
namespace Go.Proofs.Gong
open Go Go.Sx Go.Proofs
set_option maxRecDepth 100000
theorem CTk : Cod cTk 13 := ⟨fun _ => rfl, fun _ => rfl, by omega⟩
instance : CodC cTk 13 := ⟨CTk⟩
attribute [local irreducible] fBuild fLook fZero eqv bEqv Cl MapH LsH SlH ld1 ldN st callP eBox eAlloc lenM lenL eMapSet eDelete eAppend eBuildSl eRange eNext
section
variable {w0 w : World} {L : List HP} {K : Value → World → Prop} {v : Value} {o : Ob} {n now : Int} {M : LMap}
end
end Go.Proofs.Gong

/- Ob4 -/
namespace Go.Proofs.Gong
open Go Go.Sx Go.Proofs
set_option maxRecDepth 100000
attribute [local irreducible] fBuild fLook fZero eqv bEqv Cl MapH LsH SlH ld1 ldN st callP eBox eAlloc lenM lenL eMapSet eDelete eAppend eBuildSl eRange eNext
section
variable {w0 w : World} {L : List HP} {K : Value → World → Prop} {v : Value} {o : Ob} {n now : Int} {M : LMap}
end
end Go.Proofs.Gong

/- Ob5 -/
namespace Go.Proofs.Gong
open Go Go.Sx Go.Proofs
set_option maxRecDepth 100000
attribute [local irreducible] fBuild fLook fZero eqv bEqv Cl MapH LsH SlH ld1 ldN st callP eBox eAlloc lenM lenL eMapSet eDelete eAppend eBuildSl eRange eNext
section
variable {w0 w : World} {L : List HP} {K : Value → World → Prop} {v : Value} {o : Ob} {n now : Int} {M : LMap}
end
end Go.Proofs.Gong

/- Oa0 -/
namespace Go.Proofs.Gong
open Go Go.Sx Go.Proofs
set_option maxRecDepth 100000
section
variable {o : Ob} (H : OOk o)
include H
end
structure Nine (i : Nat) (o : Ob) : Prop where
  most : o.most = 9 ∧ o.base = 1 ∧ o.top = 1
  last : 0 ≤ o.last ∧ o.last ≤ i
  refused : 0 ≤ o.refused ∧ o.refused ≤ i
  rows : ∀ x ∈ o.ls, ∃ n, x.t.r = rowO n
theorem Nine.new : Nine 0 (newO 9 1 1) := ⟨⟨rfl, rfl, rfl⟩, by simp [newO], by simp [newO], by simp [newO]⟩
theorem Nine.put {i : Nat} {o : Ob} (h : Nine i o) (n : Int) : Nine (i + 1) (putO 1 (rowO n) o).2 := by
  have h1 := h.last
  have h2 := h.refused
  unfold putO
  split
  · exact ⟨h.most, by show 0 ≤ o.last ∧ o.last ≤ _; omega, by show 0 ≤ o.refused ∧ o.refused ≤ _; omega, h.rows⟩
  split
  · exact ⟨h.most, by show 0 ≤ o.last ∧ o.last ≤ _; omega, by show 0 ≤ o.refused + 1 ∧ o.refused + 1 ≤ _; omega, h.rows⟩
  · refine ⟨h.most, by show 0 ≤ o.last + 1 ∧ o.last + 1 ≤ _; omega, by show 0 ≤ o.refused ∧ o.refused ≤ _; omega, fun x hx => ?_⟩
    rcases List.mem_append.1 hx with hx | hx
    · exact h.rows x hx
    · simp at hx; subst hx; exact ⟨n, rfl⟩
end Go.Proofs.Gong

/- Outbox2 -/

/- Oa1 -/
namespace Go.Proofs.Gong
open Go Go.Sx Go.Proofs
set_option maxRecDepth 100000
attribute [local irreducible] fBuild fLook fZero eqv bEqv Cl MapH LsH SlH ld1 ldN st callP eBox eAlloc lenM lenL eMapSet eDelete eAppend eBuildSl eRange eNext
section
variable {w0 w : World} {L : List HP} {K : Value → World → Prop} {v : Value} {o : Ob} {n now last refused : Int} {M : LMap} {t : Tk}
end
end Go.Proofs.Gong

/- Outbox3 -/

/- Or0 -/
namespace Go.Proofs.Gong
open Go Go.Sx Go.Proofs
set_option maxRecDepth 100000
@[reducible] def cEn (x : Ltr) : List Value := [.int .i64 x.t.seq, .int .i64 x.t.what, .int .i64 x.t.r.id, .string (bs x.t.r.e.node), .string (bs x.t.r.e.cls), .string (bs x.t.r.e.key), .int .i64 x.t.r.e.level, .string (bs x.t.r.e.text), .int .i64 x.t.r.tally, .int .i64 x.t.r.first, .int .i64 x.t.r.last, .bool x.t.r.acked, .string (bs x.t.r.who), .int .i64 (x.sent : Nat), .int .i64 x.at_]
abbrev enV (x : Ltr) : Value := .agg (cEn x).toArray
theorem CEn : Cod cEn 15 := ⟨fun _ => rfl, fun _ => rfl, by omega⟩
instance : CodC cEn 15 := ⟨CEn⟩
abbrev RCl (q : Nat) (o : Ob) (s : Value) : HP := Cl q #[.int .i64 o.most, .int .i64 o.base, .int .i64 o.top, .int .i64 o.last, .int .i64 o.refused, .int .i64 o.mark, s] 133
def RefO (v : Value) (o : Ob) : HP := HEx fun q => HEx fun s => HPr (v = ptr q) (HSt (RCl q o s) (LsH cEn 15 135 s o.ls))
theorem fbEn (t : Tk) : fBuild Tryz.prog 135 [(0, .agg (cTk t).toArray)] = some (enV ⟨t, 0, 0⟩) := by kernel_rfl
theorem fbEnS (x : Ltr) : fBuildSl Tryz.prog 135 1 [(0, .agg (cEn x).toArray)] = some (cEn x).toArray := by kernel_rfl
attribute [local irreducible] fBuild fLook fZero eqv bEqv Cl MapH LsH SlH ld1 ldN st callP eBox eAlloc lenM lenL eMapSet eDelete eAppend eBuildSl eRange eNext
section
variable {w0 w : World} {L : List HP} {K : Value → World → Prop} {v : Value} {o : Ob} {n now : Int} {t : Tk}
theorem refO_iff : Sat w0 (RefO v o :: L) w ↔ ∃ q s, v = ptr q ∧ Sat w0 (RCl q o s :: LsH cEn 15 135 s o.ls :: L) w := by
  simp only [RefO, Sat.ex_iff, Sat.pr_iff, Sat.star_iff]
theorem refO_ptr (h : Sat w0 (RefO v o :: L) w) : ∃ q, v = ptr q := by
  obtain ⟨q, s, e, _⟩ := refO_iff.1 h
  exact ⟨q, e⟩
theorem refO_at {q : Nat} (h : Sat w0 (RefO (ptr q) o :: L) w) : ∃ s, Sat w0 (RCl q o s :: LsH cEn 15 135 s o.ls :: L) w := by
  obtain ⟨q', s, e, h⟩ := refO_iff.1 h
  cases e
  exact ⟨s, h⟩
theorem refO_mk {q : Nat} {s : Value} (h : Sat w0 (RCl q o s :: LsH cEn 15 135 s o.ls :: L) w) : Sat w0 (RefO (ptr q) o :: L) w := refO_iff.2 ⟨q, s, rfl, h⟩
end
end Go.Proofs.Gong

/- Or1 -/
namespace Go.Proofs.Gong
open Go Go.Sx Go.Proofs
set_option maxRecDepth 100000
attribute [local irreducible] fBuild fLook fZero eqv bEqv Cl MapH LsH SlH ld1 ldN st callP eBox eAlloc lenM lenL eMapSet eDelete eAppend eBuildSl eRange eNext
section
variable {w0 w : World} {L : List HP} {K : Value → World → Prop} {v : Value} {o : Ob} {n now : Int} {t : Tk}
theorem rput_spec {what : Int} {r : Row} (H : OOk o) (hl : o.last < 2305843009213693952) (hr : o.refused < 2305843009213693952) (he : r.e.fits) (hw : r.who.length < 1073741824) (h : Sat w0 (RefO v o :: L) w)
    (hK : ∀ w', Sat w0 (RefO v (putO what r o).2 :: L) w' → K (.tuple #[.int .i64 (putO what r o).1.1, .int .i64 (putO what r o).1.2]) w') : callP G22 [v, .int .i64 what, rowV r] w K := by
  obtain ⟨q, rfl⟩ := refO_ptr h
  have h0 := h
  clear h
  obtain ⟨s, h⟩ := refO_at h0
  unfold putO at hK
  have hlb := H.last
  have hrb := H.refused
  have hln := H.len
  have hmb := H.most
  refine c22 ?_
  unfold F22
  by_cases g1 : what < 1
  · have g1' : decide (what < 1) = true := by simpa using g1
    rw [if_pos (by rw [g1']; rfl)] at hK
    (repeat(first
|simp(disch:=omega)only[evA,evB,evC,bAdd_i64,bSub_i64,g1']
|((with_reducible apply go_box h);rfl;intro _ _ h)))
    exact hK _ (refO_mk (h.got))
  have g1' : decide (what < 1) = false := by simpa using g1
  by_cases g2 : 5 < what
  · have g2' : decide (what > 5) = true := by simpa using g2
    rw [if_pos (by rw [show decide (5 < what) = true from g2']; simp)] at hK
    (repeat(first
|simp(disch:=omega)only[evA,evB,evC,bAdd_i64,bSub_i64,g1',g2']
|((with_reducible apply go_box h);rfl;intro _ _ h)))
    exact hK _ (refO_mk (h.got))
  have g2' : decide (what > 5) = false := by simpa using g2
  (repeat(first
|simp(disch:=omega)only[evA,evB,evC,bAdd_i64,bSub_i64,g1',g2']
|with_reducible refine go_s h ?_
|((with_reducible apply go_box h);rfl;intro _ _ h)))
  refine fbcheck_spec (r := r) he hw h fun w h => ?_
  unfold chkR
  cases g3 : okR r
  · rw [if_pos (by simp [g3])] at hK
    rw [if_neg (by simp)]
    (repeat simp(disch:=omega)only[evA,evB,evC,bAdd_i64,bSub_i64,Int.reduceEq])
    exact hK _ (refO_mk (h.got))
  rw [if_neg (by rw [g1', show decide (5 < what) = false from g2', g3]; simp)] at hK
  rw [if_pos rfl]
  by_cases g4 : o.most ≤ (o.ls.length : Int)
  · have g4' : decide ((o.ls.length : Int) ≥ o.most) = true := by simpa using g4
    rw [if_pos g4] at hK
    (repeat(first
|simp(disch:=omega)only[evA,evB,evC,bAdd_i64,bSub_i64,g4',Int.reduceEq]
|with_reducible refine go_s h ?_
|((with_reducible refine go_w h ?_);intro _ h)))
    exact hK _ (refO_mk (o := { o with refused := o.refused + 1 }) (h.got))
  have g4' : decide ((o.ls.length : Int) ≥ o.most) = false := by simp; omega
  rw [if_neg g4] at hK
  obtain ⟨x, hx⟩ : ∃ x : Ltr, x = ⟨⟨o.last + 1, what, r⟩, 0, 0⟩ := ⟨_, rfl⟩
  rw [← hx] at hK
  have eb1 := fbTk (o.last + 1) what r
  have eb2 : fBuild Tryz.prog 135 [(0, .agg (cTk ⟨o.last + 1, what, r⟩).toArray)] = some (enV x) := by rw [hx]; exact fbEn _
  (repeat(first
|simp(disch:=omega)only[evA,evB,evC,bAdd_i64,bSub_i64,g4',Int.reduceEq]
|with_reducible refine go_s h ?_
|((with_reducible refine go_w h ?_);intro _ h)))
  refine go_some eb1 ?_
  refine go_some eb2 ?_
  have fin : ∀ {s9 : Value} {w : World} {L' : List HP}, Sat w0 (LsH cEn 15 135 s9 (o.ls ++ [x]) :: L') w → Get (LsH cEn 15 135 s9 (o.ls ++ [x]) :: L') (RCl q { o with last := o.last + 1 } s9 :: LsH cEn 15 135 s9 (o.ls ++ [x]) :: L) → K (.tuple #[.int .i64 (o.last + 1), .int .i64 0]) w := fun h g => hK _ (refO_mk (o := { o with last := o.last + 1, ls := o.ls ++ [x] }) (h.get g))
  refine ⟨?_, ?_⟩
  · refine go_lit0 CEn h.drew u131 (by kernel_rfl) fun sa w h => ?_
    (repeat with_reducible refine go_s h ?_)
    refine ⟨?_, ?_⟩
    · refine ls_app (l := []) (m := o.ls) CEn h sl131 ss131 (ls_of h (.refl _) (inferInstance : LsIn s _ _ _ _ _ o.ls)) (by simp; omega) fun sb w h => ?_
      rw [List.nil_append] at h
      (repeat with_reducible refine go_s h ?_)
      refine go_lit1 (x := x) CEn h u131 (fbEnS x) rfl fun sc w h => ?_
      (repeat with_reducible refine go_s h ?_)
      refine ls_app (l := o.ls) (m := [x]) CEn (h.frt (A := LsH cEn 15 135 sb o.ls)) sl131 ss131 (ls_of h (.refl _) (inferInstance : LsIn sc _ _ _ _ _ [x])) (by simp; omega) fun sd w h => ?_
      have := ls_one h
      (repeat(first
|with_reducible refine go_s h ?_
|((with_reducible refine go_w h ?_);intro _ h)))
      exact hK _ (refO_mk (o := { o with last := o.last + 1, ls := o.ls ++ [x] }) (h.got))
    · refine go_lit1 (x := x) CEn h u131 (fbEnS x) rfl fun sc w h => ?_
      (repeat with_reducible refine go_s h ?_)
      refine ls_app (l := []) (m := o.ls) CEn (h.frt (A := LsH cEn 15 135 sa [])) sl131 ss131 (ls_of h (.refl _) (inferInstance : LsIn s _ _ _ _ _ o.ls)) (by simp; omega) fun sb w h => ?_
      rw [List.nil_append] at h
      (repeat with_reducible refine go_s h ?_)
      refine ls_app (l := o.ls) (m := [x]) CEn (h.frt (A := LsH cEn 15 135 sb o.ls)) sl131 ss131 (ls_of h (.refl _) (inferInstance : LsIn sc _ _ _ _ _ [x])) (by simp; omega) fun sd w h => ?_
      have := ls_one h
      (repeat(first
|with_reducible refine go_s h ?_
|((with_reducible refine go_w h ?_);intro _ h)))
      exact hK _ (refO_mk (o := { o with last := o.last + 1, ls := o.ls ++ [x] }) (h.got))
  · refine go_lit1 (x := x) CEn h.drew u131 (fbEnS x) rfl fun sc w h => ?_
    (repeat with_reducible refine go_s h ?_)
    refine go_lit0 CEn h u131 (by kernel_rfl) fun sa w h => ?_
    (repeat with_reducible refine go_s h ?_)
    refine ls_app (l := []) (m := o.ls) CEn h sl131 ss131 (ls_of h (.refl _) (inferInstance : LsIn s _ _ _ _ _ o.ls)) (by simp; omega) fun sb w h => ?_
    rw [List.nil_append] at h
    (repeat with_reducible refine go_s h ?_)
    refine ls_app (l := o.ls) (m := [x]) CEn (h.frt (A := LsH cEn 15 135 sb o.ls)) sl131 ss131 (ls_of h (.refl _) (inferInstance : LsIn sc _ _ _ _ _ [x])) (by simp; omega) fun sd w h => ?_
    have := ls_one h
    (repeat(first
|with_reducible refine go_s h ?_
|((with_reducible refine go_w h ?_);intro _ h)))
    exact hK _ (refO_mk (o := { o with last := o.last + 1, ls := o.ls ++ [x] }) (h.got))
end
end Go.Proofs.Gong

/- Or2 -/
namespace Go.Proofs.Gong
open Go Go.Sx Go.Proofs
set_option maxRecDepth 100000
attribute [local irreducible] fBuild fLook fZero eqv bEqv Cl MapH LsH SlH ld1 ldN st callP eBox eAlloc lenM lenL eMapSet eDelete eAppend eBuildSl eRange eNext
section
variable {w0 w : World} {L : List HP} {K : Value → World → Prop} {v : Value} {o : Ob} {n last refused : Int} {t : Tk}
end
end Go.Proofs.Gong

/- Or3 -/
namespace Go.Proofs.Gong
open Go Go.Sx Go.Proofs
set_option maxRecDepth 100000
theorem plainP_len {s : List UInt8} {n : Nat} (h : plainP s n = true) : s.length ≤ n := by
  unfold plainP at h
  split at h
  · cases h
  · simp at h; exact h.2
theorem okR_fit {r : Row} (h : okR r = true) : r.e.fits ∧ r.who.length < 1073741824 := by
  unfold okR okE whoR at h
  simp only [Bool.and_eq_true] at h
  obtain ⟨⟨_, hw⟩, he⟩ := h
  obtain ⟨⟨⟨⟨⟨⟨_, h1⟩, h2⟩, h3⟩, h4⟩, _⟩, _⟩ := he
  have a1 := plainP_len h1
  have a2 := plainP_len h2
  have a3 := plainP_len h3
  have a4 := plainP_len h4
  refine ⟨⟨by omega, by omega, by omega, by omega⟩, ?_⟩
  split at hw
  · unfold whoP at hw
    simp only [Bool.and_eq_true] at hw
    have := plainP_len hw.2
    omega
  · simp at hw; rw [hw]; simp
attribute [local irreducible] fBuild fLook fZero eqv bEqv Cl MapH LsH SlH ld1 ldN st callP eBox eAlloc lenM lenL eMapSet eDelete eAppend eBuildSl eRange eNext
section
variable {w0 w : World} {L : List HP} {K : Value → World → Prop} {v rv : Value} {o : Ob} {n : Int} {M : LMap}
end
end Go.Proofs.Gong

/- Qp0 -/
namespace Go.Proofs.Gong
open Go Go.Sx Go.Proofs
set_option maxRecDepth 100000
def leapN (y : Int) : Int := if y % 4 = 0 ∧ (y % 100 ≠ 0 ∨ y % 400 = 0) then 1 else 0
def aheadT : List Int := [0, 0, 31, 59, 90, 120, 151, 181, 212, 243, 273, 304, 334, 365]
def aheadN (m : Nat) : Int := aheadT[m]?.getD 0
def beforeN (y : Int) (m : Nat) : Int := if 2 < m then aheadN m + leapN y else aheadN m
def sinceN (y : Int) : Int := (y - 1) * 365 + (y - 1) / 4 - (y - 1) / 100 + (y - 1) / 400 - 719162
theorem since_next (y : Int) : sinceN (y + 1) = sinceN y + 365 + leapN y := by
  unfold sinceN leapN
  split <;> omega
theorem leap_le (y : Int) : 0 ≤ leapN y ∧ leapN y ≤ 1 := by unfold leapN; split <;> omega
def yearL : Nat → Int → Int → Int
  | 0, _, y => y
  | k + 1, days, y => if sinceN (y + 1) ≤ days then yearL k days (y + 1) else y
def monthL : Nat → Int → Int → Nat → Nat
  | 0, _, _, m => m
  | k + 1, y, d, m => if beforeN y (m + 1) ≤ d then monthL k y d (m + 1) else m
theorem since_start (days : Int) (h : 0 ≤ days) (h2 : days ≤ 30000) : sinceN (1970 + days / 366) ≤ days := by
  unfold sinceN; omega
theorem yearL_spec : ∀ (k : Nat) (days y : Int), sinceN y ≤ days → days < sinceN y + 365 * k → sinceN (yearL k days y) ≤ days ∧ days < sinceN (yearL k days y + 1) ∧ y ≤ yearL k days y ∧ yearL k days y ≤ y + k
  | 0, days, y, h1, h2 => by simp at h2; omega
  | k + 1, days, y, h1, h2 => by
    rw [yearL]
    split
    · rename_i h
      have e := since_next y
      have l := leap_le y
      obtain ⟨a, b, c, d⟩ := yearL_spec k days (y + 1) h (by push_cast at h2; omega)
      exact ⟨a, b, by omega, by push_cast; omega⟩
    · exact ⟨h1, by omega, by omega, by push_cast; omega⟩
theorem before_13 (y : Int) : beforeN y 13 = 365 + leapN y := by
  unfold beforeN; rw [if_pos (by omega)]; rfl
theorem before_1 (y : Int) : beforeN y 1 = 0 := by unfold beforeN; rw [if_neg (by omega)]; rfl
theorem monthL_spec {y d : Int} (hd : d < 365 + leapN y) : ∀ (k m : Nat), m + k = 13 → 1 ≤ m → m ≤ 12 → beforeN y m ≤ d → 1 ≤ monthL k y d m ∧ monthL k y d m ≤ 12 ∧ beforeN y (monthL k y d m) ≤ d ∧ d < beforeN y (monthL k y d m + 1)
  | 0, m, h, h1, h2, _ => by omega
  | k + 1, m, h, h1, h2, hb => by
    rw [monthL]
    split
    · rename_i g
      by_cases h12 : m = 12
      · subst h12
        rw [before_13] at g
        omega
      · exact monthL_spec hd k (m + 1) (by omega) (by omega) (by omega) g
    · exact ⟨h1, h2, hb, by omega⟩
theorem before_range (y : Int) {m : Nat} (h1 : 1 ≤ m) (h2 : m ≤ 12) : 0 ≤ beforeN y m ∧ beforeN y (m + 1) ≤ beforeN y m + 31 ∧ beforeN y m ≤ 365 := by
  have l := leap_le y
  have : m = 1 ∨ m = 2 ∨ m = 3 ∨ m = 4 ∨ m = 5 ∨ m = 6 ∨ m = 7 ∨ m = 8 ∨ m = 9 ∨ m = 10 ∨ m = 11 ∨ m = 12 := by omega
  unfold beforeN
  rcases this with rfl | rfl | rfl | rfl | rfl | rfl | rfl | rfl | rfl | rfl | rfl | rfl <;> simp [aheadN, aheadT] <;> omega
def twoL (n : Int) : List UInt8 := [UInt8.ofNat (48 + n.toNat / 10), UInt8.ofNat (48 + n.toNat % 10)]
def showL (t : Int) : List UInt8 :=
  let days := t / 86400
  let left := t % 86400
  let y := yearL 100 days (1970 + days / 366)
  let d := days - sinceN y
  let m := monthL 12 y d 1
  twoL (y / 100) ++ twoL (y % 100) ++ [45] ++ twoL m ++ [45] ++ twoL (d - beforeN y m + 1) ++ [84] ++ twoL (left / 3600) ++ [58] ++ twoL (left / 60 % 60) ++ [58] ++ twoL (left % 60)
def hexB (n : Nat) : UInt8 := if n < 10 then UInt8.ofNat (48 + n) else UInt8.ofNat (87 + n)
def escL (c : UInt8) : List UInt8 :=
  if c = 34 ∨ c = 92 then [92, c] else if c = 10 then [92, 110] else if c = 9 then [92, 116] else
  if c < 32 ∨ 127 ≤ c then [92, 120, hexB (c.toNat / 16), hexB (c.toNat % 16)] else [c]
def quoteL (s : List UInt8) : List UInt8 := 34 :: s.flatMap escL ++ [34]
end Go.Proofs.Gong

/- Qp1 -/
namespace Go.Proofs.Gong
open Go Go.Sx Go.Proofs
set_option maxRecDepth 100000
def splitOnL : List UInt8 → List (List UInt8)
  | [] => [[]]
  | c :: s => if c = 32 then [] :: splitOnL s else match splitOnL s with
    | [] => [[c]]
    | x :: r => (c :: x) :: r
theorem splitOn_no : ∀ {a : List UInt8}, (32 : UInt8) ∉ a → splitOnL a = [a]
  | [], _ => rfl
  | c :: a, h => by
    have h1 : c ≠ 32 := fun e => h (by simp [e])
    have h2 : (32 : UInt8) ∉ a := fun e => h (by simp [e])
    rw [splitOnL, if_neg h1, splitOn_no h2]
theorem splitOn_app : ∀ {a b : List UInt8}, (32 : UInt8) ∉ a → splitOnL (a ++ 32 :: b) = a :: splitOnL b
  | [], b, _ => by simp [splitOnL]
  | c :: a, b, h => by
    have h1 : c ≠ 32 := fun e => h (by simp [e])
    have h2 : (32 : UInt8) ∉ a := fun e => h (by simp [e])
    rw [List.cons_append, splitOnL, if_neg h1, splitOn_app h2]
theorem indexByte_app : ∀ {a b : List UInt8}, (32 : UInt8) ∉ a → Lib.indexByte (a ++ 32 :: b) 32 = a.length
  | [], b, _ => by simp [Lib.indexByte]
  | c :: a, b, h => by
    have h1 : c ≠ 32 := fun e => h (by simp [e])
    have h2 : (32 : UInt8) ∉ a := fun e => h (by simp [e])
    have ih := indexByte_app (b := b) h2
    rw [List.cons_append, Lib.indexByte, ih]
    have e1 : (c == 32) = false := by simpa using h1
    have e2 : ((a.length : Int) == -1) = false := by simp only [beq_eq_false_iff_ne, ne_eq]; omega
    rw [e1, e2]; simp
theorem indexByte_no : ∀ {a : List UInt8}, (32 : UInt8) ∉ a → Lib.indexByte a 32 = -1
  | [], _ => rfl
  | c :: a, h => by
    have h1 : c ≠ 32 := fun e => h (by simp [e])
    have h2 : (32 : UInt8) ∉ a := fun e => h (by simp [e])
    rw [Lib.indexByte, indexByte_no h2]
    have e1 : (c == 32) = false := by simpa using h1
    rw [e1]; simp
theorem indexB_blank (s : ByteArray) : Lib.indexB s (bs [32]) = Lib.indexByte s.data.toList 32 := Lib.one s (bs [32]) rfl
theorem first_blank : ∀ (s : List UInt8), (32 : UInt8) ∉ s ∨ ∃ a b, s = a ++ 32 :: b ∧ (32 : UInt8) ∉ a
  | [] => .inl (by simp)
  | c :: s => by
    by_cases h : c = 32
    · exact .inr ⟨[], s, by rw [h]; rfl, by simp⟩
    · rcases first_blank s with h2 | ⟨a, b, h2, h3⟩
      · exact .inl (by simp [h2]; exact fun e => h e.symm)
      · exact .inr ⟨c :: a, b, by simp [h2], by simp [h3]; exact fun e => h e.symm⟩
theorem bs_toList (s : ByteArray) : bs s.data.toList = s := by cases s; rfl
theorem split_eqB : ∀ (n : Nat) (s : List UInt8), s.length ≤ n → (Lib.splitB (bs [32]) 0 (Lib.countB (bs s) (bs [32])) (bs s)).map (·.data.toList) = splitOnL s
  | n, s, hn => by
    rcases first_blank s with h | ⟨a, b, rfl, h⟩
    · have e : Lib.indexB (bs s) (bs [32]) = -1 := by rw [indexB_blank]; exact indexByte_no (by simpa [bs] using h)
      rw [Lib.countB_miss _ _ e, splitOn_no h]
      simp [Lib.splitB, bs]
    · have e : Lib.indexB (bs (a ++ 32 :: b)) (bs [32]) = (a.length : Nat) := by
        rw [indexB_blank]
        have : (bs (a ++ 32 :: b)).data.toList = a ++ 32 :: b := by simp [bs]
        rw [this]; exact indexByte_app h
      have ex : (bs (a ++ 32 :: b)).extract (a.length + (bs [32]).size) (bs (a ++ 32 :: b)).size = bs b := by
        rw [← bs_toList (ByteArray.extract _ _ _), Lib.extract_data]
        congr 1
        have e1 : (bs (a ++ 32 :: b)).data.toList = a ++ 32 :: b := by simp [bs]
        have e2 : (bs [32]).size = 1 := rfl
        have e3 : (bs (a ++ 32 :: b)).size = a.length + (b.length + 1) := by rw [bs_size]; simp
        rw [e1, e2, e3, show a ++ 32 :: b = (a ++ [32]) ++ b by simp, List.drop_append_of_le_length (by simp), List.drop_of_length_le (by simp), List.nil_append, List.take_of_length_le (by omega)]
      have ex0 : (bs (a ++ 32 :: b)).extract 0 (a.length + 0) = bs a := by
        rw [← bs_toList (ByteArray.extract _ _ _), Lib.extract_data]
        congr 1
        simp [bs]
      cases n with
      | zero => simp at hn
      | succ n =>
        have ih := split_eqB n b (by simp at hn; omega)
        rw [Lib.countB_hit _ _ _ (by decide) e, ex, Nat.add_comm 1, Lib.splitB_hit _ _ _ _ _ e, ex, ex0, List.map_cons, ih, splitOn_app h]
        simp [bs]
theorem split_eq (s : List UInt8) : splitL s [32] = splitOnL s := split_eqB s.length s (Nat.le_refl _)
def wordsL (s : List UInt8) : List (List UInt8) := (splitOnL s).filter (· ≠ [])
theorem digit_ofNat {d : Nat} (h : d < 10) : Lib.digitVal (UInt8.ofNat (48 + d)) = some d := by
  have : (UInt8.ofNat (48 + d)).toNat = 48 + d := by rw [UInt8.toNat_ofNat']; omega
  unfold Lib.digitVal
  rw [this, if_pos (by omega)]
  congr 1; omega
theorem decFrom_app : ∀ (a b : List UInt8) (acc n : Nat), Lib.decFrom acc a = some n → Lib.decFrom acc (a ++ b) = Lib.decFrom n b
  | [], b, acc, n, h => by cases h; rfl
  | c :: a, b, acc, n, h => by
    unfold Lib.decFrom at h
    rw [List.cons_append]
    cases hd : Lib.digitVal c with
    | none => rw [hd] at h; cases h
    | some d =>
      rw [hd] at h
      simp only at h
      conv => lhs; unfold Lib.decFrom
      rw [hd]
      exact decFrom_app a b _ n h
theorem decFrom_digits (u : Nat) : Lib.decFrom 0 (Lib.decDigits u) = some u := by
  induction u using Nat.strongRecOn with
  | ind u ih =>
    rw [Lib.decDigits]
    split
    · rename_i h
      unfold Lib.decFrom
      rw [digit_ofNat h]
      simp [Lib.decFrom]
    · rename_i h
      rw [decFrom_app _ _ _ _ (ih (u / 10) (by omega))]
      unfold Lib.decFrom
      rw [digit_ofNat (by omega)]
      simp [Lib.decFrom]; omega
theorem digits_ne (u : Nat) : Lib.decDigits u ≠ [] := by
  rw [Lib.decDigits]; split <;> simp
theorem digits_all (u : Nat) : ∀ c ∈ Lib.decDigits u, 48 ≤ c.toNat ∧ c.toNat ≤ 57 := by
  induction u using Nat.strongRecOn with
  | ind u ih =>
    have one : ∀ d, d < 10 → 48 ≤ (UInt8.ofNat (48 + d)).toNat ∧ (UInt8.ofNat (48 + d)).toNat ≤ 57 := by
      intro d hd
      rw [UInt8.toNat_ofNat']; omega
    rw [Lib.decDigits]
    split
    · rename_i h
      intro c hc
      obtain rfl := List.mem_singleton.1 hc
      exact one u h
    · rename_i h
      intro c hc
      rcases List.mem_append.1 hc with hc | hc
      · exact ih (u / 10) (by omega) c hc
      · obtain rfl := List.mem_singleton.1 hc
        exact one (u % 10) (by omega)
theorem digits_len : ∀ (k u : Nat), u < 10 ^ (k + 1) → (Lib.decDigits u).length ≤ k + 1
  | 0, u, h => by rw [Lib.decDigits, dif_pos (by simpa using h)]; simp
  | k + 1, u, h => by
    rw [Lib.decDigits]
    split
    · simp
    · have := digits_len k (u / 10) (by rw [Nat.pow_succ] at h; omega)
      simp; omega
theorem itoa_nat (u : Nat) : Lib.itoa (u : Int) = Lib.decDigits u := Lib.itoa_nonneg u
theorem atoi_itoa (u : Nat) : Lib.atoi (Lib.itoa (u : Int)) = some (u : Int) := by
  rw [itoa_nat]
  have h := decFrom_digits u
  have ha := digits_all u
  have hne := digits_ne u
  cases hd : Lib.decDigits u with
  | nil => exact absurd hd hne
  | cons c r =>
    rw [hd] at h ha
    have hc := ha c (by simp)
    unfold Lib.atoi
    have e1 : (c == 45) = false := by
      simp only [beq_eq_false_iff_ne, ne_eq]
      rintro rfl
      simp at hc
    have e2 : (c == 43) = false := by
      simp only [beq_eq_false_iff_ne, ne_eq]
      rintro rfl
      simp at hc
    simp only [e1, e2]
    simp [Lib.decNat, h]
theorem itoa_noblank (u : Nat) : (32 : UInt8) ∉ Lib.itoa (u : Int) := by
  rw [itoa_nat]
  intro h
  have := digits_all u 32 h
  simp at this
theorem itoa_ne (u : Nat) : Lib.itoa (u : Int) ≠ [] := by rw [itoa_nat]; exact digits_ne u
theorem itoa_len {u : Nat} (h : u < 1000000000000000000) : (Lib.itoa (u : Int)).length ≤ 18 := by
  rw [itoa_nat]; exact digits_len 17 u (by omega)
end Go.Proofs.Gong

/- Qs1 -/
namespace Go.Proofs.Gong
open Go Go.Sx Go.Proofs
set_option maxRecDepth 100000
def AheadIs (w : World) : Prop := ∀ i : Nat, i < 14 → w.cell? ⟨1, i, none⟩ = some (.int .i64 (aheadN i))
theorem brem {x c : Int} (hx : 0 ≤ x) (hc : 0 < c) : bRem (.int .i64 x) (.int .i64 c) = some (.int .i64 (x % c)) := by
  rw [bRem_int _ _ _ (by omega), Int.tmod_eq_emod_of_nonneg hx]
theorem bquo {x c : Int} (hx : 0 ≤ x) (hc : 0 < c) (hb : x ≤ 4611686018427387904) : bQuo (.int .i64 x) (.int .i64 c) = some (.int .i64 (x / c)) := by
  have h1 : x.tdiv c = x / c := Int.tdiv_eq_ediv_of_nonneg hx
  have h2 : 0 ≤ x / c := Int.ediv_nonneg hx (by omega)
  have h3 : x / c ≤ x := Int.ediv_le_self _ hx
  rw [bQuo_int _ _ _ (by omega), h1, wrap_id (by omega)]
theorem wquo {x c : Int} (hx : 0 ≤ x) (hc : 0 < c) (hb : x ≤ 4611686018427387904) : IntKind.i64.wrap (x.tdiv c) = x / c := by
  have := bquo hx hc hb
  rw [bQuo_int _ _ _ (by omega)] at this
  simpa using this
theorem mrem {x c : Int} (hx : 0 ≤ x) : x.tmod c = x % c := Int.tmod_eq_emod_of_nonneg hx
theorem bmul {x c : Int} (h : -4611686018427387904 ≤ x * c ∧ x * c ≤ 4611686018427387904) : bMul (.int .i64 x) (.int .i64 c) = some (.int .i64 (x * c)) := by
  rw [bMul_int, wrap_id (by omega)]
theorem ahead_ix {m : Nat} (h : m < 14) : pIndexP 14 1 (.pointer (some ⟨1, 0, none⟩)) (.int .i64 m) = some (.pointer (some ⟨1, m, none⟩)) := by
  unfold pIndexP
  simp
  omega
attribute [local irreducible] fBuild fLook fZero eqv bEqv Cl MapH LsH SlH ld1 ldN st callP eBox eAlloc lenM lenL eMapSet eDelete eAppend eBuildSl eRange eNext
section
variable {w0 w : World} {L : List HP} {K : Value → World → Prop}
theorem leap_spec {y : Int} (hy : 0 ≤ y) (hK : K (.int .i64 (leapN y)) w) : callP G189 [.int .i64 y] w K := by
  refine c189 ?_
  unfold F189
  have e1 := brem (x := y) (c := 4) hy (by omega)
  have e2 := brem (x := y) (c := 100) hy (by omega)
  have e3 := brem (x := y) (c := 400) hy (by omega)
  unfold leapN at hK
  by_cases h1 : y % 4 = 0
  · have g1 : decide (y % 4 = 0) = true := by simpa using h1
    by_cases h2 : y % 100 = 0
    · have g2 : decide (y % 100 = 0) = true := by simpa using h2
      by_cases h3 : y % 400 = 0
      · have g3 : decide (y % 400 = 0) = true := by simpa using h3
        rw [if_pos ⟨h1, .inr h3⟩] at hK
        (repeat(first
|simp(disch:=omega)only[evA,evB,evC,bAdd_i64,bSub_i64,g1,g2,g3]
|refine go_some (e1 ..) ?_
|refine go_some (e2 ..) ?_
|refine go_some (e3 ..) ?_))
        exact hK
      · have g3 : decide (y % 400 = 0) = false := by simpa using h3
        rw [if_neg (by rintro ⟨_, h | h⟩ <;> omega)] at hK
        (repeat(first
|simp(disch:=omega)only[evA,evB,evC,bAdd_i64,bSub_i64,g1,g2,g3]
|refine go_some (e1 ..) ?_
|refine go_some (e2 ..) ?_
|refine go_some (e3 ..) ?_))
        exact hK
    · have g2 : decide (y % 100 = 0) = false := by simpa using h2
      rw [if_pos ⟨h1, .inl h2⟩] at hK
      (repeat(first
|simp(disch:=omega)only[evA,evB,evC,bAdd_i64,bSub_i64,g1,g2]
|refine go_some (e1 ..) ?_
|refine go_some (e2 ..) ?_))
      exact hK
  · have g1 : decide (y % 4 = 0) = false := by simpa using h1
    rw [if_neg (fun h => h1 h.1)] at hK
    (repeat(first
|simp(disch:=omega)only[evA,evB,evC,bAdd_i64,bSub_i64,g1]
|refine go_some (e1 ..) ?_))
    exact hK
theorem since_spec {y : Int} (hy : 1 ≤ y ∧ y ≤ 100000) (hK : K (.int .i64 (sinceN y)) w) : callP G144 [.int .i64 y] w K := by
  refine c144 ?_
  unfold F144
  have e0 := bmul (x := y - 1) (c := 365) (by omega)
  have e1 := bquo (x := y - 1) (c := 4) (by omega) (by omega) (by omega)
  have e2 := bquo (x := y - 1) (c := 100) (by omega) (by omega) (by omega)
  have e3 := bquo (x := y - 1) (c := 400) (by omega) (by omega) (by omega)
  (repeat(first
|simp(disch:=omega)only[evA,evB,evC,bAdd_i64,bSub_i64]
|refine go_some (e0 ..) ?_
|refine go_some (e1 ..) ?_
|refine go_some (e2 ..) ?_
|refine go_some (e3 ..) ?_))
  exact hK
theorem before_spec {y : Int} {m : Nat} (A : AheadIs w0) (h : Sat w0 L w) (hy : 0 ≤ y) (hm : m < 14) (hK : ∀ w', Sat w0 L w' → K (.int .i64 (beforeN y m)) w') : callP G145 [.int .i64 y, .int .i64 (m : Nat)] w K := by
  refine c145 ?_
  unfold F145
  have e1 := ahead_ix hm
  unfold beforeN at hK
  have ha := leap_le y
  by_cases g : 2 < m
  · have g1 : decide ((m : Int) > 2) = true := by simp; omega
    rw [if_pos g] at hK
    have l1 : ld1 (.pointer (some ⟨1, m, none⟩)) w = some (.int .i64 (aheadN m)) := by rw [ld1_ptr, h.cellOld (A m hm)]
    have l2 : ld1 (.pointer (some ⟨1, m, none⟩)) w.drew = some (.int .i64 (aheadN m)) := by rw [ld1_ptr, h.drew.cellOld (A m hm)]
    have hb : 0 ≤ aheadN m ∧ aheadN m ≤ 365 := by
      have : ∀ i : Fin 14, 0 ≤ aheadN i.val ∧ aheadN i.val ≤ 365 := by decide
      exact this ⟨m, hm⟩
    (repeat(first
|simp(disch:=omega)only[evA,evB,evC,bAdd_i64,bSub_i64,g1]
|refine go_some (e1 ..) ?_))
    rw [l1]
    simp only [bindP_some]
    refine leap_spec hy ?_
    refine ⟨by rw [fok_true]; first | exact l1 | exact l2, ?_⟩
    (repeat simp(disch:=omega)only[evA,evB,evC,bAdd_i64,bSub_i64])
    exact hK _ h.drew
  · have g1 : decide ((m : Int) > 2) = false := by simp; omega
    rw [if_neg g] at hK
    have l1 : ld1 (.pointer (some ⟨1, m, none⟩)) w = some (.int .i64 (aheadN m)) := by rw [ld1_ptr, h.cellOld (A m hm)]
    (repeat(first
|simp(disch:=omega)only[evA,evB,evC,bAdd_i64,bSub_i64,g1]
|refine go_some (e1 ..) ?_))
    rw [l1]
    simp only [bindP_some]
    exact hK _ h
theorem two_spec {n : Int} (h : Sat w0 L w) (hn : 0 ≤ n ∧ n < 100) (hK : ∀ w', Sat w0 L w' → K (.string (bs (twoL n))) w') : callP G146 [.int .i64 n] w K := by
  refine c146 ?_
  unfold F146
  have e1 := bquo (x := n) (c := 10) (by omega) (by omega) (by omega)
  have e2 := brem (x := n) (c := 10) (by omega) (by omega)
  have c8 : ∀ k : Int, 0 ≤ k → k < 256 → cInt .u8 (.int .i64 k) = some (.int .u8 ((UInt8.ofNat k.toNat).toNat : Nat)) := by
    intro k h1 h2
    have : (UInt8.ofNat k.toNat).toNat = k.toNat := by rw [UInt8.toNat_ofNat']; omega
    rw [this]
    simp only [cInt]
    have : IntKind.u8.wrap k = k := Int.emod_eq_of_lt h1 (show k < 256 from h2)
    rw [this]
    congr 2; omega
  have c1 := c8 (48 + n / 10) (by omega) (by omega)
  have c2 := c8 (48 + n % 10) (by omega) (by omega)
  (repeat(first
|simp(disch:=omega)only[evA,evB,evC,bAdd_i64,bSub_i64]
|refine go_some (e1 ..) ?_
|refine go_some (e2 ..) ?_
|refine go_some (c1 ..) ?_
|refine go_some (c2 ..) ?_))
  have hb : fBuildSl Tryz.prog 5 2 [(0, .int .u8 ((UInt8.ofNat (48 + n / 10).toNat).toNat : Nat)), (1, .int .u8 ((UInt8.ofNat (48 + n % 10).toNat).toNat : Nat))] = some #[.int .u8 ((UInt8.ofNat (48 + n / 10).toNat).toNat : Nat), .int .u8 ((UInt8.ofNat (48 + n % 10).toNat).toNat : Nat)] := by kernel_rfl
  refine eBuildSl_sat (es := 1) h u150 hb rfl fun sv w h => ?_
  have hc : cBytes sv w = some (.string (bs (twoL n))) := by
    refine cBytes_rd (l := twoL n) (n := 2) ?_ (by omega)
    have := h.rd
    have e1 : (48 + n / 10).toNat = 48 + n.toNat / 10 := by omega
    have e2 : (48 + n % 10).toNat = 48 + n.toNat % 10 := by omega
    rw [e1, e2] at this
    exact this
  rw [hc]
  simp only [bindP_some]
  exact hK _ h.drop
theorem show_year {days left : Int} : ∀ (k m : Nat) (y : Int) (w : World), k < m → sinceN y ≤ days → days < sinceN y + 365 * k → 1 ≤ y → y + k ≤ 100000 → 0 ≤ days → days ≤ 30000 → (∀ y', y' = yearL k days y → F100_3 (.int .i64 days) (.int .i64 left) (.int .i64 y') w K) → F100_2L m (.int .i64 days) (.int .i64 left) (.int .i64 y) w K
  | 0, m, y, w, _, h1, h2, _, _, _, _, _ => by simp at h2; omega
  | k + 1, m, y, w, hm, h1, h2, h3, h4, h5, h6, hK => by
    obtain ⟨m, rfl⟩ : ∃ q, m = q + 1 := ⟨m - 1, by omega⟩
    push_cast at h2 h4
    rw [F100_2L]
    unfold F100_2b
    (repeat simp(disch:=omega)only[evA,evB,evC,bAdd_i64,bSub_i64])
    refine since_spec (y := y + 1) (by omega) ?_
    by_cases g : sinceN (y + 1) ≤ days
    · have g' : decide (sinceN (y + 1) ≤ days) = true := by simpa using g
      have e := since_next y
      have l := leap_le y
      (repeat simp(disch:=omega)only[evA,evB,evC,bAdd_i64,bSub_i64,g'])
      refine show_year k m (y + 1) w (by omega) g (by omega) (by omega) (by omega) h5 h6 fun y' hy => hK y' ?_
      rw [hy]; conv => rhs; unfold yearL
      rw [if_pos g]
    · have g' : decide (sinceN (y + 1) ≤ days) = false := by simpa using g
      (repeat simp(disch:=omega)only[evA,evB,evC,bAdd_i64,bSub_i64,g'])
      refine hK y ?_
      unfold yearL
      rw [if_neg g]
theorem show_month {d left y : Int} (A : AheadIs w0) (hy : 1 ≤ y ∧ y ≤ 100000) (hd : d < 365 + leapN y) : ∀ (k n m : Nat) (w : World), k < n → m + k = 13 → 1 ≤ m → m ≤ 12 → beforeN y m ≤ d → Sat w0 L w → (∀ w', Sat w0 L w' → F100_5 (.int .i64 d) (.int .i64 left) (.int .i64 y) (.int .i64 (monthL k y d m : Nat)) w' K) → F100_4L n (.int .i64 d) (.int .i64 left) (.int .i64 y) (.int .i64 (m : Nat)) w K
  | 0, n, m, w, _, h1, _, h2, _, _, _ => by omega
  | k + 1, n, m, w, hn, h1, h2, h3, h4, h, hK => by
    obtain ⟨n, rfl⟩ : ∃ q, n = q + 1 := ⟨n - 1, by omega⟩
    rw [F100_4L]
    unfold F100_4b
    (repeat simp(disch:=omega)only[evA,evB,evC,bAdd_i64,bSub_i64])
    have e1 : ((m : Int) + 1) = ((m + 1 : Nat) : Int) := by omega
    rw [e1]
    refine before_spec A h (by omega) (by omega) fun w h => ?_
    by_cases g : beforeN y (m + 1) ≤ d
    · have g' : decide (beforeN y (m + 1) ≤ d) = true := by simpa using g
      have hm12 : m ≤ 11 := by
        rcases Nat.lt_or_ge m 12 with h | h
        · omega
        · have : m = 12 := by omega
          subst this
          rw [before_13] at g; omega
      (repeat simp(disch:=omega)only[evA,evB,evC,bAdd_i64,bSub_i64,g'])
      refine show_month A hy hd k n (m + 1) w (by omega) (by omega) (by omega) (by omega) g h fun w' h' => ?_
      have := hK w' h'
      rw [monthL, if_pos g] at this
      exact this
    · have g' : decide (beforeN y (m + 1) ≤ d) = false := by simpa using g
      (repeat simp(disch:=omega)only[evA,evB,evC,bAdd_i64,bSub_i64,g'])
      have := hK w h
      rw [monthL, if_neg g] at this
      exact this
theorem show_spec {t : Int} (A : AheadIs w0) (h : Sat w0 L w) (ht : 0 ≤ t ∧ t ≤ 2305843010) (hK : ∀ w', Sat w0 L w' → K (.string (bs (showL t))) w') : callP G100 [.int .i64 t] w K := by
  refine c100 ?_
  unfold F100 F100_1 F100_1b
  have e1 := bquo (x := t) (c := 86400) (by omega) (by omega) (by omega)
  have e2 := brem (x := t) (c := 86400) (by omega) (by omega)
  have e3 := bquo (x := t / 86400) (c := 366) (by omega) (by omega) (by omega)
  (repeat(first
|simp(disch:=omega)only[evA,evB,evC,bAdd_i64,bSub_i64]
|refine go_some (e1 ..) ?_
|refine go_some (e2 ..) ?_
|refine go_some (e3 ..) ?_))
  have hdays : 0 ≤ t / 86400 ∧ t / 86400 ≤ 30000 := by omega
  generalize hD : t / 86400 = days at *
  have hs0 := since_start days hdays.1 hdays.2
  have hs1 : days < sinceN (1970 + days / 366) + 365 * (100 : Nat) := by unfold sinceN; omega
  unfold F100_2
  refine show_year 100 fuel (1970 + days / 366) w (by unfold fuel; omega) hs0 hs1 (by omega) (by omega) hdays.1 hdays.2 fun y hy => ?_
  obtain ⟨y1, y2, y3, y4⟩ := yearL_spec 100 days _ hs0 hs1
  rw [← hy] at y1 y2 y3 y4
  unfold F100_3 F100_3b
  have hyb : 1970 ≤ y ∧ y ≤ 2200 := by omega
  refine since_spec (by omega) ?_
  have hn := since_next y
  have hl := leap_le y
  have hsr : 0 ≤ sinceN y ∧ sinceN y ≤ 100000 := by unfold sinceN; omega
  (repeat simp(disch:=omega)only[evA,evB,evC,bAdd_i64,bSub_i64])
  unfold F100_4
  have hm := monthL_spec (y := y) (d := days - sinceN y) (by omega) 12 1 (by omega) (by omega) (by omega) (by rw [before_1]; omega)
  refine show_month A (by omega) (by omega) 12 fuel 1 w (by unfold fuel; omega) (by omega) (by omega) (by omega) (by rw [before_1]; omega) h fun w h => ?_
  unfold F100_5 F100_5b
  have hL : 0 ≤ t % 86400 ∧ t % 86400 < 86400 := by omega
  have hS : showL t = twoL (y / 100) ++ twoL (y % 100) ++ [45] ++ twoL (monthL 12 y (days - sinceN y) 1 : Nat) ++ [45] ++ twoL (days - sinceN y - beforeN y (monthL 12 y (days - sinceN y) 1) + 1) ++ [84] ++ twoL (t % 86400 / 3600) ++ [58] ++ twoL (t % 86400 / 60 % 60) ++ [58] ++ twoL (t % 86400 % 60) := by
    unfold showL
    simp only
    rw [hD, ← hy]
  rw [hS] at hK
  generalize monthL 12 y (days - sinceN y) 1 = mo at *
  generalize hlf : t % 86400 = left at *
  obtain ⟨m1, m2, m3, m4⟩ := hm
  have hbr := before_range y m1 m2
  have q1 := bquo (x := y) (c := 100) (by omega) (by omega) (by omega)
  have q2 := brem (x := y) (c := 100) (by omega) (by omega)
  have q3 := bquo (x := left) (c := 3600) (by omega) (by omega) (by omega)
  have q4 := bquo (x := left) (c := 60) (by omega) (by omega) (by omega)
  have q5 := brem (x := left / 60) (c := 60) (by omega) (by omega)
  have q6 := brem (x := left) (c := 60) (by omega) (by omega)
  have w3 := wquo (x := left) (c := 3600) (by omega) (by omega) (by omega)
  have w4 := wquo (x := left) (c := 60) (by omega) (by omega) (by omega)
  have w5 := mrem (x := left / 60) (c := 60) (by omega)
  have w6 := mrem (x := left) (c := 60) (by omega)
  (repeat(first
|simp(disch:=omega)only[evA,evB,evC,bAdd_i64,bSub_i64,w3,w4,w5,w6]
|refine go_some (q1 ..) ?_))
  refine two_spec h (by omega) fun w h => ?_
  (repeat refine go_some (q2 ..) ?_)
  refine two_spec h (by omega) fun w h => ?_
  skip
  refine go_some (add_txt (by simp [twoL])) ?_
  skip
  refine go_some (add_txt (by simp [twoL])) ?_
  skip
  refine two_spec (n := (mo : Int)) h (by omega) fun w h => ?_
  skip
  refine go_some (add_txt (by simp [twoL])) ?_
  skip
  refine go_some (add_txt (by simp [twoL])) ?_
  skip
  refine before_spec A h (by omega) (by omega) fun w h => ?_
  (repeat simp(disch:=omega)only[evA,evB,evC,bAdd_i64,bSub_i64,w3,w4,w5,w6])
  refine two_spec h (by omega) fun w h => ?_
  skip
  refine go_some (add_txt (by simp [twoL])) ?_
  skip
  refine go_some (add_txt (by simp [twoL])) ?_
  skip
  (repeat refine go_some (q3 ..) ?_)
  refine two_spec h (by omega) fun w h => ?_
  skip
  refine go_some (add_txt (by simp [twoL])) ?_
  skip
  refine go_some (add_txt (by simp [twoL])) ?_
  skip
  (repeat(first
|refine go_some (q4 ..) ?_
|refine go_some (q5 ..) ?_))
  refine two_spec h (by omega) fun w h => ?_
  skip
  refine go_some (add_txt (by simp [twoL])) ?_
  skip
  refine go_some (add_txt (by simp [twoL])) ?_
  skip
  (repeat refine go_some (q6 ..) ?_)
  refine two_spec h (by omega) fun w h => ?_
  skip
  refine go_some (add_txt (by simp [twoL])) ?_
  skip
  exact hK _ h
def wholeL (t nano : Int) : List UInt8 := if nano = 0 then showL t else showL t ++ [46] ++ Lib.trimRightB ((Lib.itoa (1000000000 + nano)).drop 1) 48
def stampL (t : Int) : List UInt8 := wholeL (t / 1000000000) (t % 1000000000) ++ [90]
theorem show_len (t : Int) : (showL t).length = 19 := by simp [showL, twoL]
theorem trimR_len (s : List UInt8) (c : UInt8) : (Lib.trimRightB s c).length ≤ s.length := by
  unfold Lib.trimRightB
  rw [List.length_reverse]
  have := (List.dropWhile_sublist (p := (· == c)) (l := s.reverse)).length_le
  simpa using this
theorem whole_len (t nano : Int) (h : 0 ≤ nano ∧ nano < 1000000000) : (wholeL t nano).length ≤ 60 := by
  unfold wholeL
  have h1 := show_len t
  split
  · omega
  · have h2 := trimR_len ((Lib.itoa (1000000000 + nano)).drop 1) 48
    have h3 := Lib.itoa_length_le (1000000000 + nano) (by omega) (by omega)
    rw [List.length_drop] at h2
    rw [List.length_append, List.length_append, h1]
    simp only [List.length_singleton]
    omega
theorem whole_spec {t nano : Int} (A : AheadIs w0) (T : PowIs Tryz.prog w0) (h : Sat w0 L w) (ht : 0 ≤ t ∧ t ≤ 2305843010) (hn : 0 ≤ nano ∧ nano < 1000000000) (hK : ∀ w', Sat w0 L w' → K (.string (bs (wholeL t nano))) w') : callP G56 [.int .i64 t, .int .i64 nano] w K := by
  refine c56 ?_
  unfold F56
  refine show_spec A h ht fun w h => ?_
  unfold wholeL at hK
  by_cases g : nano = 0
  · have g' : decide (nano = 0) = true := by simpa using g
    rw [if_pos g] at hK
    (repeat simp(disch:=omega)only[evA,evB,evC,bAdd_i64,bSub_i64,g'])
    exact hK _ h
  · have g' : decide (nano = 0) = false := by simpa using g
    rw [if_neg g] at hK
    (repeat simp(disch:=omega)only[evA,evB,evC,bAdd_i64,bSub_i64,g'])
    refine itoa_sat T h (by omega) (by omega) fun w h => ?_
    have hlen : 1 ≤ (Lib.itoa (1000000000 + nano)).length := by
      obtain ⟨u, hu⟩ : ∃ u : Nat, 1000000000 + nano = u := ⟨(1000000000 + nano).toNat, by omega⟩
      rw [hu]
      have := itoa_ne u
      cases hi : Lib.itoa (u : Int) with
      | nil => exact absurd hi this
      | cons => simp
    have hmax : (Lib.itoa (1000000000 + nano)).length ≤ 21 := Lib.itoa_length_le _ (by omega) (by omega)
    have hsl := show_len t
    have htr := trimR_len ((Lib.itoa (1000000000 + nano)).drop 1) 48
    rw [List.length_drop] at htr
    skip
    refine go_some (add_txt (by rw [hsl]; simp)) ?_
    skip
    refine go_some (sub_from (i := 1) hlen) ?_
    refine trimR1_sat (by decide) (by rw [List.length_drop]; omega) ?_
    refine go_some (add_txt (by rw [List.length_append, hsl]; simp only [List.length_singleton]; omega)) ?_
    exact hK _ h
theorem print_spec {t : Int} (A : AheadIs w0) (T : PowIs Tryz.prog w0) (h : Sat w0 L w) (ht : 0 ≤ t ∧ t ≤ 2305843009213693952) (hK : ∀ w', Sat w0 L w' → K (.tuple #[.string (bs (stampL t)), .int .i64 0]) w') : callP G28 [.int .i64 t] w K := by
  refine c28 ?_
  unfold F28
  have g1 : decide (t < 0) = false := by simp; omega
  have g2 : decide (t > 2305843009213693952) = false := by simp; omega
  have q1 := bquo (x := t) (c := 1000000000) (by omega) (by omega) (by omega)
  have q2 := brem (x := t) (c := 1000000000) (by omega) (by omega)
  (repeat(first
|simp(disch:=omega)only[evA,evB,evC,bAdd_i64,bSub_i64,g1,g2]
|refine go_some (q1 ..) ?_
|refine go_some (q2 ..) ?_))
  refine whole_spec A T h (by omega) (by omega) fun w h => ?_
  have := whole_len (t / 1000000000) (t % 1000000000) (by omega)
  skip
  refine go_some (add_txt (by simp only [List.length_singleton]; omega)) ?_
  exact hK _ h
end
end Go.Proofs.Gong

/- So7 -/
namespace Go.Proofs.Gong
open Go Go.Sx Go.Proofs
set_option maxRecDepth 100000
def ByH (ty : TypeId) (v : Value) (l : List UInt8) : HP := HEx fun b => HEx fun c => HEx fun fz =>
  HPr (v = .slice (some ⟨b, 0, none⟩) l.length c.size ∧ l.length ≤ c.size ∧ c.toList.take l.length = cellsB l ∧ (fz = (0, 0) ∨ fz = (c.size, c.size + 1))) (Blk b (.cells c ty fz))
theorem byH_iff {w0 w : World} {L : List HP} {ty : TypeId} {v : Value} {l : List UInt8} : Sat w0 (ByH ty v l :: L) w ↔ ∃ b c fz, (v = .slice (some ⟨b, 0, none⟩) l.length c.size ∧ l.length ≤ c.size ∧ c.toList.take l.length = cellsB l ∧ (fz = (0, 0) ∨ fz = (c.size, c.size + 1))) ∧ Sat w0 (Blk b (.cells c ty fz) :: L) w := by
  simp only [ByH, Sat.ex_iff, Sat.pr_iff]
section
variable {w0 w : World} {L : List HP} {P : Program} {ty : TypeId} {v : Value} {l : List UInt8} {K : Value → World → Prop}
theorem byH_rd (h : Sat w0 (ByH ty v l :: L) w) : Rd w 1 v l.length (cellsB l) := by
  obtain ⟨b, c, fz, ⟨rfl, h1, h2, h3⟩, hs⟩ := byH_iff.1 h
  exact .blk hs.blk h1 (by omega) (by rw [List.drop_zero, Nat.mul_one]; exact h2.symm)
theorem toBytes_own {s d el : TypeId} (h : Sat w0 L w) (us : P.underlying s = some .string) (ud : P.underlying d = some (.slice el)) (ue : P.underlying el = some (.int .u8))
    (hK : ∀ v w', Sat w0 (ByH el v l :: L) w' → K v w') : eToBytes P s d (.string (bs l)) w K := by
  simp only [eToBytes, us, ud, ue]
  intro cap hc
  have h1 := (h.drew).alloc (.cells (((bs l).data.map fun b => .int .u8 b.toNat) ++ Array.replicate (cap - (bs l).size) (.int .u8 0)) el (cap, cap + 1))
  simp at hc
  have hsz : (((bs l).data.map fun b : UInt8 => Value.int .u8 b.toNat) ++ Array.replicate (cap - (bs l).size) (Value.int .u8 0)).size = cap := by simp [bs, ByteArray.size] at *; omega
  refine hK _ _ (byH_iff.2 ⟨_, _, _, ⟨?_, ?_, ?_, ?_⟩, h1⟩)
  · rw [hsz]; simp [sl]
  · rw [hsz]; exact hc
  · simp [bs, cellsB]
  · rw [hsz]; exact .inr rfl
end
end Go.Proofs.Gong

/- Qs2 -/
namespace Go.Proofs.Gong
open Go Go.Sx Go.Proofs
set_option maxRecDepth 100000
theorem sh4 (c : UInt8) : bShr (.int .u8 (c.toNat : Nat)) (.int .u64 4) = some (.int .u8 ((c.toNat / 16 : Nat))) := by
  have : (c.toNat : Int).fdiv 16 = ((c.toNat / 16 : Nat) : Int) := by
    rw [Int.fdiv_eq_ediv_of_nonneg _ (by omega)]; omega
  show some (Value.int .u8 ((c.toNat : Int).fdiv 16)) = _
  rw [this]
theorem an15 (c : UInt8) : bBit .and (.int .u8 (c.toNat : Nat)) (.int .u8 15) = some (.int .u8 ((c.toNat % 16 : Nat))) := by
  have h : ∀ n : Fin 256, bBits .and .u8 (n.val : Nat) 15 = some ((n.val % 16 : Nat) : Int) := by decide
  have := h ⟨c.toNat, c.toNat_lt⟩
  simp only [bBit, if_true]
  rw [show ((15 : Int)) = 15 from rfl, this]; rfl
theorem ixhex {d : Nat} (h : d < 16) : pIndexS (.string ⟨#[48, 49, 50, 51, 52, 53, 54, 55, 56, 57, 97, 98, 99, 100, 101, 102]⟩) (.int .u8 (d : Nat)) = some (.int .u8 ((hexB d).toNat : Nat)) := by
  have : d = 0 ∨ d = 1 ∨ d = 2 ∨ d = 3 ∨ d = 4 ∨ d = 5 ∨ d = 6 ∨ d = 7 ∨ d = 8 ∨ d = 9 ∨ d = 10 ∨ d = 11 ∨ d = 12 ∨ d = 13 ∨ d = 14 ∨ d = 15 := by omega
  rcases this with rfl | rfl | rfl | rfl | rfl | rfl | rfl | rfl | rfl | rfl | rfl | rfl | rfl | rfl | rfl | rfl <;> rfl
theorem u8_eq {c : UInt8} {k : Nat} (hk : k < 256) : c = UInt8.ofNat k ↔ c.toNat = k := by
  constructor
  · rintro rfl; rw [UInt8.toNat_ofNat']; omega
  · intro h; subst h; simp
abbrev selfP (b : Nat) : Value := .pointer (some ⟨b, 0, none⟩)
attribute [local irreducible] fBuild fLook fZero eqv bEqv Cl MapH LsH SlH ld1 ldN st callP eBox eAlloc lenM lenL eMapSet eDelete eAppend eBuildSl eRange eNext
section
variable {w0 w : World} {L : List HP} {K : Value → World → Prop} {b : Nat} {p sv : Value} {l s : List UInt8} {c : UInt8}
theorem wbyte_spec (hp : p = .pointer none ∨ p = selfP b) (hz : Z0 sv) (hl : l.length + 1 ≤ 140737488355328) (h : Sat w0 (Cl b #[p, sv] 152 :: LsH cB8 1 5 sv l :: L) w)
    (hK : ∀ sv' w', Z0 sv' → Sat w0 (Cl b #[selfP b, sv'] 152 :: LsH cB8 1 5 sv' (l ++ [c]) :: L) w' → K .nilIface w') : callP G57 [.pointer (some ⟨b, 0, none⟩), .int .u8 (c.toNat : Nat)] w K := by
  refine c57 ?_
  unfold F57
  refine callP_intro ⟨b, w0, _, p, sv, rfl, hp, h, fun w h => ?_⟩
  have o1 : OneV sv := ls_one (Sat.f1 h)
  (repeat(first
|simp(disch:=omega)only[evA,evB,evC,bAdd_i64,bSub_i64]
|with_reducible refine go_s h ?_))
  refine eBuildSl_sat (es := 1) h u150 (c := #[.int .u8 (c.toNat : Nat)]) (by kernel_rfl) rfl fun tv w h => ?_
  have hrd : Rd w 1 tv ([c] : List UInt8).length (([c] : List UInt8).flatMap cB8) := h.rd
  refine app_z0 (l := l) (m := [c]) (L := Cl b #[selfP b, sv] 152 :: L) (h.got) hz sl150 (by kernel_rfl) hrd (by simpa using hl) fun sv' w hz' h => ?_
  have o2 : OneV sv' := ls_one h
  (repeat ((with_reducible refine go_w h ?_);intro _ h))
  exact hK sv' _ hz' (h.got)
theorem wstr_spec {m : List UInt8} (hp : p = .pointer none ∨ p = selfP b) (hz : Z0 sv) (hl : l.length + m.length ≤ 140737488355328) (h : Sat w0 (Cl b #[p, sv] 152 :: LsH cB8 1 5 sv l :: L) w)
    (hK : ∀ sv' w', Z0 sv' → Sat w0 (Cl b #[selfP b, sv'] 152 :: LsH cB8 1 5 sv' (l ++ m) :: L) w' → K (.tuple #[.int .i64 m.length, .nilIface]) w') : callP G58 [.pointer (some ⟨b, 0, none⟩), .string (bs m)] w K := by
  refine c58 ?_
  unfold F58
  refine callP_intro ⟨b, w0, _, p, sv, rfl, hp, h, fun w h => ?_⟩
  have o1 : OneV sv := ls_one (Sat.f1 h)
  (repeat(first
|simp(disch:=omega)only[evA,evB,evC,bAdd_i64,bSub_i64]
|with_reducible refine go_s h ?_))
  refine app_str (l := l) (m := m) (L := Cl b #[selfP b, sv] 152 :: L) (h.got) hz sl150 (by kernel_rfl) hl fun sv' w hz' h => ?_
  have o2 : OneV sv' := ls_one h
  (repeat ((with_reducible refine go_w h ?_);intro _ h))
  exact hK sv' _ hz' (h.got)
theorem quote_esc {R3 : Value → Value → Value → Value → World → Prop} {wB : World} {bv len : Value} {acc : List UInt8} {i : Nat} (hs : s.length ≤ 1000000000) (hi : i < s.length) (hlen : len = .int .i64 s.length) (hz : Z0 sv) (hl : acc.length ≤ 140737488355000) (h : Sat wB (Cl b #[selfP b, sv] 152 :: LsH cB8 1 5 sv acc :: ByH 5 bv s :: []) w)
    (hR : ∀ sv' w', Z0 sv' → Sat wB (Cl b #[selfP b, sv'] 152 :: LsH cB8 1 5 sv' (acc ++ escL s[i]) :: ByH 5 bv s :: []) w' → R3 (.pointer (some ⟨b, 0, none⟩)) bv len (.int .i64 ((i : Int) + 1)) w') :
    F29_4 (.pointer (some ⟨b, 0, none⟩)) bv len (.int .i64 (i : Nat)) w K R3 := by
  subst hlen
  unfold F29_4 F29_4b
  have g' : decide ((i : Int) < (s.length : Int)) = true := by simpa using hi
  have hrd : Rd w 1 bv s.length (s.flatMap cB8) := by
    rw [cB8_cells]; exact byH_rd (h.got)
  have e1 := ix_el hrd hi
  have e2 : ld1 (elP 1 bv i) w = some (.int .u8 (s[i].toNat : Nat)) := rd_ld1 (g := fun x : UInt8 => .int .u8 (x.toNat : Nat)) hrd hi
  have fin : ∀ (sv' : Value) (w' : World), Z0 sv' → Sat wB (Cl b #[selfP b, sv'] 152 :: LsH cB8 1 5 sv' (acc ++ escL s[i]) :: ByH 5 bv s :: []) w' → F29_5 (.pointer (some ⟨b, 0, none⟩)) bv (.int .i64 s.length) (.int .i64 (i : Nat)) w' K R3 := by
    intro sv' w' hz' h'
    unfold F29_5 F29_5b
    (repeat simp(disch:=omega)only[evA,evB,evC,bAdd_i64,bSub_i64])
    exact hR sv' w' hz' h'
  generalize s[i] = c at *
  have k34 := u8_eq (c := c) (k := 34) (by omega)
  have k92 := u8_eq (c := c) (k := 92) (by omega)
  have k10 := u8_eq (c := c) (k := 10) (by omega)
  have k9 := u8_eq (c := c) (k := 9) (by omega)
  have hpb : selfP b = .pointer none ∨ selfP b = selfP b := .inr rfl
  unfold escL at fin
  by_cases g1 : c = 34
  · have d1 : decide ((c.toNat : Int) = 34) = true := by simp; have := k34.1 g1; omega
    rw [if_pos (.inl g1)] at fin
    (repeat(first
|simp(disch:=omega)only[evA,evB,evC,bAdd_i64,bSub_i64,g']
|refine go_some (e1 ..) ?_))
    rw [e2]
    (repeat simp(disch:=omega)only[evA,evB,evC,bAdd_i64,bSub_i64,d1])
    refine wbyte_spec (c := 92) hpb hz (by omega) h fun sv1 w hz1 h => ?_
    skip
    refine wbyte_spec (c := c) hpb hz1 (by simp; omega) h fun sv2 w hz2 h => ?_
    refine fin sv2 w hz2 ?_
    rw [List.append_assoc] at h; exact h
  have d1 : decide ((c.toNat : Int) = 34) = false := by
    simp only [decide_eq_false_iff_not]; intro e; exact g1 (k34.2 (by omega))
  by_cases g2 : c = 92
  · have d2 : decide ((c.toNat : Int) = 92) = true := by simp; have := k92.1 g2; omega
    rw [if_pos (.inr g2)] at fin
    (repeat(first
|simp(disch:=omega)only[evA,evB,evC,bAdd_i64,bSub_i64,g']
|refine go_some (e1 ..) ?_))
    rw [e2]
    (repeat simp(disch:=omega)only[evA,evB,evC,bAdd_i64,bSub_i64,d1,d2])
    refine wbyte_spec (c := 92) hpb hz (by omega) h fun sv1 w hz1 h => ?_
    skip
    refine wbyte_spec (c := c) hpb hz1 (by simp; omega) h fun sv2 w hz2 h => ?_
    refine fin sv2 w hz2 ?_
    rw [List.append_assoc] at h; exact h
  have d2 : decide ((c.toNat : Int) = 92) = false := by
    simp only [decide_eq_false_iff_not]; intro e; exact g2 (k92.2 (by omega))
  rw [if_neg (by rintro (h | h) <;> contradiction)] at fin
  by_cases g3 : c = 10
  · have d3 : decide ((c.toNat : Int) = 10) = true := by simp; have := k10.1 g3; omega
    rw [if_pos g3] at fin
    (repeat(first
|simp(disch:=omega)only[evA,evB,evC,bAdd_i64,bSub_i64,g']
|refine go_some (e1 ..) ?_))
    rw [e2]
    (repeat simp(disch:=omega)only[evA,evB,evC,bAdd_i64,bSub_i64,d1,d2,d3])
    refine wstr_spec (m := [92, 110]) hpb hz (by simp; omega) h fun sv1 w hz1 h => ?_
    exact fin sv1 w hz1 h
  have d3 : decide ((c.toNat : Int) = 10) = false := by
    simp only [decide_eq_false_iff_not]; intro e; exact g3 (k10.2 (by omega))
  rw [if_neg g3] at fin
  by_cases g4 : c = 9
  · have d4 : decide ((c.toNat : Int) = 9) = true := by simp; have := k9.1 g4; omega
    rw [if_pos g4] at fin
    (repeat(first
|simp(disch:=omega)only[evA,evB,evC,bAdd_i64,bSub_i64,g']
|refine go_some (e1 ..) ?_))
    rw [e2]
    (repeat simp(disch:=omega)only[evA,evB,evC,bAdd_i64,bSub_i64,d1,d2,d3,d4])
    refine wstr_spec (m := [92, 116]) hpb hz (by simp; omega) h fun sv1 w hz1 h => ?_
    exact fin sv1 w hz1 h
  have d4 : decide ((c.toNat : Int) = 9) = false := by
    simp only [decide_eq_false_iff_not]; intro e; exact g4 (k9.2 (by omega))
  rw [if_neg g4] at fin
  have k32 : c < 32 ↔ c.toNat < 32 := UInt8.lt_iff_toNat_lt
  have k127 : 127 ≤ c ↔ 127 ≤ c.toNat := UInt8.le_iff_toNat_le
  by_cases g5 : c < 32 ∨ 127 ≤ c
  · rw [if_pos g5] at fin
    have x1 := sh4 c
    have x2 := an15 c
    have x3 := ixhex (d := c.toNat / 16) (by have := c.toNat_lt; omega)
    have x4 := ixhex (d := c.toNat % 16) (by omega)
    have s1 : (.string ⟨#[48, 49, 50, 51, 52, 53, 54, 55, 56, 57, 97, 98, 99, 100, 101, 102]⟩ : Value) = .string (bs [48, 49, 50, 51, 52, 53, 54, 55, 56, 57, 97, 98, 99, 100, 101, 102]) := rfl
    rw [s1] at x3 x4
    by_cases q : c.toNat < 32
    · have d5 : decide ((c.toNat : Int) < 32) = true := by simp; omega
      (repeat(first
|simp(disch:=omega)only[evA,evB,evC,bAdd_i64,bSub_i64,g']
|refine go_some (e1 ..) ?_))
      rw [e2]
      (repeat(first
|simp(disch:=omega)only[evA,evB,evC,bAdd_i64,bSub_i64,d1,d2,d3,d4,d5]
|refine go_some (x1 ..) ?_
|refine go_some (x2 ..) ?_
|refine go_some (x3 ..) ?_
|refine go_some (x4 ..) ?_))
      refine eBuildSl_sat (es := 1) h.drew u150 (c := #[.int .u8 ((hexB (c.toNat / 16)).toNat : Nat), .int .u8 ((hexB (c.toNat % 16)).toNat : Nat)]) (by kernel_rfl) rfl fun tv w h => ?_
      have hcb : cBytes tv w = some (.string (bs [hexB (c.toNat / 16), hexB (c.toNat % 16)])) := cBytes_rd (l := [hexB (c.toNat / 16), hexB (c.toNat % 16)]) (n := 2) h.rd (by omega)
      rw [hcb]
      simp only [bindP_some]
      refine go_some (add_txt (a := [92, 120]) (b := [hexB (c.toNat / 16), hexB (c.toNat % 16)]) (by simp)) ?_
      refine wstr_spec (w0 := wB) (b := b) (p := selfP b) (sv := sv) (l := acc) (m := [92, 120, hexB (c.toNat / 16), hexB (c.toNat % 16)]) (L := ByH 5 bv s :: []) hpb hz (by simp only [List.length_cons, List.length_nil]; omega) (h.got) fun sv1 w hz1 h => ?_
      exact fin sv1 w hz1 h
    · have d5 : decide ((c.toNat : Int) < 32) = false := by simp; omega
      have d6 : decide ((c.toNat : Int) ≥ 127) = true := by
        rw [k32, k127] at g5
        simp; omega
      (repeat(first
|simp(disch:=omega)only[evA,evB,evC,bAdd_i64,bSub_i64,g']
|refine go_some (e1 ..) ?_))
      rw [e2]
      (repeat(first
|simp(disch:=omega)only[evA,evB,evC,bAdd_i64,bSub_i64,d1,d2,d3,d4,d5,d6]
|refine go_some (x1 ..) ?_
|refine go_some (x2 ..) ?_
|refine go_some (x3 ..) ?_
|refine go_some (x4 ..) ?_))
      refine eBuildSl_sat (es := 1) h.drew u150 (c := #[.int .u8 ((hexB (c.toNat / 16)).toNat : Nat), .int .u8 ((hexB (c.toNat % 16)).toNat : Nat)]) (by kernel_rfl) rfl fun tv w h => ?_
      have hcb : cBytes tv w = some (.string (bs [hexB (c.toNat / 16), hexB (c.toNat % 16)])) := cBytes_rd (l := [hexB (c.toNat / 16), hexB (c.toNat % 16)]) (n := 2) h.rd (by omega)
      rw [hcb]
      simp only [bindP_some]
      refine go_some (add_txt (a := [92, 120]) (b := [hexB (c.toNat / 16), hexB (c.toNat % 16)]) (by simp)) ?_
      refine wstr_spec (w0 := wB) (b := b) (p := selfP b) (sv := sv) (l := acc) (m := [92, 120, hexB (c.toNat / 16), hexB (c.toNat % 16)]) (L := ByH 5 bv s :: []) hpb hz (by simp only [List.length_cons, List.length_nil]; omega) (h.got) fun sv1 w hz1 h => ?_
      exact fin sv1 w hz1 h
  · have g5' := g5
    rw [k32, k127] at g5'
    have d5 : decide ((c.toNat : Int) < 32) = false := by simp; omega
    have d6 : decide ((c.toNat : Int) ≥ 127) = false := by simp; omega
    rw [if_neg g5] at fin
    (repeat(first
|simp(disch:=omega)only[evA,evB,evC,bAdd_i64,bSub_i64,g']
|refine go_some (e1 ..) ?_))
    rw [e2]
    (repeat simp(disch:=omega)only[evA,evB,evC,bAdd_i64,bSub_i64,d1,d2,d3,d4,d5,d6])
    refine wbyte_spec (c := c) hpb hz (by omega) h fun sv1 w hz1 h => ?_
    exact fin sv1 w hz1 h
theorem esc_len (c : UInt8) : (escL c).length ≤ 4 := by
  unfold escL
  split
  · simp
  split
  · simp
  split
  · simp
  split <;> simp
theorem escs_len : ∀ (s : List UInt8), (s.flatMap escL).length ≤ 4 * s.length
  | [] => by simp
  | c :: s => by
    have := esc_len c
    have := escs_len s
    rw [List.flatMap_cons, List.length_append, List.length_cons]; omega
theorem quote_loop {wB : World} {bv : Value} (hs : s.length ≤ 1000000000) (hK : ∀ w', Sat wB [] w' → K (.string (bs (quoteL s))) w') : ∀ (k i n : Nat) (sv : Value) (w : World), i + k = s.length → k < n → Z0 sv →
    Sat wB (Cl b #[selfP b, sv] 152 :: LsH cB8 1 5 sv (34 :: (s.take i).flatMap escL) :: ByH 5 bv s :: []) w → F29_2L n (.pointer (some ⟨b, 0, none⟩)) bv (.int .i64 s.length) (.int .i64 (i : Nat)) w K
  | 0, i, n, sv, w, hi, hn, hz, h => by
    obtain ⟨n, rfl⟩ : ∃ q, n = q + 1 := ⟨n - 1, by omega⟩
    have him : i = s.length := by omega
    subst him
    have g' : decide ((s.length : Int) < (s.length : Int)) = false := by simp
    rw [F29_2L]
    unfold F29_4 F29_4b
    (repeat simp(disch:=omega)only[evA,evB,evC,bAdd_i64,bSub_i64,g'])
    unfold F29_3 F29_3b
    have hl := escs_len s
    rw [List.take_length] at h
    refine wbyte_spec (c := 34) (.inr rfl) hz (by simp only [List.length_cons]; omega) h fun sv1 w hz1 h => ?_
    refine callP_intro ⟨b, wB, _, _, sv1, _, rfl, h, hz1, by simp, by simp only [List.length_append, List.length_cons, List.length_nil]; omega, fun w' h' => ?_⟩
    exact hK w' h'
  | k + 1, i, n, sv, w, hi, hn, hz, h => by
    obtain ⟨n, rfl⟩ : ∃ q, n = q + 1 := ⟨n - 1, by omega⟩
    rw [F29_2L]
    have hl := escs_len (s.take i)
    rw [List.length_take] at hl
    refine quote_esc hs (by omega) rfl hz (by simp only [List.length_cons]; omega) h fun sv' w' hz' h' => ?_
    have e : ((i : Int) + 1) = ((i + 1 : Nat) : Int) := by omega
    rw [e]
    refine quote_loop hs hK k (i + 1) n sv' w' (by omega) (by omega) hz' ?_
    rw [List.take_succ_eq_append_getElem (by omega), List.flatMap_append]
    simpa using h'
theorem quote_spec (hs : s.length ≤ 1000000000) (h : Sat w0 L w) (hK : ∀ w', Sat w0 L w' → K (.string (bs (quoteL s))) w') : callP G29 [.string (bs s)] w K := by
  refine c29 ?_
  unfold F29 F29_1 F29_1b
  have hB := Sat.start w
  refine go_alloc hB z152 rfl fun b w1 h1 => ?_
  have h2 : Sat w (Cl b #[.pointer none, .slice none 0 0] 152 :: LsH cB8 1 5 (.slice none 0 0) ([] : List UInt8) :: []) w1 := (Sat.nilLs cB8 1 5 h1).f1
  refine wbyte_spec (c := 34) (.inl rfl) (fun a n c e => by cases e) (by simp) h2 fun sv1 w2 hz1 h3 => ?_
  refine toBytes_own h3 (by kernel_rfl) u150 (by kernel_rfl) fun bv w3 h4 => ?_
  have hrd := byH_rd h4
  have hlen := hrd.len
  have h5 : Sat w (Cl b #[selfP b, sv1] 152 :: LsH cB8 1 5 sv1 (34 :: (s.take 0).flatMap escL) :: ByH 5 bv s :: []) w3 := h4.got
  (repeat simp(disch:=omega)only[evA,evB,evC,bAdd_i64,bSub_i64,hlen])
  unfold F29_2
  exact quote_loop hs (fun w' h' => hK w' (h.unbase h')) s.length 0 fuel sv1 w3 (by omega) (by unfold fuel; omega) hz1 h5
end
end Go.Proofs.Gong

/- Qs3 -/
namespace Go.Proofs.Gong
open Go Go.Sx Go.Proofs
set_option maxRecDepth 100000
def lensum (xs : List (List UInt8)) : Nat := (xs.map (·.length)).sum
theorem lensum_take_succ {xs : List (List UInt8)} {i : Nat} (hi : i < xs.length) : lensum (xs.take (i + 1)) = lensum (xs.take i) + xs[i].length := by
  unfold lensum
  rw [List.take_succ_eq_append_getElem hi, List.map_append, List.sum_append]; simp
theorem lensum_take_le (xs : List (List UInt8)) (i : Nat) : lensum (xs.take i) ≤ lensum xs := by
  unfold lensum
  conv => rhs; rw [← List.take_append_drop i xs]
  rw [List.map_append, List.sum_append]; omega
theorem tail_len (sep : List UInt8) : ∀ (r : List (List UInt8)), (Lib.joinTail sep r).length = lensum r + sep.length * r.length
  | [] => rfl
  | x :: r => by
    have ih := tail_len sep r
    unfold Lib.joinTail lensum at *
    simp only [List.map_cons, List.flatten_cons, List.length_append, List.sum_cons, List.length_cons, Nat.mul_succ]
    omega
theorem join_len (x : List UInt8) (r : List (List UInt8)) (sep : List UInt8) : (Lib.join (x :: r) sep).length = lensum (x :: r) + sep.length * r.length := by
  rw [Lib.join_cons, List.length_append, tail_len]
  simp [lensum]; omega
theorem tail_take_succ {sep : List UInt8} {r : List (List UInt8)} {i : Nat} (hi : i < r.length) : Lib.joinTail sep (r.take (i + 1)) = Lib.joinTail sep (r.take i) ++ (sep ++ r[i]) := by
  unfold Lib.joinTail
  rw [List.take_succ_eq_append_getElem hi, List.map_append, List.flatten_append]; simp
attribute [local irreducible] fBuild fLook fZero eqv bEqv Cl MapH LsH SlH ld1 ldN st callP eBox eAlloc lenM lenL eMapSet eDelete eAppend eBuildSl eRange eNext
section
variable {w0 w wB : World} {L : List HP} {K : Value → World → Prop} {v : Value} {xs r : List (List UInt8)} {sep : List UInt8}
theorem grow_spec {b n : Nat} (hn : 0 < n ∧ n ≤ 281474976710656) (h : Sat wB (Cl b #[.pointer none, .slice none 0 0] 152 :: []) w) (hK : ∀ v w', Z0 v → Sat wB (Cl b #[selfP b, v] 152 :: LsH cB8 1 5 v ([] : List UInt8) :: []) w' → K (.tuple #[]) w') : callP G60 [.pointer (some ⟨b, 0, none⟩), .int .i64 n] w K := by
  refine c60 ?_
  unfold F60 F60_1 F60_1b
  refine callP_intro (F := gCopyCk 152) ⟨b, wB, [], .pointer none, _, rfl, .inl rfl, h, fun w h => ?_⟩
  have g1 : decide ((n : Int) < 0) = false := by simp
  (repeat simp(disch:=omega)only[evA,evB,evC,bAdd_i64,bSub_i64,g1])
  unfold F60_2 F60_2b
  have hcap : pCap (.slice none 0 0) = some (.int .i64 0) := rfl
  have g2 : decide ((0 : Int) - ((0 : Nat) : Int) < (n : Int)) = true := by simp; omega
  (repeat(first
|simp(disch:=omega)only[evA,evB,evC,bAdd_i64,bSub_i64,g2]
|refine go_some (hcap ..) ?_
|with_reducible refine go_s h ?_))
  refine callP_intro (F := gBGrow 152 5) ⟨b, n, wB, [], rfl, h.drew, hn.2, fun v w' hz h' => ?_⟩
  exact hK v w' hz h'
theorem join_sum {lv : Value} {n0 : Nat} (hrd : Rd wB 1 v xs.length (xs.flatMap cSt)) (hx : xs.length ≤ 1000000000) (hb : n0 + lensum xs ≤ 1000000000000) (hK : F30_5 v (.string (bs sep)) (.int .i64 ((n0 + lensum xs : Nat) : Int)) w K) : ∀ (k i n : Nat), i + k = xs.length → k < n → Sat wB [] w → F30_4L n v (.string (bs sep)) (.int .i64 ((n0 + lensum (xs.take i) : Nat) : Int)) v (.int .i64 xs.length) (.int .i64 (i : Nat)) w K
  | 0, i, n, hi, hn, h => by
    obtain ⟨n, rfl⟩ : ∃ q, n = q + 1 := ⟨n - 1, by omega⟩
    have him : i = xs.length := by omega
    subst him
    have g' : decide ((xs.length : Int) < (xs.length : Int)) = false := by simp
    rw [F30_4L]
    unfold F30_8 F30_8b
    (repeat simp(disch:=omega)only[evA,evB,evC,bAdd_i64,bSub_i64,g'])
    rw [List.take_length]
    exact hK
  | k + 1, i, n, hi, hn, h => by
    obtain ⟨n, rfl⟩ : ∃ q, n = q + 1 := ⟨n - 1, by omega⟩
    have hil : i < xs.length := by omega
    have g' : decide ((i : Int) < (xs.length : Int)) = true := by simpa using hil
    have hrd' := hrd.sat h
    have f1 := ix_el hrd' hil
    have f2 : ld1 (elP 1 v i) w = some (.string (bs xs[i])) := rd_ld1 (g := fun x : List UInt8 => .string (bs x)) hrd' hil
    have hs := lensum_take_succ hil
    have hle := lensum_take_le xs (i + 1)
    have g2 : decide ((xs[i].length : Int) > 9223372036854775807 - ((n0 + lensum (xs.take i) : Nat) : Int)) = false := by simp; omega
    rw [F30_4L]
    unfold F30_8 F30_8b
    (repeat simp(disch:=omega)only[evA,evB,evC,bAdd_i64,bSub_i64,g'])
    unfold F30_9 F30_11 F30_11b
    (repeat(first
|simp(disch:=omega)only[evA,evB,evC,bAdd_i64,bSub_i64]
|refine go_some (f1 ..) ?_))
    rw [f2]
    (repeat simp(disch:=omega)only[evA,evB,evC,bAdd_i64,bSub_i64,g2])
    unfold F30_12 F30_12b
    (repeat simp(disch:=omega)only[evA,evB,evC,bAdd_i64,bSub_i64])
    unfold F30_10 F30_10b
    (repeat simp(disch:=omega)only[evA,evB,evC,bAdd_i64,bSub_i64])
    have e1 : ((n0 + lensum (xs.take i) : Nat) : Int) + (xs[i].length : Int) = ((n0 + lensum (xs.take (i + 1)) : Nat) : Int) := by omega
    have e2 : (i : Int) + 1 = ((i + 1 : Nat) : Int) := by omega
    rw [e1, e2]
    exact join_sum (lv := lv) hrd hx hb hK k (i + 1) n (by omega) (by omega) h
theorem join_rest {b : Nat} {rv : Value} {x : List UInt8} (hrd : Rd wB 1 rv r.length (r.flatMap cSt)) (hr : r.length ≤ 1000000000) (hb : (Lib.join (x :: r) sep).length ≤ 1000000000000) (hne : sep ≠ []) (hr0 : r ≠ []) (hK : ∀ w', Sat wB [] w' → K (.string (bs (Lib.join (x :: r) sep))) w') : ∀ (k i n : Nat) (sv : Value) (w : World), i + k = r.length → k < n → Z0 sv →
    Sat wB (Cl b #[selfP b, sv] 152 :: LsH cB8 1 5 sv (x ++ Lib.joinTail sep (r.take i)) :: []) w → F30_6L n (.string (bs sep)) (.pointer (some ⟨b, 0, none⟩)) rv (.int .i64 r.length) (.int .i64 (i : Nat)) w K
  | 0, i, n, sv, w, hi, hn, hz, h => by
    obtain ⟨n, rfl⟩ : ∃ q, n = q + 1 := ⟨n - 1, by omega⟩
    have him : i = r.length := by omega
    subst him
    have g' : decide ((r.length : Int) < (r.length : Int)) = false := by simp
    rw [F30_6L]
    unfold F30_6b
    (repeat simp(disch:=omega)only[evA,evB,evC,bAdd_i64,bSub_i64,g'])
    unfold F30_7 F30_7b
    rw [List.take_length, ← Lib.join_cons] at h
    have hpos : Lib.join (x :: r) sep ≠ [] := by
      intro e
      have := congrArg List.length e
      rw [join_len] at this
      have h1 : 0 < sep.length := List.length_pos_iff.2 hne
      have h2 : 0 < r.length := List.length_pos_iff.2 hr0
      have := Nat.mul_pos h1 h2
      simp at *; omega
    refine callP_intro (F := gBString 152 5) ⟨b, wB, _, _, sv, _, rfl, h, hz, hpos, by omega, fun w' h' => ?_⟩
    exact hK w' h'
  | k + 1, i, n, sv, w, hi, hn, hz, h => by
    obtain ⟨n, rfl⟩ : ∃ q, n = q + 1 := ⟨n - 1, by omega⟩
    have hil : i < r.length := by omega
    have g' : decide ((i : Int) < (r.length : Int)) = true := by simpa using hil
    have hrd' := hrd.sat h
    have f1 := ix_el hrd' hil
    have f2 : ld1 (elP 1 rv i) w = some (.string (bs r[i])) := rd_ld1 (g := fun x : List UInt8 => .string (bs x)) hrd' hil
    have hts := tail_take_succ (sep := sep) hil
    have hle : (x ++ Lib.joinTail sep (r.take (i + 1))).length ≤ (Lib.join (x :: r) sep).length := by
      rw [Lib.join_cons, List.length_append, List.length_append, tail_len, tail_len]
      have h1 := lensum_take_le r (i + 1)
      have h2 : (r.take (i + 1)).length ≤ r.length := by rw [List.length_take]; omega
      have := Nat.mul_le_mul_left sep.length h2
      omega
    rw [hts] at hle
    simp only [List.length_append] at hle
    rw [F30_6L]
    unfold F30_6b
    (repeat(first
|simp(disch:=omega)only[evA,evB,evC,bAdd_i64,bSub_i64,g']
|refine go_some (f1 ..) ?_))
    rw [f2]
    (repeat simp(disch:=omega)only[evA,evB,evC,bAdd_i64,bSub_i64])
    refine wstr_spec (w0 := wB) (m := sep) (L := []) (.inr rfl) hz (by simp only [List.length_append]; omega) h fun sv1 w hz1 h => ?_
    skip
    refine wstr_spec (w0 := wB) (m := r[i]) (L := []) (.inr rfl) hz1 (by simp only [List.length_append]; omega) h fun sv2 w hz2 h => ?_
    skip
    have e2 : (i : Int) + 1 = ((i + 1 : Nat) : Int) := by omega
    rw [e2]
    refine join_rest hrd hr hb hne hr0 hK k (i + 1) n sv2 w (by omega) (by omega) hz2 ?_
    rw [hts]
    simpa [List.append_assoc] using h
theorem rd_subFrom1 {kk : Value → Prop} (hr : Rd w 1 v xs.length (xs.flatMap cSt)) (hi : 1 ≤ xs.length) (hk : ∀ v', Rd w 1 v' (xs.drop 1).length ((xs.drop 1).flatMap cSt) → kk v') : bindP (pSliceL 1 v (some (.int .i64 1)) none none) kk := by
  obtain ⟨v', e, _⟩ := hr.sub (L := some (.int .i64 ((1 : Nat) : Int))) (H := none) (M := none) (lo := 1) (hi := xs.length) (.some _ _) .none (.none _) hi (Nat.le_refl _)
  have := rd_sub (f := cSt) (es := 1) ⟨fun _ => rfl, fun _ => rfl, by omega⟩ hr e (lo := 1) (hi := xs.length) (.some _ _) .none (.none _) hi (Nat.le_refl _)
  rw [List.take_length] at this
  exact go_some e (hk v' this)
theorem join_spec {x y : List UInt8} (hrd : Rd w 1 v (x :: y :: r).length ((x :: y :: r).flatMap cSt)) (hr : (x :: y :: r).length ≤ 1000000000) (hb : (Lib.join (x :: y :: r) [32]).length ≤ 1000000000000) (h : Sat w0 L w) (hK : ∀ w', Sat w0 L w' → K (.string (bs (Lib.join (x :: y :: r) [32]))) w') : callP G30 [v, .string (bs [32])] w K := by
  refine c30 ?_
  unfold F30 F30_1 F30_1b
  have hB := Sat.start w
  have hlen := hrd.len
  have n2 : 2 ≤ (x :: y :: r).length := by simp
  have hjl := join_len x (y :: r) [32]
  have hl1 : (y :: r).length + 1 = (x :: y :: r).length := rfl
  generalize hxs : (x :: y :: r) = xs at *
  have d0 : decide ((xs.length : Int) = 0) = false := by simp; intro e; rw [e] at n2; simp at n2
  have d1 : decide ((xs.length : Int) = 1) = false := by simp only [decide_eq_false_iff_not]; omega
  have d2 : decide ((([32] : List UInt8).length : Int) > 0) = true := by decide
  (repeat simp(disch:=omega)only[evA,evB,evC,bAdd_i64,bSub_i64,hlen,d0,d1,d2])
  unfold F30_2
  simp only [ifB_true]
  unfold F30_13 F30_13b
  have hq : bQuo (.int .i64 9223372036854775807) (.int .i64 ((xs.length : Int) - 1)) = some (.int .i64 (9223372036854775807 / ((xs.length : Int) - 1))) := by
    have h1 : (9223372036854775807 : Int).tdiv ((xs.length : Int) - 1) = 9223372036854775807 / ((xs.length : Int) - 1) := Int.tdiv_eq_ediv_of_nonneg (by omega)
    have h2 : 0 ≤ (9223372036854775807 : Int) / ((xs.length : Int) - 1) := Int.ediv_nonneg (by omega) (by omega)
    have h3 : (9223372036854775807 : Int) / ((xs.length : Int) - 1) ≤ 9223372036854775807 := Int.ediv_le_self _ (by omega)
    rw [bQuo_int _ _ _ (by omega), h1, wrap_id (by omega)]
  have hq2 : (2 : Int) ≤ 9223372036854775807 / ((xs.length : Int) - 1) := Int.le_ediv_of_mul_le (by omega) (by omega)
  generalize (9223372036854775807 : Int) / ((xs.length : Int) - 1) = qq at *
  have d3 : decide ((([32] : List UInt8).length : Int) ≥ qq) = false := by simp; omega
  (repeat(first
|simp(disch:=omega)only[evA,evB,evC,bAdd_i64,bSub_i64,hlen,d3]
|refine go_some (hq ..) ?_))
  unfold F30_14 F30_14b
  have hm : bMul (.int .i64 (([32] : List UInt8).length : Nat)) (.int .i64 ((xs.length : Int) - 1)) = some (.int .i64 ((xs.length - 1 : Nat) : Int)) := by
    rw [bMul_int, wrap_id (by simp; omega)]
    congr 2
    simp; omega
  (repeat(first
|simp(disch:=omega)only[evA,evB,evC,bAdd_i64,bSub_i64,hlen]
|refine go_some (hm ..) ?_))
  unfold F30_3 F30_3b
  (repeat simp(disch:=omega)only[evA,evB,evC,bAdd_i64,bSub_i64,hlen])
  unfold F30_4
  have hj : (xs.length - 1) + lensum xs = (Lib.join xs [32]).length := by rw [hjl, show ([32] : List UInt8).length = 1 from rfl]; omega
  have e0 : (0 : Int) + ((xs.length - 1 : Nat) : Int) = ((xs.length - 1 + lensum (xs.take 0) : Nat) : Int) := by simp [lensum]
  rw [e0]
  refine join_sum (lv := v) (n0 := xs.length - 1) hrd hr (by omega) ?_ xs.length 0 fuel (by omega) (by unfold fuel; omega) hB
  rw [hj]
  unfold F30_5 F30_5b
  refine go_alloc hB z152 rfl fun b w1 h1 => ?_
  have hpos : 0 < (Lib.join xs [32]).length := by omega
  refine grow_spec ⟨hpos, by omega⟩ h1 fun sv w2 hz h2 => ?_
  have hrd2 := hrd.sat h2
  have h0x : 0 < xs.length := by omega
  have f1 : pIndexL 1 v (.int .i64 0) = some (elP 1 v 0) := ix_el (i := 0) hrd2 h0x
  have f2 : ld1 (elP 1 v 0) w2 = some (.string (bs xs[0])) := rd_ld1 (i := 0) (g := fun x : List UInt8 => .string (bs x)) hrd2 h0x
  have hx0 : xs[0] = x := by subst hxs; rfl
  have hd1 : xs.drop 1 = y :: r := by subst hxs; rfl
  rw [hx0] at f2
  have hxl : x.length ≤ (Lib.join xs [32]).length := by
    subst hxs
    rw [Lib.join_cons, List.length_append]; omega
  (repeat(first
|simp(disch:=omega)only[evA,evB,evC,bAdd_i64,bSub_i64]
|refine go_some (f1 ..) ?_))
  rw [f2]
  (repeat simp(disch:=omega)only[evA,evB,evC,bAdd_i64,bSub_i64])
  refine wstr_spec (w0 := w) (m := x) (l := []) (L := []) (.inr rfl) hz (by simp only [List.length_nil]; omega) h2 fun sv1 w3 hz1 h3 => ?_
  refine rd_subFrom1 hrd (by omega) fun rv hrv => ?_
  rw [hd1] at hrv
  have hrl := hrv.len
  (repeat simp(disch:=omega)only[evA,evB,evC,bAdd_i64,bSub_i64,hrl])
  unfold F30_6
  refine join_rest (wB := w) (x := x) (r := y :: r) (sep := [32]) hrv (by omega) (by rw [hxs]; exact hb) (by simp) (by simp) (fun w' h' => ?_) (y :: r).length 0 fuel sv1 w3 (by omega) (by unfold fuel; omega) hz1 (by simpa [Lib.joinTail] using h3)
  rw [hxs]
  exact hK w' (h.unbase h')
end
end Go.Proofs.Gong

/- Qs4 -/
namespace Go.Proofs.Gong
open Go Go.Sx Go.Proofs
set_option maxRecDepth 100000
theorem CSt : Cod cSt 1 := ⟨fun _ => rfl, fun _ => rfl, by omega⟩
theorem lsh_pair {ty : TypeId} {v a b : Value} : LsH (fun x : Value => [x]) 1 ty v [a, b] = SlH 1 ty v 2 #[a, b].toList := rfl
attribute [local irreducible] fBuild fLook fZero eqv bEqv Cl MapH LsH SlH ld1 ldN st callP eBox eAlloc lenM lenL eMapSet eDelete eAppend eBuildSl eRange eNext
section
variable {w0 w : World} {L : List HP} {K : Value → World → Prop} {a b v r : Value} {xs ys m acc : List (List UInt8)} {ty : TypeId}
abbrev cVal (x : Value) : List Value := [x]
theorem concat_spec (hx : xs.length ≤ 1000000) (hy : ys.length ≤ 1000000) (hpos : 0 < xs.length + ys.length) (h : Sat w0 (LsH cVal 1 ty v [a, b] :: LsH cSt 1 9 a xs :: LsH cSt 1 9 b ys :: L) w)
    (hK : ∀ r w', Sat w0 (LsH cSt 1 9 r (xs ++ ys) :: L) w' → K r w') : callP G31 [v] w K := by
  refine c31 ?_
  unfold F31 F31_1 F31_1b
  have hv : Rd w 1 v ([a, b] : List Value).length (([a, b] : List Value).flatMap fun x => [x]) := ls_rd h
  have hlv : lenL v = some (.int .i64 ((2 : Nat) : Int)) := hv.len
  have ha := (ls_rd (h.frt (A := LsH cSt 1 9 a xs))).len
  have hb := (ls_rd (h.frt (A := LsH cSt 1 9 b ys))).len
  have i0 : pIndexL 1 v (.int .i64 0) = some (elP 1 v 0) := ix_el (i := 0) hv (by simp)
  have i1 : pIndexL 1 v (.int .i64 1) = some (elP 1 v 1) := ix_el (i := 1) hv (by simp)
  have l0 : ld1 (elP 1 v 0) w = some a := rd_ld1 (i := 0) (g := fun x : Value => x) hv (by simp)
  have l1 : ld1 (elP 1 v 1) w = some b := rd_ld1 (i := 1) (g := fun x : Value => x) hv (by simp)
  (repeat simp(disch:=omega)only[evA,evB,evC,bAdd_i64,bSub_i64,hlv])
  unfold F31_2
  show F31_2L ((fuel - 3) + 1 + 1 + 1) _ _ _ _ _ _ _
  rw [F31_2L]
  unfold F31_6 F31_6b
  have c0 : decide ((0 : Int) < ((2 : Nat) : Int)) = true := by decide
  have c1 : decide ((0 : Int) + 1 < ((2 : Nat) : Int)) = true := by decide
  have c2 : decide ((0 : Int) + 1 + 1 < ((2 : Nat) : Int)) = false := by decide
  have i1 : pIndexL 1 v (.int .i64 (0 + 1)) = some (elP 1 v 1) := i1
  have n0 : decide ((0 : Int) + (xs.length : Int) < 0) = false := by simp only [decide_eq_false_iff_not]; omega
  have n1 : decide ((0 : Int) + (xs.length : Int) + (ys.length : Int) < 0) = false := by simp only [decide_eq_false_iff_not]; omega
  (repeat(first
|simp(disch:=omega)only[evA,evB,evC,bAdd_i64,bSub_i64,c0]
|refine go_some (i0 ..) ?_))
  rw [l0]
  (repeat simp(disch:=omega)only[evA,evB,evC,bAdd_i64,bSub_i64,ha,n0])
  unfold F31_7 F31_7b
  (repeat simp(disch:=omega)only[evA,evB,evC,bAdd_i64,bSub_i64])
  rw [F31_2L]
  unfold F31_6 F31_6b
  (repeat(first
|simp(disch:=omega)only[evA,evB,evC,bAdd_i64,bSub_i64,c1]
|refine go_some (i1 ..) ?_))
  rw [l1]
  (repeat simp(disch:=omega)only[evA,evB,evC,bAdd_i64,bSub_i64,hb,n1])
  unfold F31_7 F31_7b
  (repeat simp(disch:=omega)only[evA,evB,evC,bAdd_i64,bSub_i64])
  rw [F31_2L]
  unfold F31_6 F31_6b
  (repeat simp(disch:=omega)only[evA,evB,evC,bAdd_i64,bSub_i64,c2])
  unfold F31_3 F31_3b
  have et : (0 : Int) + (xs.length : Int) + (ys.length : Int) = ((xs.length + ys.length : Nat) : Int) := by omega
  rw [et]
  refine growNil_sat (f := cSt) h hpos (by omega) (by omega) fun r0 w h => ?_
  have hv2 : Rd w 1 v ([a, b] : List Value).length (([a, b] : List Value).flatMap fun x => [x]) := ls_rd (h.frt (A := LsH cVal 1 ty v [a, b]))
  have l02 : ld1 (elP 1 v 0) w = some a := rd_ld1 (i := 0) (g := fun x : Value => x) hv2 (by simp)
  have hra := ls_rd (h.frt (A := LsH cSt 1 9 a xs))
  (repeat simp(disch:=omega)only[evA,evB,evC,bAdd_i64,bSub_i64,hlv])
  unfold F31_4
  show F31_4L ((fuel - 3) + 1 + 1 + 1) _ _ _ _ _ _
  rw [F31_4L]
  unfold F31_4b
  (repeat(first
|simp(disch:=omega)only[evA,evB,evC,bAdd_i64,bSub_i64,c0]
|refine go_some (i0 ..) ?_))
  rw [l02]
  simp only [bindP_some]
  refine ls_app (f := cSt) (es := 1) CSt h sl38 (by kernel_rfl) hra (by simp only [List.length_nil]; omega) fun r1 w h => ?_
  rw [List.nil_append] at h
  have hv3 : Rd w 1 v ([a, b] : List Value).length (([a, b] : List Value).flatMap fun x => [x]) := ls_rd (h.frt (A := LsH cVal 1 ty v [a, b]))
  have l13 : ld1 (elP 1 v 1) w = some b := rd_ld1 (i := 1) (g := fun x : Value => x) hv3 (by simp)
  have hrb := ls_rd (h.frt (A := LsH cSt 1 9 b ys))
  skip
  rw [F31_4L]
  unfold F31_4b
  (repeat(first
|simp(disch:=omega)only[evA,evB,evC,bAdd_i64,bSub_i64,c1]
|refine go_some (i1 ..) ?_))
  rw [l13]
  simp only [bindP_some]
  refine ls_app (f := cSt) (es := 1) CSt h sl38 (by kernel_rfl) hrb (by omega) fun r2 w h => ?_
  skip
  rw [F31_4L]
  unfold F31_4b
  (repeat simp(disch:=omega)only[evA,evB,evC,bAdd_i64,bSub_i64,c2])
  unfold F31_5 F31_5b
  exact hK r2 _ (h.got)
structure LFit (r : Row) : Prop where
  id : -9223372036854775808 ≤ r.id ∧ r.id ≤ 9223372036854775807
  level : -9223372036854775808 ≤ r.e.level ∧ r.e.level ≤ 9223372036854775807
  tally : -9223372036854775808 ≤ r.tally ∧ r.tally ≤ 9223372036854775807
  first : 0 ≤ r.first ∧ r.first ≤ 2305843009213693952
  last : 0 ≤ r.last ∧ r.last ≤ 2305843009213693952
  len : r.e.node.length ≤ 1000000 ∧ r.e.cls.length ≤ 1000000 ∧ r.e.key.length ≤ 1000000 ∧ r.e.text.length ≤ 1000000 ∧ r.who.length ≤ 1000000
def numsL (r : Row) : List (List UInt8) := [Lib.itoa r.id, Lib.itoa r.e.level, Lib.itoa r.tally, stampL r.first, stampL r.last, if r.acked = true then r.who else [45]]
def textsL (r : Row) : List (List UInt8) := [quoteL r.e.node, quoteL r.e.cls, quoteL r.e.key, quoteL r.e.text]
def lineL (r : Row) : List UInt8 := Lib.join (numsL r ++ textsL r) [32]
theorem quote_len (s : List UInt8) : (quoteL s).length ≤ 4 * s.length + 2 := by
  have := escs_len s
  simp only [quoteL, List.cons_append, List.length_cons, List.length_append, List.length_nil]
  omega
theorem stamp_len (t : Int) (h : 0 ≤ t) : (stampL t).length ≤ 61 := by
  have := whole_len (t / 1000000000) (t % 1000000000) (by omega)
  simp [stampL]; omega
theorem line_len {r : Row} (F : LFit r) : (lineL r).length ≤ 100000000 := by
  have h1 := Lib.itoa_length_le r.id F.id.1 F.id.2
  have h2 := Lib.itoa_length_le r.e.level F.level.1 F.level.2
  have h3 := Lib.itoa_length_le r.tally F.tally.1 F.tally.2
  have h4 := stamp_len r.first F.first.1
  have h5 := stamp_len r.last F.last.1
  have h6 : (if r.acked = true then r.who else [45]).length ≤ 1000000 := by
    split
    · exact F.len.2.2.2.2
    · simp
  have q1 := quote_len r.e.node
  have q2 := quote_len r.e.cls
  have q3 := quote_len r.e.key
  have q4 := quote_len r.e.text
  have := F.len
  unfold lineL numsL textsL
  simp only [List.cons_append, List.nil_append]
  rw [join_len]
  simp only [lensum, List.map_cons, List.map_nil, List.sum_cons, List.sum_nil, List.length_cons, List.length_nil]
  omega
theorem line_tail {r : Row} {p : Nat} (F : LFit r) (A : AheadIs w0) (T : PowIs Tryz.prog w0) (h : Sat w0 (Cl p (cRow r).toArray 45 :: L) w) (hK : ∀ w', Sat w0 L w' → K (.string (bs (lineL r))) w') :
    F11_2 (.pointer (some ⟨p, 0, none⟩)) (.string (bs (stampL r.first))) (.string (bs (stampL r.last))) (.string (bs (if r.acked = true then r.who else [45]))) w K := by
  unfold F11_2 F11_2b
  (repeat(first
|simp(disch:=omega)only[evA,evB,evC,bAdd_i64,bSub_i64]
|with_reducible refine go_s h ?_))
  refine itoa_sat T h.drew F.id.1 F.id.2 fun w h => ?_
  (repeat with_reducible refine go_s h ?_)
  refine itoa_sat T h F.level.1 F.level.2 fun w h => ?_
  (repeat with_reducible refine go_s h ?_)
  refine itoa_sat T h F.tally.1 F.tally.2 fun w h => ?_
  have hb : fBuildSl Tryz.prog 9 6 [(0, .string (bs (Lib.itoa r.id))), (1, .string (bs (Lib.itoa r.e.level))), (2, .string (bs (Lib.itoa r.tally))), (3, .string (bs (stampL r.first))), (4, .string (bs (stampL r.last))), (5, .string (bs (if r.acked = true then r.who else [45])))] = some (((numsL r).map fun x => Value.string (bs x)).toArray) := by kernel_rfl
  refine ls_lit (m := numsL r) (f := cSt) (es := 1) CSt h u38 hb (by simp [numsL]) fun va w h => ?_
  (repeat(first
|simp(disch:=omega)only[evA,evB,evC,bAdd_i64,bSub_i64,Nat.reduceAdd]
|with_reducible refine go_s h ?_))
  have hl := F.len
  refine quote_spec (s := r.e.node) (by omega) h.drew fun w h => ?_
  (repeat with_reducible refine go_s h ?_)
  refine quote_spec (s := r.e.cls) (by omega) h fun w h => ?_
  (repeat with_reducible refine go_s h ?_)
  refine quote_spec (s := r.e.key) (by omega) h fun w h => ?_
  (repeat with_reducible refine go_s h ?_)
  refine quote_spec (s := r.e.text) (by omega) h fun w h => ?_
  have hb2 : fBuildSl Tryz.prog 9 4 [(0, .string (bs (quoteL r.e.node))), (1, .string (bs (quoteL r.e.cls))), (2, .string (bs (quoteL r.e.key))), (3, .string (bs (quoteL r.e.text)))] = some (((textsL r).map fun x => Value.string (bs x)).toArray) := by kernel_rfl
  refine ls_lit (m := textsL r) (f := cSt) (es := 1) CSt h u38 hb2 (by simp [textsL]) fun vb w h => ?_
  have hva : OneV va := ls_one h.f1
  have hvb : OneV vb := ls_one h
  have hb3 : fBuildSl Tryz.prog 38 2 [(0, va), (1, vb)] = some #[va, vb] := by
    obtain ⟨a1, n1, c1, rfl⟩ : ∃ a n c, va = .slice a n c := by
      obtain ⟨a, c, e, _⟩ := (ls_rd h.f1).cap
      exact ⟨_, _, _, e⟩
    obtain ⟨a2, n2, c2, rfl⟩ : ∃ a n c, vb = .slice a n c := by
      obtain ⟨a, c, e, _⟩ := (ls_rd h).cap
      exact ⟨_, _, _, e⟩
    kernel_rfl
  refine eBuildSl_sat (es := 1) h u161 hb3 rfl fun vv w h => ?_
  rw [← lsh_pair] at h
  refine concat_spec (xs := numsL r) (ys := textsL r) (a := va) (b := vb) (L := L) (by simp [numsL]) (by simp [textsL]) (by simp [numsL, textsL]) (h.got) fun rv w h => ?_
  have hrd := ls_rd h
  have hlen := line_len F
  refine join_spec (x := Lib.itoa r.id) (y := Lib.itoa r.e.level) (r := [Lib.itoa r.tally, stampL r.first, stampL r.last, if r.acked = true then r.who else [45]] ++ textsL r) hrd (by simp [textsL]) (by
    have : lineL r = Lib.join (Lib.itoa r.id :: Lib.itoa r.e.level :: ([Lib.itoa r.tally, stampL r.first, stampL r.last, if r.acked = true then r.who else [45]] ++ textsL r)) [32] := rfl
    rw [← this]; omega) h fun w h => ?_
  exact hK _ h.drop
theorem line_spec {r : Row} (F : LFit r) (A : AheadIs w0) (T : PowIs Tryz.prog w0) (h : Sat w0 L w) (hK : ∀ w', Sat w0 L w' → K (.string (bs (lineL r))) w') : callP G11 [rowV r] w K := by
  refine c11 ?_
  unfold F11 F11_1 F11_1b
  refine go_box h rfl fun p w h => ?_
  (repeat(first
|simp(disch:=omega)only[evA,evB,evC,bAdd_i64,bSub_i64]
|with_reducible refine go_s h ?_))
  refine print_spec A T h F.first fun w h => ?_
  (repeat(first
|simp(disch:=omega)only[evA,evB,evC,bAdd_i64,bSub_i64]
|with_reducible refine go_s h ?_))
  refine print_spec A T h F.last fun w h => ?_
  cases g : r.acked
  · (repeat(first
|simp(disch:=omega)only[evA,evB,evC,bAdd_i64,bSub_i64,g]
|with_reducible refine go_s h ?_))
    have := line_tail (r := r) (L := L) (w := w) (K := K) F A T h hK
    rw [g] at this
    exact this
  · (repeat(first
|simp(disch:=omega)only[evA,evB,evC,bAdd_i64,bSub_i64,g]
|with_reducible refine go_s h ?_))
    have := line_tail (r := r) (L := L) (w := w) (K := K) F A T h hK
    rw [g] at this
    exact this
end
end Go.Proofs.Gong

/- Qs5 -/
namespace Go.Proofs.Gong
open Go Go.Sx Go.Proofs
set_option maxRecDepth 100000
def MaxIs (w : World) : Prop := ∃ m, w.cell? ⟨2, 0, none⟩ = some (.int .i64 m)
theorem words_take {l : List (List UInt8)} {i : Nat} (hi : i < l.length) : ((l.take (i + 1)).filter (· ≠ [])) = (l.take i).filter (· ≠ []) ++ if l[i] = [] then [] else [l[i]] := by
  rw [List.take_succ_eq_append_getElem hi, List.filter_append]
  congr 1
  by_cases h : l[i] = [] <;> simp [h]
attribute [local irreducible] fBuild fLook fZero eqv bEqv Cl MapH LsH SlH ld1 ldN st callP eBox eAlloc lenM lenL eMapSet eDelete eAppend eBuildSl eRange eNext
section
variable {w0 w : World} {L : List HP} {K : Value → World → Prop} {s : List UInt8} {l : List (List UInt8)} {sv : Value}
theorem words_loop (hl : l.length ≤ 1000000) (hK : ∀ v w', Sat w0 (LsH cSt 1 9 v (l.filter (· ≠ [])) :: L) w' → K v w') : ∀ (k i n : Nat) (ov : Value) (w : World), i + k = l.length → k < n → Sat w0 (LsH cSt 1 9 ov ((l.take i).filter (· ≠ [])) :: LsH cSt 1 9 sv l :: L) w → F48_2L n ov sv (.int .i64 l.length) (.int .i64 (i : Nat)) w K
  | 0, i, n, ov, w, hi, hn, h => by
    obtain ⟨n, rfl⟩ : ∃ q, n = q + 1 := ⟨n - 1, by omega⟩
    have him : i = l.length := by omega
    subst him
    have g' : decide ((l.length : Int) < (l.length : Int)) = false := by simp
    rw [F48_2L]
    unfold F48_4 F48_4b
    (repeat simp(disch:=omega)only[evA,evB,evC,bAdd_i64,bSub_i64,g'])
    unfold F48_3 F48_3b
    rw [List.take_length] at h
    exact hK _ _ (h.got)
  | k + 1, i, n, ov, w, hi, hn, h => by
    obtain ⟨n, rfl⟩ : ∃ q, n = q + 1 := ⟨n - 1, by omega⟩
    have hil : i < l.length := by omega
    have g' : decide ((i : Int) < (l.length : Int)) = true := by simpa using hil
    have hrd : Rd w 1 sv l.length (l.flatMap cSt) := ls_rd (h.frt (A := LsH cSt 1 9 sv l))
    have f1 := ix_el hrd hil
    have f2 : ld1 (elP 1 sv i) w = some (.string (bs l[i])) := rd_ld1 (g := fun x : List UInt8 => .string (bs x)) hrd hil
    have e2 : (i : Int) + 1 = ((i + 1 : Nat) : Int) := by omega
    have hw := words_take hil
    rw [F48_2L]
    unfold F48_4 F48_4b
    (repeat(first
|simp(disch:=omega)only[evA,evB,evC,bAdd_i64,bSub_i64,g']
|refine go_some (f1 ..) ?_))
    rw [f2]
    have hfl : ((l.take i).filter (· ≠ [])).length ≤ 1000000 := by
      have h1 := List.length_filter_le (fun x : List UInt8 => decide (x ≠ [])) (l.take i)
      rw [List.length_take] at h1
      omega
    by_cases g : l[i] = []
    · rw [if_pos g, List.append_nil] at hw
      have gd : decide (l[i] = []) = true := by simpa using g
      (repeat simp(disch:=omega)only[evA,evB,evC,bAdd_i64,bSub_i64,gd])
      unfold F48_5 F48_5b
      (repeat simp(disch:=omega)only[evA,evB,evC,bAdd_i64,bSub_i64])
      rw [e2]
      exact words_loop hl hK k (i + 1) n ov w (by omega) (by omega) (by rw [hw]; exact h)
    · rw [if_neg g] at hw
      have gd : decide (l[i] = []) = false := by simpa using g
      (repeat simp(disch:=omega)only[evA,evB,evC,bAdd_i64,bSub_i64,gd])
      refine go_lit1 (f := cSt) (x := l[i]) CSt h u38 (c := #[.string (bs l[i])]) (by kernel_rfl) rfl fun tv w h => ?_
      have hrt := ls_rd h
      refine ls_app (f := cSt) (es := 1) (m := [l[i]]) (L := LsH cSt 1 9 tv [l[i]] :: LsH cSt 1 9 sv l :: L) CSt (h.got) sl38 (by kernel_rfl) hrt (by simp only [List.length_singleton]; omega) fun ov2 w h => ?_
      unfold F48_5 F48_5b
      (repeat simp(disch:=omega)only[evA,evB,evC,bAdd_i64,bSub_i64])
      rw [e2]
      exact words_loop hl hK k (i + 1) n ov2 w (by omega) (by omega) (by rw [hw]; exact h.got)
theorem splitOn_len : ∀ (s : List UInt8), (splitOnL s).length ≤ s.length + 1
  | [] => by simp [splitOnL]
  | c :: s => by
    have := splitOn_len s
    unfold splitOnL
    split
    · simp; omega
    · split
      · simp
      · rename_i x r h
        rw [h] at this
        simp at this ⊢; omega
theorem words_spec (M : MaxIs w0) (hs : s.length ≤ 10000) (h : Sat w0 L w) (hK : ∀ v w', Sat w0 (LsH cSt 1 9 v (wordsL s) :: L) w' → K v w') : callP G48 [.string (bs s)] w K := by
  refine c48 ?_
  unfold F48 F48_1 F48_1b
  obtain ⟨m, hm⟩ := M
  refine split_sat (sep := [32]) hm h (by omega) (by simp) fun sv w h => ?_
  rw [split_eq] at h
  have hsl := splitOn_len s
  have hlen := (ls_rd h).len
  (repeat simp(disch:=omega)only[evA,evB,evC,bAdd_i64,bSub_i64,hlen])
  unfold F48_2
  refine words_loop (l := splitOnL s) (by omega) hK (splitOnL s).length 0 fuel _ w (by omega) (by unfold fuel; omega) ?_
  exact Sat.nilLs cSt 1 9 h
theorem number_spec {u : Nat} (T : PowIs Tryz.prog w0) (hu : u < 1000000000000000000) (h : Sat w0 L w) (hK : ∀ w', Sat w0 L w' → K (.tuple #[.int .i64 u, .bool true]) w') : callP G84 [.string (bs (Lib.itoa (u : Int)))] w K := by
  refine c84 ?_
  unfold F84
  have hl := itoa_len hu
  refine atoi_sat h hl (atoi_itoa u) fun w h => ?_
  have g1 : decide ((u : Int) ≥ 0) = true := by simp
  have g2 : decide (((Lib.itoa (u : Int)).length : Int) ≤ 18) = true := by simp; omega
  have n1 : ∀ a, bEq Tryz.prog 154 a (.const .nilIface) .nilIface .nilIface = some (.bool true) := fun a => by cases a <;> kernel_rfl
  (repeat(first
|simp(disch:=omega)only[evA,evB,evC,bAdd_i64,bSub_i64,g1,g2]
|refine go_some (n1 ..) ?_))
  refine itoa_sat T h (by omega) (by omega) fun w h => ?_
  (repeat simp(disch:=omega)only[evA,evB,evC,bAdd_i64,bSub_i64])
  exact hK _ h
end
end Go.Proofs.Gong

/- Qs6 -/
namespace Go.Proofs.Gong
open Go Go.Sx Go.Proofs
set_option maxRecDepth 100000
def TestAt (w0 : World) (TP : HP) (fv : Value) (p : Row → Bool) : Prop := ∀ (L : List HP) (w : World) (r : Row) (K : Value → World → Prop), Sat w0 (TP :: L) w → (∀ w', Sat w0 (TP :: L) w' → K (.bool (p r)) w') → eCallV (tabOf T139) fv [rowV r] w K
attribute [local irreducible] fBuild fLook fZero eqv bEqv Cl MapH LsH SlH ld1 ldN st callP eBox eAlloc lenM lenL eMapSet eDelete eAppend eBuildSl eRange eNext
section
variable {w0 w : World} {L : List HP} {K : Value → World → Prop} {TP : HP} {r : Row} {sv : Value} {fvs : List Value} {ps : List (Row → Bool)}
theorem rows1_spec {fv : Value} {p : Row → Bool} {b : Nat} (hT : TestAt w0 TP fv p) (h : Sat w0 (TP :: Cl b (cRow r).toArray 45 :: L) w) (hK : ∀ w', Sat w0 (TP :: Cl b (cRow r).toArray 45 :: L) w' → K (.bool (!p r)) w') : callP G139 [fv, .pointer (some ⟨b, 0, none⟩)] w K := by
  refine c139 ?_
  unfold F139
  (repeat with_reducible refine go_s h ?_)
  refine hT _ w r _ h fun w' h' => ?_
  (repeat simp(disch:=omega)only[evA,evB,evC,bAdd_i64,bSub_i64])
  exact hK w' h'
theorem idx_loop {fns : Value} {b : Nat} (hfn : fns = .func (.func 139) #[] #[.pointer (some ⟨b, 0, none⟩)]) (hlen : fvs.length = ps.length) (hl : fvs.length ≤ 1000000) (hT : ∀ i (h1 : i < fvs.length) (h2 : i < ps.length), TestAt w0 TP fvs[i] ps[i]) (hrd : ∀ w', Sat w0 (TP :: Cl b (cRow r).toArray 45 :: L) w' → Rd w' 1 sv fvs.length (fvs.flatMap fun x => [x]))
    (hK : ∀ (v : Int) w', (0 ≤ v ↔ ∃ p ∈ ps, p r = false) → -1 ≤ v → v ≤ 1000000 → Sat w0 (TP :: Cl b (cRow r).toArray 45 :: L) w' → K (.int .i64 v) w') : ∀ (k i n : Nat) (w : World), i + k = fvs.length → k < n → (∀ p ∈ ps.take i, p r = true) → Sat w0 (TP :: Cl b (cRow r).toArray 45 :: L) w → F186_2L n sv fns (.int .i64 fvs.length) (.int .i64 (i : Nat)) w K
  | 0, i, n, w, hi, hn, hp, h => by
    obtain ⟨n, rfl⟩ : ∃ q, n = q + 1 := ⟨n - 1, by omega⟩
    have him : i = fvs.length := by omega
    subst him
    have g' : decide ((fvs.length : Int) < (fvs.length : Int)) = false := by simp
    rw [F186_2L]
    unfold F186_2b
    (repeat simp(disch:=omega)only[evA,evB,evC,bAdd_i64,bSub_i64,g'])
    unfold F186_3 F186_3b
    refine hK (-1) w ⟨fun h => by omega, fun ⟨p, h1, h2⟩ => ?_⟩ (by omega) (by omega) h
    rw [hlen, List.take_length] at hp
    rw [hp p h1] at h2; cases h2
  | k + 1, i, n, w, hi, hn, hp, h => by
    obtain ⟨n, rfl⟩ : ∃ q, n = q + 1 := ⟨n - 1, by omega⟩
    have hil : i < fvs.length := by omega
    have hip : i < ps.length := by omega
    have g' : decide ((i : Int) < (fvs.length : Int)) = true := by simpa using hil
    have hrd' := hrd w h
    have e1 := ix_el hrd' hil
    have e2 : ld1 (elP 1 sv i) w = some fvs[i] := rd_ld1 (g := fun x : Value => x) hrd' hil
    rw [F186_2L]
    unfold F186_2b
    (repeat(first
|simp(disch:=omega)only[evA,evB,evC,bAdd_i64,bSub_i64,g']
|refine go_some (e1 ..) ?_))
    rw [e2]
    simp only [bindP_some]
    subst hfn
    show callP (tabOf T186 139) _ _ _
    refine rows1_spec (hT i hil hip) h fun w h => ?_
    cases hv : ps[i] r
    · (repeat simp(disch:=omega)only[evA,evB,evC,bAdd_i64,bSub_i64])
      refine hK i w ⟨fun _ => ⟨ps[i], List.getElem_mem hip, hv⟩, fun _ => by omega⟩ (by omega) (by omega) h
    · (repeat simp(disch:=omega)only[evA,evB,evC,bAdd_i64,bSub_i64])
      have e3 : (i : Int) + 1 = ((i + 1 : Nat) : Int) := by omega
      rw [e3]
      refine idx_loop rfl hlen hl hT hrd hK k (i + 1) n w (by omega) (by omega) (fun p hp2 => ?_) h
      rw [List.take_succ_eq_append_getElem hip] at hp2
      rcases List.mem_append.1 hp2 with hp2 | hp2
      · exact hp p hp2
      · obtain rfl := List.mem_singleton.1 hp2
        exact hv
end
end Go.Proofs.Gong
