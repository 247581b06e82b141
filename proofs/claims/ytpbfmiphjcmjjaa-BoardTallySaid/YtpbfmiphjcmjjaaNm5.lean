/- A part of the proofs: what stands below it, told in lemmas. No condition. -/
import Derived.Test.YtpbfmiphjcmjjaaNm4
set_option linter.all false
namespace Go.Proofs.Gong
open Go Go.Sx Go.Proofs
set_option maxRecDepth 100000
structure Evt where
  node : List UInt8
  cls : List UInt8
  key : List UInt8
  level : Int
  text : List UInt8
  deriving DecidableEq
@[reducible] def cEv (e : Evt) : List Value := [.string (bs e.node), .string (bs e.cls), .string (bs e.key), .int .i64 e.level, .string (bs e.text)]
abbrev evV (e : Evt) : Value := .agg (cEv e).toArray
def Evt.fits (e : Evt) : Prop := e.node.length < 1000000 ∧ e.cls.length < 1000000 ∧ e.key.length < 1000000 ∧ e.text.length < 1000000
def okE (e : Evt) : Bool := !decide (e.node = []) && !decide (e.cls = []) && plainP e.node 64 && plainP e.cls 64 && plainP e.key 128 && plainP e.text 1024 && decide (0 ≤ e.level) && decide (e.level ≤ 5)
def chkE (e : Evt) : Int := if okE e = true then 0 else 180
section
variable {w0 w : World} {L : List HP} {K : Value → World → Prop} {e : Evt}
theorem ncheck_spec (he : e.fits) (h : Sat w0 L w) (hK : ∀ w', Sat w0 L w' → K (.int .i64 (chkE e)) w') : callP G61 [evV e] w K := by
  refine c61 ?_
  unfold F61
  refine eBox_sat h fun p w1 h1 => ?_
  have e0 : (evV e).cells = (cEv e).toArray := rfl
  rw [e0] at h1
  have cs : ∀ {w' : World}, Sat w0 (Cl p (cEv e).toArray 31 :: L) w' → ∀ i, w'.cell? ⟨p, i, none⟩ = (cEv e)[i]? := fun h i => by rw [cell_of h.cl, List.getElem?_toArray]
  have k0 : (cEv e)[0]? = some (.string (bs e.node)) := rfl
  have k1 : (cEv e)[1]? = some (.string (bs e.cls)) := rfl
  have k2 : (cEv e)[2]? = some (.string (bs e.key)) := rfl
  have k3 : (cEv e)[3]? = some (.int .i64 e.level) := rfl
  have k4 : (cEv e)[4]? = some (.string (bs e.text)) := rfl
  obtain ⟨f1, f2, f3, f4⟩ := he
  unfold chkE okE at hK
  rw [nil_b]
  simp only [ptr, pFieldAddr_ptr, bindP_some, Nat.zero_add, ld1_ptr, cs h1, k0, k1, bNe_str, bs_beq, bs_inj]
  have bad : ∀ w', Sat w0 (Cl p (cEv e).toArray 31 :: L) w' → okE e = false → K (.int .i64 180) w' := by
    intro w' hs ho
    have := hK _ hs.drop
    unfold okE at ho
    rw [ho] at this
    exact this
  by_cases n1 : e.node = []
  · have ho : okE e = false := by simp [okE, n1]
    simp only [ld1_ptr, k0, k1, k2, k3, k4, bNe_str, bs_beq, bs_inj, cs h1, n1, decide_true, Bool.not_true, gd_true, stepG_false, stepE_false, pPick_false, bindP_some, uNot_bool, Bool.not_false, gd_false, pPick_true, ifB_true]
    exact bad _ h1 ho
  · by_cases n2 : e.cls = []
    · have ho : okE e = false := by simp [okE, n2]
      simp only [ld1_ptr, k0, k1, k2, k3, k4, bNe_str, bs_beq, bs_inj, cs h1, n1, n2, decide_true, decide_false, Bool.not_true, Bool.not_false, gd_true, stepG_true, stepG_false, stepE_false, pPick_true, pPick_false, bindP_some, uNot_bool, gd_false, ifB_true]
      exact bad _ h1 ho
    · simp only [ld1_ptr, k0, k1, k2, k3, k4, bNe_str, bs_beq, bs_inj, cs h1, n1, n2, decide_false, Bool.not_false, gd_true, stepG_true, stepE_true, pPick_true, bindP_some]
      refine plain_spec (most := 64) f1 h1 fun w2 h2 => ?_
      by_cases p1 : plainP e.node 64 = true
      · simp only [ld1_ptr, k0, k1, k2, k3, k4, bNe_str, bs_beq, bs_inj, p1, pPick_true, bindP_some, gd_true, stepG_true, stepE_true, cs h2, k1]
        refine plain_spec (most := 64) f2 h2 fun w3 h3 => ?_
        by_cases p2 : plainP e.cls 64 = true
        · simp only [ld1_ptr, k0, k1, k2, k3, k4, bNe_str, bs_beq, bs_inj, p2, pPick_true, bindP_some, uNot_bool, Bool.not_true, gd_false, Bool.not_false, stepG_true, stepE_true, cs h3, k2]
          refine plain_spec (most := 128) f3 h3 fun w4 h4 => ?_
          by_cases p3 : plainP e.key 128 = true
          · simp only [ld1_ptr, k0, k1, k2, k3, k4, bNe_str, bs_beq, bs_inj, p3, uNot_bool, Bool.not_true, pPick_false, bindP_some, gd_false, Bool.not_false, stepG_true, stepE_true, cs h4, k4]
            refine plain_spec (most := 1024) f4 h4 fun w5 h5 => ?_
            by_cases p4 : plainP e.text 1024 = true
            · simp only [ld1_ptr, k0, k1, k2, k3, k4, bNe_str, bs_beq, bs_inj, p4, uNot_bool, Bool.not_true, pPick_false, bindP_some, gd_false, Bool.not_false, stepG_true, cs h5, k3, bLt_int]
              by_cases l1 : e.level < 0
              · have ho : okE e = false := by
                  have : ¬ (0 ≤ e.level) := by omega
                  simp [okE, this]
                simp only [ld1_ptr, k0, k1, k2, k3, k4, bNe_str, bs_beq, bs_inj, l1, decide_true, pPick_true, bindP_some, gd_false, Bool.not_true, stepG_false, ifB_true]
                exact bad _ h5 ho
              · by_cases l2 : e.level > 5
                · have ho : okE e = false := by
                    have : ¬ (e.level ≤ 5) := by omega
                    simp [okE, this]
                  simp only [ld1_ptr, k0, k1, k2, k3, k4, bNe_str, bs_beq, bs_inj, cs h5, l1, l2, bGt_int, decide_true, decide_false, pPick_false, bindP_some, gd_false, Bool.not_false, stepG_true, ifB_true]
                  exact bad _ h5 ho
                · have hk := hK _ h5.drop
                  have g1 : 0 ≤ e.level := by omega
                  have g2 : e.level ≤ 5 := by omega
                  simp only [n1, n2, p1, p2, p3, p4, g1, g2, decide_true, decide_false, Bool.not_false, Bool.and_self, if_true] at hk
                  simp only [ld1_ptr, k0, k1, k2, k3, k4, bNe_str, bs_beq, bs_inj, cs h5, l1, l2, bGt_int, decide_false, pPick_false, bindP_some, gd_false, Bool.not_false, stepG_true, ifB_false]
                  exact hk
            · have p4' : plainP e.text 1024 = false := by simpa using p4
              have ho : okE e = false := by simp [okE, p4']
              simp only [ld1_ptr, k0, k1, k2, k3, k4, bNe_str, bs_beq, bs_inj, p4', uNot_bool, Bool.not_false, pPick_false, pPick_true, bindP_some, gd_false, Bool.not_true, stepG_false, ifB_true]
              exact bad _ h5 ho
          · have p3' : plainP e.key 128 = false := by simpa using p3
            have ho : okE e = false := by simp [okE, p3']
            simp only [ld1_ptr, k0, k1, k2, k3, k4, bNe_str, bs_beq, bs_inj, p3', uNot_bool, Bool.not_false, pPick_false, pPick_true, bindP_some, gd_false, Bool.not_true, stepG_false, stepE_false, ifB_true]
            exact bad _ h4 ho
        · have p2' : plainP e.cls 64 = false := by simpa using p2
          have ho : okE e = false := by simp [okE, p2']
          simp only [ld1_ptr, k0, k1, k2, k3, k4, bNe_str, bs_beq, bs_inj, p2', uNot_bool, Bool.not_false, pPick_false, pPick_true, bindP_some, gd_false, Bool.not_true, stepG_false, stepE_false, ifB_true]
          exact bad _ h3 ho
      · have p1' : plainP e.node 64 = false := by simpa using p1
        have ho : okE e = false := by simp [okE, p1']
        simp only [ld1_ptr, k0, k1, k2, k3, k4, bNe_str, bs_beq, bs_inj, p1', gd_true, uNot_bool, Bool.not_false, pPick_false, pPick_true, bindP_some, gd_false, Bool.not_true, stepG_false, stepE_false, ifB_true]
        exact bad _ h2 ho
theorem nfcheck_spec (he : e.fits) (h : Sat w0 L w) (hK : ∀ w', Sat w0 L w' → K (.int .i64 (chkE e)) w') : callP G68 [evV e] w K := by
  refine c68 ?_
  unfold F68
  refine eBox_sat h fun p w1 h1 => ?_
  have e0 : (evV e).cells = (cEv e).toArray := rfl
  rw [e0] at h1
  have cs : ∀ {w' : World}, Sat w0 (Cl p (cEv e).toArray 31 :: L) w' → ∀ i, w'.cell? ⟨p, i, none⟩ = (cEv e)[i]? := fun h i => by rw [cell_of h.cl, List.getElem?_toArray]
  have k0 : (cEv e)[0]? = some (.string (bs e.node)) := rfl
  have k1 : (cEv e)[1]? = some (.string (bs e.cls)) := rfl
  have k2 : (cEv e)[2]? = some (.string (bs e.key)) := rfl
  have k3 : (cEv e)[3]? = some (.int .i64 e.level) := rfl
  have k4 : (cEv e)[4]? = some (.string (bs e.text)) := rfl
  obtain ⟨f1, f2, f3, f4⟩ := he
  unfold chkE okE at hK
  rw [nil_b]
  simp only [ptr, pFieldAddr_ptr, bindP_some, Nat.zero_add, ld1_ptr, cs h1, k0, k1, bEq_str, bs_beq, bs_inj]
  have bad : ∀ w', Sat w0 (Cl p (cEv e).toArray 31 :: L) w' → okE e = false → K (.int .i64 180) w' := by
    intro w' hs ho
    have := hK _ hs.drop
    unfold okE at ho
    rw [ho] at this
    exact this
  by_cases n1 : e.node = []
  · have ho : okE e = false := by simp [okE, n1]
    simp only [cs h1, n1, ld1_ptr, k0, k1, k2, k3, k4, bEq_str, bs_beq, bs_inj, gd_undef, uNot_bool, decide_true, decide_false, Bool.not_true, Bool.not_false, gd_true, gd_false, stepG_true, stepG_false, stepE_true, stepE_false, stepM_true, stepM_false, pPick_true, pPick_false, bindP_some, ifB_true, ifB_false, bLt_int, bGt_int]
    exact bad _ h1 ho
  · by_cases n2 : e.cls = []
    · have ho : okE e = false := by simp [okE, n2]
      simp only [cs h1, n1, n2, ld1_ptr, k0, k1, k2, k3, k4, bEq_str, bs_beq, bs_inj, gd_undef, uNot_bool, decide_true, decide_false, Bool.not_true, Bool.not_false, gd_true, gd_false, stepG_true, stepG_false, stepE_true, stepE_false, stepM_true, stepM_false, pPick_true, pPick_false, bindP_some, ifB_true, ifB_false, bLt_int, bGt_int]
      exact bad _ h1 ho
    · simp only [cs h1, n1, n2, ld1_ptr, k0, k1, k2, k3, k4, bEq_str, bs_beq, bs_inj, gd_undef, uNot_bool, decide_true, decide_false, Bool.not_true, Bool.not_false, gd_true, gd_false, stepG_true, stepG_false, stepE_true, stepE_false, stepM_true, stepM_false, pPick_true, pPick_false, bindP_some, ifB_true, ifB_false, bLt_int, bGt_int]
      refine fplain_spec (most := 64) f1 h1 fun w2 h2 => ?_
      by_cases p1 : plainP e.node 64 = true
      · simp only [p1, cs h2, ld1_ptr, k0, k1, k2, k3, k4, bEq_str, bs_beq, bs_inj, gd_undef, uNot_bool, decide_true, decide_false, Bool.not_true, Bool.not_false, gd_true, gd_false, stepG_true, stepG_false, stepE_true, stepE_false, stepM_true, stepM_false, pPick_true, pPick_false, bindP_some, ifB_true, ifB_false, bLt_int, bGt_int]
        refine fplain_spec (most := 64) f2 h2 fun w3 h3 => ?_
        by_cases p2 : plainP e.cls 64 = true
        · simp only [p2, cs h3, ld1_ptr, k0, k1, k2, k3, k4, bEq_str, bs_beq, bs_inj, gd_undef, uNot_bool, decide_true, decide_false, Bool.not_true, Bool.not_false, gd_true, gd_false, stepG_true, stepG_false, stepE_true, stepE_false, stepM_true, stepM_false, pPick_true, pPick_false, bindP_some, ifB_true, ifB_false, bLt_int, bGt_int]
          refine fplain_spec (most := 128) f3 h3 fun w4 h4 => ?_
          by_cases p3 : plainP e.key 128 = true
          · simp only [p3, cs h4, ld1_ptr, k0, k1, k2, k3, k4, bEq_str, bs_beq, bs_inj, gd_undef, uNot_bool, decide_true, decide_false, Bool.not_true, Bool.not_false, gd_true, gd_false, stepG_true, stepG_false, stepE_true, stepE_false, stepM_true, stepM_false, pPick_true, pPick_false, bindP_some, ifB_true, ifB_false, bLt_int, bGt_int]
            refine fplain_spec (most := 1024) f4 h4 fun w5 h5 => ?_
            by_cases p4 : plainP e.text 1024 = true
            · simp only [p4, cs h5, ld1_ptr, k0, k1, k2, k3, k4, bEq_str, bs_beq, bs_inj, gd_undef, uNot_bool, decide_true, decide_false, Bool.not_true, Bool.not_false, gd_true, gd_false, stepG_true, stepG_false, stepE_true, stepE_false, stepM_true, stepM_false, pPick_true, pPick_false, bindP_some, ifB_true, ifB_false, bLt_int, bGt_int]
              by_cases l1 : e.level < 0
              · have ho : okE e = false := by
                  have : ¬ (0 ≤ e.level) := by omega
                  simp [okE, this]
                simp only [l1, cs h5, ld1_ptr, k0, k1, k2, k3, k4, bEq_str, bs_beq, bs_inj, gd_undef, uNot_bool, decide_true, decide_false, Bool.not_true, Bool.not_false, gd_true, gd_false, stepG_true, stepG_false, stepE_true, stepE_false, stepM_true, stepM_false, pPick_true, pPick_false, bindP_some, ifB_true, ifB_false, bLt_int, bGt_int]
                exact bad _ h5 ho
              · by_cases l2 : e.level > 5
                · have ho : okE e = false := by
                    have : ¬ (e.level ≤ 5) := by omega
                    simp [okE, this]
                  simp only [l1, l2, cs h5, ld1_ptr, k0, k1, k2, k3, k4, bEq_str, bs_beq, bs_inj, gd_undef, uNot_bool, decide_true, decide_false, Bool.not_true, Bool.not_false, gd_true, gd_false, stepG_true, stepG_false, stepE_true, stepE_false, stepM_true, stepM_false, pPick_true, pPick_false, bindP_some, ifB_true, ifB_false, bLt_int, bGt_int]
                  exact bad _ h5 ho
                · have hk := hK _ h5.drop
                  have g1 : 0 ≤ e.level := by omega
                  have g2 : e.level ≤ 5 := by omega
                  simp only [n1, n2, p1, p2, p3, p4, g1, g2, decide_true, decide_false, Bool.not_false, Bool.and_self, if_true] at hk
                  simp only [l1, l2, cs h5, ld1_ptr, k0, k1, k2, k3, k4, bEq_str, bs_beq, bs_inj, gd_undef, uNot_bool, decide_true, decide_false, Bool.not_true, Bool.not_false, gd_true, gd_false, stepG_true, stepG_false, stepE_true, stepE_false, stepM_true, stepM_false, pPick_true, pPick_false, bindP_some, ifB_true, ifB_false, bLt_int, bGt_int]
                  exact hk
            · have p4' : plainP e.text 1024 = false := by simpa using p4
              have ho : okE e = false := by simp [okE, p4']
              simp only [p4', cs h5, ld1_ptr, k0, k1, k2, k3, k4, bEq_str, bs_beq, bs_inj, gd_undef, uNot_bool, decide_true, decide_false, Bool.not_true, Bool.not_false, gd_true, gd_false, stepG_true, stepG_false, stepE_true, stepE_false, stepM_true, stepM_false, pPick_true, pPick_false, bindP_some, ifB_true, ifB_false, bLt_int, bGt_int]
              exact bad _ h5 ho
          · have p3' : plainP e.key 128 = false := by simpa using p3
            have ho : okE e = false := by simp [okE, p3']
            simp only [p3', cs h4, ld1_ptr, k0, k1, k2, k3, k4, bEq_str, bs_beq, bs_inj, gd_undef, uNot_bool, decide_true, decide_false, Bool.not_true, Bool.not_false, gd_true, gd_false, stepG_true, stepG_false, stepE_true, stepE_false, stepM_true, stepM_false, pPick_true, pPick_false, bindP_some, ifB_true, ifB_false, bLt_int, bGt_int]
            exact bad _ h4 ho
        · have p2' : plainP e.cls 64 = false := by simpa using p2
          have ho : okE e = false := by simp [okE, p2']
          simp only [p2', cs h3, ld1_ptr, k0, k1, k2, k3, k4, bEq_str, bs_beq, bs_inj, gd_undef, uNot_bool, decide_true, decide_false, Bool.not_true, Bool.not_false, gd_true, gd_false, stepG_true, stepG_false, stepE_true, stepE_false, stepM_true, stepM_false, pPick_true, pPick_false, bindP_some, ifB_true, ifB_false, bLt_int, bGt_int]
          exact bad _ h3 ho
      · have p1' : plainP e.node 64 = false := by simpa using p1
        have ho : okE e = false := by simp [okE, p1']
        simp only [p1', cs h2, ld1_ptr, k0, k1, k2, k3, k4, bEq_str, bs_beq, bs_inj, gd_undef, uNot_bool, decide_true, decide_false, Bool.not_true, Bool.not_false, gd_true, gd_false, stepG_true, stepG_false, stepE_true, stepE_false, stepM_true, stepM_false, pPick_true, pPick_false, bindP_some, ifB_true, ifB_false, bLt_int, bGt_int]
        exact bad _ h2 ho
end
end Go.Proofs.Gong
