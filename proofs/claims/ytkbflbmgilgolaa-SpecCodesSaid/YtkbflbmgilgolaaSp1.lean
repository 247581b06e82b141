/- A part of the proofs: what stands below it, told in lemmas. No condition. -/
import Derived.Test.YtkbflbmgilgolaaOc3
import Derived.Test.YtkbflbmgilgolaaSpec
namespace Go.Proofs.Gong
open Go Go.Sx Go.Proofs
set_option maxRecDepth 100000
structure Inp where
  kind : Int
  time : Int
  src : List UInt8
  byt : List UInt8
  seq : Int
  deriving DecidableEq
def cIn (x : Inp) : List Value := [.int .i64 x.kind, .int .i64 x.time, .string (bs x.src), .string (bs x.byt), .int .i64 x.seq]
def inV (x : Inp) : Value := .agg (cIn x).toArray
def rightI (x : Inp) : Bool :=
  if x.kind = 3 then decide (x.src = []) && decide (x.byt = []) && decide (x.seq = 0) else
  if x.kind = 1 ∨ x.kind = 2 ∨ x.kind = 4 then decide (x.seq = 0) else
  if x.kind = 5 then decide (x.src = []) && decide (x.byt = []) else false
def okI (x : Inp) : Bool := decide (0 ≤ x.time) && decide (x.time ≤ 2305843009213693952) && decide (x.src.length ≤ 64) && decide (x.byt.length ≤ 65535) && decide (0 ≤ x.seq) && decide (x.seq ≤ 1152921504606846976) && rightI x
def chkI (x : Inp) : Int := if okI x = true then 0 else 1
theorem nil_bs : (⟨#[]⟩ : ByteArray) = bs [] := by simp [bs]
theorem cellM {w0 w : World} {L : List HP} {p : Nat} {c : Array Value} {ty : TypeId} (h : Sat w0 L w) (hm : Cl p c ty ∈ L) : w.heap[p]? = some (.cells c ty (0, 0)) := by
  obtain ⟨A, B, rfl⟩ := List.append_of_mem hm
  exact (h.perm List.perm_middle).cl
theorem rdM {w0 w : World} {L : List HP} {es n : Nat} {v : Value} {cs : List Value} {ty : TypeId} (h : Sat w0 L w) (hm : SlH es ty v n cs ∈ L) : Rd w es v n cs := by
  obtain ⟨A, B, rfl⟩ := List.append_of_mem hm
  exact (h.perm List.perm_middle).rd
section
variable {w0 w : World} {L : List HP} {K : Value → World → Prop} {x : Inp}
theorem right_spec (h : Sat w0 L w) (hK : ∀ w', Sat w0 L w' → K (.bool (rightI x)) w') : callP G138 [inV x] w K := by
  refine c138 ?_
  unfold F138 F138_1 F138_1b
  refine eBox_sat h fun p w1 h1 => ?_
  have e0 : (inV x).cells = (cIn x).toArray := rfl
  rw [e0] at h1
  have hk := hK _ h1.drop
  have c0 : w1.cell? ⟨p, 0, none⟩ = some (.int .i64 x.kind) := by rw [cell_of h1.cl]; rfl
  have c2 : w1.cell? ⟨p, 2, none⟩ = some (.string (bs x.src)) := by rw [cell_of h1.cl]; rfl
  have c3 : w1.cell? ⟨p, 3, none⟩ = some (.string (bs x.byt)) := by rw [cell_of h1.cl]; rfl
  have c4 : w1.cell? ⟨p, 4, none⟩ = some (.int .i64 x.seq) := by rw [cell_of h1.cl]; rfl
  unfold rightI at hk
  unfold F138_2 F138_4 F138_6 F138_8 F138_10 F138_10b
  simp only [ptr, pFieldAddr_ptr, bindP_some, ld1_ptr, Nat.zero_add, c0, bEq_int]
  have last : (x.seq = 0 ∨ x.seq ≠ 0) := by omega
  by_cases k3 : x.kind = 3
  · rw [if_pos k3] at hk
    unfold F138_9 F138_9b F138_7 F138_7b
    by_cases g2 : x.src = [] <;> by_cases g3 : x.byt = [] <;> simp [k3, c2, c3, c4, nil_bs, g2, g3] at hk ⊢ <;> exact hk
  · rw [if_neg k3] at hk
    unfold F138_11 F138_11b F138_7 F138_7b F138_5 F138_5b F138_3 F138_3b
    by_cases k1 : x.kind = 1
    · simp [k1, c4] at hk ⊢; exact hk
    · by_cases k2 : x.kind = 2
      · simp [k2, c4] at hk ⊢; exact hk
      · by_cases k4 : x.kind = 4
        · simp [k4, c4] at hk ⊢; exact hk
        · by_cases k5 : x.kind = 5
          · by_cases g2 : x.src = [] <;> by_cases g3 : x.byt = [] <;> simp [k5, c2, c3, nil_bs, g2, g3] at hk ⊢ <;> exact hk
          · simp [k1, k2, k3, k4, k5] at hk ⊢; exact hk
theorem check_spec (h : Sat w0 L w) (hK : ∀ w', Sat w0 L w' → K (.int .i64 (chkI x)) w') : callP G39 [inV x] w K := by
  refine c39 ?_
  unfold F39
  refine eBox_sat h fun p w1 h1 => ?_
  have e0 : (inV x).cells = (cIn x).toArray := rfl
  rw [e0] at h1
  have hk := hK _ h1.drop
  have c1 : w1.cell? ⟨p, 1, none⟩ = some (.int .i64 x.time) := by rw [cell_of h1.cl]; rfl
  have c2 : w1.cell? ⟨p, 2, none⟩ = some (.string (bs x.src)) := by rw [cell_of h1.cl]; rfl
  have c3 : w1.cell? ⟨p, 3, none⟩ = some (.string (bs x.byt)) := by rw [cell_of h1.cl]; rfl
  have c4 : w1.cell? ⟨p, 4, none⟩ = some (.int .i64 x.seq) := by rw [cell_of h1.cl]; rfl
  have cN : ldN 5 (ptr p) w1 = some (inV x) := by rw [ptr, ldN_of h1.cl (by simp [cIn])]; rfl
  unfold chkI okI at hk
  simp only [ptr] at cN
  by_cases g1 : 0 ≤ x.time
  · by_cases g2 : x.time ≤ 2305843009213693952
    · by_cases g3 : x.src.length ≤ 64
      · by_cases g4 : x.byt.length ≤ 65535
        · by_cases g5 : 0 ≤ x.seq
          · by_cases g6 : x.seq ≤ 1152921504606846976
            · have g3' : ¬ (64 < x.src.length) := by omega
              have g4' : ¬ (65535 < x.byt.length) := by omega
              have g5' : ¬ (x.seq < 0) := by omega
              have g6' : ¬ (1152921504606846976 < x.seq) := by omega
              have q3 : bGt (.int .i64 (x.src.length : Int)) (.int .i64 64) = some (.bool false) := by simp; omega
              have q4 : bGt (.int .i64 (x.byt.length : Int)) (.int .i64 65535) = some (.bool false) := by simp; omega
              simp only [ptr, pFieldAddr_ptr, bindP_some, ld1_ptr, Nat.zero_add, c1, c2, c3, c4, bGe_int, bLe_int, bLt_int, bGt_int, ge_iff_le, gt_iff_lt, g1, g2, g5', g6', decide_true, decide_false, gd_true, gd_false, stepG_true, pPick_true, pPick_false, uNot_bool, Bool.not_true, Bool.not_false, lenS_mk, bs_size, q3, q4, cN, stepE_true]
              refine right_spec h1 fun w2 h2 => ?_
              have hk2 := hK _ h2.drop
              unfold chkI okI at hk2
              by_cases g7 : rightI x = true
              · simp [g7, g1, g2, g3, g4, g5, g6] at hk2 ⊢; exact hk2
              · simp [g7] at hk2 ⊢; exact hk2
            · have g6' : 1152921504606846976 < x.seq := by omega
              have q3 : bGt (.int .i64 (x.src.length : Int)) (.int .i64 64) = some (.bool false) := by simp; omega
              have q4 : bGt (.int .i64 (x.byt.length : Int)) (.int .i64 65535) = some (.bool false) := by simp; omega
              have g5' : ¬ (x.seq < 0) := by omega
              have b6 : bGt (.int .i64 x.seq) (.int .i64 1152921504606846976) = some (.bool true) := by simp; omega
              have n6 : ¬ (x.seq ≤ 1152921504606846976) := g6
              simp [g1, g2, g3, g4, g5, n6] at hk
              simp [ptr, c1, c2, c3, c4, g1, g2, g5', g6', q3, q4, b6, -bGt_int]
              exact hk
          · simp [g1, g2, g3, g4, g5] at hk
            have q3 : bGt (.int .i64 (x.src.length : Int)) (.int .i64 64) = some (.bool false) := by simp; omega
            have q4 : bGt (.int .i64 (x.byt.length : Int)) (.int .i64 65535) = some (.bool false) := by simp; omega
            have g5' : x.seq < 0 := by omega
            simp [ptr, c1, c2, c3, c4, g1, g2, g5', q3, q4, -bGt_int]
            exact hk
        · simp [g1, g2, g3, g4] at hk
          have q3 : bGt (.int .i64 (x.src.length : Int)) (.int .i64 64) = some (.bool false) := by simp; omega
          have q4 : bGt (.int .i64 (x.byt.length : Int)) (.int .i64 65535) = some (.bool true) := by simp; omega
          simp [ptr, c1, c2, c3, g1, g2, q3, q4, -bGt_int]
          exact hk
      · simp [g1, g2, g3] at hk
        have q3 : bGt (.int .i64 (x.src.length : Int)) (.int .i64 64) = some (.bool true) := by simp; omega
        simp [ptr, c1, c2, g1, g2, q3, -bGt_int]
        exact hk
    · simp [g1, g2] at hk
      simp [ptr, c1, g1, g2]
      exact hk
  · simp [g1] at hk
    simp [ptr, c1, g1]
    exact hk
theorem istime_spec {t : Int} (hK : K (.bool (decide (0 ≤ t) && decide (t ≤ 2305843009213693952))) w) : callP G123 [.int .i64 t] w K := by
  refine c123 ?_
  unfold F123
  by_cases g1 : 0 ≤ t <;> simp [g1] at hK ⊢ <;> exact hK
theorem fcheck_spec (h : Sat w0 L w) (hK : ∀ w', Sat w0 L w' → K (.int .i64 (chkI x)) w') : callP G40 [inV x] w K := by
  refine c40 ?_
  unfold F40 F40_1 F40_1b
  refine eBox_sat h fun p w1 h1 => ?_
  have e0 : (inV x).cells = (cIn x).toArray := rfl
  rw [e0] at h1
  have hk := hK _ h1.drop
  have c0 : w1.cell? ⟨p, 0, none⟩ = some (.int .i64 x.kind) := by rw [cell_of h1.cl]; rfl
  have c1 : w1.cell? ⟨p, 1, none⟩ = some (.int .i64 x.time) := by rw [cell_of h1.cl]; rfl
  have c2 : w1.cell? ⟨p, 2, none⟩ = some (.string (bs x.src)) := by rw [cell_of h1.cl]; rfl
  have c3 : w1.cell? ⟨p, 3, none⟩ = some (.string (bs x.byt)) := by rw [cell_of h1.cl]; rfl
  have c4 : w1.cell? ⟨p, 4, none⟩ = some (.int .i64 x.seq) := by rw [cell_of h1.cl]; rfl
  unfold chkI okI at hk
  simp only [ptr, pFieldAddr_ptr, bindP_some, ld1_ptr, Nat.zero_add, c1]
  refine istime_spec ?_
  by_cases g1 : 0 ≤ x.time
  · by_cases g2 : x.time ≤ 2305843009213693952
    · by_cases g3 : x.src.length ≤ 64
      · by_cases g4 : x.byt.length ≤ 65535
        · by_cases g5 : 0 ≤ x.seq
          · by_cases g6 : x.seq ≤ 1152921504606846976
            · have g5' : ¬ (x.seq < 0) := by omega
              have g6' : ¬ (1152921504606846976 < x.seq) := by omega
              have q3 : bGt (.int .i64 (x.src.length : Int)) (.int .i64 64) = some (.bool false) := by simp; omega
              have q4 : bGt (.int .i64 (x.byt.length : Int)) (.int .i64 65535) = some (.bool false) := by simp; omega
              have b6 : bGt (.int .i64 x.seq) (.int .i64 1152921504606846976) = some (.bool false) := by simp; omega
              simp [c0, c1, c2, c3, c4, g1, g2, g5', q3, q4, b6, -bGt_int]
              simp [g1, g2, g3, g4, g5, g6] at hk
              unfold F40_2 F40_4 F40_4b F40_5 F40_5b F40_3 F40_3b
              unfold rightI at hk
              by_cases k1 : x.kind = 1
              · by_cases s0 : x.seq = 0 <;> simp [k1, c4, s0] at hk ⊢ <;> exact hk
              · by_cases k2 : x.kind = 2
                · by_cases s0 : x.seq = 0 <;> simp [k2, c4, s0] at hk ⊢ <;> exact hk
                · by_cases k4 : x.kind = 4
                  · by_cases s0 : x.seq = 0 <;> simp [k4, c4, s0] at hk ⊢ <;> exact hk
                  · by_cases k3 : x.kind = 3
                    · by_cases s0 : x.seq = 0 <;> by_cases g2 : x.src = [] <;> by_cases g3 : x.byt = [] <;> simp [k3, c2, c3, c4, s0, nil_bs, g2, g3] at hk ⊢ <;> exact hk
                    · by_cases k5 : x.kind = 5
                      · by_cases g2 : x.src = [] <;> by_cases g3 : x.byt = [] <;> simp [k5, c2, c3, nil_bs, g2, g3] at hk ⊢ <;> exact hk
                      · simp [k1, k2, k3, k4, k5] at hk ⊢; exact hk
            · have n6 : ¬ (x.seq ≤ 1152921504606846976) := g6
              simp [g1, g2, g3, g4, g5, n6] at hk
              have g5' : ¬ (x.seq < 0) := by omega
              have q3 : bGt (.int .i64 (x.src.length : Int)) (.int .i64 64) = some (.bool false) := by simp; omega
              have q4 : bGt (.int .i64 (x.byt.length : Int)) (.int .i64 65535) = some (.bool false) := by simp; omega
              have b6 : bGt (.int .i64 x.seq) (.int .i64 1152921504606846976) = some (.bool true) := by simp; omega
              simp [c1, c2, c3, c4, g1, g2, g5', q3, q4, b6, -bGt_int]
              exact hk
          · simp [g1, g2, g3, g4, g5] at hk
            have q3 : bGt (.int .i64 (x.src.length : Int)) (.int .i64 64) = some (.bool false) := by simp; omega
            have q4 : bGt (.int .i64 (x.byt.length : Int)) (.int .i64 65535) = some (.bool false) := by simp; omega
            have g5' : x.seq < 0 := by omega
            simp [c1, c2, c3, c4, g1, g2, g5', q3, q4, -bGt_int]
            exact hk
        · simp [g1, g2, g3, g4] at hk
          have q3 : bGt (.int .i64 (x.src.length : Int)) (.int .i64 64) = some (.bool false) := by simp; omega
          have q4 : bGt (.int .i64 (x.byt.length : Int)) (.int .i64 65535) = some (.bool true) := by simp; omega
          simp [c1, c2, c3, g1, g2, q3, q4, -bGt_int]
          exact hk
      · simp [g1, g2, g3] at hk
        have q3 : bGt (.int .i64 (x.src.length : Int)) (.int .i64 64) = some (.bool true) := by simp; omega
        simp [c1, c2, g1, g2, q3, -bGt_int]
        exact hk
    · simp [g1, g2] at hk
      simp [c1, g1, g2]
      exact hk
  · simp [g1] at hk
    simp [c1, g1]
    exact hk
end
end Go.Proofs.Gong
