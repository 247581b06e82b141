/- A part of the proofs: what stands below it, told in lemmas. No condition. -/
import Derived.Test.YtpbfmiphjcmjjaaNm0
import Derived.Test.YtpbfmiphjcmjjaaNorm
set_option linter.all false
namespace Go.Proofs.Gong
open Go Go.Sx Go.Proofs
set_option maxRecDepth 100000
theorem nil_b : (⟨#[]⟩ : ByteArray) = bs [] := by simp [bs]
theorem gd_undef (b : Bool) : gd b undef = false := by cases b <;> rfl
theorem and31 : ∀ n : Fin 256, bBits .and .u8 (n.val : Int) 31 = some ((n.val % 32 : Nat) : Int) := by decide +kernel
theorem and15 : ∀ n : Fin 256, bBits .and .u8 (n.val : Int) 15 = some ((n.val % 16 : Nat) : Int) := by decide +kernel
theorem and7 : ∀ n : Fin 256, bBits .and .u8 (n.val : Int) 7 = some ((n.val % 8 : Nat) : Int) := by decide +kernel
theorem and63 : ∀ n : Fin 256, bBits .and .u8 (n.val : Int) 63 = some ((n.val % 64 : Nat) : Int) := by decide +kernel
theorem bAnd_u8 {k m : Nat} (h : ∀ n : Fin 256, bBits .and .u8 (n.val : Int) (k : Int) = some ((n.val % m : Nat) : Int)) (b : UInt8) : bBit .and (.int .u8 b.toNat) (.int .u8 k) = some (.int .u8 ((b.toNat % m : Nat))) := by
  have := h ⟨b.toNat, b.toNat_lt⟩
  simp only at this
  simp only [bBit, if_true, this, Option.map_some]
theorem shr_u8 (n k : Nat) (h : k ≤ 8) : bShr (.int .u8 n) (.int .u64 k) = some (.int .u8 ((n / 2 ^ k : Nat))) := bShr_nat (j := .u8) (by exact h)
theorem to64 (n : Nat) (h : n < 9223372036854775808) : cInt .i64 (.int .u8 n) = some (.int .i64 n) := by
  simp only [cInt]; rw [wrap_id (by omega)]
theorem shl6 {n : Nat} (h : n < 72057594037927936) : bShl (.int .i64 n) (.int .u64 6) = some (.int .i64 ((n * 64 : Nat))) := by
  have e : min ((6 : Int).toNat) IntKind.i64.bits = 6 := by decide
  simp only [bShl]
  rw [if_neg (by decide), e, show ((n : Int) * 2 ^ 6) = ((n * 64 : Nat) : Int) by omega, wrap_id (by omega)]
theorem plus1 {a : Nat} (h : a + 1 < 9223372036854775808) : bAdd (.int .i64 a) (.int .i64 1) = some (.int .i64 ((a + 1 : Nat))) := by
  rw [bAdd_int, show ((a : Int) + 1) = ((a + 1 : Nat) : Int) by omega, wrap_id (by omega)]
section
variable {w : World} {K : Value → World → Prop}
theorem long_spec {b : UInt8} (hK : K (.tuple #[.int .i64 (longP b.toNat).1, .int .i64 (longP b.toNat).2]) w) : callP G180 [.int .u8 b.toNat] w K := by
  refine c180 ?_
  unfold F180
  have hb := b.toNat_lt
  unfold longP at hK
  by_cases h1 : b.toNat < 128
  · rw [if_pos h1] at hK
    have e : bLt (.int .u8 (b.toNat : Int)) (.int .u8 128) = some (.bool true) := by simp; omega
    simp only [e, bindP_some, ifB_true, to64 _ (show b.toNat < 9223372036854775808 by omega)]
    exact hK
  · rw [if_neg h1] at hK
    have e : bLt (.int .u8 (b.toNat : Int)) (.int .u8 128) = some (.bool false) := by simp; omega
    have s5 : bShr (.int .u8 (b.toNat : Int)) (.int .u64 5) = some (.int .u8 ((b.toNat / 32 : Nat))) := shr_u8 _ 5 (by omega)
    have s4 : bShr (.int .u8 (b.toNat : Int)) (.int .u64 4) = some (.int .u8 ((b.toNat / 16 : Nat))) := shr_u8 _ 4 (by omega)
    have s3 : bShr (.int .u8 (b.toNat : Int)) (.int .u64 3) = some (.int .u8 ((b.toNat / 8 : Nat))) := shr_u8 _ 3 (by omega)
    have a31 : bBit .and (.int .u8 (b.toNat : Int)) (.int .u8 31) = _ := bAnd_u8 (k := 31) and31 b
    have a15 : bBit .and (.int .u8 (b.toNat : Int)) (.int .u8 15) = _ := bAnd_u8 (k := 15) and15 b
    have a7 : bBit .and (.int .u8 (b.toNat : Int)) (.int .u8 7) = _ := bAnd_u8 (k := 7) and7 b
    simp only [e, bindP_some, ifB_false, s5, s4, s3, a31, a15, a7, bEq_int]
    by_cases h2 : b.toNat / 32 = 6
    · rw [if_pos h2] at hK
      have : decide (((b.toNat / 32 : Nat) : Int) = 6) = true := by rw [h2]; rfl
      simp only [this, ifB_true, to64 _ (show b.toNat % 32 < 9223372036854775808 by omega), bindP_some]
      exact hK
    · rw [if_neg h2] at hK
      have : decide (((b.toNat / 32 : Nat) : Int) = 6) = false := by rw [decide_eq_false_iff_not]; omega
      simp only [this, ifB_false]
      by_cases h3 : b.toNat / 16 = 14
      · rw [if_pos h3] at hK
        have : decide (((b.toNat / 16 : Nat) : Int) = 14) = true := by rw [h3]; rfl
        simp only [this, ifB_true, to64 _ (show b.toNat % 16 < 9223372036854775808 by omega), bindP_some]
        exact hK
      · rw [if_neg h3] at hK
        have : decide (((b.toNat / 16 : Nat) : Int) = 14) = false := by rw [decide_eq_false_iff_not]; omega
        simp only [this, ifB_false]
        by_cases h4 : b.toNat / 8 = 30
        · rw [if_pos h4] at hK
          have : decide (((b.toNat / 8 : Nat) : Int) = 30) = true := by rw [h4]; rfl
          simp only [this, ifB_true, to64 _ (show b.toNat % 8 < 9223372036854775808 by omega), bindP_some]
          exact hK
        · rw [if_neg h4] at hK
          have : decide (((b.toNat / 8 : Nat) : Int) = 30) = false := by rw [decide_eq_false_iff_not]; omega
          simp only [this, ifB_false]
          exact hK
theorem is_spec {c : Nat} (hK : K (.bool (isC c)) w) : callP G181 [.int .i64 c] w K := by
  refine c181 ?_
  unfold F181
  unfold isC at hK
  by_cases h1 : c ≤ 1114111
  · by_cases h2 : c < 55296
    · have e1 : decide ((c : Int) ≥ 0) = true := by simp
      have e2 : decide ((c : Int) ≤ 1114111) = true := by simp; omega
      have e3 : decide ((c : Int) < 55296) = true := by simp; omega
      simp only [bGe_int, bLe_int, bLt_int, e1, e2, e3, bindP_some, gd_true, gd_false, Bool.not_true, stepM_true, stepM_false, stepG_true, stepG_false, pPick_true]
      simpa [h1, h2] using hK
    · have e1 : decide ((c : Int) ≥ 0) = true := by simp
      have e2 : decide ((c : Int) ≤ 1114111) = true := by simp; omega
      have e3 : decide ((c : Int) < 55296) = false := by simp; omega
      have e4 : decide ((c : Int) > 57343) = decide (57343 < c) := by rw [decide_eq_decide]; omega
      simp only [bGe_int, bLe_int, bLt_int, bGt_int, e1, e2, e3, e4, bindP_some, gd_true, gd_false, Bool.not_false, stepM_true, stepG_true, pPick_true, pPick_false]
      simpa [h1, h2] using hK
  · have e1 : decide ((c : Int) ≥ 0) = true := by simp
    have e2 : decide ((c : Int) ≤ 1114111) = false := by simp; omega
    simp only [bGe_int, bLe_int, e1, e2, bindP_some, gd_true, gd_false, Bool.not_false, stepM_true, stepM_false, stepG_true, stepG_false, pPick_true, pPick_false, gd_undef]
    simpa [h1] using hK
theorem least_spec {n : Nat} (hK : K (.int .i64 (leastP n)) w) : callP G182 [.int .i64 n] w K := by
  refine c182 ?_
  unfold F182
  unfold leastP at hK
  by_cases h2 : n = 2
  · subst h2; simpa using hK
  · by_cases h3 : n = 3
    · subst h3; simpa using hK
    · by_cases h4 : n = 4
      · subst h4; simpa using hK
      · have e2 : decide ((n : Int) = 2) = false := by rw [decide_eq_false_iff_not]; omega
        have e3 : decide ((n : Int) = 3) = false := by rw [decide_eq_false_iff_not]; omega
        have e4 : decide ((n : Int) = 4) = false := by rw [decide_eq_false_iff_not]; omega
        simp only [bEq_int, e2, e3, e4, bindP_some, ifB_false]
        simpa [h2, h3, h4] using hK
def errV : Value := .tuple #[.int .i64 0, .int .i64 0, .int .i64 40]
def firstV (s : List UInt8) : Value := match firstP s with
  | some x => .tuple #[.int .i64 x.1, .int .i64 x.2, .int .i64 0]
  | none => errV
theorem cont_spec {s : List UInt8} {n : Nat} (hs : n ≤ s.length) (h4 : n ≤ 4) : ∀ (k i c m : Nat), k + i = n → k ≤ m → c < 256 * 64 ^ i → (match contP k c (s.drop i) with | none => K errV w | some c' => F161_3 (.int .i64 c') (.int .i64 n) w K) →
    F161_2L (m + 1) (.string (bs s)) (.int .i64 c) (.int .i64 n) (.int .i64 i) w K := by
  intro k
  induction k with
  | zero =>
    intro i c m hk hm hc hK
    rw [F161_2L]; unfold F161_2b
    obtain rfl : i = n := by omega
    rw [bLt_int]
    simp only [bindP_some, Int.lt_irrefl, decide_false, ifB_false]
    simpa [contP] using hK
  | succ k ih =>
    intro i c m hk hm hc hK
    obtain ⟨m, rfl⟩ : ∃ j, m = j + 1 := ⟨m - 1, by omega⟩
    rw [F161_2L]; unfold F161_2b
    have hi : i < s.length := by omega
    have e : bLt (.int .i64 (i : Int)) (.int .i64 n) = some (.bool true) := by simp; omega
    have hdr : s.drop i = s[i] :: s.drop (i + 1) := List.drop_eq_getElem_cons hi
    rw [hdr] at hK
    rw [e]
    simp only [bindP_some, ifB_true, ix_txt hi]
    generalize s[i] = b at hK
    have hb := b.toNat_lt
    have s6 : bShr (.int .u8 (b.toNat : Int)) (.int .u64 6) = some (.int .u8 ((b.toNat / 64 : Nat))) := shr_u8 _ 6 (by omega)
    simp only [s6, bindP_some, bNe_int]
    simp only [contP] at hK
    by_cases h2 : b.toNat / 64 = 2
    · rw [if_pos h2] at hK
      have : (!decide (((b.toNat / 64 : Nat) : Int) = 2)) = false := by rw [h2]; rfl
      have a63 : bBit .and (.int .u8 (b.toNat : Int)) (.int .u8 63) = _ := bAnd_u8 (k := 63) and63 b
      have hp : 64 ^ i ≤ 64 ^ 4 := Nat.pow_le_pow_right (by omega) (by omega)
      have e4 : 64 ^ 4 = 16777216 := by decide
      simp only [this, ifB_false, shl6 (show c < 72057594037927936 by omega), a63, to64 _ (show b.toNat % 64 < 9223372036854775808 by omega), bindP_some]
      rw [bOr_i64 (by omega) (by omega), or_add (a := c) (i := 6) (by omega)]
      simp only [bindP_some, plus1 (show i + 1 < 9223372036854775808 by omega)]
      refine ih (i + 1) (c * 64 + b.toNat % 64) m (by omega) (by omega) (by rw [Nat.pow_succ]; omega) hK
    · rw [if_neg h2] at hK
      have : (!decide (((b.toNat / 64 : Nat) : Int) = 2)) = true := by simp; omega
      simp only [this, ifB_true]
      exact hK
theorem first_spec4 {s : List UInt8} (hK : K (firstV s) w) : callP G161 [.string (bs s)] w K := by
  refine c161 ?_
  unfold F161 F161_1 F161_1b
  rw [nil_b]
  cases s with
  | nil =>
    simp only [bEq_str, bs_beq, decide_true, bindP_some, ifB_true]
    exact hK
  | cons b s =>
    have e : decide (bs (b :: s) = bs []) = false := by simp
    have ix := ix_txt (l := b :: s) (i := 0) (j := .i64) (by simp)
    simp only [List.getElem_cons_zero] at ix
    have ix0 : pIndexS (.string (bs (b :: s))) (.int .i64 0) = some (.int .u8 b.toNat) := ix
    simp only [bEq_str, bs_beq, e, bindP_some, ifB_false, ix0]
    refine long_spec ?_
    simp only [pTuple, List.getElem?_toArray, List.getElem?_cons_zero, List.getElem?_cons_succ, bindP_some, bEq_int]
    have hl4 : (longP b.toNat).1 ≤ 4 ∧ (longP b.toNat).2 < 256 := by
      have := b.toNat_lt
      unfold longP
      split
      · exact ⟨by simp, by simp; omega⟩
      · split
        · exact ⟨by simp, by simp; omega⟩
        · split
          · exact ⟨by simp, by simp; omega⟩
          · split
            · exact ⟨by simp, by simp; omega⟩
            · exact ⟨by simp, by simp⟩
    unfold firstV firstP at hK
    simp only at hK
    generalize longP b.toNat = x at hK hl4
    by_cases h0 : x.1 = 0
    · rw [if_pos (.inl h0)] at hK
      have : decide ((x.1 : Int) = 0) = true := by simp; omega
      simp only [this, gd_false, Bool.not_true, stepM_false, stepG_false, pPick_true, bindP_some, ifB_true]
      exact hK
    · have : decide ((x.1 : Int) = 0) = false := by simp; omega
      simp only [this, gd_false, Bool.not_false, stepM_true, stepG_true, lenS_mk, bs_size, bGt_int, pPick_false, bindP_some]
      by_cases h1 : s.length + 1 < x.1
      · rw [if_pos (.inr h1)] at hK
        have : decide ((x.1 : Int) > ((b :: s).length : Int)) = true := by simp; omega
        simp only [this, ifB_true]
        exact hK
      · rw [if_neg (by rintro (h | h) <;> omega)] at hK
        have : decide ((x.1 : Int) > ((b :: s).length : Int)) = false := by simp; omega
        simp only [this, ifB_false]
        unfold F161_2
        refine cont_spec (n := x.1) (by simp; omega) hl4.1 (x.1 - 1) 1 x.2 (fuel - 1) (by omega) (Nat.le_trans (show x.1 - 1 ≤ 4 by omega) (by decide)) (by omega) ?_
        simp only [List.drop_succ_cons, List.drop_zero]
        cases hc : contP (x.1 - 1) x.2 s with
        | none => rw [hc] at hK; exact hK
        | some c =>
          rw [hc] at hK
          simp only at hK ⊢
          unfold F161_3 F161_3b
          refine is_spec ?_
          by_cases h5 : isC c = true
          · simp only [h5, uNot_bool, Bool.not_true, bindP_some, gd_false, Bool.not_false, stepM_true, stepE_true]
            refine least_spec ?_
            by_cases h6 : leastP x.1 ≤ c
            · rw [if_pos ⟨h5, h6⟩] at hK
              have : decide ((c : Int) < (leastP x.1 : Int)) = false := by simp; omega
              simp only [bLt_int, this, stepG_true, bindP_some, pPick_false, ifB_false]
              exact hK
            · rw [if_neg (fun h => h6 h.2)] at hK
              have : decide ((c : Int) < (leastP x.1 : Int)) = true := by simp; omega
              simp only [bLt_int, this, stepG_true, bindP_some, pPick_false, ifB_true]
              exact hK
          · rw [if_neg (fun h => h5 h.1)] at hK
            have h5' : isC c = false := by simpa using h5
            simp only [h5', uNot_bool, Bool.not_false, bindP_some, gd_false, Bool.not_true, stepM_false, stepG_false, stepE_false, pPick_true, ifB_true]
            exact hK
end
end Go.Proofs.Gong
