/- A part of the proofs: what stands below it, told in lemmas. No condition. -/
import Derived.Test.YtkbflbmgilgolaaOc2
namespace Go.Proofs.Gong
open Go Go.Sx Go.Proofs
set_option maxRecDepth 100000
theorem mul128 {n : Nat} (h : n < 72057594037927936) : bMul (.int .i64 n) (.int .i64 128) = some (.int .i64 ((n * 128 : Nat))) := by
  rw [bMul_int, show ((n : Int) * 128) = ((n * 128 : Nat) : Int) by omega, wrap_id (by omega)]
theorem mul256 {n : Nat} (h : n < 36028797018963968) : bMul (.int .i64 n) (.int .i64 256) = some (.int .i64 ((n * 256 : Nat))) := by
  rw [bMul_int, show ((n : Int) * 256) = ((n * 256 : Nat) : Int) by omega, wrap_id (by omega)]
theorem addn {a b : Nat} (h : a + b < 9223372036854775808) : bAdd (.int .i64 a) (.int .i64 b) = some (.int .i64 ((a + b : Nat))) := by
  rw [bAdd_int, show ((a : Int) + b) = ((a + b : Nat) : Int) by omega, wrap_id (by omega)]
theorem add1 {a : Nat} (h : a + 1 < 9223372036854775808) : bAdd (.int .i64 a) (.int .i64 1) = some (.int .i64 ((a + 1 : Nat))) := addn (b := 1) h
theorem subn {a b : Nat} (h : b ≤ a) (h2 : a < 9223372036854775808) : bSub (.int .i64 a) (.int .i64 b) = some (.int .i64 ((a - b : Nat))) := by
  rw [bSub_int, show ((a : Int) - b) = ((a - b : Nat) : Int) by omega, wrap_id (by omega)]
theorem div128 (n : Nat) (h : n < 9223372036854775808) : bQuo (.int .i64 n) (.int .i64 128) = some (.int .i64 ((n / 128 : Nat))) := by
  rw [bQuo_int _ _ _ (by decide)]
  have e : (n : Int).tdiv 128 = ((n / 128 : Nat) : Int) := by rfl
  rw [e, wrap_id (by omega)]
section
variable {w0 w : World} {L : List HP} {K : Value → World → Prop} {v : Value} {r : Rdr} {S : List UInt8}
theorem byte1 {b : UInt8} {k : Value → World → Prop} (h : Sat w0 L w) (hK : ∀ sv w', Sat w0 L w' → cBytes sv w' = some (.string (bs [b])) → k sv w') : eBuildSl Try.prog 29 1 [(0, .int .u8 b.toNat)] w k := by
  have hb : fBuildSl Try.prog 5 1 [(0, .int .u8 b.toNat)] = some (cellsB [b]).toArray := by kernel_rfl
  refine eBuildSl_sat (es := 1) h u29 hb (by simp) fun s w' h' => hK s w' h'.drop ?_
  have := h'.rd
  exact cBytes_rd this (by omega)
theorem grpF_spec : ∀ (k n m : Nat) (acc : List UInt8) (w : World), n < 128 ^ (k + 1) → n < 9223372036854775808 → k ≤ m → acc.length + k ≤ 100 → Sat w0 L w → (∀ w', Sat w0 L w' → K (.string (bs (hiG (n / 128) ++ acc))) w') →
    F201_2L (m + 1) (.int .i64 n) (.string (bs acc)) w K := by
  intro k
  induction k with
  | zero =>
    intro n m acc w hn hn2 hm ha hs hK
    rw [F201_2L]; unfold F201_2b F201_3 F201_3b
    have e : bGe (.int .i64 (n : Int)) (.int .i64 128) = some (.bool false) := by simp; omega
    rw [e]
    simp only [bindP_some, ifB_false]
    rw [show n / 128 = 0 by omega, hiG_0] at hK
    exact hK _ hs
  | succ k ih =>
    intro n m acc w hn hn2 hm ha hs hK
    obtain ⟨m, rfl⟩ : ∃ j, m = j + 1 := ⟨m - 1, by omega⟩
    rw [F201_2L]; unfold F201_2b
    by_cases h : n < 128
    · unfold F201_3 F201_3b
      have e : bGe (.int .i64 (n : Int)) (.int .i64 128) = some (.bool false) := by simp; omega
      rw [e]
      simp only [bindP_some, ifB_false]
      rw [show n / 128 = 0 by omega, hiG_0] at hK
      exact hK _ hs
    · have e : bGe (.int .i64 (n : Int)) (.int .i64 128) = some (.bool true) := by simp; omega
      rw [e]
      have ea : bAdd (.int .i64 ((n / 128 % 128 : Nat))) (.int .i64 128) = some (.int .i64 ((n / 128 % 128 + 128 : Nat))) := addn (b := 128) (by omega)
      simp only [bindP_some, ifB_true, div128 n hn2, rem128, ea, to8]
      refine byte1 hs fun sv w1 h1 hb => ?_
      rw [hb]
      simp only [bindP_some]
      rw [add_txt (by simp; omega)]
      simp only [bindP_some]
      refine ih (n / 128) m _ w1 (by rw [Nat.pow_succ] at hn; omega) (by omega) (by omega) (by simp; omega) h1 ?_
      rw [hiG_pos (show n / 128 ≠ 0 by omega)] at hK
      simpa using hK
theorem grouped_spec {n : Nat} (h : Sat w0 L w) (hn : n < 9223372036854775808) (hK : ∀ w', Sat w0 L w' → K (.string (bs (grp n))) w') : callP G201 [.int .i64 n] w K := by
  refine c201 ?_
  unfold F201 F201_1 F201_1b
  simp only [bindP_some, rem128, to8]
  refine byte1 h fun sv w1 h1 hb => ?_
  rw [hb]
  simp only [bindP_some]
  unfold F201_2
  refine grpF_spec 8 n (fuel - 1) _ w1 ?_ hn (by decide) (by simp) h1 hK
  have : 128 ^ 9 = 9223372036854775808 := by decide
  omega
theorem rftext_spec {s : List UInt8} (h : Sat w0 L w) (hn : s.length ≤ 4611686018427387904) (hK : ∀ w', Sat w0 L w' → K (.string (bs (txtL s))) w') : callP G202 [.string (bs s)] w K := by
  refine c202 ?_
  unfold F202
  simp only [lenS_mk, bs_size, bindP_some]
  refine grouped_spec h (by omega) fun w1 h1 => ?_
  have hg := grp_len (n := s.length) (by omega)
  rw [add_txt (by omega)]
  exact hK _ h1
def RfrH (v : Value) (S : List UInt8) (r : Rdr) : HP := HEx fun p => HEx fun a : Nat => HPr (v = ptr p ∧ a ≤ S.length ∧ r.2 = S.drop a ∧ S.length ≤ 4611686018427387904) (Cl p #[.string (bs S), .int .i64 a, .int .i64 r.1] 190)
theorem rfr_iff : Sat w0 (RfrH v S r :: L) w ↔ ∃ (p a : Nat), (v = ptr p ∧ a ≤ S.length ∧ r.2 = S.drop a ∧ S.length ≤ 4611686018427387904) ∧ Sat w0 (Cl p #[.string (bs S), .int .i64 a, .int .i64 r.1] 190 :: L) w := by
  simp only [RfrH, Sat.ex_iff, Sat.pr_iff]
theorem rfr_mk {p a : Nat} {c : Array Value} (h : Sat w0 (Cl p c 190 :: L) w) (h1 : a ≤ S.length) (h2 : r.2 = S.drop a) (h3 : S.length ≤ 4611686018427387904) (hc : c = #[.string (bs S), .int .i64 a, .int .i64 r.1]) : Sat w0 (RfrH (ptr p) S r :: L) w := rfr_iff.2 ⟨p, a, ⟨rfl, h1, h2, h3⟩, hc ▸ h⟩
theorem left_spec (h : Sat w0 (RfrH v S r :: L) w) (hK : K (.int .i64 r.2.length) w.drew) : callP G206 [v] w K := by
  refine c206 ?_
  unfold F206
  obtain ⟨p, a, ⟨rfl, h1, h2, h3⟩, hs⟩ := rfr_iff.1 h
  have hs' := hs.drew
  simp [ptr, cell_of hs'.cl]
  rw [show (S.length : Int) - a = (r.2.length : Int) by rw [h2]; simp; omega, wrap_id (by rw [h2]; simp; omega)]
  exact hK
theorem fdone_spec (h : Sat w0 (RfrH v S r :: L) w) (hK : ∀ w', Sat w0 (RfrH v S r :: L) w' → K (.int .i64 (rDone r)) w') : callP G137 [v] w K := by
  refine c137 ?_
  unfold F137
  have h' := h
  obtain ⟨p, a, ⟨rfl, h1, h2, h3⟩, hs⟩ := rfr_iff.1 h
  unfold rDone at hK
  have hs' := hs.drew
  by_cases h0 : r.1 = 0
  · by_cases hl : a < S.length
    · rw [if_pos ⟨h0, by rw [h2]; intro e; have := congrArg List.length e; simp at this; omega⟩] at hK
      simp [ptr, cell_of hs.cl, cell_of hs'.cl, h0, hl]
      exact hK _ h'.drew
    · rw [if_neg (by rintro ⟨_, e⟩; rw [h2] at e; apply e; rw [List.drop_of_length_le (by omega)])] at hK
      simp [ptr, cell_of hs.cl, cell_of hs'.cl, h0, hl]
      rw [h0] at hK
      exact hK _ h'.drew
  · rw [if_neg (by rintro ⟨h, _⟩; exact h0 h)] at hK
    simp [ptr, cell_of hs.cl, h0]
    exact hK _ h'
theorem fbytes_spec {n : Int} (h : Sat w0 (RfrH v S r :: L) w) (hK : ∀ w', Sat w0 (RfrH v S (rBytes n r).2 :: L) w' → K (.string (bs (rBytes n r).1)) w') : callP G208 [v, .int .i64 n] w K := by
  refine c208 ?_
  unfold F208
  have h' := h
  obtain ⟨p, a, ⟨rfl, h1, h2, h3⟩, hs⟩ := rfr_iff.1 h
  have e : (⟨#[]⟩ : ByteArray) = bs [] := by simp [bs]
  rw [e]
  unfold rBytes at hK
  by_cases h0 : r.1 = 0
  · rw [if_neg (by simp [h0])] at hK
    by_cases h4 : n < 0
    · rw [if_pos h4] at hK
      simp [ptr, cell_of hs.cl, h0, h4]
      exact bindW_st hs (by simp) fun w1 hs1 => hK _ (rfr_mk hs1 h1 h2 h3 (by simp))
    · rw [if_neg h4] at hK
      obtain ⟨k, rfl⟩ : ∃ k : Nat, n = k := ⟨n.toNat, by omega⟩
      simp only [ptr, pNil_ptr, bindP_some, pFieldAddr_ptr, ld1_ptr, cell_of hs.cl, List.getElem?_toArray, List.getElem?_cons_zero, List.getElem?_cons_succ, Nat.zero_add, h0, bNe_int, decide_true, Bool.not_true, ifB_false, bLt_int, h4, decide_false]
      refine left_spec h' ?_
      have hs' := hs.drew
      have hl : r.2.length = S.length - a := by rw [h2]; simp
      by_cases h5 : (r.2.length : Int) < (k : Int)
      · rw [if_pos h5] at hK
        have e1 : bGt (.int .i64 (k : Int)) (.int .i64 r.2.length) = some (.bool true) := by simp; omega
        rw [e1]
        simp only [bindP_some, ifB_true]
        exact bindW_st hs' (by simp) fun w1 hs1 => hK _ (rfr_mk hs1 h1 h2 h3 (by simp))
      · rw [if_neg h5] at hK
        have e1 : bGt (.int .i64 (k : Int)) (.int .i64 r.2.length) = some (.bool false) := by simp; omega
        rw [e1]
        simp only [bindP_some, ifB_false, cell_of hs'.cl, List.getElem?_toArray, List.getElem?_cons_zero, List.getElem?_cons_succ, addn (show a + k < 9223372036854775808 by omega)]
        refine bindW_st hs' (by simp) fun w1 hs1 => ?_
        have hs1' := hs1.drew
        have c0 : w1.drew.cell? ⟨p, 0, none⟩ = some (.string (bs S)) := by rw [cell_of hs1'.cl]; rfl
        have c1 : w1.drew.cell? ⟨p, 1, none⟩ = some (.int .i64 ((a + k : Nat))) := by rw [cell_of hs1'.cl]; rfl
        simp only [bindP_some, c0, c1, subn (show k ≤ a + k by omega) (show a + k < 9223372036854775808 by omega)]
        rw [show a + k - k = a by omega, sub_both (by omega) (by omega)]
        have ed : (S.take (a + k)).drop a = r.2.take k := by rw [h2, List.drop_take]; congr 1; omega
        rw [Int.toNat_natCast] at hK
        simp only [bindP_some, ed]
        refine hK _ (rfr_mk hs1' (a := a + k) (by omega) ?_ h3 (by simp [h0]))
        simp [h2]
  · rw [if_pos h0] at hK
    simp [ptr, cell_of hs.cl, h0]
    exact hK _ h'
theorem numF_spec {s : List UInt8} (hl : s.length ≤ 8) (hlt : numL s < 9223372036854775808) (hK : K (.tuple #[.int .i64 (numL s), .bool true]) w) : ∀ (k i m : Nat), k + i = s.length → k ≤ m →
    F207_2L (m + 1) (.string (bs s)) (.int .i64 (numL (s.take i))) (.int .i64 i) w K := by
  intro k
  induction k with
  | zero =>
    intro i m hk hm
    obtain rfl : i = s.length := by omega
    rw [F207_2L]; unfold F207_2b F207_3 F207_3b
    simp only [lenS_mk, bs_size, bindP_some, bLt_int, Int.lt_irrefl, decide_false, ifB_false, List.take_length]
    exact hK
  | succ k ih =>
    intro i m hk hm
    obtain ⟨m, rfl⟩ : ∃ j, m = j + 1 := ⟨m - 1, by omega⟩
    rw [F207_2L]; unfold F207_2b
    have hi : i < s.length := by omega
    have e : bLt (.int .i64 (i : Int)) (.int .i64 s.length) = some (.bool true) := by simp; omega
    have hb := (s[i]).toNat_lt
    have e9 : numL (s.take i) * 256 + (s[i]).toNat = numL (s.take (i + 1)) := by
      rw [List.take_succ_eq_append_getElem hi, numL_snoc]
    have hmono : numL (s.take (i + 1)) ≤ numL s := by
      have h1 : ∀ (j : Nat), j ≤ s.length → numL (s.take j) ≤ numL s := by
        intro j hj
        obtain ⟨d, hd⟩ : ∃ d, d + j = s.length := ⟨s.length - j, by omega⟩
        clear hK ih e e9
        induction d generalizing j with
        | zero => rw [show j = s.length by omega, List.take_length]; exact Nat.le_refl _
        | succ d ihd =>
          have hj' : j < s.length := by omega
          have := ihd (j + 1) (by omega) (by omega)
          rw [List.take_succ_eq_append_getElem hj', numL_snoc] at this
          omega
      exact h1 _ (by omega)
    simp only [lenS_mk, bs_size, bindP_some, e, ifB_true, ix_txt hi, mul256 (show numL (s.take i) < 36028797018963968 by omega), from8 _ (show (s[i]).toNat < 9223372036854775808 by omega)]
    rw [addn (by omega), e9]
    simp only [bindP_some, add1 (show i + 1 < 9223372036854775808 by omega)]
    exact ih (i + 1) m (by omega) (by omega)
theorem number_spec {s : List UInt8} (hl : 1 ≤ s.length ∧ s.length ≤ 8) (hK : K (if 9223372036854775808 ≤ numL s then .tuple #[.int .i64 0, .bool false] else .tuple #[.int .i64 (numL s), .bool true]) w) : callP G207 [.string (bs s)] w K := by
  refine c207 ?_
  unfold F207 F207_1 F207_1b
  have hbig : 9223372036854775808 ≤ numL s ↔ s.length = 8 ∧ 128 ≤ (s[0]'(by omega)).toNat := by
    cases s with
    | nil => simp at hl
    | cons b t =>
      simp only [List.length_cons, List.getElem_cons_zero] at hl ⊢
      have hgen : ∀ (t : List UInt8) (x : Nat), t.foldl (fun n b => n * 256 + b.toNat) x = x * 256 ^ t.length + numL t := by
        intro t
        induction t with
        | nil => intro x; simp [numL]
        | cons c t ih =>
          intro x
          have h1 : numL (c :: t) = c.toNat * 256 ^ t.length + numL t := by
            show t.foldl _ (0 * 256 + c.toNat) = _
            rw [ih]; simp
          rw [h1]
          show t.foldl _ (x * 256 + c.toNat) = _
          rw [ih, List.length_cons, Nat.pow_succ, Nat.add_mul, Nat.mul_assoc, Nat.mul_comm 256, Nat.add_assoc]
      have h1 : numL (b :: t) = b.toNat * 256 ^ t.length + numL t := by
        show t.foldl _ (0 * 256 + b.toNat) = _
        rw [hgen]; simp
      have h2 := numL_lt t.length t rfl
      have hb := b.toNat_lt
      have e7 : 256 ^ 7 = 72057594037927936 := by decide
      rw [h1]
      by_cases h7 : t.length = 7
      · rw [h7, e7] at h2 ⊢; omega
      · have h6 : 256 ^ t.length ≤ 256 ^ 6 := Nat.pow_le_pow_right (by omega) (by omega)
        have e6 : 256 ^ 6 = 281474976710656 := by decide
        have : b.toNat * 256 ^ t.length ≤ 255 * 281474976710656 := Nat.mul_le_mul (by omega) (by omega)
        omega
  have fin : ¬ (s.length = 8 ∧ 128 ≤ (s[0]'(by omega)).toNat) → F207_2 (.string (bs s)) (.int .i64 0) (.int .i64 0) w K := by
    intro hn
    rw [if_neg (by rw [hbig]; exact hn)] at hK
    unfold F207_2
    have := numF_spec hl.2 (by have := mt hbig.1 hn; omega) hK s.length 0 (fuel - 1) (by omega) (Nat.le_trans hl.2 (by decide))
    exact this
  by_cases h8 : s.length = 8
  · have e : decide ((s.length : Int) = 8) = true := by simp; omega
    simp only [lenS_mk, bs_size, bindP_some, bEq_int, e, gd_true, stepM_true, stepG_true]
    have := ix_txt (j := .i64) (show 0 < s.length by omega)
    rw [show pIndexS (.string (bs s)) (.int .i64 0) = _ from this]
    by_cases h1 : 128 ≤ (s[0]'(by omega)).toNat
    · have e : bGe (.int .u8 ((s[0]'(by omega)).toNat : Int)) (.int .u8 128) = some (.bool true) := by simp; omega
      simp only [bindP_some, e, pPick_true, ifB_true]
      rw [if_pos (hbig.2 ⟨h8, h1⟩)] at hK
      exact hK
    · have e : bGe (.int .u8 ((s[0]'(by omega)).toNat : Int)) (.int .u8 128) = some (.bool false) := by simp; omega
      simp only [bindP_some, e, pPick_true, ifB_false]
      exact fin fun h => h1 h.2
  · have e : decide ((s.length : Int) = 8) = false := by simp; omega
    simp only [lenS_mk, bs_size, bindP_some, bEq_int, e, gd_true, stepM_false, stepG_false, pPick_false, ifB_false]
    exact fin fun h => h8 h.1
theorem fwide_spec {n : Nat} (h : Sat w0 (RfrH v S r :: L) w) (hn : 1 ≤ n ∧ n ≤ 8) (hK : ∀ w', Sat w0 (RfrH v S (rWide n r).2 :: L) w' → K (.int .i64 (rWide n r).1) w') : callP G134 [v, .int .i64 n] w K := by
  refine c134 ?_
  unfold F134
  have h' := h
  obtain ⟨p, a, ⟨rfl, h1, h2, h3⟩, hs⟩ := rfr_iff.1 h
  unfold rWide at hK
  by_cases h0 : r.1 = 0
  · rw [if_neg (by simp [h0]), if_neg (by omega)] at hK
    have e1 : decide ((n : Int) < 1) = false := by simp; omega
    have e2 : decide ((n : Int) > 8) = false := by simp; omega
    simp only [ptr, pNil_ptr, bindP_some, pFieldAddr_ptr, ld1_ptr, cell_of hs.cl, List.getElem?_toArray, List.getElem?_cons_zero, List.getElem?_cons_succ, Nat.zero_add, h0, bNe_int, decide_true, Bool.not_true, ifB_false, bLt_int, bGt_int, e1, e2, gd_false, Bool.not_false, stepM_true, stepG_true, pPick_false]
    refine left_spec h' ?_
    have hs' := hs.drew
    have hl : r.2.length = S.length - a := by rw [h2]; simp
    by_cases h5 : (r.2.length : Int) < (n : Int)
    · rw [if_pos h5] at hK
      have e1 : bGt (.int .i64 (n : Int)) (.int .i64 r.2.length) = some (.bool true) := by simp; omega
      rw [e1]
      simp only [bindP_some, ifB_true]
      exact bindW_st hs' (by simp) fun w1 hs1 => hK _ (rfr_mk hs1 h1 h2 h3 (by simp))
    · rw [if_neg h5, Int.toNat_natCast] at hK
      have e1 : bGt (.int .i64 (n : Int)) (.int .i64 r.2.length) = some (.bool false) := by simp; omega
      have hs1' := hs'.drew
      have c0 : w.drew.drew.cell? ⟨p, 0, none⟩ = some (.string (bs S)) := by rw [cell_of hs1'.cl]; rfl
      have c1 : w.drew.drew.cell? ⟨p, 1, none⟩ = some (.int .i64 a) := by rw [cell_of hs1'.cl]; rfl
      have ed : (S.take (a + n)).drop a = r.2.take n := by rw [h2, List.drop_take]; congr 1; omega
      rw [e1]
      simp only [bindP_some, ifB_false, c0, c1, addn (show a + n < 9223372036854775808 by omega)]
      rw [sub_both (by omega) (by omega), ed]
      simp only [bindP_some]
      refine number_spec (by simp; omega) ?_
      by_cases hb : 9223372036854775808 ≤ numL (r.2.take n)
      · rw [if_pos hb] at hK
        rw [if_pos hb]
        simp only [pTuple, List.getElem?_toArray, List.getElem?_cons_zero, List.getElem?_cons_succ, bindP_some, uNot_bool, Bool.not_false, ifB_true]
        exact bindW_st hs1' (by simp) fun w1 hs1 => hK _ (rfr_mk hs1 h1 h2 h3 (by simp))
      · rw [if_neg hb] at hK
        rw [if_neg hb]
        simp only [pTuple, List.getElem?_toArray, List.getElem?_cons_zero, List.getElem?_cons_succ, bindP_some, uNot_bool, Bool.not_true, ifB_false, c1, addn (show a + n < 9223372036854775808 by omega)]
        refine bindW_st hs1' (by simp) fun w1 hs1 => hK _ (rfr_mk hs1 (a := a + n) (by omega) ?_ h3 (by simp [h0]))
        simp [h2]
  · rw [if_pos h0] at hK
    simp [ptr, cell_of hs.cl, h0]
    exact hK _ h'
theorem lt128 (b : UInt8) : b.toNat < 256 := b.toNat_lt
theorem rem128b (n : Nat) : bRem (.int .i64 n) (.int .i64 128) = some (.int .i64 ((n % 128 : Nat))) := rem128 n
theorem grF_spec {most : Int} {p a : Nat} (h0 : r.1 = 0) (h1 : a ≤ S.length) (h2 : r.2 = S.drop a) (h3 : S.length ≤ 4611686018427387904)
    (hK : ∀ w', Sat w0 (RfrH (ptr p) S (rGrp most r).2 :: L) w' → K (.int .i64 (rGrp most r).1) w') : ∀ (k i n m : Nat) (w : World), k + i = 9 → i ≤ r.2.length → n < 128 ^ i → k ≤ m → (i = 0 → n = 0) →
    rdG most 9 true 0 r.2 = rdG most k (decide (i = 0)) n (r.2.drop i) → Sat w0 (Cl p #[.string (bs S), .int .i64 a, .int .i64 r.1] 190 :: L) w →
    F135_2L (m + 1) (.pointer (some ⟨p, 0, none⟩)) (.int .i64 most) (.int .i64 n) (.int .i64 i) w K := by
  intro k
  have fail : ∀ c : Int, (rdG most 9 true 0 r.2).1 = c → c ≠ 0 → ∀ w1 w2, Sat w0 (Cl p #[.string (bs S), .int .i64 a, .int .i64 r.1] 190 :: L) w1 → w2 = w1 → bindW (st 1 (.pointer (some ⟨p, 2, none⟩)) (.int .i64 c) w2) fun w3 => K (.int .i64 0) w3 := by
    intro c hc hc0 w1 w2 hs e
    subst e
    refine bindW_st hs (by simp) fun w3 hs3 => ?_
    unfold rGrp at hK
    rw [if_neg (by simp [h0]), if_neg (by rw [hc]; exact hc0)] at hK
    exact hK _ (rfr_mk hs3 h1 h2 h3 (by simp [hc]))
  have hl : r.2.length = S.length - a := by rw [h2]; simp
  induction k with
  | zero =>
    intro i n m w hk hi hn hm hi0 hx hs
    obtain rfl : i = 9 := by omega
    rw [F135_2L]; unfold F135_2b F135_3 F135_3b
    have e : bLt (.int .i64 ((9 : Nat) : Int)) (.int .i64 9) = some (.bool false) := by simp
    rw [e]
    simp only [bindP_some, ifB_false, pNil_ptr, pFieldAddr_ptr, Nat.zero_add]
    exact fail 3 (by rw [hx]; rfl) (by decide) w w hs rfl
  | succ k ih =>
    intro i n m w hk hi hn hm hi0 hx hs
    obtain ⟨m, rfl⟩ : ∃ j, m = j + 1 := ⟨m - 1, by omega⟩
    rw [F135_2L]; unfold F135_2b
    have e : bLt (.int .i64 (i : Int)) (.int .i64 9) = some (.bool true) := by simp; omega
    have hs1 := hs.drew
    have hs2 := hs1.drew
    have c0 : w.drew.cell? ⟨p, 0, none⟩ = some (.string (bs S)) := by rw [cell_of hs1.cl]; rfl
    have c1 : w.drew.cell? ⟨p, 1, none⟩ = some (.int .i64 a) := by rw [cell_of hs1.cl]; rfl
    have d0 : w.drew.drew.cell? ⟨p, 0, none⟩ = some (.string (bs S)) := by rw [cell_of hs2.cl]; rfl
    have d1 : w.drew.drew.cell? ⟨p, 1, none⟩ = some (.int .i64 a) := by rw [cell_of hs2.cl]; rfl
    rw [e]
    simp only [bindP_some, ifB_true, pNil_ptr, pFieldAddr_ptr, Nat.zero_add, ld1_ptr, c0, c1, addn (show a + i < 9223372036854775808 by omega), lenS_mk, bs_size]
    by_cases hend : i = r.2.length
    · have e1 : bGe (.int .i64 ((a + i : Nat) : Int)) (.int .i64 S.length) = some (.bool true) := by simp; omega
      rw [e1]
      simp only [bindP_some, ifB_true]
      rw [List.drop_of_length_le (by omega)] at hx
      exact fail 10 (by rw [hx]; rfl) (by decide) _ _ hs1 rfl
    · have e1 : bGe (.int .i64 ((a + i : Nat) : Int)) (.int .i64 S.length) = some (.bool false) := by simp; omega
      rw [e1]
      simp only [bindP_some, ifB_false, d0, d1, addn (show a + i < 9223372036854775808 by omega)]
      have hi' : i < r.2.length := by omega
      have hSi : S[a + i]'(by omega) = r.2[i] := by
        have : r.2[i]? = S[a + i]? := by rw [h2, List.getElem?_drop]
        rw [List.getElem?_eq_getElem hi', List.getElem?_eq_getElem (by omega)] at this
        exact (Option.some.inj this).symm
      rw [ix_txt (by omega), hSi]
      have hdr : r.2.drop i = r.2[i] :: r.2.drop (i + 1) := List.drop_eq_getElem_cons hi'
      rw [hdr] at hx
      generalize r.2[i] = b at hx
      have hbl := b.toNat_lt
      have h128 : (128 : Nat) ^ i ≤ 128 ^ 8 := Nat.pow_le_pow_right (by omega) (by omega)
      have e8 : (128 : Nat) ^ 8 = 72057594037927936 := by decide
      simp only [bindP_some, from8 _ (show b.toNat < 9223372036854775808 by omega), bEq_int]
      simp only [rdG] at hx
      generalize hxx : n * 128 + b.toNat % 128 = x at hx
      have hxl : x < 128 ^ (i + 1) := by rw [Nat.pow_succ]; omega
      have hxs : x < 9223372036854775808 := by omega
      have tail : ¬ (i = 0 ∧ b.toNat = 128) → bindP (bMul (.int .i64 (n : Int)) (.int .i64 128)) (fun v36 => bindP (bRem (.int .i64 (b.toNat : Int)) (.int .i64 128)) fun v37 => bindP (bAdd v36 v37) fun v38 => bindP (bGt v38 (.int .i64 most)) fun v39 =>
          ifB v39 (bindW (st 1 (.pointer (some ⟨p, 2, none⟩)) (.int .i64 2) (w.drew).drew) fun w42 => K (.int .i64 0) w42)
            (bindP (bLt (.int .i64 (b.toNat : Int)) (.int .i64 128)) fun v44 => ifB v44 (bindP (bAdd (.int .i64 ((a + i : Nat) : Int)) (.int .i64 1)) fun v49 => bindW (st 1 (.pointer (some ⟨p, 1, none⟩)) v49 (w.drew).drew) fun w52 => K v38 w52)
              (bindP (bAdd (.int .i64 (i : Int)) (.int .i64 1)) fun v54 => F135_2L (m + 1) (.pointer (some ⟨p, 0, none⟩)) (.int .i64 most) v38 v54 (w.drew).drew K))) := by
        intro hne
        rw [if_neg (by rintro ⟨g1, g2⟩; exact hne ⟨by simpa using g1, g2⟩)] at hx
        rw [mul128 (by omega), rem128b]
        simp only [bindP_some]
        rw [addn (by omega), hxx]
        simp only [bindP_some]
        by_cases h5 : most < (x : Int)
        · rw [if_pos h5] at hx
          have e2 : bGt (.int .i64 (x : Int)) (.int .i64 most) = some (.bool true) := by simp; omega
          rw [e2]
          simp only [bindP_some, ifB_true]
          exact fail 2 (by rw [hx]) (by decide) _ _ hs2 rfl
        · rw [if_neg h5] at hx
          have e2 : bGt (.int .i64 (x : Int)) (.int .i64 most) = some (.bool false) := by simp; omega
          rw [e2]
          simp only [bindP_some, ifB_false]
          by_cases h6 : b.toNat < 128
          · rw [if_pos h6] at hx
            have e3 : bLt (.int .i64 (b.toNat : Int)) (.int .i64 128) = some (.bool true) := by simp; omega
            rw [e3, add1 (by omega)]
            simp only [bindP_some, ifB_true]
            refine bindW_st hs2 (by simp) fun w3 hs3 => ?_
            unfold rGrp at hK
            rw [if_neg (by simp [h0]), if_pos (by rw [hx])] at hK
            simp only [hx] at hK
            refine hK _ (rfr_mk hs3 (a := a + i + 1) (by omega) ?_ h3 (by simp [h0]))
            rw [h2, List.drop_drop]; congr 1
          · rw [if_neg h6] at hx
            have e3 : bLt (.int .i64 (b.toNat : Int)) (.int .i64 128) = some (.bool false) := by simp; omega
            rw [e3]
            simp only [bindP_some, ifB_false, add1 (show i + 1 < 9223372036854775808 by omega)]
            refine ih (i + 1) x m _ (by omega) (by omega) hxl (by omega) (by omega) ?_ hs2
            rw [hx]; congr 1
      by_cases hi0' : i = 0
      · have e5 : decide ((i : Int) = 0) = true := by simp; omega
        simp only [e5, gd_true, stepM_true, stepG_true, bEq_int, bindP_some, pPick_true]
        by_cases h5 : b.toNat = 128
        · have : decide ((b.toNat : Int) = 128) = true := by simp; omega
          simp only [this, ifB_true]
          rw [if_pos ⟨by simpa using hi0', h5⟩] at hx
          exact fail 3 (by rw [hx]) (by decide) _ _ hs2 rfl
        · have : decide ((b.toNat : Int) = 128) = false := by simp; omega
          simp only [this, ifB_false]
          exact tail fun h => h5 h.2
      · have e5 : decide ((i : Int) = 0) = false := by simp; omega
        simp only [e5, gd_true, stepM_false, stepG_false, bindP_some, pPick_false, ifB_false]
        exact tail fun h => absurd h.1 hi0'
theorem fgroups_spec {most : Int} (h : Sat w0 (RfrH v S r :: L) w) (hK : ∀ w', Sat w0 (RfrH v S (rGrp most r).2 :: L) w' → K (.int .i64 (rGrp most r).1) w') : callP G135 [v, .int .i64 most] w K := by
  refine c135 ?_
  unfold F135 F135_1 F135_1b
  have h' := h
  obtain ⟨p, a, ⟨rfl, h1, h2, h3⟩, hs⟩ := rfr_iff.1 h
  by_cases h0 : r.1 = 0
  · have hq := hs
    simp only [ptr, pNil_ptr, bindP_some, pFieldAddr_ptr, ld1_ptr, cell_of hs.cl, List.getElem?_toArray, List.getElem?_cons_zero, List.getElem?_cons_succ, Nat.zero_add, h0, bNe_int, decide_true, Bool.not_true, ifB_false]
    unfold F135_2
    exact grF_spec h0 h1 h2 h3 hK 9 0 0 (fuel - 1) w (by omega) (by omega) (by decide) (by decide) (fun _ => rfl) (by simp) hq
  · unfold rGrp at hK
    rw [if_pos h0] at hK
    simp [ptr, cell_of hs.cl, h0]
    exact hK _ h'
theorem ftext_spec {most : Int} (h : Sat w0 (RfrH v S r :: L) w) (hK : ∀ w', Sat w0 (RfrH v S (rText most r).2 :: L) w' → K (.string (bs (rText most r).1)) w') : callP G136 [v, .int .i64 most] w K := by
  refine c136 ?_
  unfold F136 F136_1 F136_1b F136_2 F136_2b
  have h' := h
  obtain ⟨p, a, ⟨rfl, h1, h2, h3⟩, hs⟩ := rfr_iff.1 h
  simp [ptr, cell_of hs.cl]
  refine fgroups_spec h' fun w1 g1 => ?_
  refine fbytes_spec g1 fun w2 g2 => ?_
  unfold rText at hK
  obtain ⟨p', a', ⟨he, k1, k2, k3⟩, hs2⟩ := rfr_iff.1 g2
  obtain rfl : p = p' := by simpa [ptr] using he
  by_cases h0 : (rBytes (rGrp most r).1 (rGrp most r).2).2.1 = 0
  · simp [cell_of hs2.cl, h0]
    simp only [h0] at hK
    exact hK _ g2
  · simp [cell_of hs2.cl, h0]
    refine bindW_st hs2 (by simp) fun w3 g3 => hK _ (rfr_mk g3 h1 ?_ h3 (by simp [h0]))
    simp [h0, h2]
end
end Go.Proofs.Gong
