/- A part of the proofs: what stands below it, told in lemmas. No condition. -/
import Derived.Test.YtkbflbmgilgolaaOc1
namespace Go.Proofs.Gong
open Go Go.Sx Go.Proofs
set_option maxRecDepth 100000
def RdrH (v : Value) (r : Rdr) : HP := HEx fun p => HPr (v = ptr p) (Cl p #[.string (bs r.2), .int .i64 r.1] 262)
def Rdr.wf (r : Rdr) : Prop := r.2.length ≤ 4611686018427387904
section
variable {w0 w : World} {L : List HP} {K : Value → World → Prop} {v : Value} {r : Rdr}
theorem rdr_iff : Sat w0 (RdrH v r :: L) w ↔ ∃ p, v = ptr p ∧ Sat w0 (Cl p #[.string (bs r.2), .int .i64 r.1] 262 :: L) w := by
  simp only [RdrH, Sat.ex_iff, Sat.pr_iff]
theorem rdr_mk {p : Nat} {c : Array Value} (h : Sat w0 (Cl p c 262 :: L) w) (hc : c = #[.string (bs r.2), .int .i64 r.1]) : Sat w0 (RdrH (ptr p) r :: L) w := rdr_iff.2 ⟨p, rfl, hc ▸ h⟩
theorem read_spec {s : List UInt8} (h : Sat w0 L w) (hK : ∀ v w', Sat w0 (RdrH v (0, s) :: L) w' → K v w') : callP G129 [.string (bs s)] w K := by
  refine c129 ?_
  unfold F129
  have e : fBuild Try.prog 262 [(0, .string (bs s))] = some (.agg #[.string (bs s), .int .i64 0]) := by kernel_rfl
  rw [e]
  simp only [bindP_some]
  refine eBox_sat h fun p w1 h1 => hK _ _ (rdr_mk h1 rfl)
theorem refuse_spec {c : Int} (h : Sat w0 (RdrH v r :: L) w) (hK : ∀ w', Sat w0 (RdrH v (if r.1 = 0 then (c, r.2) else r) :: L) w' → K (.tuple #[]) w') : callP G203 [v, .int .i64 c] w K := by
  refine c203 ?_
  unfold F203
  obtain ⟨p, rfl, hs⟩ := rdr_iff.1 h
  simp only [ptr, pNil_ptr, bindP_some, pFieldAddr_ptr, ld1_ptr, cell_of hs.cl]
  by_cases h0 : r.1 = 0
  · simp [h0]
    refine bindW_st hs (by simp) fun w1 h1 => hK _ (rdr_mk h1 (by simp [h0]))
  · simp [h0]
    rw [if_neg h0] at hK
    exact hK _ h
theorem done_spec (h : Sat w0 (RdrH v r :: L) w) (hK : K (.int .i64 (rDone r)) w) : callP G133 [v] w K := by
  refine c133 ?_
  unfold F133
  obtain ⟨p, rfl, hs⟩ := rdr_iff.1 h
  have e : (⟨#[]⟩ : ByteArray) = bs [] := by simp [bs]
  rw [e]
  unfold rDone at hK
  by_cases h0 : r.1 = 0
  · by_cases h1 : r.2 = []
    · rw [if_neg (by simp [h1])] at hK
      simp [ptr, cell_of hs.cl, h0, h1]
      rw [← h0]; exact hK
    · rw [if_pos ⟨h0, h1⟩] at hK
      simp [ptr, cell_of hs.cl, h0, h1]
      exact hK
  · rw [if_neg (by simp [h0])] at hK
    simp [ptr, cell_of hs.cl, h0]
    exact hK
theorem bytes_spec {n : Int} (h : Sat w0 (RdrH v r :: L) w) (hr : r.wf) (hK : ∀ w', Sat w0 (RdrH v (rBytes n r).2 :: L) w' → K (.string (bs (rBytes n r).1)) w') : callP G204 [v, .int .i64 n] w K := by
  refine c204 ?_
  unfold F204 F204_1 F204_1b F204_2 F204_2b
  have h' := h
  obtain ⟨p, rfl, hs⟩ := rdr_iff.1 h
  have e : (⟨#[]⟩ : ByteArray) = bs [] := by simp [bs]
  rw [e]
  unfold rBytes at hK
  by_cases h0 : r.1 = 0
  · rw [if_neg (by simp [h0])] at hK
    by_cases h1 : n < 0
    · rw [if_pos h1] at hK
      simp [ptr, cell_of hs.cl, h0, h1]
      refine refuse_spec h' fun w1 h1 => ?_
      rw [if_pos h0] at h1
      exact hK _ h1
    · rw [if_neg h1] at hK
      obtain ⟨k, rfl⟩ : ∃ k : Nat, n = k := ⟨n.toNat, by omega⟩
      by_cases h2 : (r.2.length : Int) < (k : Int)
      · rw [if_pos h2] at hK
        have h3 : r.2.length < k := by omega
        simp [ptr, cell_of hs.cl, h0, h3]
        refine refuse_spec h' fun w1 h1 => ?_
        rw [if_pos h0] at h1
        exact hK _ h1
      · rw [if_neg h2] at hK
        have h3 : ¬ r.2.length < k := by omega
        have g1 : pSliceS (.string (bs r.2)) none (some (.int .i64 k)) = _ := sub_to (show k ≤ r.2.length by omega)
        have g2 : pSliceS (.string (bs r.2)) (some (.int .i64 k)) none = _ := sub_from (show k ≤ r.2.length by omega)
        simp [ptr, cell_of hs.cl, h0, h3, g1, g2]
        refine bindW_st hs (by simp) fun w1 h1 => hK _ (rdr_mk h1 (by simp [h0]))
  · rw [if_pos h0] at hK
    simp [ptr, cell_of hs.cl, h0]
    exact hK _ h'
def grV (len : Nat) (x : Int × Nat × List UInt8) : Value := if x.1 = 0 then .tuple #[.int .i64 x.2.1, .int .i64 ((len - x.2.2.length : Nat)), .int .i64 0] else .tuple #[.int .i64 0, .int .i64 0, .int .i64 x.1]
theorem shl7 {n : Nat} (h : n < 72057594037927936) : bShl (.int .i64 n) (.int .u64 7) = some (.int .i64 ((n * 128 : Nat))) := by
  have e : min ((7 : Int).toNat) IntKind.i64.bits = 7 := by decide
  simp only [bShl]
  rw [if_neg (by decide), e, show ((n : Int) * 2 ^ 7) = ((n * 128 : Nat) : Int) by omega, wrap_id (by omega)]
theorem from8 (n : Nat) (h : n < 9223372036854775808) : cInt .i64 (.int .u8 n) = some (.int .i64 n) := by
  simp only [cInt]; rw [wrap_id (by omega)]
theorem grL_spec {most : Int} : ∀ (k i n m : Nat) (s : List UInt8), k + i = 9 → i ≤ s.length → n < 128 ^ i → k ≤ m → (i = 0 → n = 0) →
    K (grV s.length (rdG most k (decide (i = 0)) n (s.drop i))) w →
    F205_2L (m + 1) (.string (bs s)) (.int .i64 most) (.int .i64 n) (.int .i64 i) w K := by
  intro k
  induction k with
  | zero =>
    intro i n m s hk hi hn hm h0 hK
    rw [F205_2L]; unfold F205_2b F205_3 F205_3b
    obtain rfl : i = 9 := by omega
    rw [rdG] at hK
    have e : bLt (.int .i64 ((9 : Nat) : Int)) (.int .i64 9) = some (.bool false) := by simp
    rw [e]
    simp only [bindP_some, ifB_false]
    exact hK
  | succ k ih =>
    intro i n m s hk hi hn hm h0 hK
    obtain ⟨m, rfl⟩ : ∃ j, m = j + 1 := ⟨m - 1, by omega⟩
    rw [F205_2L]; unfold F205_2b
    have e : bLt (.int .i64 (i : Int)) (.int .i64 9) = some (.bool true) := by simp; omega
    rw [e]
    simp only [bindP_some, ifB_true, lenS_mk, bs_size, bEq_int]
    by_cases hl : i = s.length
    · have : decide ((i : Int) = (s.length : Int)) = true := by simp; omega
      simp only [this, ifB_true]
      rw [List.drop_of_length_le (by omega)] at hK
      rw [rdG] at hK
      exact hK
    · have : decide ((i : Int) = (s.length : Int)) = false := by simp; omega
      have hi' : i < s.length := by omega
      simp only [this, ifB_false]
      rw [ix_txt hi']
      have hdr : s.drop i = s[i] :: s.drop (i + 1) := List.drop_eq_getElem_cons hi'
      rw [hdr] at hK
      generalize hb : s[i] = b at hK
      have hbl := b.toNat_lt
      have h128 : (128 : Nat) ^ i ≤ 128 ^ 8 := Nat.pow_le_pow_right (by omega) (by omega)
      have e8 : (128 : Nat) ^ 8 = 72057594037927936 := by decide
      have ea : bAdd (.int .i64 (i : Int)) (.int .i64 1) = some (.int .i64 ((i + 1 : Nat))) := by
        rw [bAdd_int, show (i : Int) + 1 = ((i + 1 : Nat) : Int) by omega, wrap_id (by omega)]
      simp only [bindP_some, ea, shl7 (show n < 72057594037927936 by omega), bAndNot_u8, from8 _ (show b.toNat % 128 < 9223372036854775808 by omega)]
      rw [bOr_i64 (by omega) (by omega), or_add (a := n) (b := b.toNat % 128) (i := 7) (by omega)]
      have e9 : n * 2 ^ 7 + b.toNat % 128 = n * 128 + b.toNat % 128 := by omega
      rw [e9]
      generalize hx : n * 128 + b.toNat % 128 = x
      have hxl : x < 128 ^ (i + 1) := by rw [Nat.pow_succ]; omega
      simp only [rdG, hx] at hK
      have tail : (i = 0 → b.toNat ≠ 128) → bindP (bGt (.int .i64 (x : Int)) (.int .i64 most)) (fun v14 => ifB v14 (K (.tuple #[(.int .i64 0), (.int .i64 0), (.int .i64 2)]) w) (bindP (bLt (.int .u8 (b.toNat : Int)) (.int .u8 128)) fun v15 => ifB v15 (K (.tuple #[.int .i64 x, .int .i64 ((i + 1 : Nat)), (.int .i64 0)]) w) (F205_2L (m + 1) (.string (bs s)) (.int .i64 most) (.int .i64 x) (.int .i64 ((i + 1 : Nat))) w K))) := by
        intro hne
        rw [if_neg (by rintro ⟨g1, g2⟩; exact hne (by simpa using g1) g2)] at hK
        by_cases h2 : most < (x : Int)
        · rw [if_pos h2] at hK
          have e2 : bGt (.int .i64 (x : Int)) (.int .i64 most) = some (.bool true) := by simp; omega
          rw [e2]
          simp only [bindP_some, ifB_true]
          exact hK
        · rw [if_neg h2] at hK
          have e2 : bGt (.int .i64 (x : Int)) (.int .i64 most) = some (.bool false) := by simp; omega
          rw [e2]
          simp only [bindP_some, ifB_false]
          by_cases h3 : b.toNat < 128
          · rw [if_pos h3] at hK
            have e3 : bLt (.int .u8 (b.toNat : Int)) (.int .u8 128) = some (.bool true) := by simp; omega
            rw [e3]
            simp only [bindP_some, ifB_true]
            have e4 : s.length - (s.drop (i + 1)).length = i + 1 := by simp; omega
            unfold grV at hK
            simp only [if_true, e4] at hK
            exact hK
          · rw [if_neg h3] at hK
            have e3 : bLt (.int .u8 (b.toNat : Int)) (.int .u8 128) = some (.bool false) := by simp; omega
            rw [e3]
            simp only [bindP_some, ifB_false]
            refine ih (i + 1) x m s (by omega) (by omega) hxl (by omega) (by omega) ?_
            have : decide (i + 1 = 0) = false := by simp
            rw [this]
            exact hK
      by_cases hi0 : i = 0
      · have e5 : decide (((i + 1 : Nat) : Int) = 1) = true := by simp; omega
        simp only [e5, gd_true, stepM_true, stepG_true, bEq_int, bindP_some, pPick_true]
        by_cases h5 : b.toNat = 128
        · have : decide ((b.toNat : Int) = 128) = true := by simp; omega
          simp only [this, ifB_true]
          rw [if_pos ⟨by simpa using hi0, h5⟩] at hK
          exact hK
        · have : decide ((b.toNat : Int) = 128) = false := by simp; omega
          simp only [this, ifB_false]
          exact tail fun _ => h5
      · have e5 : decide (((i + 1 : Nat) : Int) = 1) = false := by simp; omega
        simp only [e5, gd_true, stepM_false, stepG_false, bEq_int, bindP_some, pPick_false, ifB_false]
        exact tail fun h => absurd h hi0
theorem gr_spec {most : Int} {s : List UInt8} (hK : K (grV s.length (rdG most 9 true 0 s)) w) : callP G205 [.string (bs s), .int .i64 most] w K := by
  refine c205 ?_
  unfold F205 F205_1 F205_1b F205_2
  refine grL_spec 9 0 0 (fuel - 1) s (by omega) (by omega) (by decide) (by decide) (fun _ => rfl) ?_
  simpa using hK
theorem rgroups_spec {most : Int} (h : Sat w0 (RdrH v r :: L) w) (hK : ∀ w', Sat w0 (RdrH v (rGrp most r).2 :: L) w' → K (.int .i64 (rGrp most r).1) w') : callP G131 [v, .int .i64 most] w K := by
  refine c131 ?_
  unfold F131
  have h' := h
  obtain ⟨p, rfl, hs⟩ := rdr_iff.1 h
  unfold rGrp at hK
  by_cases h0 : r.1 = 0
  · rw [if_neg (by simp [h0])] at hK
    simp [ptr, cell_of hs.cl, h0]
    refine gr_spec ?_
    have hlen := rdG_len (most := most) 9 true 0 r.2
    have hsuf := rdG_suf (most := most) (s := r.2)
    generalize rdG most 9 true 0 r.2 = x at hK hlen hsuf
    unfold grV
    by_cases hx : x.1 = 0
    · rw [if_pos hx] at hK
      rw [if_pos hx]
      simp only [pTuple, List.getElem?_toArray, List.getElem?_cons_zero, List.getElem?_cons_succ, bindP_some]
      refine refuse_spec h' fun w1 h1 => ?_
      have e0 : (if r.1 = 0 then ((0 : Int), r.2) else r) = (0, r.2) := by rw [if_pos h0]
      rw [e0] at h1
      obtain ⟨p', he, hs1⟩ := rdr_iff.1 h1
      obtain rfl : p = p' := by simpa [ptr] using he
      have g2 : pSliceS (.string (bs r.2)) (some (.int .i64 ((r.2.length - x.2.2.length : Nat)))) none = _ := sub_from (show r.2.length - x.2.2.length ≤ r.2.length by omega)
      simp only [cell_of hs1.cl, List.getElem?_toArray, List.getElem?_cons_zero, bindP_some, g2]
      rw [hsuf hx]
      refine bindW_st hs1 (by simp) fun w2 h2 => hK _ (rdr_mk h2 (by simp))
    · rw [if_neg hx] at hK
      rw [if_neg hx]
      simp only [pTuple, List.getElem?_toArray, List.getElem?_cons_zero, List.getElem?_cons_succ, bindP_some]
      refine refuse_spec h' fun w1 h1 => ?_
      rw [if_pos h0] at h1
      obtain ⟨p', he, hs1⟩ := rdr_iff.1 h1
      obtain rfl : p = p' := by simpa [ptr] using he
      have g2 : pSliceS (.string (bs r.2)) (some (.int .i64 ((0 : Nat)))) none = _ := sub_from (show 0 ≤ r.2.length by omega)
      simp at g2
      simp [cell_of hs1.cl, g2]
      refine bindW_st hs1 (by simp) fun w2 h2 => hK _ (rdr_mk h2 (by simp))
  · rw [if_pos h0] at hK
    simp [ptr, cell_of hs.cl, h0]
    exact hK _ h'
theorem rGrp_wf (most : Int) (hr : r.wf) : (rGrp most r).2.wf := by
  unfold rGrp Rdr.wf at *
  split
  · exact hr
  · split
    · have := rdG_len (most := most) 9 true 0 r.2
      simp only; omega
    · exact hr
theorem rBytes_wf (n : Int) (hr : r.wf) : (rBytes n r).2.wf := by
  unfold rBytes Rdr.wf at *
  split
  · exact hr
  · split
    · exact hr
    · split
      · exact hr
      · simp only [List.length_drop]; omega
theorem rtext_spec {most : Int} (h : Sat w0 (RdrH v r :: L) w) (hr : r.wf) (hK : ∀ w', Sat w0 (RdrH v (rText most r).2 :: L) w' → K (.string (bs (rText most r).1)) w') : callP G132 [v, .int .i64 most] w K := by
  refine c132 ?_
  unfold F132 F132_1 F132_1b F132_2 F132_2b
  have h' := h
  obtain ⟨p, rfl, hs⟩ := rdr_iff.1 h
  simp [ptr, cell_of hs.cl]
  have e : ∀ (k : Value → World → Prop), callP G131 [ptr p, .int .i64 most] w k → eCallV (tabOf T132) (.func (.func 131) #[.pointer (some ⟨p, 0, none⟩)] #[]) [.int .i64 most] w k := by
    intro k h
    show callP (tabOf T132 131) _ _ _
    exact h
  refine e _ ?_
  refine rgroups_spec h' fun w1 h1 => ?_
  refine bytes_spec h1 (rGrp_wf most hr) fun w2 h2 => ?_
  unfold rText at hK
  obtain ⟨p', he, hs2⟩ := rdr_iff.1 h2
  obtain rfl : p = p' := by simpa [ptr] using he
  by_cases h0 : (rBytes (rGrp most r).1 (rGrp most r).2).2.1 = 0
  · simp [cell_of hs2.cl, h0]
    simp only [h0] at hK
    exact hK _ h2
  · simp [cell_of hs2.cl, h0]
    refine bindW_st hs2 (by simp) fun w3 h3 => hK _ (rdr_mk h3 (by simp [h0]))
theorem numL_take_lt {s : List UInt8} {w : Nat} (h : w ≤ 8) : numL (s.take w) < 18446744073709551616 := by
  have h1 := numL_lt _ (s.take w) rfl
  have h2 : 256 ^ (s.take w).length ≤ 256 ^ 8 := Nat.pow_le_pow_right (by omega) (by simp; omega)
  have e8 : 256 ^ 8 = 18446744073709551616 := by decide
  omega
theorem from8u (n : Nat) (h : n < 18446744073709551616) : cInt .u64 (.int .u8 n) = some (.int .u64 n) := by
  simp only [cInt]; rw [wrap_u64 (by omega)]
theorem shl8u {n : Nat} (h : n < 72057594037927936) : bShl (.int .u64 n) (.int .u64 8) = some (.int .u64 ((n * 256 : Nat))) := by
  have e : min ((8 : Int).toNat) IntKind.u64.bits = 8 := by decide
  simp only [bShl]
  rw [if_neg (by decide), e, show ((n : Int) * 2 ^ 8) = ((n * 256 : Nat) : Int) by omega, wrap_u64 (by omega)]
theorem rwL_spec {s0 s5 sv : Value} {l : List UInt8} (hl : l.length ≤ 8) (hR : Rd w 1 sv l.length (cellsB l)) (hK : F130_4 s0 s5 (.int .u64 (numL l)) w K) : ∀ (k i m : Nat), k + i = l.length → k ≤ m →
    F130_3L (m + 1) s0 s5 (.int .u64 (numL (l.take i))) sv (.int .i64 l.length) (.int .i64 i) w K := by
  intro k
  induction k with
  | zero =>
    intro i m hk hm
    rw [F130_3L]; unfold F130_3b
    obtain rfl : i = l.length := by omega
    rw [bLt_int]
    simp only [bindP_some, Int.lt_irrefl, decide_false, ifB_false, List.take_length]
    exact hK
  | succ k ih =>
    intro i m hk hm
    obtain ⟨m, rfl⟩ : ∃ j, m = j + 1 := ⟨m - 1, by omega⟩
    rw [F130_3L]; unfold F130_3b
    have e : bLt (.int .i64 (i : Int)) (.int .i64 l.length) = some (.bool true) := by simp; omega
    have hi : i < l.length := by omega
    have hR' : Rd w 1 sv l.length (l.flatMap fun b => [Value.int .u8 b.toNat]) := by
      have : (l.flatMap fun b => [Value.int .u8 (b.toNat : Int)]) = cellsB l := by
        rw [flat1]; rfl
      rw [this]; exact hR
    have e1 := ix_el hR hi
    have e2 := rd_ld1 (g := fun b : UInt8 => Value.int .u8 b.toNat) hR' hi
    have hlt := numL_lt i (l.take i) (by simp; omega)
    have h2 : 256 ^ i ≤ 256 ^ 7 := Nat.pow_le_pow_right (by omega) (by omega)
    have e7 : 256 ^ 7 = 72057594037927936 := by decide
    have hb := (l[i]).toNat_lt
    have ea : bAdd (.int .i64 (i : Int)) (.int .i64 1) = some (.int .i64 ((i + 1 : Nat))) := by
      rw [bAdd_int, show (i : Int) + 1 = ((i + 1 : Nat) : Int) by omega, wrap_id (by omega)]
    rw [e]
    simp only [bindP_some, ifB_true, e1, e2, ea, shl8u (show numL (l.take i) < 72057594037927936 by omega), from8u _ (show (l[i]).toNat < 18446744073709551616 by omega)]
    rw [bOr_u64 (by omega) (by omega), or_add (a := numL (l.take i)) (i := 8) hb]
    simp only [bindP_some]
    have e9 : numL (l.take i) * 2 ^ 8 + (l[i]).toNat = numL (l.take (i + 1)) := by
      rw [List.take_succ_eq_append_getElem hi, numL_snoc]
    rw [e9]
    exact ih (i + 1) m (by omega) (by omega)
/-- a number of some bytes -/
theorem rwide_spec {n : Nat} (h : Sat w0 (RdrH v r :: L) w) (hn : 1 ≤ n ∧ n ≤ 8) (hr : r.wf) (hK : ∀ w', Sat w0 (RdrH v (rWide n r).2 :: L) w' → K (.int .i64 (rWide n r).1) w') : callP G130 [v, .int .i64 n] w K := by
  refine c130 ?_
  unfold F130 F130_1 F130_1b
  have e1 : decide ((n : Int) < 1) = false := by simp; omega
  have e2 : decide ((n : Int) > 8) = false := by simp; omega
  simp only [bLt_int, bGt_int, bindP_some, e1, e2, gd_false, Bool.not_false, stepM_true, stepG_true, pPick_false, ifB_false]
  unfold F130_2 F130_2b
  have h' := h
  obtain ⟨p, rfl, hs⟩ := rdr_iff.1 h
  simp [ptr, cell_of hs.cl]
  refine bytes_spec h' hr fun w1 h1 => ?_
  refine eToBytes_sat h1 (by kernel_rfl) u29 (by kernel_rfl) fun sv w2 b o h2 hR => ?_
  have hv : OneV sv := hR.one
  have hlen : lenL sv = some (.int .i64 (rBytes n r).1.length) := hR.len
  rw [hlen]
  simp only [bindP_some]
  unfold F130_3
  have hl8 : (rBytes n r).1.length ≤ 8 := by
    unfold rBytes
    split
    · simp
    · split
      · simp
      · split
        · simp
        · simp; omega
  refine rwL_spec hl8 hR ?_ (rBytes n r).1.length 0 (fuel - 1) (by omega) (by have : (fuel - 1) ≥ 8 := by decide
                                                                              omega)
  unfold F130_4 F130_4b
  have h3 := h2.drop
  have hlt : numL (rBytes n r).1 < 18446744073709551616 := by
    have := numL_take_lt (s := (rBytes n r).1) (w := 8) (by omega)
    rwa [List.take_of_length_le (by omega)] at this
  by_cases hb : 9223372036854775808 ≤ numL (rBytes n r).1
  · have e3 : bGe (.int .u64 (numL (rBytes n r).1 : Int)) (.int .u64 9223372036854775808) = some (.bool true) := by simp; omega
    rw [e3]
    simp only [bindP_some, ifB_true]
    have k0 := rBytes_big hb
    rw [rWide_of hn, if_pos hb] at hK
    refine refuse_spec h3 fun w4 h4 => ?_
    rw [if_pos k0] at h4
    obtain ⟨p', he, hs4⟩ := rdr_iff.1 h4
    obtain rfl : p = p' := by simpa [ptr] using he
    simp
    refine bindW_st hs4 (by simp) fun w5 h5 => ?_
    exact hK _ (rdr_mk h5 (by simp))
  · have e3 : bGe (.int .u64 (numL (rBytes n r).1 : Int)) (.int .u64 9223372036854775808) = some (.bool false) := by simp; omega
    rw [e3]
    have e4 : cInt .i64 (.int .u64 (numL (rBytes n r).1 : Int)) = some (.int .i64 (numL (rBytes n r).1)) := by
      simp only [cInt]; rw [wrap_id (by omega)]
    rw [e4]
    simp only [bindP_some, ifB_false]
    rw [rWide_of hn, if_neg hb] at hK
    exact hK _ h3
end
end Go.Proofs.Gong
