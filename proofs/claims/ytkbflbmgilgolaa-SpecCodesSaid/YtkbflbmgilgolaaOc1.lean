/- A part of the proofs: what stands below it, told in lemmas. No condition. -/
import Derived.Test.YtkbflbmgilgolaaOc0
import Derived.Test.YtkbflbmgilgolaaOct
namespace Go.Proofs.Gong
open Go Go.Sx Go.Proofs
set_option maxRecDepth 100000
theorem ixp {b i n : Nat} {j : IntKind} (h : i < n) : pIndexP n 1 (.pointer (some ⟨b, 0, none⟩)) (.int j i) = some (.pointer (some ⟨b, i, none⟩)) := by
  simp only [pIndexP]; rw [if_pos ⟨by omega, by omega⟩]; simp
theorem rem128 (n : Nat) : bRem (.int .i64 n) (.int .i64 128) = some (.int .i64 ((n % 128 : Nat))) := by
  rw [bRem_int _ _ _ (by decide)]; rfl
theorem shr7 (n : Nat) : bShr (.int .i64 n) (.int .u64 7) = some (.int .i64 ((n / 128 : Nat))) := bShr_nat (k := 7) (by decide)
theorem shr8 (n : Nat) : bShr (.int .i64 n) (.int .u64 8) = some (.int .i64 ((n / 256 : Nat))) := bShr_nat (k := 8) (by decide)
theorem or128 {n : Nat} (h : n < 128) : bBit .or (.int .i64 n) (.int .i64 128) = some (.int .i64 ((n + 128 : Nat))) := by
  have e := bOr_i64 (a := n) (b := 128) (by omega) (by omega)
  rw [show n ||| 128 = n + 128 by rw [Nat.or_comm, Nat.add_comm]; exact or_add (a := 1) (i := 7) h] at e
  exact e
theorem to8 (n : Nat) : cInt .u8 (.int .i64 n) = some (.int .u8 (UInt8.ofNat n).toNat) := by
  simp only [cInt]; rw [wrap_u8]; congr 2
theorem sub1 {n : Nat} (h : n < 9223372036854775807) : bSub (.int .i64 ((n + 1 : Nat))) (.int .i64 1) = some (.int .i64 n) := by
  rw [bSub_int, show ((n + 1 : Nat) : Int) - 1 = n by omega, wrap_id (by omega)]
theorem set_drop {c : Array Value} {k : Nat} {l : List UInt8} (hk : k < c.size) (h : c.toList.drop (k + 1) = cellsB l) (b : UInt8) : (c.setIfInBounds k (.int .u8 b.toNat)).toList.drop k = cellsB (b :: l) := by
  rw [Array.toList_setIfInBounds, List.set_eq_take_append_cons_drop, if_pos (by simpa using hk), List.drop_append_of_le_length (by simp; omega), List.drop_of_length_le (by simp; omega), h]
  rfl
section
variable {w0 w : World} {L : List HP} {K : Value → World → Prop}
theorem grpL_spec {p : Nat} {ty : TypeId} : ∀ (at' : Nat) (n m : Nat) (acc : List UInt8) (c : Array Value) (w : World), n < 128 ^ at' → at' + 1 ≤ m → at' ≤ 8 → c.size = 9 → c.toList.drop at' = cellsB acc → Sat w0 (Cl p c ty :: L) w →
    (∀ w', Sat w0 L w' → K (.tuple #[.string (bs (hiG n ++ acc)), .int .i64 0]) w') → F126_2L m (.int .i64 n) (.pointer (some ⟨p, 0, none⟩)) (.int .i64 at') w K := by
  intro at'
  induction at' with
  | zero =>
    intro n m acc c w hn hm h8 hc hd hs hK
    obtain ⟨m, rfl⟩ : ∃ k, m = k + 1 := ⟨m - 1, by omega⟩
    have : n = 0 := by simpa using hn
    subst this
    rw [F126_2L]; unfold F126_2b F126_3 F126_3b
    obtain ⟨v, e1, e2⟩ := cBytes_arr (j := .i64) hs.cl hc (by omega) hd
    have e3 : bGt (.int .i64 ((0 : Nat) : Int)) (.int .i64 0) = some (.bool false) := by simp
    rw [e3]
    simp only [bindP_some, ifB_false, e1, e2]
    rw [hiG_0] at hK
    exact hK _ hs.drop
  | succ k ih =>
    intro n m acc c w hn hm h8 hc hd hs hK
    obtain ⟨m, rfl⟩ : ∃ k, m = k + 1 := ⟨m - 1, by omega⟩
    rw [F126_2L]; unfold F126_2b
    by_cases h0 : n = 0
    · subst h0
      unfold F126_3 F126_3b
      obtain ⟨v, e1, e2⟩ := cBytes_arr (j := .i64) hs.cl hc (by omega) hd
      have e3 : bGt (.int .i64 ((0 : Nat) : Int)) (.int .i64 0) = some (.bool false) := by simp
      rw [e3]
      simp only [bindP_some, ifB_false, e1, e2]
      rw [hiG_0] at hK
      exact hK _ hs.drop
    · have e3 : bGt (.int .i64 (n : Int)) (.int .i64 0) = some (.bool true) := by simp; omega
      rw [e3]
      simp only [bindP_some, ifB_true, sub1 (show k < 9223372036854775807 by omega), rem128, or128 (Nat.mod_lt n (by decide : 128 > 0)), to8, ixp (show k < 9 by omega)]
      refine bindW_st hs (by omega) fun w1 h1 => ?_
      rw [shr7]
      simp only [bindP_some]
      refine ih (n / 128) m _ _ w1 (by rw [Nat.pow_succ] at hn; omega) (by omega) (by omega) (by simpa using hc) (set_drop (by omega) hd _) h1 ?_
      rw [hiG_pos h0] at hK
      simpa using hK
theorem groups_spec {n : Int} (h : Sat w0 L w) (hn : n < 9223372036854775808) (hneg : n < 0 → K (.tuple #[.string (bs []), .int .i64 1]) w) (hpos : 0 ≤ n → ∀ w', Sat w0 L w' → K (.tuple #[.string (bs (grp n.toNat)), .int .i64 0]) w') :
    callP G126 [.int .i64 n] w K := by
  refine c126 ?_
  unfold F126 F126_1 F126_1b
  by_cases h0 : n < 0
  · simp only [bLt_int, bindP_some, h0, decide_true, ifB_true]
    exact hneg h0
  · obtain ⟨k, rfl⟩ : ∃ k : Nat, n = k := ⟨n.toNat, by omega⟩
    have hp := hpos (by omega)
    rw [Int.toNat_natCast] at hp
    simp only [bLt_int, bindP_some, h0, decide_false, ifB_false]
    refine eAlloc_sat h z260 fun p w1 h1 => ?_
    simp only [rem128, to8, bindP_some, ptr, show pIndexP 9 1 (.pointer (some ⟨p, 0, none⟩)) (.int .i64 8) = some (.pointer (some ⟨p, 8, none⟩)) from ixp (i := 8) (by omega)]
    refine bindW_st h1 (by simp) fun w2 h2 => ?_
    rw [shr7]
    simp only [bindP_some]
    unfold F126_2
    refine grpL_spec 8 (k / 128) fuel [UInt8.ofNat (k % 128)] _ w2 ?_ (by decide) (by omega) (by simp) (by simp [cellsB]) h2 hp
    have : 128 ^ 8 = 72057594037927936 := by decide
    omega
theorem text_spec {s : List UInt8} (h : Sat w0 L w) (hn : s.length ≤ 4611686018427387904) (hK : ∀ w', Sat w0 L w' → K (.string (bs (txtL s))) w') : callP G127 [.string (bs s)] w K := by
  refine c127 ?_
  unfold F127
  simp only [lenS_mk, bs_size, bindP_some]
  refine groups_spec h (by omega) (fun h => by omega) fun _ w1 h1 => ?_
  have e : pTuple (.tuple #[.string (bs (grp (s.length : Int).toNat)), .int .i64 0]) 0 = some (.string (bs (grp (s.length : Int).toNat))) := rfl
  have e1 : pTuple (.tuple #[.string (bs (grp (s.length : Int).toNat)), .int .i64 0]) 1 = some (.int .i64 0) := rfl
  have hg := grp_len (n := s.length) (by omega)
  rw [e, e1]
  simp only [bindP_some, Int.toNat_natCast]
  rw [add_txt (by omega)]
  exact hK _ h1
theorem padL_spec {p : Nat} {ty : TypeId} {s0 s1 : Value} : ∀ (k n m : Nat) (acc : List UInt8) (c : Array Value) (w : World), k ≤ m → k ≤ 8 → c.size = 8 → c.toList.drop k = cellsB acc → Sat w0 (Cl p c ty :: L) w →
    (∀ c' w', c'.size = 8 → c'.toList = cellsB (padL k n ++ acc) → Sat w0 (Cl p c' ty :: L) w' → F125_3 s0 s1 (.pointer (some ⟨p, 0, none⟩)) w' K) → F125_2L (m + 1) s0 s1 (.pointer (some ⟨p, 0, none⟩)) (.int .i64 n) (.int .i64 ((k : Int) - 1)) w K := by
  intro k
  induction k with
  | zero =>
    intro n m acc c w hm h8 hc hd hs hK
    rw [F125_2L]; unfold F125_2b
    have e3 : bGe (.int .i64 (((0 : Nat) : Int) - 1)) (.int .i64 0) = some (.bool false) := by simp
    rw [e3]
    simp only [bindP_some, ifB_false]
    exact hK c w hc (by simpa [padL] using hd) hs
  | succ k ih =>
    intro n m acc c w hm h8 hc hd hs hK
    obtain ⟨m, rfl⟩ : ∃ j, m = j + 1 := ⟨m - 1, by omega⟩
    rw [F125_2L]; unfold F125_2b
    rw [show ((k + 1 : Nat) : Int) - 1 = k by omega]
    have e3 : bGe (.int .i64 (k : Int)) (.int .i64 0) = some (.bool true) := by simp
    rw [e3]
    simp only [bindP_some, ifB_true, to8, ixp (show k < 8 by omega)]
    refine bindW_st hs (by omega) fun w1 h1 => ?_
    rw [shr8, bSub_int, wrap_id (by omega)]
    simp only [bindP_some]
    refine ih (n / 256) m _ _ w1 (by omega) (by omega) (by simpa using hc) (set_drop (by omega) hd _) h1 fun c' w' g1 g2 g3 => hK c' w' g1 ?_ g3
    rw [g2, padL]
    congr 1
    simp only [List.append_assoc, List.singleton_append]
    congr 2
    apply UInt8.toNat_inj.1
    simp
theorem shrn {n k : Nat} (h : k ≤ 64) : bShr (.int .i64 n) (.int .i64 k) = some (.int .i64 ((n / 2 ^ k : Nat))) := bShr_nat (k := k) h
/-- of 1 to 8 bytes -/
theorem wide_spec {n : Nat} {k : Nat} (h : Sat w0 L w) (hk : 1 ≤ k ∧ k ≤ 8) (hn : n < 256 ^ k) (hn2 : n < 9223372036854775808) (hK : ∀ w', Sat w0 L w' → K (.tuple #[.string (bs (padL k n)), .int .i64 0]) w') :
    callP G125 [.int .i64 n, .int .i64 k] w K := by
  refine c125 ?_
  unfold F125 F125_1 F125_1b
  have e1 : decide ((k : Int) < 1) = false := by simp; omega
  have e2 : decide ((k : Int) > 8) = false := by simp; omega
  have e3 : decide ((n : Int) < 0) = false := by simp
  simp only [bLt_int, bGt_int, bindP_some, e1, e2, e3, gd_false, Bool.not_false, stepM_true, stepG_true, pPick_false, ifB_false]
  refine eAlloc_sat h z258 fun p w1 h1 => ?_
  unfold F125_2
  refine padL_spec 8 n (fuel - 1) [] _ w1 (by decide) (by omega) (by simp) (by simp [cellsB]) h1 fun c' w' g1 g2 g3 => ?_
  unfold F125_3 F125_3b
  rw [List.append_nil] at g2
  have d1 : c'.toList.drop (8 - k) = cellsB (padL k n) := by
    rw [g2]
    have := padL_drop k (8 - k) n
    rw [show 8 - k + k = 8 by omega] at this
    rw [← this]; simp [cellsB]
  obtain ⟨v, f1, f2⟩ := cBytes_arr (j := .i64) g3.cl g1 (show 8 - k ≤ 8 by omega) d1
  have hz : n / 2 ^ (8 * k) = 0 := by
    apply Nat.div_eq_of_lt
    rw [Nat.pow_mul]; exact hn
  have e5 : bSub (.int .i64 8) (.int .i64 k) = some (.int .i64 ((8 - k : Nat))) := by
    rw [bSub_int, show (8 : Int) - k = ((8 - k : Nat) : Int) by omega, wrap_id (by omega)]
  by_cases h8 : k < 8
  · have e4 : bMul (.int .i64 8) (.int .i64 k) = some (.int .i64 ((8 * k : Nat))) := by
      rw [bMul_int, show (8 : Int) * k = ((8 * k : Nat) : Int) by omega, wrap_id (by omega)]
    have e6 : decide ((k : Int) < 8) = true := by simp; omega
    simp only [bLt_int, bindP_some, e6, gd_true, stepM_true, stepG_true, e4, shrn (show 8 * k ≤ 64 by omega), hz]
    have e7 : bGt (.int .i64 ((0 : Nat) : Int)) (.int .i64 0) = some (.bool false) := by simp
    simp only [e7, bindP_some, pPick_true, ifB_false, e5, f1, f2]
    exact hK _ g3.drop
  · have e6 : decide ((k : Int) < 8) = false := by simp; omega
    simp only [bLt_int, bindP_some, e6, gd_true, stepM_false, stepG_false, pPick_false, ifB_false, e5, f1, f2]
    exact hK _ g3.drop
end
end Go.Proofs.Gong
