/- A part of the proofs: what stands below it, told in lemmas. No condition. -/
import Derived.Test.YtpbfmiphjcmjjaaNm3
set_option linter.all false
namespace Go.Proofs.Gong
open Go Go.Sx Go.Proofs
set_option maxRecDepth 100000
def ctlP (c : Int) : Bool := decide (c < 32) || decide (c = 127)
def plainP (s : List UInt8) (most : Nat) : Bool := match charsP s with
  | none => false
  | some l => !(l.any ctlP) && decide (s.length ≤ most)
section
variable {w0 w : World} {L : List HP} {K : Value → World → Prop}
theorem ctl_spec {c : Int} (hK : K (.bool (ctlP c)) w) : callP G137 [.int .i64 c] w K := by
  refine c137 ?_
  unfold F137
  unfold ctlP at hK
  by_cases h : c < 32
  · simp [h] at hK ⊢; exact hK
  · simp [h] at hK ⊢; exact hK
def fnV : Value := .func (.func 137) #[] #[]
theorem ixL_spec {l : List Int} {v : Value} (h : Rd w 1 v l.length (l.flatMap cI)) (hl : l.length ≤ 1000000) : ∀ (k i m : Nat), k + i = l.length → k ≤ m → (∀ j : Int, (decide (j ≥ 0) = (l.drop i).any ctlP) → K (.int .i64 j) w) →
    F162_2L (m + 1) v fnV (.int .i64 l.length) (.int .i64 i) w K := by
  intro k
  induction k with
  | zero =>
    intro i m hk hm hK
    rw [F162_2L]; unfold F162_2b F162_3 F162_3b
    obtain rfl : i = l.length := by omega
    rw [bLt_int]
    simp only [bindP_some, Int.lt_irrefl, decide_false, ifB_false]
    exact hK (-1) (by simp)
  | succ k ih =>
    intro i m hk hm hK
    obtain ⟨m, rfl⟩ : ∃ j, m = j + 1 := ⟨m - 1, by omega⟩
    rw [F162_2L]; unfold F162_2b
    have hi : i < l.length := by omega
    have e : bLt (.int .i64 (i : Int)) (.int .i64 l.length) = some (.bool true) := by simp; omega
    have e1 := ix_el h hi
    have e2 := rd_ld1 (g := fun c : Int => Value.int .i64 c) h hi
    have hdr : l.drop i = l[i] :: l.drop (i + 1) := List.drop_eq_getElem_cons hi
    rw [hdr, List.any_cons] at hK
    rw [e]
    simp only [bindP_some, ifB_true, e1, e2]
    generalize l[i] = c at hK
    have call : ∀ k : Value → World → Prop, callP G137 [.int .i64 c] w k → eCallV (tabOf T162) fnV [.int .i64 c] w k := by
      intro k h
      show callP (tabOf T162 137) _ _ _
      exact h
    refine call _ (ctl_spec ?_)
    by_cases hc : ctlP c = true
    · simp only [hc, ifB_true]
      exact hK i (by simp [hc])
    · have hc' : ctlP c = false := by simpa using hc
      simp only [hc', ifB_false, plus1 (show i + 1 < 9223372036854775808 by omega), bindP_some]
      exact ih (i + 1) m (by omega) (by omega) fun j hj => hK j (by rw [hj, hc']; simp)
theorem contains_spec {l : List Int} {v : Value} (h : Rd w 1 v l.length (l.flatMap cI)) (hl : l.length ≤ 1000000) (hK : K (.bool (l.any ctlP)) w) : callP G136 [v, fnV] w K := by
  refine c136 ?_
  unfold F136
  refine c162 ?_
  unfold F162 F162_1 F162_1b
  rw [h.len]
  simp only [bindP_some]
  unfold F162_2
  refine ixL_spec h hl l.length 0 (fuel - 1) (by omega) (Nat.le_trans hl (by decide)) fun j hj => ?_
  simp only [bGe_int, bindP_some]
  rw [hj, List.drop_zero]
  exact hK
theorem charsF_len : ∀ (k : Nat) (s : List UInt8) (r : List Int), charsF k s = some r → r.length ≤ s.length
  | _, [], r, h => by
    have : some r = some [] := by rw [← h]; cases ‹Nat› <;> rfl
    simp at this; subst this; simp
  | 0, _ :: _, r, h => by simp [charsF] at h
  | k + 1, b :: s, r, h => by
    unfold charsF at h
    split at h
    · cases h
    · rename_i x hf
      obtain ⟨g1, g2⟩ := firstP_len (c := x.1) (n := x.2) hf
      simp only [Option.map_eq_some_iff] at h
      obtain ⟨r', h1, rfl⟩ := h
      have := charsF_len k _ r' h1
      simp at this ⊢
      simp at g2
      omega
theorem plain_spec {s : List UInt8} {most : Nat} (hs : s.length < 1000000) (h : Sat w0 L w) (hK : ∀ w', Sat w0 L w' → K (.bool (plainP s most)) w') : callP G111 [.string (bs s), .int .i64 most] w K := by
  refine c111 ?_
  unfold F111
  unfold plainP at hK
  refine chars_spec hs h (fun w1 h1 hn => ?_) fun v r w1 hr h1 => ?_
  · rw [hn] at hK
    simp only [pTuple, List.getElem?_toArray, List.getElem?_cons_zero, List.getElem?_cons_succ, bindP_some]
    refine contains_spec (l := []) (.emp _ _) (by simp) ?_
    have e : decide ((40 : Int) = 0) = false := by decide
    simp only [bEq_int, e, bindP_some, gd_true, stepM_false, stepG_false, pPick_false]
    exact hK _ h1
  · rw [hr] at hK
    have hl := charsF_len _ _ _ hr
    simp only [pTuple, List.getElem?_toArray, List.getElem?_cons_zero, List.getElem?_cons_succ, bindP_some]
    refine contains_spec (ls_rd h1) (by omega) ?_
    have hk := hK _ h1.drop
    simp only at hk
    by_cases hc : r.any ctlP = true
    · simp only [hc, Bool.not_true, Bool.false_and] at hk
      simp only [bEq_int, decide_true, bindP_some, gd_true, stepM_true, stepG_true, hc, uNot_bool, Bool.not_true, pPick_true, stepM_false, stepG_false, pPick_false]
      exact hk
    · have hc' : r.any ctlP = false := by simpa using hc
      simp only [hc', Bool.not_false, Bool.true_and] at hk
      have e : decide ((s.length : Int) ≤ (most : Int)) = decide (s.length ≤ most) := by rw [decide_eq_decide]; omega
      simp only [bEq_int, decide_true, bindP_some, gd_true, stepM_true, stepG_true, hc', uNot_bool, Bool.not_false, pPick_true, lenS_mk, bs_size, bLe_int, e]
      exact hk
theorem fpL_spec {s : List UInt8} {most : Nat} {l : List Int} {v : Value} (h : Rd w 1 v l.length (l.flatMap cI)) (hl : l.length ≤ 1000000) (hK : K (.bool (!(l.any ctlP) && decide (s.length ≤ most))) w) : ∀ (k i m : Nat), k + i = l.length → k ≤ m → (l.take i).any ctlP = false →
    F112_2L (m + 1) (.string (bs s)) (.int .i64 most) v (.int .i64 0) (.int .i64 i) w K := by
  intro k
  have e0 : decide ((s.length : Int) ≤ (most : Int)) = decide (s.length ≤ most) := by rw [decide_eq_decide]; omega
  induction k with
  | zero =>
    intro i m hk hm hi
    rw [F112_2L]; unfold F112_2b F112_3 F112_3b
    obtain rfl : i = l.length := by omega
    rw [List.take_length] at hi
    rw [hi] at hK
    rw [h.len]
    simp only [bLt_int, bindP_some, Int.lt_irrefl, decide_false, ifB_false, bEq_int, decide_true, gd_true, stepM_true, stepG_true, lenS_mk, bs_size, bLe_int, e0, pPick_true]
    simpa using hK
  | succ k ih =>
    intro i m hk hm hi0
    obtain ⟨m, rfl⟩ : ∃ j, m = j + 1 := ⟨m - 1, by omega⟩
    rw [F112_2L]; unfold F112_2b
    have hi : i < l.length := by omega
    have e : bLt (.int .i64 (i : Int)) (.int .i64 l.length) = some (.bool true) := by simp; omega
    have e1 := ix_el h hi
    have e2 := rd_ld1 (g := fun c : Int => Value.int .i64 c) h hi
    rw [h.len]
    simp only [bindP_some, e, ifB_true, e1, e2]
    have htk : (l.take (i + 1)).any ctlP = ctlP l[i] := by
      rw [List.take_succ_eq_append_getElem hi, List.any_append, hi0]; simp
    have hany : ctlP l[i] = true → l.any ctlP = true := fun h => List.any_eq_true.2 ⟨l[i], List.getElem_mem hi, h⟩
    generalize l[i] = c at htk hany e2 ⊢
    unfold ctlP at htk hany
    have out : ctlP c = true → K (.bool false) w := by
      intro hc
      have := hany hc
      rw [show (fun c => decide (c < 32) || decide (c = 127)) = ctlP from rfl] at this
      rw [this] at hK
      simpa using hK
    have step : ctlP c = false → bindP (bAdd (.int .i64 (i : Int)) (.int .i64 1)) (fun v18 => F112_2L (m + 1) (.string (bs s)) (.int .i64 most) v (.int .i64 0) v18 w K) := by
      intro hc
      rw [plus1 (by omega)]
      simp only [bindP_some]
      refine ih (i + 1) m (by omega) (by omega) ?_
      rw [show ctlP = (fun c => decide (c < 32) || decide (c = 127)) from rfl] at hc ⊢
      rw [htk]; exact hc
    by_cases h1 : c < 32
    · simp only [bLt_int, h1, decide_true, bindP_some, gd_false, Bool.not_true, stepM_false, stepG_false, pPick_true, ifB_true]
      exact out (by simp [ctlP, h1])
    · simp only [bLt_int, h1, decide_false, bindP_some, gd_false, Bool.not_false, stepM_true, stepG_true, e1, e2, bEq_int, pPick_false]
      by_cases h2 : c = 127
      · simp only [h2, decide_true, ifB_true]
        exact out (by simp [ctlP, h2])
      · simp only [h2, decide_false, ifB_false]
        exact step (by simp [ctlP, h1, h2])
theorem fplain_spec {s : List UInt8} {most : Nat} (hs : s.length < 1000000) (h : Sat w0 L w) (hK : ∀ w', Sat w0 L w' → K (.bool (plainP s most)) w') : callP G112 [.string (bs s), .int .i64 most] w K := by
  refine c112 ?_
  unfold F112 F112_1 F112_1b
  unfold plainP at hK
  refine fchars_spec hs h (fun w1 h1 hn => ?_) fun v r w1 hr h1 => ?_
  · rw [hn] at hK
    simp only [pTuple, List.getElem?_toArray, List.getElem?_cons_zero, List.getElem?_cons_succ, bindP_some]
    unfold F112_2
    obtain ⟨m, hm⟩ : ∃ m, fuel = m + 1 := ⟨fuel - 1, by decide⟩
    rw [hm, F112_2L]
    unfold F112_2b F112_3 F112_3b
    have e : decide ((40 : Int) = 0) = false := by decide
    have e1 : bLt (.int .i64 0) (.int .i64 ((0 : Nat) : Int)) = some (.bool false) := by simp
    simp only [lenL_mk, e1, bEq_int, e, bindP_some, ifB_false, gd_true, stepM_false, stepG_false, pPick_false]
    exact hK _ h1
  · rw [hr] at hK
    have hl := charsF_len _ _ _ hr
    simp only [pTuple, List.getElem?_toArray, List.getElem?_cons_zero, List.getElem?_cons_succ, bindP_some]
    unfold F112_2
    exact fpL_spec (ls_rd h1) (by omega) (hK _ h1.drop) r.length 0 (fuel - 1) (by omega) (Nat.le_trans (show r.length ≤ 1000000 by omega) (by decide)) (by simp)
end
end Go.Proofs.Gong
