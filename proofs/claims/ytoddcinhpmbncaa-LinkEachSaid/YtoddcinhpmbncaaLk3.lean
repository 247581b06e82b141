/- A part of the proofs: what stands below it, told in lemmas. No condition. -/
import Derived.Test.YtoddcinhpmbncaaLk2
namespace Go.Proofs.Gong
open Go Go.Sx Go.Proofs
set_option maxRecDepth 100000
section
variable {w0 w : World} {L : List HP} {K : Value → World → Prop}
theorem rd_str {v : Value} {l : List ByteArray} (h : Rd w 1 v l.length (strs l)) {i : Nat} (hi : i < l.length) : ∃ a, pIndexL 1 v (.int .i64 i) = some (.pointer (some a)) ∧ w.cell? a = some (.string l[i]) := by
  obtain ⟨a, h1, h2⟩ := h.at1 hi (j := .i64)
  exact ⟨a, h1, by rw [h2]; simp [strs, hi]⟩
theorem same_loop {a b : Value} {l k : List ByteArray} (hlen : l.length < 2 ^ 62) (hK : ∀ w', Same w w' → K (.bool (decide (l = k))) w') :
    ∀ (d i : Nat) (w1 : World) (s : Bool), l.length - i < d → i ≤ l.length → s = (decide (l.length = k.length) && decide (l.take i = k.take i)) → Same w w1 → Rd w 1 a l.length (strs l) → Rd w 1 b k.length (strs k) → F20_2L d a b (.bool s) (.int .i64 i) w1 K := by
  intro d
  induction d with
  | zero => intro i w1 s hd; omega
  | succ d ih =>
    intro i w1 s hd hi hs hw ha hb
    rw [F20_2L]
    unfold F20_2b
    have ha1 := ha.to hw
    have hb1 := hb.to hw
    cases s with
    | false =>
      simp [F20_3, F20_3b]
      have : decide (l = k) = false := by
        simp only [decide_eq_false_iff_not]
        intro e; subst e; simp at hs
      rw [← this]; exact hK _ hw
    | true =>
      have hl : l.length = k.length := by simp at hs; exact hs.1
      by_cases hlt : i < l.length
      · obtain ⟨x, hx1, hx2⟩ := rd_str ha1 hlt
        obtain ⟨y, hy1, hy2⟩ := rd_str hb1 (i := i) (by omega)
        simp [ha1.len, hlt, hx1, hx2, hy1, hy2, wrap_id (show -9223372036854775808 ≤ (i : Int) + 1 ∧ (i : Int) + 1 ≤ 9223372036854775807 by omega)]
        refine ih (i + 1) _ _ (by omega) (by omega) ?_ (hw.trans (.drew _)) ha hb
        have e1 : l.take i = k.take i := by simp at hs; exact hs.2
        rw [List.take_succ_eq_append_getElem hlt, List.take_succ_eq_append_getElem (show i < k.length by omega), e1]
        rw [Bool.eq_iff_iff]; simp only [Bool.and_eq_true, decide_eq_true_eq, List.append_cancel_left_eq, hl, true_and, List.cons.injEq, and_true]
      · have : ¬ ((i : Int) < l.length) := by omega
        simp [ha1.len, this, F20_3, F20_3b]
        have e : i = l.length := by omega
        subst e
        have : decide (l = k) = true := by
          simp [hl] at hs ⊢
          rw [List.take_of_length_le (by omega)] at hs
          exact hs
        rw [← this]; exact hK _ hw
theorem same_spec {a b : Value} {n m : Nat} {l k : List ByteArray} (ha : Rd w 1 a n (strs l)) (hb : Rd w 1 b m (strs k)) (hlen : n < 2 ^ 62) (hlen2 : m < 2 ^ 62) (hK : ∀ w', Same w w' → K (.bool (decide (l = k))) w') : callP G20 [a, b] w K := by
  have el : n = l.length := by have := ha.length; simp [strs] at this; omega
  have ek : m = k.length := by have := hb.length; simp [strs] at this; omega
  subst el; subst ek
  refine c20 ?_
  unfold F20 F20_1 F20_1b
  simp [ha.len, hb.len]
  exact same_loop hlen hK _ 0 w _ (by unfold fuel; omega) (by omega) (by simp; omega) (.refl _) ha hb
theorem spoil_loop {s : Value} : ∀ (d i n : Nat) (cs : List Value) (w1 : World), n - i < d → i ≤ n → n < 2 ^ 62 → Sat w0 (SlH 1 9 s n cs :: L) w1 → (∀ cs' w', Sat w0 (SlH 1 9 s n cs' :: L) w' → K (.tuple #[]) w') → F32_2L d s (.int .i64 i) w1 K := by
  intro d
  induction d with
  | zero => intro i n cs w1 hd; omega
  | succ d ih =>
    intro i n cs w1 hd hi hn h hK
    rw [F32_2L]
    unfold F32_2b
    have hr := h.rd
    by_cases hlt : i < n
    · simp [hr.len, hlt, wrap_id (show -9223372036854775808 ≤ (i : Int) + 1 ∧ (i : Int) + 1 ≤ 9223372036854775807 by omega)]
      obtain ⟨b, q, e1, w2, e2, h2⟩ := st_elem h hlt (o := 0) (by omega) (j := .i64) (.string ⟨#[97, 110, 111, 116, 104, 101, 114, 32, 111, 110, 101]⟩)
      simp [e1] at e2 ⊢
      simp [e2]
      exact ih (i + 1) n _ w2 (by omega) (by omega) hn h2 hK
    · have : ¬ ((i : Int) < n) := by omega
      simp [hr.len, this]
      exact hK _ _ h
theorem spoil_spec {s : Value} {n : Nat} {cs : List Value} (h : Sat w0 (SlH 1 9 s n cs :: L) w) (hn : n < 2 ^ 62) (hK : ∀ cs' w', Sat w0 (SlH 1 9 s n cs' :: L) w' → K (.tuple #[]) w') : callP G32 [s] w K := by
  refine c32 ?_
  unfold F32 F32_1 F32_1b
  exact spoil_loop _ 0 n cs w (by unfold fuel; omega) (by omega) hn h hK
end
end Go.Proofs.Gong
