/- A part of the proofs: what stands below it, told in lemmas. No condition. -/
import Derived.Test.YtkbflbmgilgolaaSz9
namespace Go.Proofs.Gong
open Go Go.Sx
/-! numbers and texts as bytes, plainly -/
def hiG (m : Nat) : List UInt8 := if m = 0 then [] else hiG (m / 128) ++ [UInt8.ofNat (m % 128 + 128)]
termination_by m
decreasing_by omega
def grp (n : Nat) : List UInt8 := hiG (n / 128) ++ [UInt8.ofNat (n % 128)]
theorem hiG_0 : hiG 0 = [] := by rw [hiG]; rfl
theorem hiG_pos {m : Nat} (h : m ≠ 0) : hiG m = hiG (m / 128) ++ [UInt8.ofNat (m % 128 + 128)] := by rw [hiG, if_neg h]
theorem hiG_len : ∀ (k m : Nat), m < 128 ^ k → (hiG m).length ≤ k
  | 0, m, h => by
    have : m = 0 := by simpa using h
    subst this; simp [hiG_0]
  | k + 1, m, h => by
    by_cases h0 : m = 0
    · subst h0; simp [hiG_0]
    · rw [hiG_pos h0]
      have := hiG_len k (m / 128) (by rw [Nat.pow_succ] at h; omega)
      simp; exact this
theorem grp_len {n : Nat} (h : n < 9223372036854775808) : (grp n).length ≤ 9 := by
  have := hiG_len 8 (n / 128) (by have : 128 ^ 8 = 72057594037927936 := by decide
                                  omega)
  simp [grp]; exact this
theorem grp_ne (n : Nat) : grp n ≠ [] := by simp [grp]
/-- reading: the code, the number, what is left -/
def rdG (most : Int) : Nat → Bool → Nat → List UInt8 → Int × Nat × List UInt8
  | 0, _, _, _ => (3, 0, [])
  | _ + 1, _, _, [] => (10, 0, [])
  | k + 1, f, n, b :: s =>
    if f = true ∧ b.toNat = 128 then (3, 0, []) else
    if most < (n * 128 + b.toNat % 128 : Nat) then (2, 0, []) else
    if b.toNat < 128 then (0, n * 128 + b.toNat % 128, s) else rdG most k false (n * 128 + b.toNat % 128) s
theorem ofNat_toNat {x : Nat} (h : x < 256) : (UInt8.ofNat x).toNat = x := by simp; omega
theorem rdG_hi {most : Int} : ∀ (m : Nat), (m : Int) ≤ most → ∀ (k : Nat) (t : List UInt8), rdG most (k + (hiG m).length) true 0 (hiG m ++ t) = rdG most k (decide (m = 0)) m t := by
  intro m
  induction m using Nat.strongRecOn with
  | _ m ih =>
    intro hm k t
    by_cases h0 : m = 0
    · subst h0; simp [hiG_0]
    · rw [hiG_pos h0, List.length_append, List.append_assoc]
      have := ih (m / 128) (by omega) (by omega) (k + 1) ([UInt8.ofNat (m % 128 + 128)] ++ t)
      rw [show k + ((hiG (m / 128)).length + [UInt8.ofNat (m % 128 + 128)].length) = k + 1 + (hiG (m / 128)).length by simp; omega, this]
      simp only [List.singleton_append, rdG]
      rw [ofNat_toNat (by omega)]
      have e : m / 128 * 128 + (m % 128 + 128) % 128 = m := by omega
      rw [e, if_neg (by rintro ⟨h1, h2⟩; simp at h1; omega), if_neg (by omega), if_neg (by omega)]
      simp [h0]
theorem rdG_grp {most : Int} {n : Nat} (h : n < 9223372036854775808) (hm : (n : Int) ≤ most) (t : List UInt8) : rdG most 9 true 0 (grp n ++ t) = (0, n, t) := by
  have hl := hiG_len 8 (n / 128) (by have : 128 ^ 8 = 72057594037927936 := by decide
                                     omega)
  unfold grp
  rw [List.append_assoc, show 9 = (8 - (hiG (n / 128)).length) + 1 + (hiG (n / 128)).length by omega, rdG_hi _ (by omega)]
  simp only [List.singleton_append, rdG]
  rw [ofNat_toNat (by omega)]
  have e : n / 128 * 128 + n % 128 % 128 = n := by omega
  rw [e, if_neg (by omega), if_neg (by omega), if_pos (by omega)]
theorem rdG_back {most : Int} : ∀ (k : Nat) (f : Bool) (n0 : Nat) (s : List UInt8) (n : Nat) (r : List UInt8), rdG most k f n0 s = (0, n, r) → (f = true ↔ n0 = 0) → ∃ c, s = c ++ r ∧ hiG n0 ++ c = grp n ∧ (n : Int) ≤ most := by
  intro k
  induction k with
  | zero => intro f n0 s n r h; simp [rdG] at h
  | succ k ih =>
    intro f n0 s n r h hf
    cases s with
    | nil => simp [rdG] at h
    | cons b s =>
      simp only [rdG] at h
      split at h
      · simp at h
      · rename_i h1
        split at h
        · simp at h
        · rename_i h2
          have hb := b.toNat_lt
          split at h
          · rename_i h3
            simp only [Prod.mk.injEq, true_and] at h
            obtain ⟨rfl, rfl⟩ := h
            refine ⟨[b], rfl, ?_, by omega⟩
            unfold grp
            rw [show (n0 * 128 + b.toNat % 128) / 128 = n0 by omega, show (n0 * 128 + b.toNat % 128) % 128 = b.toNat by omega]
            simp
          · rename_i h3
            have hne : n0 * 128 + b.toNat % 128 ≠ 0 := by
              intro h0
              apply h1
              exact ⟨hf.2 (by omega), by omega⟩
            obtain ⟨c, rfl, hc, hm⟩ := ih false _ s n r h ⟨(fun h => by cases h), fun h => absurd h hne⟩
            refine ⟨b :: c, rfl, ?_, hm⟩
            rw [hiG_pos hne] at hc
            rw [show (n0 * 128 + b.toNat % 128) / 128 = n0 by omega, show (n0 * 128 + b.toNat % 128) % 128 + 128 = b.toNat by omega] at hc
            simpa using hc
theorem rdG_grp_back {most : Int} {s : List UInt8} {n : Nat} {r : List UInt8} (h : rdG most 9 true 0 s = (0, n, r)) : s = grp n ++ r ∧ (n : Int) ≤ most := by
  obtain ⟨c, h1, h2, h3⟩ := rdG_back 9 true 0 s n r h (by simp)
  rw [hiG_0, List.nil_append] at h2
  exact ⟨h2 ▸ h1, h3⟩
theorem rdG_len {most : Int} : ∀ (k : Nat) (f : Bool) (n0 : Nat) (s : List UInt8), (rdG most k f n0 s).2.2.length ≤ s.length := by
  intro k
  induction k with
  | zero => intro f n0 s; simp [rdG]
  | succ k ih =>
    intro f n0 s
    cases s with
    | nil => simp [rdG]
    | cons b s =>
      simp only [rdG]
      split
      · simp
      · split
        · simp
        · split
          · simp
          · have := ih false (n0 * 128 + b.toNat % 128) s
            simp; omega
theorem rdG_suf {most : Int} {s : List UInt8} (h : (rdG most 9 true 0 s).1 = 0) : s.drop (s.length - (rdG most 9 true 0 s).2.2.length) = (rdG most 9 true 0 s).2.2 := by
  cases hx : rdG most 9 true 0 s with
  | mk c x =>
    obtain ⟨n, r⟩ := x
    rw [hx] at h
    simp only at h
    subst h
    have := (rdG_grp_back hx).1
    simp only
    rw [this]; simp
theorem flat1 {α β : Type} (g : α → β) : ∀ l : List α, (l.flatMap fun b => [g b]) = l.map g
  | [] => rfl
  | a :: l => by rw [List.flatMap_cons, flat1 g l]; rfl
/-- a text with its length ahead -/
def txtL (s : List UInt8) : List UInt8 := grp s.length ++ s
/-- w bytes -/
def padL : Nat → Nat → List UInt8
  | 0, _ => []
  | w + 1, n => padL w (n / 256) ++ [UInt8.ofNat (n % 256)]
theorem padL_len : ∀ (w n : Nat), (padL w n).length = w
  | 0, _ => rfl
  | w + 1, n => by simp [padL, padL_len w]
def numL (s : List UInt8) : Nat := s.foldl (fun n b => n * 256 + b.toNat) 0
theorem numL_snoc (s : List UInt8) (b : UInt8) : numL (s ++ [b]) = numL s * 256 + b.toNat := by simp [numL]
theorem numL_pad : ∀ (w n : Nat), n < 256 ^ w → numL (padL w n) = n
  | 0, n, h => by
    have : n = 0 := by simpa using h
    subst this; rfl
  | w + 1, n, h => by
    rw [padL, numL_snoc, numL_pad w _ (by rw [Nat.pow_succ] at h; omega), ofNat_toNat (by omega)]
    omega
theorem numL_lt : ∀ (w : Nat) (s : List UInt8), s.length = w → numL s < 256 ^ w
  | 0, s, h => by
    have : s = [] := List.length_eq_zero_iff.1 h
    subst this; decide
  | w + 1, s, h => by
    have hne : s ≠ [] := by intro h0; subst h0; simp at h
    have e := List.dropLast_concat_getLast hne
    rw [← e, numL_snoc]
    have := numL_lt w s.dropLast (by simp [h])
    have := (s.getLast hne).toNat_lt
    rw [Nat.pow_succ]; omega
theorem padL_num : ∀ (w : Nat) (s : List UInt8), s.length = w → padL w (numL s) = s
  | 0, s, h => by
    have : s = [] := List.length_eq_zero_iff.1 h
    subst this; rfl
  | w + 1, s, h => by
    have hne : s ≠ [] := by intro h0; subst h0; simp at h
    have e := List.dropLast_concat_getLast hne
    have hb := (s.getLast hne).toNat_lt
    have h1 : numL s = numL s.dropLast * 256 + (s.getLast hne).toNat := by
      conv => lhs; rw [← e]
      rw [numL_snoc]
    rw [padL, h1, show (numL s.dropLast * 256 + (s.getLast hne).toNat) / 256 = numL s.dropLast by omega, show (numL s.dropLast * 256 + (s.getLast hne).toNat) % 256 = (s.getLast hne).toNat by omega, padL_num w _ (by simp [h])]
    simp [e]
theorem padL_drop : ∀ (w d n : Nat), (padL (d + w) n).drop d = padL w n
  | 0, d, n => by rw [List.drop_of_length_le (by simp [padL_len])]; rfl
  | w + 1, d, n => by
    rw [show d + (w + 1) = (d + w) + 1 by omega, padL, List.drop_append_of_le_length (by simp [padL_len]), padL_drop w d]
    rfl
/-! a reader: its code, and what is left -/
abbrev Rdr := Int × List UInt8
def rGrp (most : Int) (r : Rdr) : Nat × Rdr := if r.1 ≠ 0 then (0, r) else
  if (rdG most 9 true 0 r.2).1 = 0 then ((rdG most 9 true 0 r.2).2.1, 0, (rdG most 9 true 0 r.2).2.2) else (0, (rdG most 9 true 0 r.2).1, r.2)
def rBytes (n : Int) (r : Rdr) : List UInt8 × Rdr := if r.1 ≠ 0 then ([], r) else if n < 0 then ([], 1, r.2) else if (r.2.length : Int) < n then ([], 10, r.2) else (r.2.take n.toNat, 0, r.2.drop n.toNat)
def rWide (w : Int) (r : Rdr) : Nat × Rdr := if r.1 ≠ 0 then (0, r) else if w < 1 ∨ 8 < w then (0, 1, r.2) else if (r.2.length : Int) < w then (0, 10, r.2) else
  if 9223372036854775808 ≤ numL (r.2.take w.toNat) then (0, 1, r.2) else (numL (r.2.take w.toNat), 0, r.2.drop w.toNat)
theorem numL_nil : numL [] = 0 := rfl
theorem rWide_of {n : Nat} (hn : 1 ≤ n ∧ n ≤ 8) (r : Rdr) : rWide n r = if 9223372036854775808 ≤ numL (rBytes n r).1 then (0, 1, r.2) else (numL (rBytes n r).1, (rBytes n r).2) := by
  unfold rWide rBytes
  have e1 : ¬ ((n : Int) < 1 ∨ 8 < (n : Int)) := by omega
  have e2 : ¬ ((n : Int) < 0) := by omega
  rw [if_neg e1, if_neg e2]
  by_cases k1 : r.1 ≠ 0
  · simp only [if_pos k1, numL_nil]; rfl
  · by_cases k2 : (r.2.length : Int) < n
    · simp only [if_neg k1, if_pos k2, numL_nil]; rfl
    · simp only [if_neg k1, if_neg k2]
theorem rBytes_big {n : Nat} {r : Rdr} (h : 9223372036854775808 ≤ numL (rBytes n r).1) : (rBytes n r).2.1 = 0 := by
  unfold rBytes at *
  have e2 : ¬ ((n : Int) < 0) := by omega
  rw [if_neg e2] at *
  by_cases k1 : r.1 ≠ 0
  · simp only [if_pos k1, numL_nil] at h; omega
  · by_cases k2 : (r.2.length : Int) < n
    · simp only [if_neg k1, if_pos k2, numL_nil] at h; omega
    · simp only [if_neg k1, if_neg k2]
def rText (most : Int) (r : Rdr) : List UInt8 × Rdr :=
  ((rBytes (rGrp most r).1 (rGrp most r).2).1, if (rBytes (rGrp most r).1 (rGrp most r).2).2.1 ≠ 0 then ((rBytes (rGrp most r).1 (rGrp most r).2).2.1, r.2) else (rBytes (rGrp most r).1 (rGrp most r).2).2)
def rDone (r : Rdr) : Int := if r.1 = 0 ∧ r.2 ≠ [] then 3 else r.1
end Go.Proofs.Gong
