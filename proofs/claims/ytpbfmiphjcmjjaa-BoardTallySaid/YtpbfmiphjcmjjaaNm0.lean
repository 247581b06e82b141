/- A part of the proofs: what stands below it, told in lemmas. No condition. -/
import Derived.Test.YtpbfmiphjcmjjaaSz10
set_option linter.all false
namespace Go.Proofs.Gong
open Go Go.Sx
/-! UTF-8, plainly: as the program reads it, and as the document has it -/
def longP (b : Nat) : Nat × Nat := if b < 128 then (1, b) else if b / 32 = 6 then (2, b % 32) else if b / 16 = 14 then (3, b % 16) else if b / 8 = 30 then (4, b % 8) else (0, 0)
def leastP (n : Nat) : Nat := if n = 2 then 128 else if n = 3 then 2048 else if n = 4 then 65536 else 0
def isC (c : Nat) : Bool := decide (c ≤ 1114111) && (decide (c < 55296) || decide (57343 < c))
def contP : Nat → Nat → List UInt8 → Option Nat
  | 0, c, _ => some c
  | _ + 1, _, [] => none
  | k + 1, c, b :: s => if b.toNat / 64 = 2 then contP k (c * 64 + b.toNat % 64) s else none
def firstP : List UInt8 → Option (Nat × Nat)
  | [] => none
  | b :: s => if (longP b.toNat).1 = 0 ∨ s.length + 1 < (longP b.toNat).1 then none else
    match contP ((longP b.toNat).1 - 1) (longP b.toNat).2 s with
    | none => none
    | some c => if isC c = true ∧ leastP (longP b.toNat).1 ≤ c then some (c, (longP b.toNat).1) else none
def madeP (c : Nat) : List UInt8 :=
  if c < 128 then [UInt8.ofNat c] else if c < 2048 then [UInt8.ofNat (192 + c / 64), UInt8.ofNat (128 + c % 64)] else
  if c < 65536 then [UInt8.ofNat (224 + c / 4096), UInt8.ofNat (128 + c / 64 % 64), UInt8.ofNat (128 + c % 64)] else
  [UInt8.ofNat (240 + c / 262144), UInt8.ofNat (128 + c / 4096 % 64), UInt8.ofNat (128 + c / 64 % 64), UInt8.ofNat (128 + c % 64)]
def foldP (c : Nat) (l : List UInt8) : Nat := l.foldl (fun c b => c * 64 + b.toNat % 64) c
def guessP (s : List UInt8) (n : Nat) : Nat := match s with
  | [] => 0
  | b :: t => if n = 1 then b.toNat else foldP (if n = 2 then b.toNat % 32 else if n = 3 then b.toNat % 16 else b.toNat % 8) (t.take (n - 1))
def hitP (s : List UInt8) (n : Nat) : Bool := isC (guessP s n) && decide (madeP (guessP s n) = s.take n)
def refP (s : List UInt8) : Nat → Nat → Option (Nat × Nat)
  | 0, _ => none
  | k + 1, n => if n ≤ s.length then if hitP s n = true then some (guessP s n, n) else refP s k (n + 1) else none
theorem u8eq {x : Nat} {b : UInt8} : UInt8.ofNat x = b ↔ x % 256 = b.toNat := by
  rw [← UInt8.toNat_inj]; simp
theorem isC_iff (x : Nat) : isC x = true ↔ x ≤ 1114111 ∧ (x < 55296 ∨ 57343 < x) := by simp [isC]
theorem made1 {x : Nat} (h : x < 128) : madeP x = [UInt8.ofNat x] := by unfold madeP; rw [if_pos h]
theorem made2 {x : Nat} (h1 : ¬ x < 128) (h2 : x < 2048) : madeP x = [UInt8.ofNat (192 + x / 64), UInt8.ofNat (128 + x % 64)] := by unfold madeP; rw [if_neg h1, if_pos h2]
theorem made3 {x : Nat} (h1 : ¬ x < 128) (h2 : ¬ x < 2048) (h3 : x < 65536) : madeP x = [UInt8.ofNat (224 + x / 4096), UInt8.ofNat (128 + x / 64 % 64), UInt8.ofNat (128 + x % 64)] := by unfold madeP; rw [if_neg h1, if_neg h2, if_pos h3]
theorem made4 {x : Nat} (h1 : ¬ x < 128) (h2 : ¬ x < 2048) (h3 : ¬ x < 65536) : madeP x = [UInt8.ofNat (240 + x / 262144), UInt8.ofNat (128 + x / 4096 % 64), UInt8.ofNat (128 + x / 64 % 64), UInt8.ofNat (128 + x % 64)] := by unfold madeP; rw [if_neg h1, if_neg h2, if_neg h3]
theorem hit1 (a : UInt8) (t : List UInt8) : hitP (a :: t) 1 = true ↔ a.toNat < 128 := by
  have := a.toNat_lt
  have hg : guessP (a :: t) 1 = a.toNat := rfl
  rw [hitP, hg, Bool.and_eq_true, decide_eq_true_eq, isC_iff, List.take_succ_cons, List.take_zero]
  by_cases h : a.toNat < 128
  · rw [made1 h]; simp only [List.cons.injEq, u8eq, and_true]; omega
  · rw [made2 h (by omega)]; simp only [List.cons.injEq, reduceCtorEq, and_false, false_iff]; exact h
theorem hit2 (a b : UInt8) (t : List UInt8) : hitP (a :: b :: t) 2 = true ↔ a.toNat / 32 = 6 ∧ b.toNat / 64 = 2 ∧ 128 ≤ a.toNat % 32 * 64 + b.toNat % 64 := by
  have := a.toNat_lt
  have := b.toNat_lt
  have hg : guessP (a :: b :: t) 2 = a.toNat % 32 * 64 + b.toNat % 64 := rfl
  rw [hitP, hg, Bool.and_eq_true, decide_eq_true_eq, isC_iff, List.take_succ_cons, List.take_succ_cons, List.take_zero]
  generalize hx : a.toNat % 32 * 64 + b.toNat % 64 = x
  by_cases h1 : x < 128
  · rw [made1 h1]; simp only [List.cons.injEq, reduceCtorEq, and_false, false_iff]; omega
  · rw [made2 h1 (by omega)]; simp only [List.cons.injEq, u8eq, and_true]; omega
theorem hit3 (a b c : UInt8) (t : List UInt8) : hitP (a :: b :: c :: t) 3 = true ↔ a.toNat / 16 = 14 ∧ b.toNat / 64 = 2 ∧ c.toNat / 64 = 2 ∧ isC ((a.toNat % 16 * 64 + b.toNat % 64) * 64 + c.toNat % 64) = true ∧ 2048 ≤ (a.toNat % 16 * 64 + b.toNat % 64) * 64 + c.toNat % 64 := by
  have := a.toNat_lt
  have := b.toNat_lt
  have := c.toNat_lt
  have hg : guessP (a :: b :: c :: t) 3 = (a.toNat % 16 * 64 + b.toNat % 64) * 64 + c.toNat % 64 := rfl
  rw [hitP, hg, Bool.and_eq_true, decide_eq_true_eq, isC_iff, List.take_succ_cons, List.take_succ_cons, List.take_succ_cons, List.take_zero]
  generalize hx : (a.toNat % 16 * 64 + b.toNat % 64) * 64 + c.toNat % 64 = x
  by_cases h1 : x < 128
  · rw [made1 h1]; simp only [List.cons.injEq, reduceCtorEq, and_false, false_iff]; omega
  · by_cases h2 : x < 2048
    · rw [made2 h1 h2]; simp only [List.cons.injEq, reduceCtorEq, and_false, false_iff]; omega
    · rw [made3 h1 h2 (by omega)]; simp only [List.cons.injEq, u8eq, and_true]; omega
theorem hit4 (a b c d : UInt8) (t : List UInt8) : hitP (a :: b :: c :: d :: t) 4 = true ↔ a.toNat / 8 = 30 ∧ b.toNat / 64 = 2 ∧ c.toNat / 64 = 2 ∧ d.toNat / 64 = 2 ∧ isC (((a.toNat % 8 * 64 + b.toNat % 64) * 64 + c.toNat % 64) * 64 + d.toNat % 64) = true ∧ 65536 ≤ ((a.toNat % 8 * 64 + b.toNat % 64) * 64 + c.toNat % 64) * 64 + d.toNat % 64 := by
  have := a.toNat_lt
  have := b.toNat_lt
  have := c.toNat_lt
  have := d.toNat_lt
  have hg : guessP (a :: b :: c :: d :: t) 4 = ((a.toNat % 8 * 64 + b.toNat % 64) * 64 + c.toNat % 64) * 64 + d.toNat % 64 := rfl
  rw [hitP, hg, Bool.and_eq_true, decide_eq_true_eq, isC_iff, List.take_succ_cons, List.take_succ_cons, List.take_succ_cons, List.take_succ_cons, List.take_zero]
  generalize hx : ((a.toNat % 8 * 64 + b.toNat % 64) * 64 + c.toNat % 64) * 64 + d.toNat % 64 = x
  by_cases h1 : x < 128
  · rw [made1 h1]; simp only [List.cons.injEq, reduceCtorEq, and_false, false_iff]; omega
  · by_cases h2 : x < 2048
    · rw [made2 h1 h2]; simp only [List.cons.injEq, reduceCtorEq, and_false, false_iff]; omega
    · by_cases h3 : x < 65536
      · rw [made3 h1 h2 h3]; simp only [List.cons.injEq, reduceCtorEq, and_false, false_iff]; omega
      · rw [made4 h1 h2 h3]; simp only [List.cons.injEq, u8eq, and_true]; omega
theorem refP_step {s : List UInt8} {k n : Nat} (h : n ≤ s.length) : refP s (k + 1) n = if hitP s n = true then some (guessP s n, n) else refP s k (n + 1) := by rw [refP, if_pos h]
theorem refP_end {s : List UInt8} {k n : Nat} (h : s.length < n) : refP s k n = none := by
  cases k with
  | zero => rfl
  | succ k => rw [refP, if_neg (by omega)]
theorem first_of {b : UInt8} {s : List UInt8} {n c0 : Nat} (hl : longP b.toNat = (n, c0)) (hn : n ≠ 0) : firstP (b :: s) = if s.length + 1 < n then none else match contP (n - 1) c0 s with
    | none => none
    | some c => if isC c = true ∧ leastP n ≤ c then some (c, n) else none := by
  rw [firstP, hl]
  simp only
  by_cases h : s.length + 1 < n
  · rw [if_pos (.inr h), if_pos h]
  · rw [if_neg (by rintro (h' | h') <;> omega), if_neg h]
theorem ref_skip {s : List UInt8} {k n : Nat} (h : n ≤ s.length → ¬ hitP s n = true) : refP s (k + 1) n = refP s k (n + 1) := by
  by_cases hl : n ≤ s.length
  · rw [refP_step hl, if_neg (h hl)]
  · rw [refP_end (by omega), refP_end (by omega)]
theorem miss2 {a : UInt8} {t : List UInt8} (h : a.toNat / 32 ≠ 6) (hl : 2 ≤ (a :: t).length) : ¬ hitP (a :: t) 2 = true := by
  match t, hl with
  | b :: t, _ => rw [hit2]; omega
theorem miss3 {a : UInt8} {t : List UInt8} (h : a.toNat / 16 ≠ 14) (hl : 3 ≤ (a :: t).length) : ¬ hitP (a :: t) 3 = true := by
  match t, hl with
  | b :: c :: t, _ => rw [hit3]; exact fun x => h x.1
theorem miss4 {a : UInt8} {t : List UInt8} (h : a.toNat / 8 ≠ 30) (hl : 4 ≤ (a :: t).length) : ¬ hitP (a :: t) 4 = true := by
  match t, hl with
  | b :: c :: d :: t, _ => rw [hit4]; exact fun x => h x.1
theorem refP_first (s : List UInt8) : refP s 4 1 = firstP s := by
  cases s with
  | nil => rfl
  | cons a t =>
    have ha := a.toNat_lt
    by_cases h1 : a.toNat < 128
    · rw [refP_step (by simp), if_pos ((hit1 a t).2 h1), first_of (n := 1) (c0 := a.toNat) (by simp [longP, h1]) (by omega), if_neg (by omega)]
      have : isC a.toNat = true := by rw [isC_iff]; omega
      simp [contP, this, leastP, guessP]
    · rw [ref_skip (fun _ => by rw [hit1]; exact h1)]
      by_cases h2 : a.toNat / 32 = 6
      · rw [first_of (n := 2) (c0 := a.toNat % 32) (by simp [longP, h1, h2]) (by omega)]
        cases t with
        | nil => rw [refP_end (by simp)]; simp
        | cons b t =>
          rw [if_neg (by simp)]
          have hb := b.toNat_lt
          by_cases hb2 : b.toNat / 64 = 2
          · simp only [contP, hb2, if_true, show (2 - 1 : Nat) = 0 + 1 from rfl]
            by_cases hc : 128 ≤ a.toNat % 32 * 64 + b.toNat % 64
            · rw [refP_step (by simp), if_pos ((hit2 a b t).2 ⟨h2, hb2, hc⟩), if_pos ⟨by rw [isC_iff]; omega, by simpa [leastP] using hc⟩]
              rfl
            · rw [ref_skip (fun _ => by rw [hit2]; omega), ref_skip (fun h => miss3 (by omega) h), ref_skip (fun h => miss4 (by omega) h), if_neg (by rintro ⟨_, h⟩; apply hc; simpa [leastP] using h)]
              rfl
          · rw [ref_skip (fun _ => by rw [hit2]; omega), ref_skip (fun h => miss3 (by omega) h), ref_skip (fun h => miss4 (by omega) h)]
            simp [contP, hb2, refP]
      · rw [ref_skip (fun h => miss2 h2 h)]
        by_cases h3 : a.toNat / 16 = 14
        · rw [first_of (n := 3) (c0 := a.toNat % 16) (by simp [longP, h1, h2, h3]) (by omega)]
          match t with
          | [] => rw [refP_end (by simp)]; simp
          | [b] => rw [refP_end (by simp)]; simp
          | b :: c :: t =>
            rw [if_neg (by simp)]
            have hb := b.toNat_lt
            have hc := c.toNat_lt
            by_cases hb2 : b.toNat / 64 = 2
            · by_cases hc2 : c.toNat / 64 = 2
              · simp only [contP, hb2, hc2, if_true, show (3 - 1 : Nat) = 0 + 1 + 1 from rfl]
                by_cases hk : isC ((a.toNat % 16 * 64 + b.toNat % 64) * 64 + c.toNat % 64) = true ∧ 2048 ≤ (a.toNat % 16 * 64 + b.toNat % 64) * 64 + c.toNat % 64
                · rw [refP_step (by simp), if_pos ((hit3 a b c t).2 ⟨h3, hb2, hc2, hk⟩), if_pos ⟨hk.1, by simpa [leastP] using hk.2⟩]
                  rfl
                · rw [ref_skip (fun _ => by rw [hit3]; exact fun x => hk ⟨x.2.2.2.1, x.2.2.2.2⟩), ref_skip (fun h => miss4 (by omega) h), if_neg (by rintro ⟨g, h⟩; apply hk; exact ⟨g, by simpa [leastP] using h⟩)]
                  rfl
              · rw [ref_skip (fun _ => by rw [hit3]; exact fun x => hc2 x.2.2.1), ref_skip (fun h => miss4 (by omega) h)]
                simp [contP, hb2, hc2, refP]
            · rw [ref_skip (fun _ => by rw [hit3]; exact fun x => hb2 x.2.1), ref_skip (fun h => miss4 (by omega) h)]
              simp [contP, hb2, refP]
        · rw [ref_skip (fun h => miss3 h3 h)]
          by_cases h4 : a.toNat / 8 = 30
          · rw [first_of (n := 4) (c0 := a.toNat % 8) (by simp [longP, h1, h2, h3, h4]) (by omega)]
            match t with
            | [] => rw [refP_end (by simp)]; simp
            | [b] => rw [refP_end (by simp)]; simp
            | [b, c] => rw [refP_end (by simp)]; simp
            | b :: c :: d :: t =>
              rw [if_neg (by simp)]
              by_cases hb2 : b.toNat / 64 = 2
              · by_cases hc2 : c.toNat / 64 = 2
                · by_cases hd2 : d.toNat / 64 = 2
                  · simp only [contP, hb2, hc2, hd2, if_true, show (4 - 1 : Nat) = 0 + 1 + 1 + 1 from rfl]
                    by_cases hk : isC (((a.toNat % 8 * 64 + b.toNat % 64) * 64 + c.toNat % 64) * 64 + d.toNat % 64) = true ∧ 65536 ≤ ((a.toNat % 8 * 64 + b.toNat % 64) * 64 + c.toNat % 64) * 64 + d.toNat % 64
                    · rw [refP_step (by simp), if_pos ((hit4 a b c d t).2 ⟨h4, hb2, hc2, hd2, hk⟩), if_pos ⟨hk.1, by simpa [leastP] using hk.2⟩]
                      rfl
                    · rw [ref_skip (fun _ => by rw [hit4]; exact fun x => hk x.2.2.2.2), if_neg (by rintro ⟨g, h⟩; apply hk; exact ⟨g, by simpa [leastP] using h⟩)]
                      rfl
                  · rw [ref_skip (fun _ => by rw [hit4]; exact fun x => hd2 x.2.2.2.1)]
                    simp [contP, hb2, hc2, hd2, refP]
                · rw [ref_skip (fun _ => by rw [hit4]; exact fun x => hc2 x.2.2.1)]
                  simp [contP, hb2, hc2, refP]
              · rw [ref_skip (fun _ => by rw [hit4]; exact fun x => hb2 x.2.1)]
                simp [contP, hb2, refP]
          · rw [ref_skip (fun h => miss4 h4 h)]
            have : longP a.toNat = (0, 0) := by simp [longP, h1, h2, h3, h4]
            rw [firstP, this]
            simp [refP]
end Go.Proofs.Gong
