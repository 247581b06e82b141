/- A part of the proofs: what stands below it, told in lemmas. No condition. -/
import Derived.Test.YtippapgconnkiaaGreatDoorP3
import Derived.Test.YtippapgconnkiaaGreatDoorP1
import Derived.Test.YtippapgconnkiaaGreatDoorP2
import Derived.Test.YtippapgconnkiaaGreatDoorP0
set_option linter.all false

/- Hp3 -/
namespace Go.Proofs.Gong
open Go Go.Sx Go.Proofs
set_option maxRecDepth 100000
@[reducible] def cIt (x : It) : List Value := [.int .i64 x.1, .int .i64 x.2]
def ekI (n : Int) : Value := .int .i64 n
def evI (n : Int) : Value := .int .i64 n
def Co (v : Value) (n : Int) (l : List It) (m : Pl) : HP := HEx fun p => HEx fun sv => HEx fun mv => HPr (v = ptr p) (HS [Cl p #[.int .i64 n, sv, mv] 315, LsH cIt 2 430 sv l, bS ekI evI mv m])
section
variable {w0 w : World} {L : List HP} {K : Value → World → Prop} {v : Value} {n : Int} {l : List It} {m : Pl}
theorem O9 : Sat w0 (Co v n l m :: L) w ↔ ∃ p sv mv, v = ptr p ∧ Sat w0 (Cl p #[.int .i64 n, sv, mv] 315 :: LsH cIt 2 430 sv l :: bS ekI evI mv m :: L) w := by
  simp only [Co, Sat.ex_iff, Sat.pr_iff, Sat.hs_iff, List.cons_append, List.nil_append]
theorem RD {p : Nat} {sv mv : Value} (h : Sat w0 (Cl p #[.int .i64 n, sv, mv] 315 :: LsH cIt 2 430 sv l :: bS ekI evI mv m :: L) w) : Sat w0 (Co (ptr p) n l m :: L) w := O9.2 ⟨p, sv, mv, rfl, h⟩
theorem GL {a : Int} (hK : K (.bool false) w) : ai P6 [.int .i64 a] w K := by
  refine c166 ?_
  unfold YX
  simpa using hK
theorem zo {a b : Int} (hK : K (.int .i64 (if a < b then -1 else if b < a then 1 else 0)) w) : ai IY [.int .i64 a, .int .i64 b] w K := by
  refine c120 ?_
  unfold Zd
  refine GL (GL ?_)
  simp
  by_cases h1 : a < b
  · simp [h1] at hK ⊢; exact hK
  · by_cases h2 : b < a
    · simp [h1, h2] at hK ⊢; exact hK
    · simp [h1, h2] at hK ⊢; exact hK
theorem Vq {s : Value} {cs : List Int} (hr : Rd w 1 s cs.length (cs.flatMap cI)) (hlen : cs.length < 1000) (hK : K (.int .i64 ((cs.find? (fun c => decide (c ≠ 0))).getD 0)) w) :
    ∀ (d i : Nat), cs.length - i < d → i ≤ cs.length → (∀ c ∈ cs.take i, c = 0) → lQ d (.int .i64 0) s (.int .i64 cs.length) (.int .i64 i) w K := by
  intro d
  induction d with
  | zero => intro i hd; omega
  | succ d ih =>
    intro i hd hi h0
    rw [lQ]
    unfold FH
    by_cases hlt : i < cs.length
    · have e1 := fG (g := fun c => .int .i64 c) hr hlt
      simp [hlt, fV hr hlt, e1]
      by_cases hc : cs[i] = 0
      · simp [hc, fK (show -9223372036854775808 ≤ (i : Int) + 1 ∧ (i : Int) + 1 ≤ 9223372036854775807 by omega)]
        refine ih (i + 1) (by omega) (by omega) fun c hc' => ?_
        rw [List.take_succ_eq_append_getElem hlt] at hc'
        rcases List.mem_append.1 hc' with h | h
        · exact h0 c h
        · simp at h; rw [h, hc]
      · simp [hc]
        have : cs.find? (fun c => decide (c ≠ 0)) = some cs[i] := by
          rw [List.find?_eq_some_iff_getElem]
          refine ⟨by simpa using hc, i, hlt, rfl, fun j hj => ?_⟩
          have := h0 cs[j] (by rw [List.mem_take_iff_getElem]; exact ⟨j, by omega, rfl⟩)
          simp [this]
        rw [this] at hK; exact hK
    · have : ¬ ((i : Int) < cs.length) := by omega
      simp [this, vQ, FE]
      have : cs.find? (fun c => decide (c ≠ 0)) = none := by
        rw [List.find?_eq_none]
        intro c hc
        rw [List.take_of_length_le (by omega)] at h0
        simp [h0 c hc]
      rw [this] at hK; exact hK
theorem Vp {s : Value} {cs : List Int} (hr : Rd w 1 s cs.length (cs.flatMap cI)) (hlen : cs.length < 1000) (hK : K (.int .i64 ((cs.find? (fun c => decide (c ≠ 0))).getD 0)) w) : ai Ue [s] w K := by
  refine c119 ?_
  unfold UZ FK FJ
  simp [hr.len]
  exact Vq hr hlen hK fuel 0 (by unfold fuel; omega) (by omega) (by simp)
end
end Go.Proofs.Gong

/- Hp4 -/
namespace Go.Proofs.Gong
open Go Go.Sx Go.Proofs
set_option maxRecDepth 100000
section
variable {w0 w : World} {L : List HP} {K : Value → World → Prop} {v : Value} {n : Int} {l : List It} {m : Pl}
end
end Go.Proofs.Gong

/- Hp5 -/
namespace Go.Proofs.Gong
open Go Go.Sx Go.Proofs
set_option maxRecDepth 100000
def zK (v : Value) (n : Int) (M : List It) : HP := HEx fun l => HEx fun m => HPr (HRep l m M ∧ (l.length : Int) ≤ n ∧ n ≤ 65536) (Co v n l m)
section
variable {w0 w : World} {L : List HP} {K : Value → World → Prop} {v : Value} {n : Int} {l : List It} {m : Pl} {M : List It}
theorem RB : Sat w0 (zK v n M :: L) w ↔ ∃ l m, (HRep l m M ∧ (l.length : Int) ≤ n ∧ n ≤ 65536) ∧ Sat w0 (Co v n l m :: L) w := by
  simp only [zK, Sat.ex_iff, Sat.pr_iff]
theorem XP (R : HRep l m M) (h1 : (l.length : Int) ≤ n) (h2 : n ≤ 65536) (h : Sat w0 (Co v n l m :: L) w) : Sat w0 (zK v n M :: L) w := RB.2 ⟨l, m, ⟨R, h1, h2⟩, h⟩
def setR (n id t : Int) (M : List It) : Int × List It :=
  if t < 0 ∨ 2305843009213693952 < t then (1, M) else if H9 id M = none ∧ n ≤ M.length then (200, M) else (0, Qr id t M)
end
end Go.Proofs.Gong

/- Hp6 -/
namespace Go.Proofs.Gong
open Go Go.Sx Go.Proofs
set_option maxRecDepth 100000
section
variable {w0 w : World} {L : List HP} {K : Value → World → Prop} {v : Value} {n : Int} {l : List It} {m : Pl} {M : List It}
end
end Go.Proofs.Gong

/- Hp7 -/
namespace Go.Proofs.Gong
open Go Go.Sx Go.Proofs
set_option maxRecDepth 100000
section
variable {w0 w : World} {L : List HP} {K : Value → World → Prop} {v : Value} {n : Int} {l : List It} {m : Pl} {M : List It}
theorem Ra {n : Int} (h : Sat w0 L w) (hK0 : (n < 1 ∨ 65536 < n) → K (.tuple #[.pointer none, .int .i64 1]) w)
    (hK : ∀ p w', 1 ≤ n → n ≤ 65536 → Sat w0 (zK (ptr p) n [] :: L) w' → K (.tuple #[ptr p, .int .i64 0]) w') : ai TU [.int .i64 n] w K := by
  refine c152 ?_
  unfold Y2
  by_cases h1 : n < 1
  · simp [h1]; exact hK0 (.inl h1)
  by_cases h2 : 65536 < n
  · simp [h1, h2]; exact hK0 (.inr h2)
  simp [h1, h2]
  refine dW ekI evI h fun mv w1 g1 => ?_
  have := pJ g1
  obtain ⟨r, es, c, ⟨rfl, _⟩, _⟩ := eu.1 g1
  have e : aD Tryz.prog 315 [(0, .int .i64 n), (2, .map (some r))] = some (.agg #[.int .i64 n, .slice none 0 0, .map (some r)]) := by kernel_rfl
  rw [e]
  simp only [ak]
  refine gB g1 fun p w2 g2 => ?_
  refine hK p w2 (by omega) (by omega) (XP (l := []) (m := []) ⟨⟨by simp [dM], by simp⟩, fun k h x y hx => by simp at hx, .refl _, by simp [Asc]⟩ (by simp; omega) (by omega) (RD (p := p) (sv := .slice none 0 0) (mv := .map (some r)) ?_))
  exact (yQ g2).f1
end
end Go.Proofs.Gong

/- Bk0 -/
namespace Go.Proofs.Gong
open Go Go.Sx Go.Proofs
def bel (x n : Int) : Int := (x.tmod n + n).tmod n
section
variable {w : World} {K : Value → World → Prop}
theorem AC {x n : Int} (hn : 0 < n) (hn2 : n ≤ 4611686018427387904) (hK : ∀ r : Int, 0 ≤ r → r < n → r = bel x n → K (.int .i64 r) w) : ai G8 [.int .i64 x, .int .i64 n] w K := by
  refine c8 ?_
  unfold F8
  have h1 := Int.tmod_lt_of_pos x hn
  have h2 : -n < x.tmod n := by
    have := Int.lt_tmod_of_pos x hn
    omega
  have h3 := Int.tmod_nonneg n (show (0 : Int) ≤ x.tmod n + n by omega)
  have h4 := Int.tmod_lt_of_pos (x.tmod n + n) hn
  simp [tu _ _ _ (show n ≠ 0 by omega), fK (show -9223372036854775808 ≤ x.tmod n + n ∧ x.tmod n + n ≤ 9223372036854775807 by omega)]
  exact hK _ h3 h4 rfl
end
end Go.Proofs.Gong

/- Hp9 -/
namespace Go.Proofs.Gong
open Go Go.Sx Go.Proofs
set_option maxRecDepth 100000
attribute [local irreducible] aD bY bO eqv dB Cl bS LsH SlH ld1 ldN st ai bT aY dF bI bz bE aJ aB bK bZ
section
variable {w0 w : World} {L : List HP} {K : Value → World → Prop} {v : Value} {n : Int} {M : List It}
end
end Go.Proofs.Gong

/- Nm0 -/
namespace Go.Proofs.Gong
open Go Go.Sx
def iJ (b : Nat) : Nat × Nat := if b < 128 then (1, b) else if b / 32 = 6 then (2, b % 32) else if b / 16 = 14 then (3, b % 16) else if b / 8 = 30 then (4, b % 8) else (0, 0)
def iU (n : Nat) : Nat := if n = 2 then 128 else if n = 3 then 2048 else if n = 4 then 65536 else 0
def isC (c : Nat) : Bool := decide (c ≤ 1114111) && (decide (c < 55296) || decide (57343 < c))
def jG : Nat → Nat → List UInt8 → Option Nat
  | 0, c, _ => some c
  | _ + 1, _, [] => none
  | k + 1, c, b :: s => if b.toNat / 64 = 2 then jG k (c * 64 + b.toNat % 64) s else none
def jv : List UInt8 → Option (Nat × Nat)
  | [] => none
  | b :: s => if (iJ b.toNat).1 = 0 ∨ s.length + 1 < (iJ b.toNat).1 then none else
    match jG ((iJ b.toNat).1 - 1) (iJ b.toNat).2 s with
    | none => none
    | some c => if isC c = true ∧ iU (iJ b.toNat).1 ≤ c then some (c, (iJ b.toNat).1) else none
def kX (c : Nat) : List UInt8 :=
  if c < 128 then [UInt8.ofNat c] else if c < 2048 then [UInt8.ofNat (192 + c / 64), UInt8.ofNat (128 + c % 64)] else
  if c < 65536 then [UInt8.ofNat (224 + c / 4096), UInt8.ofNat (128 + c / 64 % 64), UInt8.ofNat (128 + c % 64)] else
  [UInt8.ofNat (240 + c / 262144), UInt8.ofNat (128 + c / 4096 % 64), UInt8.ofNat (128 + c / 64 % 64), UInt8.ofNat (128 + c % 64)]
def Nh (c : Nat) (l : List UInt8) : Nat := l.foldl (fun c b => c * 64 + b.toNat % 64) c
def iV (s : List UInt8) (n : Nat) : Nat := match s with
  | [] => 0
  | b :: t => if n = 1 then b.toNat else Nh (if n = 2 then b.toNat % 32 else if n = 3 then b.toNat % 16 else b.toNat % 8) (t.take (n - 1))
def lY (s : List UInt8) (n : Nat) : Bool := isC (iV s n) && decide (kX (iV s n) = s.take n)
def nV (s : List UInt8) : Nat → Nat → Option (Nat × Nat)
  | 0, _ => none
  | k + 1, n => if n ≤ s.length then if lY s n = true then some (iV s n, n) else nV s k (n + 1) else none
theorem U4 {x : Nat} {b : UInt8} : UInt8.ofNat x = b ↔ x % 256 = b.toNat := by
  rw [← UInt8.toNat_inj]; simp
theorem ni (x : Nat) : isC x = true ↔ x ≤ 1114111 ∧ (x < 55296 ∨ 57343 < x) := by simp [isC]
theorem GV {x : Nat} (h : x < 128) : kX x = [UInt8.ofNat x] := by unfold kX; rw [if_pos h]
theorem GU {x : Nat} (h1 : ¬ x < 128) (h2 : x < 2048) : kX x = [UInt8.ofNat (192 + x / 64), UInt8.ofNat (128 + x % 64)] := by unfold kX; rw [if_neg h1, if_pos h2]
theorem Re {x : Nat} (h1 : ¬ x < 128) (h2 : ¬ x < 2048) (h3 : x < 65536) : kX x = [UInt8.ofNat (224 + x / 4096), UInt8.ofNat (128 + x / 64 % 64), UInt8.ofNat (128 + x % 64)] := by unfold kX; rw [if_neg h1, if_neg h2, if_pos h3]
theorem ZW {x : Nat} (h1 : ¬ x < 128) (h2 : ¬ x < 2048) (h3 : ¬ x < 65536) : kX x = [UInt8.ofNat (240 + x / 262144), UInt8.ofNat (128 + x / 4096 % 64), UInt8.ofNat (128 + x / 64 % 64), UInt8.ofNat (128 + x % 64)] := by unfold kX; rw [if_neg h1, if_neg h2, if_neg h3]
theorem hit1 (a : UInt8) (t : List UInt8) : lY (a :: t) 1 = true ↔ a.toNat < 128 := by
  have := a.toNat_lt
  have hg : iV (a :: t) 1 = a.toNat := rfl
  rw [lY, hg, Bool.and_eq_true, decide_eq_true_eq, ni, List.take_succ_cons, List.take_zero]
  by_cases h : a.toNat < 128
  · rw [GV h]; simp only [List.cons.injEq, U4, and_true]; omega
  · rw [GU h (by omega)]; simp only [List.cons.injEq, reduceCtorEq, and_false, false_iff]; exact h
theorem hit2 (a b : UInt8) (t : List UInt8) : lY (a :: b :: t) 2 = true ↔ a.toNat / 32 = 6 ∧ b.toNat / 64 = 2 ∧ 128 ≤ a.toNat % 32 * 64 + b.toNat % 64 := by
  have := a.toNat_lt
  have := b.toNat_lt
  have hg : iV (a :: b :: t) 2 = a.toNat % 32 * 64 + b.toNat % 64 := rfl
  rw [lY, hg, Bool.and_eq_true, decide_eq_true_eq, ni, List.take_succ_cons, List.take_succ_cons, List.take_zero]
  generalize hx : a.toNat % 32 * 64 + b.toNat % 64 = x
  by_cases h1 : x < 128
  · rw [GV h1]; simp only [List.cons.injEq, reduceCtorEq, and_false, false_iff]; omega
  · rw [GU h1 (by omega)]; simp only [List.cons.injEq, U4, and_true]; omega
theorem hit3 (a b c : UInt8) (t : List UInt8) : lY (a :: b :: c :: t) 3 = true ↔ a.toNat / 16 = 14 ∧ b.toNat / 64 = 2 ∧ c.toNat / 64 = 2 ∧ isC ((a.toNat % 16 * 64 + b.toNat % 64) * 64 + c.toNat % 64) = true ∧ 2048 ≤ (a.toNat % 16 * 64 + b.toNat % 64) * 64 + c.toNat % 64 := by
  have := a.toNat_lt
  have := b.toNat_lt
  have := c.toNat_lt
  have hg : iV (a :: b :: c :: t) 3 = (a.toNat % 16 * 64 + b.toNat % 64) * 64 + c.toNat % 64 := rfl
  rw [lY, hg, Bool.and_eq_true, decide_eq_true_eq, ni, List.take_succ_cons, List.take_succ_cons, List.take_succ_cons, List.take_zero]
  generalize hx : (a.toNat % 16 * 64 + b.toNat % 64) * 64 + c.toNat % 64 = x
  by_cases h1 : x < 128
  · rw [GV h1]; simp only [List.cons.injEq, reduceCtorEq, and_false, false_iff]; omega
  · by_cases h2 : x < 2048
    · rw [GU h1 h2]; simp only [List.cons.injEq, reduceCtorEq, and_false, false_iff]; omega
    · rw [Re h1 h2 (by omega)]; simp only [List.cons.injEq, U4, and_true]; omega
theorem O8 (a b c d : UInt8) (t : List UInt8) : lY (a :: b :: c :: d :: t) 4 = true ↔ a.toNat / 8 = 30 ∧ b.toNat / 64 = 2 ∧ c.toNat / 64 = 2 ∧ d.toNat / 64 = 2 ∧ isC (((a.toNat % 8 * 64 + b.toNat % 64) * 64 + c.toNat % 64) * 64 + d.toNat % 64) = true ∧ 65536 ≤ ((a.toNat % 8 * 64 + b.toNat % 64) * 64 + c.toNat % 64) * 64 + d.toNat % 64 := by
  have := a.toNat_lt
  have := b.toNat_lt
  have := c.toNat_lt
  have := d.toNat_lt
  have hg : iV (a :: b :: c :: d :: t) 4 = ((a.toNat % 8 * 64 + b.toNat % 64) * 64 + c.toNat % 64) * 64 + d.toNat % 64 := rfl
  rw [lY, hg, Bool.and_eq_true, decide_eq_true_eq, ni, List.take_succ_cons, List.take_succ_cons, List.take_succ_cons, List.take_succ_cons, List.take_zero]
  generalize hx : ((a.toNat % 8 * 64 + b.toNat % 64) * 64 + c.toNat % 64) * 64 + d.toNat % 64 = x
  by_cases h1 : x < 128
  · rw [GV h1]; simp only [List.cons.injEq, reduceCtorEq, and_false, false_iff]; omega
  · by_cases h2 : x < 2048
    · rw [GU h1 h2]; simp only [List.cons.injEq, reduceCtorEq, and_false, false_iff]; omega
    · by_cases h3 : x < 65536
      · rw [Re h1 h2 h3]; simp only [List.cons.injEq, reduceCtorEq, and_false, false_iff]; omega
      · rw [ZW h1 h2 h3]; simp only [List.cons.injEq, U4, and_true]; omega
theorem kz {s : List UInt8} {k n : Nat} (h : n ≤ s.length) : nV s (k + 1) n = if lY s n = true then some (iV s n, n) else nV s k (n + 1) := by rw [nV, if_pos h]
theorem iP {s : List UInt8} {k n : Nat} (h : s.length < n) : nV s k n = none := by
  cases k with
  | zero => rfl
  | succ k => rw [nV, if_neg (by omega)]
theorem sP {b : UInt8} {s : List UInt8} {n c0 : Nat} (hl : iJ b.toNat = (n, c0)) (hn : n ≠ 0) : jv (b :: s) = if s.length + 1 < n then none else match jG (n - 1) c0 s with
    | none => none
    | some c => if isC c = true ∧ iU n ≤ c then some (c, n) else none := by
  rw [jv, hl]
  simp only
  by_cases h : s.length + 1 < n
  · rw [if_pos (.inr h), if_pos h]
  · rw [if_neg (by rintro (h' | h') <;> omega), if_neg h]
theorem dQ {s : List UInt8} {k n : Nat} (h : n ≤ s.length → ¬ lY s n = true) : nV s (k + 1) n = nV s k (n + 1) := by
  by_cases hl : n ≤ s.length
  · rw [kz hl, if_neg (h hl)]
  · rw [iP (by omega), iP (by omega)]
theorem miss2 {a : UInt8} {t : List UInt8} (h : a.toNat / 32 ≠ 6) (hl : 2 ≤ (a :: t).length) : ¬ lY (a :: t) 2 = true := by
  match t, hl with
  | b :: t, _ => rw [hit2]; omega
theorem Rc {a : UInt8} {t : List UInt8} (h : a.toNat / 16 ≠ 14) (hl : 3 ≤ (a :: t).length) : ¬ lY (a :: t) 3 = true := by
  match t, hl with
  | b :: c :: t, _ => rw [hit3]; exact fun x => h x.1
theorem BK {a : UInt8} {t : List UInt8} (h : a.toNat / 8 ≠ 30) (hl : 4 ≤ (a :: t).length) : ¬ lY (a :: t) 4 = true := by
  match t, hl with
  | b :: c :: d :: t, _ => rw [O8]; exact fun x => h x.1
theorem J5 (s : List UInt8) : nV s 4 1 = jv s := by
  cases s with
  | nil => rfl
  | cons a t =>
    have ha := a.toNat_lt
    by_cases h1 : a.toNat < 128
    · rw [kz (by simp), if_pos ((hit1 a t).2 h1), sP (n := 1) (c0 := a.toNat) (by simp [iJ, h1]) (by omega), if_neg (by omega)]
      have : isC a.toNat = true := by rw [ni]; omega
      simp [jG, this, iU, iV]
    · rw [dQ (fun _ => by rw [hit1]; exact h1)]
      by_cases h2 : a.toNat / 32 = 6
      · rw [sP (n := 2) (c0 := a.toNat % 32) (by simp [iJ, h1, h2]) (by omega)]
        cases t with
        | nil => rw [iP (by simp)]; simp
        | cons b t =>
          rw [if_neg (by simp)]
          have hb := b.toNat_lt
          by_cases hb2 : b.toNat / 64 = 2
          · simp only [jG, hb2, if_true, show (2 - 1 : Nat) = 0 + 1 from rfl]
            by_cases hc : 128 ≤ a.toNat % 32 * 64 + b.toNat % 64
            · rw [kz (by simp), if_pos ((hit2 a b t).2 ⟨h2, hb2, hc⟩), if_pos ⟨by rw [ni]; omega, by simpa [iU] using hc⟩]
              rfl
            · rw [dQ (fun _ => by rw [hit2]; omega), dQ (fun h => Rc (by omega) h), dQ (fun h => BK (by omega) h), if_neg (by rintro ⟨_, h⟩; apply hc; simpa [iU] using h)]
              rfl
          · rw [dQ (fun _ => by rw [hit2]; omega), dQ (fun h => Rc (by omega) h), dQ (fun h => BK (by omega) h)]
            simp [jG, hb2, nV]
      · rw [dQ (fun h => miss2 h2 h)]
        by_cases h3 : a.toNat / 16 = 14
        · rw [sP (n := 3) (c0 := a.toNat % 16) (by simp [iJ, h1, h2, h3]) (by omega)]
          match t with
          | [] => rw [iP (by simp)]; simp
          | [b] => rw [iP (by simp)]; simp
          | b :: c :: t =>
            rw [if_neg (by simp)]
            have hb := b.toNat_lt
            have hc := c.toNat_lt
            by_cases hb2 : b.toNat / 64 = 2
            · by_cases hc2 : c.toNat / 64 = 2
              · simp only [jG, hb2, hc2, if_true, show (3 - 1 : Nat) = 0 + 1 + 1 from rfl]
                by_cases hk : isC ((a.toNat % 16 * 64 + b.toNat % 64) * 64 + c.toNat % 64) = true ∧ 2048 ≤ (a.toNat % 16 * 64 + b.toNat % 64) * 64 + c.toNat % 64
                · rw [kz (by simp), if_pos ((hit3 a b c t).2 ⟨h3, hb2, hc2, hk⟩), if_pos ⟨hk.1, by simpa [iU] using hk.2⟩]
                  rfl
                · rw [dQ (fun _ => by rw [hit3]; exact fun x => hk ⟨x.2.2.2.1, x.2.2.2.2⟩), dQ (fun h => BK (by omega) h), if_neg (by rintro ⟨g, h⟩; apply hk; exact ⟨g, by simpa [iU] using h⟩)]
                  rfl
              · rw [dQ (fun _ => by rw [hit3]; exact fun x => hc2 x.2.2.1), dQ (fun h => BK (by omega) h)]
                simp [jG, hb2, hc2, nV]
            · rw [dQ (fun _ => by rw [hit3]; exact fun x => hb2 x.2.1), dQ (fun h => BK (by omega) h)]
              simp [jG, hb2, nV]
        · rw [dQ (fun h => Rc h3 h)]
          by_cases h4 : a.toNat / 8 = 30
          · rw [sP (n := 4) (c0 := a.toNat % 8) (by simp [iJ, h1, h2, h3, h4]) (by omega)]
            match t with
            | [] => rw [iP (by simp)]; simp
            | [b] => rw [iP (by simp)]; simp
            | [b, c] => rw [iP (by simp)]; simp
            | b :: c :: d :: t =>
              rw [if_neg (by simp)]
              by_cases hb2 : b.toNat / 64 = 2
              · by_cases hc2 : c.toNat / 64 = 2
                · by_cases hd2 : d.toNat / 64 = 2
                  · simp only [jG, hb2, hc2, hd2, if_true, show (4 - 1 : Nat) = 0 + 1 + 1 + 1 from rfl]
                    by_cases hk : isC (((a.toNat % 8 * 64 + b.toNat % 64) * 64 + c.toNat % 64) * 64 + d.toNat % 64) = true ∧ 65536 ≤ ((a.toNat % 8 * 64 + b.toNat % 64) * 64 + c.toNat % 64) * 64 + d.toNat % 64
                    · rw [kz (by simp), if_pos ((O8 a b c d t).2 ⟨h4, hb2, hc2, hd2, hk⟩), if_pos ⟨hk.1, by simpa [iU] using hk.2⟩]
                      rfl
                    · rw [dQ (fun _ => by rw [O8]; exact fun x => hk x.2.2.2.2), if_neg (by rintro ⟨g, h⟩; apply hk; exact ⟨g, by simpa [iU] using h⟩)]
                      rfl
                  · rw [dQ (fun _ => by rw [O8]; exact fun x => hd2 x.2.2.2.1)]
                    simp [jG, hb2, hc2, hd2, nV]
                · rw [dQ (fun _ => by rw [O8]; exact fun x => hc2 x.2.2.1)]
                  simp [jG, hb2, hc2, nV]
              · rw [dQ (fun _ => by rw [O8]; exact fun x => hb2 x.2.1)]
                simp [jG, hb2, nV]
          · rw [dQ (fun h => BK h4 h)]
            have : iJ a.toNat = (0, 0) := by simp [iJ, h1, h2, h3, h4]
            rw [jv, this]
            simp [nV]
end Go.Proofs.Gong

/- Nm1 -/
namespace Go.Proofs.Gong
open Go Go.Sx Go.Proofs
set_option maxRecDepth 100000
theorem yP : (⟨#[]⟩ : ByteArray) = bs [] := by simp [bs]
theorem bP (b : Bool) : gd b undef = false := by cases b <;> rfl
theorem and31 : ∀ n : Fin 256, oH .and .u8 (n.val : Int) 31 = some ((n.val % 32 : Nat) : Int) := by decide +kernel
theorem and15 : ∀ n : Fin 256, oH .and .u8 (n.val : Int) 15 = some ((n.val % 16 : Nat) : Int) := by decide +kernel
theorem and7 : ∀ n : Fin 256, oH .and .u8 (n.val : Int) 7 = some ((n.val % 8 : Nat) : Int) := by decide +kernel
theorem and63 : ∀ n : Fin 256, oH .and .u8 (n.val : Int) 63 = some ((n.val % 64 : Nat) : Int) := by decide +kernel
theorem xu {k m : Nat} (h : ∀ n : Fin 256, oH .and .u8 (n.val : Int) (k : Int) = some ((n.val % m : Nat) : Int)) (b : UInt8) : l6 .and (.int .u8 b.toNat) (.int .u8 k) = some (.int .u8 ((b.toNat % m : Nat))) := by
  have := h ⟨b.toNat, b.toNat_lt⟩
  simp only at this
  simp only [l6, if_true, this, Option.map_some]
theorem CS (n k : Nat) (h : k ≤ 8) : rf (.int .u8 n) (.int .u64 k) = some (.int .u8 ((n / 2 ^ k : Nat))) := SK (j := .u8) (by exact h)
theorem JD (n : Nat) (h : n < 9223372036854775808) : iG .i64 (.int .u8 n) = some (.int .i64 n) := by
  simp only [iG]; rw [fK (by omega)]
theorem shl6 {n : Nat} (h : n < 72057594037927936) : SL (.int .i64 n) (.int .u64 6) = some (.int .i64 ((n * 64 : Nat))) := by
  have e : min ((6 : Int).toNat) IntKind.i64.bits = 6 := by decide
  simp only [SL]
  rw [if_neg (by decide), e, show ((n : Int) * 2 ^ 6) = ((n * 64 : Nat) : Int) by omega, fK (by omega)]
theorem Gy {a : Nat} (h : a + 1 < 9223372036854775808) : bH (.int .i64 a) (.int .i64 1) = some (.int .i64 ((a + 1 : Nat))) := by
  rw [zy, show ((a : Int) + 1) = ((a + 1 : Nat) : Int) by omega, fK (by omega)]
section
variable {w : World} {K : Value → World → Prop}
theorem OU {b : UInt8} (hK : K (.tuple #[.int .i64 (iJ b.toNat).1, .int .i64 (iJ b.toNat).2]) w) : ai Tq [.int .u8 b.toNat] w K := by
  refine c257 ?_
  unfold YH
  have hb := b.toNat_lt
  unfold iJ at hK
  by_cases h1 : b.toNat < 128
  · rw [if_pos h1] at hK
    have e : bLt (.int .u8 (b.toNat : Int)) (.int .u8 128) = some (.bool true) := by simp; omega
    simp only [e, ak, aR, JD _ (show b.toNat < 9223372036854775808 by omega)]
    exact hK
  · rw [if_neg h1] at hK
    have e : bLt (.int .u8 (b.toNat : Int)) (.int .u8 128) = some (.bool false) := by simp; omega
    have s5 : rf (.int .u8 (b.toNat : Int)) (.int .u64 5) = some (.int .u8 ((b.toNat / 32 : Nat))) := CS _ 5 (by omega)
    have s4 : rf (.int .u8 (b.toNat : Int)) (.int .u64 4) = some (.int .u8 ((b.toNat / 16 : Nat))) := CS _ 4 (by omega)
    have s3 : rf (.int .u8 (b.toNat : Int)) (.int .u64 3) = some (.int .u8 ((b.toNat / 8 : Nat))) := CS _ 3 (by omega)
    have a31 : l6 .and (.int .u8 (b.toNat : Int)) (.int .u8 31) = _ := xu (k := 31) and31 b
    have a15 : l6 .and (.int .u8 (b.toNat : Int)) (.int .u8 15) = _ := xu (k := 15) and15 b
    have a7 : l6 .and (.int .u8 (b.toNat : Int)) (.int .u8 7) = _ := xu (k := 7) and7 b
    simp only [e, ak, aL, s5, s4, s3, a31, a15, a7, iY]
    by_cases h2 : b.toNat / 32 = 6
    · rw [if_pos h2] at hK
      have : decide (((b.toNat / 32 : Nat) : Int) = 6) = true := by rw [h2]; rfl
      simp only [this, aR, JD _ (show b.toNat % 32 < 9223372036854775808 by omega), ak]
      exact hK
    · rw [if_neg h2] at hK
      have : decide (((b.toNat / 32 : Nat) : Int) = 6) = false := by rw [decide_eq_false_iff_not]; omega
      simp only [this, aL]
      by_cases h3 : b.toNat / 16 = 14
      · rw [if_pos h3] at hK
        have : decide (((b.toNat / 16 : Nat) : Int) = 14) = true := by rw [h3]; rfl
        simp only [this, aR, JD _ (show b.toNat % 16 < 9223372036854775808 by omega), ak]
        exact hK
      · rw [if_neg h3] at hK
        have : decide (((b.toNat / 16 : Nat) : Int) = 14) = false := by rw [decide_eq_false_iff_not]; omega
        simp only [this, aL]
        by_cases h4 : b.toNat / 8 = 30
        · rw [if_pos h4] at hK
          have : decide (((b.toNat / 8 : Nat) : Int) = 30) = true := by rw [h4]; rfl
          simp only [this, aR, JD _ (show b.toNat % 8 < 9223372036854775808 by omega), ak]
          exact hK
        · rw [if_neg h4] at hK
          have : decide (((b.toNat / 8 : Nat) : Int) = 30) = false := by rw [decide_eq_false_iff_not]; omega
          simp only [this, aL]
          exact hK
theorem XN {c : Nat} (hK : K (.bool (isC c)) w) : ai Tp [.int .i64 c] w K := by
  refine c258 ?_
  unfold YG
  unfold isC at hK
  by_cases h1 : c ≤ 1114111
  · by_cases h2 : c < 55296
    · have e1 : decide ((c : Int) ≥ 0) = true := by simp
      have e2 : decide ((c : Int) ≤ 1114111) = true := by simp; omega
      have e3 : decide ((c : Int) < 55296) = true := by simp; omega
      simp only [lK, gZ, bG, e1, e2, e3, ak, bC, aZ, Bool.not_true, aQ, aP, aH, aF, aI]
      simpa [h1, h2] using hK
    · have e1 : decide ((c : Int) ≥ 0) = true := by simp
      have e2 : decide ((c : Int) ≤ 1114111) = true := by simp; omega
      have e3 : decide ((c : Int) < 55296) = false := by simp; omega
      have e4 : decide ((c : Int) > 57343) = decide (57343 < c) := by rw [decide_eq_decide]; omega
      simp only [lK, gZ, bG, bU, e1, e2, e3, e4, ak, bC, aZ, Bool.not_false, aQ, aH, aI, aC]
      simpa [h1, h2] using hK
  · have e1 : decide ((c : Int) ≥ 0) = true := by simp
    have e2 : decide ((c : Int) ≤ 1114111) = false := by simp; omega
    simp only [lK, gZ, e1, e2, ak, bC, aZ, Bool.not_false, aQ, aP, aH, aF, aI, aC, bP]
    simpa [h1] using hK
theorem Ko {n : Nat} (hK : K (.int .i64 (iU n)) w) : ai Tn [.int .i64 n] w K := by
  refine c259 ?_
  unfold YF
  unfold iU at hK
  by_cases h2 : n = 2
  · subst h2; simpa using hK
  · by_cases h3 : n = 3
    · subst h3; simpa using hK
    · by_cases h4 : n = 4
      · subst h4; simpa using hK
      · have e2 : decide ((n : Int) = 2) = false := by rw [decide_eq_false_iff_not]; omega
        have e3 : decide ((n : Int) = 3) = false := by rw [decide_eq_false_iff_not]; omega
        have e4 : decide ((n : Int) = 4) = false := by rw [decide_eq_false_iff_not]; omega
        simp only [iY, e2, e3, e4, ak, aL]
        simpa [h2, h3, h4] using hK
def Sr : Value := .tuple #[.int .i64 0, .int .i64 0, .int .i64 40]
def KH (s : List UInt8) : Value := match jv s with
  | some x => .tuple #[.int .i64 x.1, .int .i64 x.2, .int .i64 0]
  | none => Sr
theorem Pz {s : List UInt8} {n : Nat} (hs : n ≤ s.length) (h4 : n ≤ 4) : ∀ (k i c m : Nat), k + i = n → k ≤ m → c < 256 * 64 ^ i → (match jG k c (s.drop i) with | none => K Sr w | some c' => rE (.int .i64 c') (.int .i64 n) w K) →
    jT (m + 1) (.string (bs s)) (.int .i64 c) (.int .i64 n) (.int .i64 i) w K := by
  intro k
  induction k with
  | zero =>
    intro i c m hk hm hc hK
    rw [jT]; unfold xz
    obtain rfl : i = n := by omega
    rw [bG]
    simp only [ak, Int.lt_irrefl, decide_false, aL]
    simpa [jG] using hK
  | succ k ih =>
    intro i c m hk hm hc hK
    obtain ⟨m, rfl⟩ : ∃ j, m = j + 1 := ⟨m - 1, by omega⟩
    rw [jT]; unfold xz
    have hi : i < s.length := by omega
    have e : bLt (.int .i64 (i : Int)) (.int .i64 n) = some (.bool true) := by simp; omega
    have hdr : s.drop i = s[i] :: s.drop (i + 1) := List.drop_eq_getElem_cons hi
    rw [hdr] at hK
    rw [e]
    simp only [ak, aR, mZ hi]
    generalize s[i] = b at hK
    have hb := b.toNat_lt
    have s6 : rf (.int .u8 (b.toNat : Int)) (.int .u64 6) = some (.int .u8 ((b.toNat / 64 : Nat))) := CS _ 6 (by omega)
    simp only [s6, ak, dh]
    simp only [jG] at hK
    by_cases h2 : b.toNat / 64 = 2
    · rw [if_pos h2] at hK
      have : (!decide (((b.toNat / 64 : Nat) : Int) = 2)) = false := by rw [h2]; rfl
      have a63 : l6 .and (.int .u8 (b.toNat : Int)) (.int .u8 63) = _ := xu (k := 63) and63 b
      have hp : 64 ^ i ≤ 64 ^ 4 := Nat.pow_le_pow_right (by omega) (by omega)
      have e4 : 64 ^ 4 = 16777216 := by decide
      simp only [this, aL, shl6 (show c < 72057594037927936 by omega), a63, JD _ (show b.toNat % 64 < 9223372036854775808 by omega), ak]
      rw [Yd (by omega) (by omega), or_add (a := c) (i := 6) (by omega)]
      simp only [ak, Gy (show i + 1 < 9223372036854775808 by omega)]
      refine ih (i + 1) (c * 64 + b.toNat % 64) m (by omega) (by omega) (by rw [Nat.pow_succ]; omega) hK
    · rw [if_neg h2] at hK
      have : (!decide (((b.toNat / 64 : Nat) : Int) = 2)) = true := by simp; omega
      simp only [this, aR]
      exact hK
theorem Ig {s : List UInt8} (hK : K (KH s) w) : ai TC [.string (bs s)] w K := by
  refine c209 ?_
  unfold UI ED EC
  rw [yP]
  cases s with
  | nil =>
    simp only [eB, bW, decide_true, ak, aR]
    exact hK
  | cons b s =>
    have e : decide (bs (b :: s) = bs []) = false := by simp
    have ix := mZ (l := b :: s) (i := 0) (j := .i64) (by simp)
    simp only [List.getElem_cons_zero] at ix
    have ix0 : dG (.string (bs (b :: s))) (.int .i64 0) = some (.int .u8 b.toNat) := ix
    simp only [eB, bW, e, ak, aL, ix0]
    refine OU ?_
    simp only [aK, List.getElem?_toArray, List.getElem?_cons_zero, List.getElem?_cons_succ, ak, iY]
    have hl4 : (iJ b.toNat).1 ≤ 4 ∧ (iJ b.toNat).2 < 256 := by
      have := b.toNat_lt
      unfold iJ
      split
      · exact ⟨by simp, by simp; omega⟩
      · split
        · exact ⟨by simp, by simp; omega⟩
        · split
          · exact ⟨by simp, by simp; omega⟩
          · split
            · exact ⟨by simp, by simp; omega⟩
            · exact ⟨by simp, by simp⟩
    unfold KH jv at hK
    simp only at hK
    generalize iJ b.toNat = x at hK hl4
    by_cases h0 : x.1 = 0
    · rw [if_pos (.inl h0)] at hK
      have : decide ((x.1 : Int) = 0) = true := by simp; omega
      simp only [this, aZ, Bool.not_true, aP, aF, aI, ak, aR]
      exact hK
    · have : decide ((x.1 : Int) = 0) = false := by simp; omega
      simp only [this, aZ, Bool.not_false, aQ, aH, iw, fM, bU, aC, ak]
      by_cases h1 : s.length + 1 < x.1
      · rw [if_pos (.inr h1)] at hK
        have : decide ((x.1 : Int) > ((b :: s).length : Int)) = true := by simp; omega
        simp only [this, aR]
        exact hK
      · rw [if_neg (by rintro (h | h) <;> omega)] at hK
        have : decide ((x.1 : Int) > ((b :: s).length : Int)) = false := by simp; omega
        simp only [this, aL]
        unfold zX
        refine Pz (n := x.1) (by simp; omega) hl4.1 (x.1 - 1) 1 x.2 (fuel - 1) (by omega) (Nat.le_trans (show x.1 - 1 ≤ 4 by omega) (by decide)) (by omega) ?_
        simp only [List.drop_succ_cons, List.drop_zero]
        cases hc : jG (x.1 - 1) x.2 s with
        | none => rw [hc] at hK; exact hK
        | some c =>
          rw [hc] at hK
          simp only at hK ⊢
          unfold rE EB
          refine XN ?_
          by_cases h5 : isC c = true
          · simp only [h5, bg, Bool.not_true, ak, aZ, Bool.not_false, aQ, bf]
            refine Ko ?_
            by_cases h6 : iU x.1 ≤ c
            · rw [if_pos ⟨h5, h6⟩] at hK
              have : decide ((c : Int) < (iU x.1 : Int)) = false := by simp; omega
              simp only [bG, this, aH, ak, aC, aL]
              exact hK
            · rw [if_neg (fun h => h6 h.2)] at hK
              have : decide ((c : Int) < (iU x.1 : Int)) = true := by simp; omega
              simp only [bG, this, aH, ak, aC, aR]
              exact hK
          · rw [if_neg (fun h => h5 h.1)] at hK
            have h5' : isC c = false := by simpa using h5
            simp only [h5', bg, Bool.not_false, ak, aZ, Bool.not_true, aP, aF, aT, aI, aR]
            exact hK
end
end Go.Proofs.Gong

/- Nm2 -/
namespace Go.Proofs.Gong
open Go Go.Sx Go.Proofs
set_option maxRecDepth 100000
theorem U5 (n : Nat) : iG .u8 (.int .i64 n) = some (.int .u8 (UInt8.ofNat n).toNat) := by
  simp only [iG]; rw [wrap_u8]; congr 2
theorem Ox (n k : Nat) (hk : k ≠ 0) (h : n < 9223372036854775808) : iM (.int .i64 n) (.int .i64 k) = some (.int .i64 ((n / k : Nat))) := by
  rw [tF _ _ _ (by omega)]
  have e : (n : Int).tdiv k = ((n / k : Nat) : Int) := by rw [Int.tdiv_eq_ediv_of_nonneg (by omega)]; rfl
  have hq := Nat.div_le_self n k
  rw [e]
  generalize n / k = q at hq
  rw [fK (by omega)]
theorem J3 (j : IntKind) (n k : Nat) (hk : k ≠ 0) : gI (.int j n) (.int j k) = some (.int j ((n % k : Nat))) := by
  rw [tu _ _ _ (by omega)]
  have e : (n : Int).tmod k = ((n % k : Nat) : Int) := by rw [Int.tmod_eq_emod_of_nonneg (by omega)]; rfl
  rw [e]
theorem addN {a b : Nat} (h : a + b < 9223372036854775808) : bH (.int .i64 a) (.int .i64 b) = some (.int .i64 ((a + b : Nat))) := by
  rw [zy, show ((a : Int) + b) = ((a + b : Nat) : Int) by omega, fK (by omega)]
theorem mul64 {n : Nat} (h : n < 72057594037927936) : nP (.int .i64 n) (.int .i64 64) = some (.int .i64 ((n * 64 : Nat))) := by
  rw [zx, show ((n : Int) * 64) = ((n * 64 : Nat) : Int) by omega, fK (by omega)]
section
variable {w0 w : World} {L : List HP} {K : Value → World → Prop}
theorem Sb {c : Nat} (hK : K (.bool (isC c)) w) : ai Tt [.int .i64 c] w K := by
  refine c255 ?_
  unfold YI
  unfold isC at hK
  by_cases h1 : c ≤ 1114111
  · by_cases h2 : c < 55296
    · have e1 : decide ((c : Int) ≥ 0) = true := by simp
      have e2 : decide ((c : Int) ≤ 1114111) = true := by simp; omega
      have e3 : decide ((c : Int) < 55296) = true := by simp; omega
      simp only [lK, gZ, bG, e1, e2, e3, ak, bC, aZ, Bool.not_true, aQ, aP, aH, aF, aI]
      simpa [h1, h2] using hK
    · have e1 : decide ((c : Int) ≥ 0) = true := by simp
      have e2 : decide ((c : Int) ≤ 1114111) = true := by simp; omega
      have e3 : decide ((c : Int) < 55296) = false := by simp; omega
      have e4 : decide ((c : Int) > 57343) = decide (57343 < c) := by rw [decide_eq_decide]; omega
      simp only [lK, gZ, bG, bU, e1, e2, e3, e4, ak, bC, aZ, Bool.not_false, aQ, aH, aI, aC]
      simpa [h1, h2] using hK
  · have e1 : decide ((c : Int) ≥ 0) = true := by simp
    have e2 : decide ((c : Int) ≤ 1114111) = false := by simp; omega
    simp only [lK, gZ, e1, e2, ak, bC, aZ, Bool.not_false, aQ, aP, aH, aF, aI, aC, bP]
    simpa [h1] using hK
theorem Hu {s : List UInt8} {n : Nat} (hs : n ≤ s.length) (h4 : n ≤ 4) : ∀ (k i c m : Nat), k + i = n → k ≤ m → c < 256 * 64 ^ i → K (.int .i64 (Nh c ((s.drop i).take k))) w →
    jR (m + 1) (.string (bs s)) (.int .i64 n) (.int .i64 c) (.int .i64 i) w K := by
  intro k
  induction k with
  | zero =>
    intro i c m hk hm hc hK
    rw [jR]; unfold xw vw Ea
    obtain rfl : i = n := by omega
    rw [bG]
    simp only [ak, Int.lt_irrefl, decide_false, aL]
    simpa [Nh] using hK
  | succ k ih =>
    intro i c m hk hm hc hK
    obtain ⟨m, rfl⟩ : ∃ j, m = j + 1 := ⟨m - 1, by omega⟩
    rw [jR]; unfold xw
    have hi : i < s.length := by omega
    have e : bLt (.int .i64 (i : Int)) (.int .i64 n) = some (.bool true) := by simp; omega
    have hdr : s.drop i = s[i] :: s.drop (i + 1) := List.drop_eq_getElem_cons hi
    rw [hdr, List.take_succ_cons] at hK
    have hp : 64 ^ i ≤ 64 ^ 4 := Nat.pow_le_pow_right (by omega) (by omega)
    have e4 : 64 ^ 4 = 16777216 := by decide
    rw [e]
    simp only [ak, aR, mZ hi]
    generalize s[i] = b at hK
    have hb := b.toNat_lt
    have r64 : gI (.int .u8 (b.toNat : Int)) (.int .u8 64) = some (.int .u8 ((b.toNat % 64 : Nat))) := J3 .u8 _ 64 (by omega)
    simp only [mul64 (show c < 72057594037927936 by omega), r64, ak, JD _ (show b.toNat % 64 < 9223372036854775808 by omega)]
    rw [addN (by omega)]
    simp only [ak, Gy (show i + 1 < 9223372036854775808 by omega)]
    exact ih (i + 1) (c * 64 + b.toNat % 64) m (by omega) (by omega) (by rw [Nat.pow_succ]; omega) hK
theorem Kw {s : List UInt8} {n : Nat} (hn : 1 ≤ n ∧ n ≤ 4) (hs : n ≤ s.length) (hK : K (.int .i64 (iV s n)) w) : ai Tu [.string (bs s), .int .i64 n] w K := by
  refine c254 ?_
  unfold UB Ed Ec
  cases s with
  | nil => simp at hs; omega
  | cons b t =>
    have ix : dG (.string (bs (b :: t))) (.int .i64 0) = some (.int .u8 b.toNat) := mZ (l := b :: t) (i := 0) (j := .i64) (by simp)
    have hb := b.toNat_lt
    have r32 : gI (.int .i64 (b.toNat : Int)) (.int .i64 32) = some (.int .i64 ((b.toNat % 32 : Nat))) := J3 .i64 _ 32 (by omega)
    have r16 : gI (.int .i64 (b.toNat : Int)) (.int .i64 16) = some (.int .i64 ((b.toNat % 16 : Nat))) := J3 .i64 _ 16 (by omega)
    have r8 : gI (.int .i64 (b.toNat : Int)) (.int .i64 8) = some (.int .i64 ((b.toNat % 8 : Nat))) := J3 .i64 _ 8 (by omega)
    have go : ∀ c : Nat, c < 256 → n ≠ 1 → K (.int .i64 (Nh c (t.take (n - 1)))) w → vz (.string (bs (b :: t))) (.int .i64 n) (.int .i64 c) w K := by
      intro c hc h1 hk
      unfold vz Eb zP
      exact Hu hs hn.2 (n - 1) 1 c (fuel - 1) (by omega) (Nat.le_trans (show n - 1 ≤ 4 by omega) (by decide)) (by omega) (by simpa using hk)
    simp only [ix, ak, JD _ (show b.toNat < 9223372036854775808 by omega), iY, r32, r16, r8]
    unfold iV at hK
    simp only at hK
    by_cases h1 : n = 1
    · rw [if_pos h1] at hK
      have e1 : decide ((n : Int) = 1) = true := by rw [h1]; rfl
      simp only [e1, aR]
      exact hK
    · rw [if_neg h1] at hK
      have e1 : decide ((n : Int) = 1) = false := by rw [decide_eq_false_iff_not]; omega
      simp only [e1, aL]
      by_cases h2 : n = 2
      · rw [if_pos h2] at hK
        have e2 : decide ((n : Int) = 2) = true := by simp; omega
        simp only [e2, aR]
        exact go _ (by omega) h1 hK
      · rw [if_neg h2] at hK
        have e2 : decide ((n : Int) = 2) = false := by rw [decide_eq_false_iff_not]; omega
        simp only [e2, aL]
        by_cases h3 : n = 3
        · rw [if_pos h3] at hK
          have e3 : decide ((n : Int) = 3) = true := by simp; omega
          simp only [e3, aR]
          exact go _ (by omega) h1 hK
        · rw [if_neg h3] at hK
          have e3 : decide ((n : Int) = 3) = false := by rw [decide_eq_false_iff_not]; omega
          simp only [e3, aL]
          exact go _ (by omega) h1 hK
theorem sZ {l : List UInt8} {parts : List (Nat × Value)} {n : Nat} {k : Value → World → Prop} (h : Sat w0 L w) (hb : dx Tryz.prog 5 n parts = some (lh l).toArray) (hn : l.length = n) (h0 : 0 < n) (hK : ∀ sv w', Sat w0 L w' → gF sv w' = some (.string (bs l)) → k sv w') : aB Tryz.prog 181 n parts w k := by
  refine gy (es := 1) h N9 hb (by simp [hn]) fun s w' h' => hK s w' h'.drop ?_
  have := h'.rd
  exact p8 this h0
theorem d65 {c : Nat} (h : c < 65536) : decide ((c : Int) < 65536) = true := by simp; omega
theorem n65 {c : Nat} (h : ¬ c < 65536) : decide ((c : Int) < 65536) = false := by simp; omega
theorem d128 {c : Nat} (h : c < 128) : decide ((c : Int) < 128) = true := by simp; omega
theorem n128 {c : Nat} (h : ¬ c < 128) : decide ((c : Int) < 128) = false := by simp; omega
theorem d2048 {c : Nat} (h : c < 2048) : decide ((c : Int) < 2048) = true := by simp; omega
theorem ZV {c : Nat} (h : ¬ c < 2048) : decide ((c : Int) < 2048) = false := by simp; omega
theorem made_a {c : Nat} (h1 : c < 128) (h : Sat w0 L w) (hK : ∀ w', Sat w0 L w' → K (.string (bs (kX c))) w') : ai DV [.int .i64 c] w K := by
  refine Ya ?_
  unfold Mq
  simp only [bG, ak, d128 h1, aR, U5]
  rw [GV h1] at hK
  exact sZ (l := [_]) h (by kernel_rfl) rfl (by omega) fun sv w1 h1 hb => by rw [hb]; exact hK _ h1
theorem made_b {c : Nat} (h1 : ¬ c < 128) (h2 : c < 2048) (h : Sat w0 L w) (hK : ∀ w', Sat w0 L w' → K (.string (bs (kX c))) w') : ai DV [.int .i64 c] w K := by
  have q64 : iM (.int .i64 (c : Int)) (.int .i64 64) = some (.int .i64 ((c / 64 : Nat))) := Ox _ 64 (by omega) (by omega)
  have r64 : ∀ n : Nat, gI (.int .i64 (n : Int)) (.int .i64 64) = some (.int .i64 ((n % 64 : Nat))) := fun n => J3 .i64 _ 64 (by omega)
  have a192 : ∀ n : Nat, n < 16777216 → bH (.int .i64 192) (.int .i64 (n : Int)) = some (.int .i64 ((192 + n : Nat))) := fun n hn => addN (a := 192) (by omega)
  have a128 : ∀ n : Nat, n < 16777216 → bH (.int .i64 128) (.int .i64 (n : Int)) = some (.int .i64 ((128 + n : Nat))) := fun n hn => addN (a := 128) (by omega)
  refine Ya ?_
  unfold Mq
  simp only [bG, ak, n128 h1, d2048 h2, aR, aL, q64, r64, a192 (c / 64) (by omega), a128 (c % 64) (by omega), U5]
  rw [GU h1 h2] at hK
  exact sZ (l := [_, _]) h (by kernel_rfl) rfl (by omega) fun sv w1 h1 hb => by rw [hb]; exact hK _ h1
theorem made_c {c : Nat} (h1 : ¬ c < 128) (h2 : ¬ c < 2048) (h3 : c < 65536) (h : Sat w0 L w) (hK : ∀ w', Sat w0 L w' → K (.string (bs (kX c))) w') : ai DV [.int .i64 c] w K := by
  have q64 : iM (.int .i64 (c : Int)) (.int .i64 64) = some (.int .i64 ((c / 64 : Nat))) := Ox _ 64 (by omega) (by omega)
  have q4096 : iM (.int .i64 (c : Int)) (.int .i64 4096) = some (.int .i64 ((c / 4096 : Nat))) := Ox _ 4096 (by omega) (by omega)
  have r64 : ∀ n : Nat, gI (.int .i64 (n : Int)) (.int .i64 64) = some (.int .i64 ((n % 64 : Nat))) := fun n => J3 .i64 _ 64 (by omega)
  have a128 : ∀ n : Nat, n < 16777216 → bH (.int .i64 128) (.int .i64 (n : Int)) = some (.int .i64 ((128 + n : Nat))) := fun n hn => addN (a := 128) (by omega)
  have a224 : ∀ n : Nat, n < 16777216 → bH (.int .i64 224) (.int .i64 (n : Int)) = some (.int .i64 ((224 + n : Nat))) := fun n hn => addN (a := 224) (by omega)
  refine Ya ?_
  unfold Mq
  simp only [bG, ak, n128 h1, ZV h2, d65 h3, aR, aL, q64, q4096, r64, a224 (c / 4096) (by omega), a128 (c / 64 % 64) (by omega), a128 (c % 64) (by omega), U5]
  rw [Re h1 h2 h3] at hK
  exact sZ (l := [_, _, _]) h (by kernel_rfl) rfl (by omega) fun sv w1 h1 hb => by rw [hb]; exact hK _ h1
theorem made_d {c : Nat} (hc : c < 16777216) (h1 : ¬ c < 128) (h2 : ¬ c < 2048) (h3 : ¬ c < 65536) (h : Sat w0 L w) (hK : ∀ w', Sat w0 L w' → K (.string (bs (kX c))) w') : ai DV [.int .i64 c] w K := by
  have q64 : iM (.int .i64 (c : Int)) (.int .i64 64) = some (.int .i64 ((c / 64 : Nat))) := Ox _ 64 (by omega) (by omega)
  have q4096 : iM (.int .i64 (c : Int)) (.int .i64 4096) = some (.int .i64 ((c / 4096 : Nat))) := Ox _ 4096 (by omega) (by omega)
  have q26 : iM (.int .i64 (c : Int)) (.int .i64 262144) = some (.int .i64 ((c / 262144 : Nat))) := Ox _ 262144 (by omega) (by omega)
  have r64 : ∀ n : Nat, gI (.int .i64 (n : Int)) (.int .i64 64) = some (.int .i64 ((n % 64 : Nat))) := fun n => J3 .i64 _ 64 (by omega)
  have a128 : ∀ n : Nat, n < 16777216 → bH (.int .i64 128) (.int .i64 (n : Int)) = some (.int .i64 ((128 + n : Nat))) := fun n hn => addN (a := 128) (by omega)
  have a240 : ∀ n : Nat, n < 16777216 → bH (.int .i64 240) (.int .i64 (n : Int)) = some (.int .i64 ((240 + n : Nat))) := fun n hn => addN (a := 240) (by omega)
  refine Ya ?_
  unfold Mq
  simp only [bG, ak, n128 h1, ZV h2, n65 h3, aL, q64, q4096, q26, r64, a240 (c / 262144) (by omega), a128 (c / 4096 % 64) (by omega), a128 (c / 64 % 64) (by omega), a128 (c % 64) (by omega), U5]
  rw [ZW h1 h2 h3] at hK
  exact sZ (l := [_, _, _, _]) h (by kernel_rfl) rfl (by omega) fun sv w1 h1 hb => by rw [hb]; exact hK _ h1
theorem OT {c : Nat} (hc : c < 16777216) (h : Sat w0 L w) (hK : ∀ w', Sat w0 L w' → K (.string (bs (kX c))) w') : ai DV [.int .i64 c] w K := by
  by_cases h1 : c < 128
  · exact made_a h1 h hK
  · by_cases h2 : c < 2048
    · exact made_b h1 h2 h hK
    · by_cases h3 : c < 65536
      · exact made_c h1 h2 h3 h hK
      · exact made_d hc h1 h2 h3 h hK
end
end Go.Proofs.Gong

/- Nm3 -/
namespace Go.Proofs.Gong
open Go Go.Sx Go.Proofs
set_option maxRecDepth 100000
def Vr (o : Option (Nat × Nat)) : Value := match o with
  | some x => .tuple #[.int .i64 x.1, .int .i64 x.2, .int .i64 0]
  | none => Sr
theorem isC_lt {c : Nat} (h : isC c = true) : c < 16777216 := by rw [ni] at h; omega
section
variable {w0 w : World} {L : List HP} {K : Value → World → Prop}
theorem Sc {s : List UInt8} : ∀ (k n m : Nat) (w : World), k + n = 5 → 1 ≤ n → k ≤ m → Sat w0 L w → (∀ w', Sat w0 L w' → K (Vr (nV s k n)) w') → jA (m + 1) (.string (bs s)) (.int .i64 n) w K := by
  intro k
  induction k with
  | zero =>
    intro n m w hk h1 hm hs hK
    rw [jA]; unfold xB rF xA
    have e : decide ((n : Int) ≤ 4) = false := by simp; omega
    simp only [gZ, e, ak, bC, aP, aF, aC, aL]
    exact hK _ hs
  | succ k ih =>
    intro n m w hk h1 hm hs hK
    obtain ⟨m, rfl⟩ : ∃ j, m = j + 1 := ⟨m - 1, by omega⟩
    rw [jA]; unfold xB
    have e : decide ((n : Int) ≤ 4) = true := by simp; omega
    by_cases hl : n ≤ s.length
    · have e2 : decide ((n : Int) ≤ (s.length : Int)) = true := by simp; omega
      simp only [gZ, e, e2, ak, bC, aQ, aH, iw, fM, aI, aR]
      refine Kw ⟨h1, by omega⟩ hl ?_
      refine Sb ?_
      rw [kz hl] at hK
      have hs' := hs.drew
      have next : lY s n = false → ∀ w2, Sat w0 L w2 → aa (bH (.int .i64 (n : Int)) (.int .i64 1)) (fun v19 => jA (m + 1) (.string (bs s)) v19 w2 K) := by
        intro hh w2 h2
        rw [if_neg (by rw [hh]; decide)] at hK
        rw [Gy (by omega)]
        simp only [ak]
        exact ih (n + 1) m w2 (by omega) (by omega) (by omega) h2 hK
      by_cases hi : isC (iV s n) = true
      · simp only [hi, bC, aQ, aH, bf]
        have e3 : di (.string (bs s)) none (some (.int .i64 (n : Int))) = _ := Qi hl
        rw [e3]
        simp only [ak]
        refine OT (isC_lt hi) hs' fun w3 h3 => ?_
        simp only [eB, bW, cz, ak, aI]
        by_cases hm2 : kX (iV s n) = s.take n
        · have hh : lY s n = true := by simp [lY, hi, hm2]
          rw [if_pos hh] at hK
          simp only [hm2, decide_true, aR]
          exact hK _ h3
        · have hh : lY s n = false := by simp [lY, hm2]
          simp only [hm2, decide_false, aL]
          exact next hh _ h3
      · have hi' : isC (iV s n) = false := by simpa using hi
        have hh : lY s n = false := by simp [lY, hi']
        simp only [hi', bC, aP, aF, aT, ak, aC, aL]
        exact next hh _ hs'
    · have e2 : decide ((n : Int) ≤ (s.length : Int)) = false := by simp; omega
      simp only [gZ, e, e2, ak, bC, aQ, aH, iw, fM, aI, aL]
      unfold rF xA
      rw [iP (by omega)] at hK
      exact hK _ hs
theorem Ih {s : List UInt8} (h : Sat w0 L w) (hK : ∀ w', Sat w0 L w' → K (Vr (jv s)) w') : ai TD [.string (bs s)] w K := by
  refine c208 ?_
  unfold UJ EF EE zY
  rw [← J5] at hK
  exact Sc 4 1 (fuel - 1) w (by omega) (by omega) (by decide) h hK
def iF : Nat → List UInt8 → Option (List Int)
  | _, [] => some []
  | 0, _ :: _ => none
  | k + 1, b :: s => match jv (b :: s) with
    | none => none
    | some x => (iF k ((b :: s).drop x.2)).map ((x.1 : Int) :: ·)
def zq (s : List UInt8) : Option (List Int) := iF s.length s
theorem qZ {s : List UInt8} {c n : Nat} (h : jv s = some (c, n)) : 1 ≤ n ∧ n ≤ s.length := by
  cases s with
  | nil => simp [jv] at h
  | cons b s =>
    unfold jv at h
    simp only at h
    split at h
    · cases h
    · rename_i hn
      split at h
      · cases h
      · split at h
        · simp only [Option.some.injEq, Prod.mk.injEq] at h
          simp only [List.length_cons]
          omega
        · cases h
theorem MW {c : Int} {v : Value} {l : List Int} (h : Sat w0 (LsH cI 1 3 v l :: L) w) (hl : l.length < 1073741824) (hK : ∀ v' w', Sat w0 (LsH cI 1 3 v' (l ++ [c]) :: L) w' → K v' w') :
    aB Tryz.prog 23 1 [(0, .int .i64 c)] w fun v9 w8 => aJ Tryz.prog 23 23 v v9 w8 K := by
  have hb : dx Tryz.prog 3 1 [(0, .int .i64 c)] = some #[.int .i64 c] := by kernel_rfl
  refine iD (m := [c]) CI h u23 hb rfl fun sv w1 h1 => ?_
  exact fI (m := [c]) CI h1.f1 sl23 ss23 (dw h1) (by simp; omega) fun s' w' h' => hK s' w' (h'.f1.drop)
theorem SC : ∀ (k m : Nat) (s : List UInt8) (l : List Int) (v : Value) (w : World), s.length ≤ k → k ≤ m → l.length + s.length < 1073741824 → Sat w0 (LsH cI 1 3 v l :: L) w →
    (∀ w', Sat w0 L w' → iF k s = none → K (.tuple #[.slice none 0 0, .int .i64 40]) w') → (∀ v' r w', iF k s = some r → Sat w0 (LsH cI 1 3 v' (l ++ r) :: L) w' → K (.tuple #[v', .int .i64 0]) w') →
    jZ (m + 1) (.string (bs s)) v w K := by
  intro k
  induction k with
  | zero =>
    intro m s l v w hs hm hl h hN hK
    obtain rfl : s = [] := List.length_eq_zero_iff.1 (by omega)
    rw [jZ]; unfold xK rH xJ
    rw [yP]
    simp only [cK, bW, decide_true, Bool.not_true, ak, aL]
    exact hK v [] w rfl (by simpa using h)
  | succ k ih =>
    intro m s l v w hs hm hl h hN hK
    obtain ⟨m, rfl⟩ : ∃ j, m = j + 1 := ⟨m - 1, by omega⟩
    rw [jZ]; unfold xK
    rw [yP]
    cases s with
    | nil =>
      unfold rH xJ
      simp only [cK, bW, decide_true, Bool.not_true, ak, aL]
      exact hK v [] w rfl (by simpa using h)
    | cons b s =>
      have e : (!decide (bs (b :: s) = bs [])) = true := by simp
      simp only [cK, bW, e, ak, aR]
      refine Ig ?_
      unfold KH
      cases hf : jv (b :: s) with
      | none =>
        have e1 : (!decide ((40 : Int) = 0)) = true := by decide
        simp only [Sr, aK, List.getElem?_toArray, List.getElem?_cons_zero, List.getElem?_cons_succ, ak, dh, e1, aR]
        exact hN w h.drop (by simp [iF, hf])
      | some x =>
        obtain ⟨g1, g2⟩ := qZ (c := x.1) (n := x.2) hf
        simp only [aK, List.getElem?_toArray, List.getElem?_cons_zero, List.getElem?_cons_succ, ak, dh, decide_true, Bool.not_true, aL]
        refine MW h (by omega) fun v' w' h' => ?_
        rw [nS g2]
        simp only [ak]
        refine ih m ((b :: s).drop x.2) (l ++ [(x.1 : Int)]) v' w' (by simp at hs ⊢; omega) (by omega) (by simp at hl ⊢; omega) h' (fun w2 h2 hn => hN w2 h2 (by simp [iF, hf, hn])) fun v2 r w2 hr h2 => ?_
        refine hK v2 ((x.1 : Int) :: r) w2 (by simp [iF, hf, hr]) ?_
        simpa using h2
theorem KY {s : List UInt8} (hs : s.length < 1073741824) (h : Sat w0 L w) (hN : ∀ w', Sat w0 L w' → zq s = none → K (.tuple #[.slice none 0 0, .int .i64 40]) w')
    (hK : ∀ v' r w', zq s = some r → Sat w0 (LsH cI 1 3 v' r :: L) w' → K (.tuple #[v', .int .i64 0]) w') : ai TR [.string (bs s)] w K := by
  refine c160 ?_
  unfold UT E9 E8 Ah
  exact SC s.length (fuel - 1) s [] _ w (Nat.le_refl _) (Nat.le_trans (show s.length ≤ 1073741824 by omega) (by decide)) (by simpa using hs) (yQ h) hN fun v' r w' hr h' => hK v' r w' hr (by simpa using h')
theorem Ps {s : List UInt8} (hsl : s.length < 1073741824) : ∀ (k m a : Nat) (l : List Int) (v : Value) (w : World), a ≤ s.length → (s.drop a).length ≤ k → k ≤ m → l.length + (s.drop a).length < 1073741824 → Sat w0 (LsH cI 1 3 v l :: L) w →
    (∀ w', Sat w0 L w' → iF k (s.drop a) = none → K (.tuple #[.slice none 0 0, .int .i64 40]) w') → (∀ v' r w', iF k (s.drop a) = some r → Sat w0 (LsH cI 1 3 v' (l ++ r) :: L) w' → K (.tuple #[v', .int .i64 0]) w') →
    kg (m + 1) (.string (bs s)) v (.int .i64 a) w K := by
  intro k
  induction k with
  | zero =>
    intro m a l v w ha hs hm hl h hN hK
    rw [kg]; unfold xM rJ xL
    have hal : a = s.length := by simp at hs; omega
    have e : decide ((a : Int) < (s.length : Int)) = false := by simp; omega
    simp only [iw, fM, bG, e, ak, aL]
    exact hK v [] w (by rw [List.drop_of_length_le (by omega)]; rfl) (by simpa using h)
  | succ k ih =>
    intro m a l v w ha hs hm hl h hN hK
    obtain ⟨m, rfl⟩ : ∃ j, m = j + 1 := ⟨m - 1, by omega⟩
    rw [kg]; unfold xM
    by_cases hal : a = s.length
    · unfold rJ xL
      have e : decide ((a : Int) < (s.length : Int)) = false := by simp; omega
      simp only [iw, fM, bG, e, ak, aL]
      exact hK v [] w (by rw [List.drop_of_length_le (by omega)]; rfl) (by simpa using h)
    · have e : decide ((a : Int) < (s.length : Int)) = true := by simp; omega
      simp only [iw, fM, bG, e, ak, aR, nS ha]
      have hdl : (s.drop a).length = s.length - a := by simp
      generalize hd : s.drop a = t at *
      refine Ih h fun w1 h1 => ?_
      cases t with
      | nil => simp at hdl; omega
      | cons b t =>
      cases hf : jv (b :: t) with
      | none =>
        have e1 : (!decide ((40 : Int) = 0)) = true := by decide
        simp only [Vr, Sr, aK, List.getElem?_toArray, List.getElem?_cons_zero, List.getElem?_cons_succ, ak, dh, e1, aR]
        exact hN w1 h1.drop (by simp [iF, hf])
      | some x =>
        obtain ⟨g1, g2⟩ := qZ (c := x.1) (n := x.2) hf
        simp only [Vr, aK, List.getElem?_toArray, List.getElem?_cons_zero, List.getElem?_cons_succ, ak, dh, decide_true, Bool.not_true, aL]
        refine MW h1 (by omega) fun v' w' h' => ?_
        have ea : bH (.int .i64 (a : Int)) (.int .i64 (x.2 : Int)) = some (.int .i64 ((a + x.2 : Nat))) := addN (by omega)
        rw [ea]
        simp only [ak]
        have hd2 : s.drop (a + x.2) = (b :: t).drop x.2 := by rw [← List.drop_drop, hd]
        refine ih m (a + x.2) (l ++ [(x.1 : Int)]) v' w' (by omega) (by rw [hd2]; simp at hs ⊢; omega) (by omega) (by rw [hd2]; simp at hl ⊢; omega) h' (fun w2 h2 hn => hN w2 h2 (by rw [hd2] at hn; simp [iF, hf, hn])) fun v2 r w2 hr h2 => ?_
        refine hK v2 ((x.1 : Int) :: r) w2 (by rw [hd2] at hr; simp [iF, hf, hr]) ?_
        simpa using h2
theorem Ii {s : List UInt8} (hs : s.length < 1073741824) (h : Sat w0 L w) (hN : ∀ w', Sat w0 L w' → zq s = none → K (.tuple #[.slice none 0 0, .int .i64 40]) w')
    (hK : ∀ v' r w', zq s = some r → Sat w0 (LsH cI 1 3 v' r :: L) w' → K (.tuple #[v', .int .i64 0]) w') : ai TS [.string (bs s)] w K := by
  refine c159 ?_
  unfold UU Fb Fa Ai
  exact Ps hs s.length (fuel - 1) 0 [] _ w (by omega) (by simp) (Nat.le_trans (show s.length ≤ 1073741824 by omega) (by decide)) (by simpa using hs) (yQ h) hN fun v' r w' hr h' => hK v' r w' hr (by simpa using h')
end
end Go.Proofs.Gong

/- Nm4 -/
namespace Go.Proofs.Gong
open Go Go.Sx Go.Proofs
set_option maxRecDepth 100000
def lg (c : Int) : Bool := decide (c < 32) || decide (c = 127)
def dR (s : List UInt8) (most : Nat) : Bool := match zq s with
  | none => false
  | some l => !(l.any lg) && decide (s.length ≤ most)
section
variable {w0 w : World} {L : List HP} {K : Value → World → Prop}
theorem Sz {c : Int} (hK : K (.bool (lg c)) w) : ai TM [.int .i64 c] w K := by
  refine c162 ?_
  unfold YY
  unfold lg at hK
  by_cases h : c < 32
  · simp [h] at hK ⊢; exact hK
  · simp [h] at hK ⊢; exact hK
def fnV : Value := .func (.func 162) #[] #[]
theorem Rw {l : List Int} {v : Value} (h : Rd w 1 v l.length (l.flatMap cI)) (hl : l.length ≤ 1073741824) : ∀ (k i m : Nat), k + i = l.length → k ≤ m → (∀ j : Int, (decide (j ≥ 0) = (l.drop i).any lg) → K (.int .i64 j) w) →
    jS (m + 1) v fnV (.int .i64 l.length) (.int .i64 i) w K := by
  intro k
  induction k with
  | zero =>
    intro i m hk hm hK
    rw [jS]; unfold xy vD Ey
    obtain rfl : i = l.length := by omega
    rw [bG]
    simp only [ak, Int.lt_irrefl, decide_false, aL]
    exact hK (-1) (by simp)
  | succ k ih =>
    intro i m hk hm hK
    obtain ⟨m, rfl⟩ : ∃ j, m = j + 1 := ⟨m - 1, by omega⟩
    rw [jS]; unfold xy
    have hi : i < l.length := by omega
    have e : bLt (.int .i64 (i : Int)) (.int .i64 l.length) = some (.bool true) := by simp; omega
    have e1 := fV h hi
    have e2 := fG (g := fun c : Int => Value.int .i64 c) h hi
    have hdr : l.drop i = l[i] :: l.drop (i + 1) := List.drop_eq_getElem_cons hi
    rw [hdr, List.any_cons] at hK
    rw [e]
    simp only [ak, aR, e1, e2]
    generalize l[i] = c at hK
    have call : ∀ k : Value → World → Prop, ai TM [.int .i64 c] w k → gP (au Bh) fnV [.int .i64 c] w k := by
      intro k h
      show ai (au Bh 162) _ _ _
      exact h
    refine call _ (Sz ?_)
    by_cases hc : lg c = true
    · simp only [hc, aR]
      exact hK i (by simp [hc])
    · have hc' : lg c = false := by simpa using hc
      simp only [hc', aL, Gy (show i + 1 < 9223372036854775808 by omega), ak]
      exact ih (i + 1) m (by omega) (by omega) fun j hj => hK j (by rw [hj, hc']; simp)
theorem qA {l : List Int} {v : Value} (h : Rd w 1 v l.length (l.flatMap cI)) (hl : l.length ≤ 1073741824) (hK : K (.bool (l.any lg)) w) : ai TQ [v, fnV] w K := by
  refine c161 ?_
  unfold YZ
  refine c210 ?_
  unfold UH EA Ez
  rw [h.len]
  simp only [ak]
  unfold zW
  refine Rw h hl l.length 0 (fuel - 1) (by omega) (Nat.le_trans hl (by decide)) fun j hj => ?_
  simp only [lK, ak]
  rw [hj, List.drop_zero]
  exact hK
theorem q9 : ∀ (k : Nat) (s : List UInt8) (r : List Int), iF k s = some r → r.length ≤ s.length
  | _, [], r, h => by
    have : some r = some [] := by rw [← h]; cases ‹Nat› <;> rfl
    simp at this; subst this; simp
  | 0, _ :: _, r, h => by simp [iF] at h
  | k + 1, b :: s, r, h => by
    unfold iF at h
    split at h
    · cases h
    · rename_i x hf
      obtain ⟨g1, g2⟩ := qZ (c := x.1) (n := x.2) hf
      simp only [Option.map_eq_some_iff] at h
      obtain ⟨r', h1, rfl⟩ := h
      have := q9 k _ r' h1
      simp at this ⊢
      simp at g2
      omega
theorem mU {s : List UInt8} {most : Nat} (hs : s.length < 1073741824) (h : Sat w0 L w) (hK : ∀ w', Sat w0 L w' → K (.bool (dR s most)) w') : ai IZ [.string (bs s), .int .i64 most] w K := by
  refine c112 ?_
  unfold Zj
  unfold dR at hK
  refine KY hs h (fun w1 h1 hn => ?_) fun v r w1 hr h1 => ?_
  · rw [hn] at hK
    simp only [aK, List.getElem?_toArray, List.getElem?_cons_zero, List.getElem?_cons_succ, ak]
    refine qA (l := []) (.emp _ _) (by simp) ?_
    have e : decide ((40 : Int) = 0) = false := by decide
    simp only [iY, e, ak, bC, aP, aF, aC]
    exact hK _ h1
  · rw [hr] at hK
    have hl := q9 _ _ _ hr
    simp only [aK, List.getElem?_toArray, List.getElem?_cons_zero, List.getElem?_cons_succ, ak]
    refine qA (dw h1) (by omega) ?_
    have hk := hK _ h1.drop
    simp only at hk
    by_cases hc : r.any lg = true
    · simp only [hc, Bool.not_true, Bool.false_and] at hk
      simp only [iY, decide_true, ak, bC, aQ, aH, hc, bg, Bool.not_true, aI, aP, aF, aC]
      exact hk
    · have hc' : r.any lg = false := by simpa using hc
      simp only [hc', Bool.not_false, Bool.true_and] at hk
      have e : decide ((s.length : Int) ≤ (most : Int)) = decide (s.length ≤ most) := by rw [decide_eq_decide]; omega
      simp only [iY, decide_true, ak, bC, aQ, aH, hc', bg, Bool.not_false, aI, iw, fM, gZ, e]
      exact hk
theorem RY {s : List UInt8} {most : Nat} {l : List Int} {v : Value} (h : Rd w 1 v l.length (l.flatMap cI)) (hl : l.length ≤ 1073741824) (hK : K (.bool (!(l.any lg) && decide (s.length ≤ most))) w) : ∀ (k i m : Nat), k + i = l.length → k ≤ m → (l.take i).any lg = false →
    ja (m + 1) (.string (bs s)) (.int .i64 most) v (.int .i64 0) (.int .i64 i) w K := by
  intro k
  have e0 : decide ((s.length : Int) ≤ (most : Int)) = decide (s.length ≤ most) := by rw [decide_eq_decide]; omega
  induction k with
  | zero =>
    intro i m hk hm hi
    rw [ja]; unfold uu rM xU
    obtain rfl : i = l.length := by omega
    rw [List.take_length] at hi
    rw [hi] at hK
    rw [h.len]
    simp only [bG, ak, Int.lt_irrefl, decide_false, aL, iY, decide_true, bC, aQ, aH, iw, fM, gZ, e0, aI]
    simpa using hK
  | succ k ih =>
    intro i m hk hm hi0
    obtain ⟨m, rfl⟩ : ∃ j, m = j + 1 := ⟨m - 1, by omega⟩
    rw [ja]; unfold uu
    have hi : i < l.length := by omega
    have e : bLt (.int .i64 (i : Int)) (.int .i64 l.length) = some (.bool true) := by simp; omega
    have e1 := fV h hi
    have e2 := fG (g := fun c : Int => Value.int .i64 c) h hi
    rw [h.len]
    simp only [ak, e, aR, e1, e2]
    have htk : (l.take (i + 1)).any lg = lg l[i] := by
      rw [List.take_succ_eq_append_getElem hi, List.any_append, hi0]; simp
    have hany : lg l[i] = true → l.any lg = true := fun h => List.any_eq_true.2 ⟨l[i], List.getElem_mem hi, h⟩
    generalize l[i] = c at htk hany e2 ⊢
    unfold lg at htk hany
    have out : lg c = true → K (.bool false) w := by
      intro hc
      have := hany hc
      rw [show (fun c => decide (c < 32) || decide (c = 127)) = lg from rfl] at this
      rw [this] at hK
      simpa using hK
    have step : lg c = false → aa (bH (.int .i64 (i : Int)) (.int .i64 1)) (fun v18 => ja (m + 1) (.string (bs s)) (.int .i64 most) v (.int .i64 0) v18 w K) := by
      intro hc
      rw [Gy (by omega)]
      simp only [ak]
      refine ih (i + 1) m (by omega) (by omega) ?_
      rw [show lg = (fun c => decide (c < 32) || decide (c = 127)) from rfl] at hc ⊢
      rw [htk]; exact hc
    by_cases h1 : c < 32
    · simp only [bG, h1, decide_true, ak, aZ, Bool.not_true, aP, aF, aI, aR]
      exact out (by simp [lg, h1])
    · simp only [bG, h1, decide_false, ak, aZ, Bool.not_false, aQ, aH, e1, e2, iY, aC]
      by_cases h2 : c = 127
      · simp only [h2, decide_true, aR]
        exact out (by simp [lg, h2])
      · simp only [h2, decide_false, aL]
        exact step (by simp [lg, h1, h2])
theorem lI {s : List UInt8} {most : Nat} (hs : s.length < 1073741824) (h : Sat w0 L w) (hK : ∀ w', Sat w0 L w' → K (.bool (dR s most)) w') : ai I1 [.string (bs s), .int .i64 most] w K := by
  refine c111 ?_
  unfold U0 FN FM
  unfold dR at hK
  refine Ii hs h (fun w1 h1 hn => ?_) fun v r w1 hr h1 => ?_
  · rw [hn] at hK
    simp only [aK, List.getElem?_toArray, List.getElem?_cons_zero, List.getElem?_cons_succ, ak]
    unfold vR
    obtain ⟨m, hm⟩ : ∃ m, fuel = m + 1 := ⟨fuel - 1, by decide⟩
    rw [hm, ja]
    unfold uu rM xU
    have e : decide ((40 : Int) = 0) = false := by decide
    have e1 : bLt (.int .i64 0) (.int .i64 ((0 : Nat) : Int)) = some (.bool false) := by simp
    simp only [M5, e1, iY, e, ak, aL, bC, aP, aF, aC]
    exact hK _ h1
  · rw [hr] at hK
    have hl := q9 _ _ _ hr
    simp only [aK, List.getElem?_toArray, List.getElem?_cons_zero, List.getElem?_cons_succ, ak]
    unfold vR
    exact RY (dw h1) (by omega) (hK _ h1.drop) r.length 0 (fuel - 1) (by omega) (Nat.le_trans (show r.length ≤ 1073741824 by omega) (by decide)) (by simp)
end
end Go.Proofs.Gong

/- Nm5 -/
namespace Go.Proofs.Gong
open Go Go.Sx Go.Proofs
set_option maxRecDepth 100000
structure Evt where
  node : List UInt8
  cls : List UInt8
  key : List UInt8
  level : Int
  text : List UInt8
  deriving DecidableEq
@[reducible] def cEv (e : Evt) : List Value := [.string (bs e.node), .string (bs e.cls), .string (bs e.key), .int .i64 e.level, .string (bs e.text)]
abbrev evV (e : Evt) : Value := .agg (cEv e).toArray
def Evt.fits (e : Evt) : Prop := e.node.length < 1073741824 ∧ e.cls.length < 1073741824 ∧ e.key.length < 1073741824 ∧ e.text.length < 1073741824
def okE (e : Evt) : Bool := !decide (e.node = []) && !decide (e.cls = []) && dR e.node 64 && dR e.cls 64 && dR e.key 128 && dR e.text 1024 && decide (0 ≤ e.level) && decide (e.level ≤ 5)
def II (e : Evt) : Int := if okE e = true then 0 else 180
section
variable {w0 w : World} {L : List HP} {K : Value → World → Prop} {e : Evt}
theorem wF (he : e.fits) (h : Sat w0 L w) (hK : ∀ w', Sat w0 L w' → K (.int .i64 (II e)) w') : ai G66 [evV e] w K := by
  refine c66 ?_
  unfold F66
  refine gB h fun p w1 h1 => ?_
  have e0 : (evV e).cells = (cEv e).toArray := rfl
  rw [e0] at h1
  have cs : ∀ {w' : World}, Sat w0 (Cl p (cEv e).toArray 46 :: L) w' → ∀ i, w'.cell? ⟨p, i, none⟩ = (cEv e)[i]? := fun h i => by rw [cell_of h.cl, List.getElem?_toArray]
  have k0 : (cEv e)[0]? = some (.string (bs e.node)) := rfl
  have k1 : (cEv e)[1]? = some (.string (bs e.cls)) := rfl
  have k2 : (cEv e)[2]? = some (.string (bs e.key)) := rfl
  have k3 : (cEv e)[3]? = some (.int .i64 e.level) := rfl
  have k4 : (cEv e)[4]? = some (.string (bs e.text)) := rfl
  obtain ⟨f1, f2, f3, f4⟩ := he
  unfold II okE at hK
  rw [yP]
  simp only [ptr, aX, ak, Nat.zero_add, bu, cs h1, k0, k1, cK, bW, cz]
  have bad : ∀ w', Sat w0 (Cl p (cEv e).toArray 46 :: L) w' → okE e = false → K (.int .i64 180) w' := by
    intro w' hs ho
    have := hK _ hs.drop
    unfold okE at ho
    rw [ho] at this
    exact this
  by_cases n1 : e.node = []
  · have ho : okE e = false := by simp [okE, n1]
    simp only [bu, k0, k1, k2, k3, k4, cK, bW, cz, cs h1, n1, decide_true, Bool.not_true, bC, aF, aT, aC, ak, bg, Bool.not_false, aZ, aI, aR]
    exact bad _ h1 ho
  · by_cases n2 : e.cls = []
    · have ho : okE e = false := by simp [okE, n2]
      simp only [bu, k0, k1, k2, k3, k4, cK, bW, cz, cs h1, n1, n2, decide_true, decide_false, Bool.not_true, Bool.not_false, bC, aH, aF, aT, aI, aC, ak, bg, aZ, aR]
      exact bad _ h1 ho
    · simp only [bu, k0, k1, k2, k3, k4, cK, bW, cz, cs h1, n1, n2, decide_false, Bool.not_false, bC, aH, bf, aI, ak]
      refine mU (most := 64) f1 h1 fun w2 h2 => ?_
      by_cases p1 : dR e.node 64 = true
      · simp only [bu, k0, k1, k2, k3, k4, cK, bW, cz, p1, aI, ak, bC, aH, bf, cs h2, k1]
        refine mU (most := 64) f2 h2 fun w3 h3 => ?_
        by_cases p2 : dR e.cls 64 = true
        · simp only [bu, k0, k1, k2, k3, k4, cK, bW, cz, p2, aI, ak, bg, Bool.not_true, aZ, Bool.not_false, aH, bf, cs h3, k2]
          refine mU (most := 128) f3 h3 fun w4 h4 => ?_
          by_cases p3 : dR e.key 128 = true
          · simp only [bu, k0, k1, k2, k3, k4, cK, bW, cz, p3, bg, Bool.not_true, aC, ak, aZ, Bool.not_false, aH, bf, cs h4, k4]
            refine mU (most := 1024) f4 h4 fun w5 h5 => ?_
            by_cases p4 : dR e.text 1024 = true
            · simp only [bu, k0, k1, k2, k3, k4, cK, bW, cz, p4, bg, Bool.not_true, aC, ak, aZ, Bool.not_false, aH, cs h5, k3, bG]
              by_cases l1 : e.level < 0
              · have ho : okE e = false := by
                  have : ¬ (0 ≤ e.level) := by omega
                  simp [okE, this]
                simp only [bu, k0, k1, k2, k3, k4, cK, bW, cz, l1, decide_true, aI, ak, aZ, Bool.not_true, aF, aR]
                exact bad _ h5 ho
              · by_cases l2 : e.level > 5
                · have ho : okE e = false := by
                    have : ¬ (e.level ≤ 5) := by omega
                    simp [okE, this]
                  simp only [bu, k0, k1, k2, k3, k4, cK, bW, cz, cs h5, l1, l2, bU, decide_true, decide_false, aC, ak, aZ, Bool.not_false, aH, aR]
                  exact bad _ h5 ho
                · have hk := hK _ h5.drop
                  have g1 : 0 ≤ e.level := by omega
                  have g2 : e.level ≤ 5 := by omega
                  simp only [n1, n2, p1, p2, p3, p4, g1, g2, decide_true, decide_false, Bool.not_false, Bool.and_self, if_true] at hk
                  simp only [bu, k0, k1, k2, k3, k4, cK, bW, cz, cs h5, l1, l2, bU, decide_false, aC, ak, aZ, Bool.not_false, aH, aL]
                  exact hk
            · have p4' : dR e.text 1024 = false := by simpa using p4
              have ho : okE e = false := by simp [okE, p4']
              simp only [bu, k0, k1, k2, k3, k4, cK, bW, cz, p4', bg, Bool.not_false, aC, aI, ak, aZ, Bool.not_true, aF, aR]
              exact bad _ h5 ho
          · have p3' : dR e.key 128 = false := by simpa using p3
            have ho : okE e = false := by simp [okE, p3']
            simp only [bu, k0, k1, k2, k3, k4, cK, bW, cz, p3', bg, Bool.not_false, aC, aI, ak, aZ, Bool.not_true, aF, aT, aR]
            exact bad _ h4 ho
        · have p2' : dR e.cls 64 = false := by simpa using p2
          have ho : okE e = false := by simp [okE, p2']
          simp only [bu, k0, k1, k2, k3, k4, cK, bW, cz, p2', bg, Bool.not_false, aC, aI, ak, aZ, Bool.not_true, aF, aT, aR]
          exact bad _ h3 ho
      · have p1' : dR e.node 64 = false := by simpa using p1
        have ho : okE e = false := by simp [okE, p1']
        simp only [bu, k0, k1, k2, k3, k4, cK, bW, cz, p1', bC, bg, Bool.not_false, aC, aI, ak, aZ, Bool.not_true, aF, aT, aR]
        exact bad _ h2 ho
theorem su (he : e.fits) (h : Sat w0 L w) (hK : ∀ w', Sat w0 L w' → K (.int .i64 (II e)) w') : ai G61 [evV e] w K := by
  refine c61 ?_
  unfold F61
  refine gB h fun p w1 h1 => ?_
  have e0 : (evV e).cells = (cEv e).toArray := rfl
  rw [e0] at h1
  have cs : ∀ {w' : World}, Sat w0 (Cl p (cEv e).toArray 46 :: L) w' → ∀ i, w'.cell? ⟨p, i, none⟩ = (cEv e)[i]? := fun h i => by rw [cell_of h.cl, List.getElem?_toArray]
  have k0 : (cEv e)[0]? = some (.string (bs e.node)) := rfl
  have k1 : (cEv e)[1]? = some (.string (bs e.cls)) := rfl
  have k2 : (cEv e)[2]? = some (.string (bs e.key)) := rfl
  have k3 : (cEv e)[3]? = some (.int .i64 e.level) := rfl
  have k4 : (cEv e)[4]? = some (.string (bs e.text)) := rfl
  obtain ⟨f1, f2, f3, f4⟩ := he
  unfold II okE at hK
  rw [yP]
  simp only [ptr, aX, ak, Nat.zero_add, bu, cs h1, k0, k1, eB, bW, cz]
  have bad : ∀ w', Sat w0 (Cl p (cEv e).toArray 46 :: L) w' → okE e = false → K (.int .i64 180) w' := by
    intro w' hs ho
    have := hK _ hs.drop
    unfold okE at ho
    rw [ho] at this
    exact this
  by_cases n1 : e.node = []
  · have ho : okE e = false := by simp [okE, n1]
    simp only [cs h1, n1, bu, k0, k1, k2, k3, k4, eB, bW, cz, bP, bg, decide_true, decide_false, Bool.not_true, Bool.not_false, bC, aZ, aH, aF, bf, aT, aQ, aP, aI, aC, ak, aR, aL, bG, bU]
    exact bad _ h1 ho
  · by_cases n2 : e.cls = []
    · have ho : okE e = false := by simp [okE, n2]
      simp only [cs h1, n1, n2, bu, k0, k1, k2, k3, k4, eB, bW, cz, bP, bg, decide_true, decide_false, Bool.not_true, Bool.not_false, bC, aZ, aH, aF, bf, aT, aQ, aP, aI, aC, ak, aR, aL, bG, bU]
      exact bad _ h1 ho
    · simp only [cs h1, n1, n2, bu, k0, k1, k2, k3, k4, eB, bW, cz, bP, bg, decide_true, decide_false, Bool.not_true, Bool.not_false, bC, aZ, aH, aF, bf, aT, aQ, aP, aI, aC, ak, aR, aL, bG, bU]
      refine lI (most := 64) f1 h1 fun w2 h2 => ?_
      by_cases p1 : dR e.node 64 = true
      · simp only [p1, cs h2, bu, k0, k1, k2, k3, k4, eB, bW, cz, bP, bg, decide_true, decide_false, Bool.not_true, Bool.not_false, bC, aZ, aH, aF, bf, aT, aQ, aP, aI, aC, ak, aR, aL, bG, bU]
        refine lI (most := 64) f2 h2 fun w3 h3 => ?_
        by_cases p2 : dR e.cls 64 = true
        · simp only [p2, cs h3, bu, k0, k1, k2, k3, k4, eB, bW, cz, bP, bg, decide_true, decide_false, Bool.not_true, Bool.not_false, bC, aZ, aH, aF, bf, aT, aQ, aP, aI, aC, ak, aR, aL, bG, bU]
          refine lI (most := 128) f3 h3 fun w4 h4 => ?_
          by_cases p3 : dR e.key 128 = true
          · simp only [p3, cs h4, bu, k0, k1, k2, k3, k4, eB, bW, cz, bP, bg, decide_true, decide_false, Bool.not_true, Bool.not_false, bC, aZ, aH, aF, bf, aT, aQ, aP, aI, aC, ak, aR, aL, bG, bU]
            refine lI (most := 1024) f4 h4 fun w5 h5 => ?_
            by_cases p4 : dR e.text 1024 = true
            · simp only [p4, cs h5, bu, k0, k1, k2, k3, k4, eB, bW, cz, bP, bg, decide_true, decide_false, Bool.not_true, Bool.not_false, bC, aZ, aH, aF, bf, aT, aQ, aP, aI, aC, ak, aR, aL, bG, bU]
              by_cases l1 : e.level < 0
              · have ho : okE e = false := by
                  have : ¬ (0 ≤ e.level) := by omega
                  simp [okE, this]
                simp only [l1, cs h5, bu, k0, k1, k2, k3, k4, eB, bW, cz, bP, bg, decide_true, decide_false, Bool.not_true, Bool.not_false, bC, aZ, aH, aF, bf, aT, aQ, aP, aI, aC, ak, aR, aL, bG, bU]
                exact bad _ h5 ho
              · by_cases l2 : e.level > 5
                · have ho : okE e = false := by
                    have : ¬ (e.level ≤ 5) := by omega
                    simp [okE, this]
                  simp only [l1, l2, cs h5, bu, k0, k1, k2, k3, k4, eB, bW, cz, bP, bg, decide_true, decide_false, Bool.not_true, Bool.not_false, bC, aZ, aH, aF, bf, aT, aQ, aP, aI, aC, ak, aR, aL, bG, bU]
                  exact bad _ h5 ho
                · have hk := hK _ h5.drop
                  have g1 : 0 ≤ e.level := by omega
                  have g2 : e.level ≤ 5 := by omega
                  simp only [n1, n2, p1, p2, p3, p4, g1, g2, decide_true, decide_false, Bool.not_false, Bool.and_self, if_true] at hk
                  simp only [l1, l2, cs h5, bu, k0, k1, k2, k3, k4, eB, bW, cz, bP, bg, decide_true, decide_false, Bool.not_true, Bool.not_false, bC, aZ, aH, aF, bf, aT, aQ, aP, aI, aC, ak, aR, aL, bG, bU]
                  exact hk
            · have p4' : dR e.text 1024 = false := by simpa using p4
              have ho : okE e = false := by simp [okE, p4']
              simp only [p4', cs h5, bu, k0, k1, k2, k3, k4, eB, bW, cz, bP, bg, decide_true, decide_false, Bool.not_true, Bool.not_false, bC, aZ, aH, aF, bf, aT, aQ, aP, aI, aC, ak, aR, aL, bG, bU]
              exact bad _ h5 ho
          · have p3' : dR e.key 128 = false := by simpa using p3
            have ho : okE e = false := by simp [okE, p3']
            simp only [p3', cs h4, bu, k0, k1, k2, k3, k4, eB, bW, cz, bP, bg, decide_true, decide_false, Bool.not_true, Bool.not_false, bC, aZ, aH, aF, bf, aT, aQ, aP, aI, aC, ak, aR, aL, bG, bU]
            exact bad _ h4 ho
        · have p2' : dR e.cls 64 = false := by simpa using p2
          have ho : okE e = false := by simp [okE, p2']
          simp only [p2', cs h3, bu, k0, k1, k2, k3, k4, eB, bW, cz, bP, bg, decide_true, decide_false, Bool.not_true, Bool.not_false, bC, aZ, aH, aF, bf, aT, aQ, aP, aI, aC, ak, aR, aL, bG, bU]
          exact bad _ h3 ho
      · have p1' : dR e.node 64 = false := by simpa using p1
        have ho : okE e = false := by simp [okE, p1']
        simp only [p1', cs h2, bu, k0, k1, k2, k3, k4, eB, bW, cz, bP, bg, decide_true, decide_false, Bool.not_true, Bool.not_false, bC, aZ, aH, aF, bf, aT, aQ, aP, aI, aC, ak, aR, aL, bG, bU]
        exact bad _ h2 ho
end
end Go.Proofs.Gong

/- Bd0 -/
namespace Go.Proofs.Gong
open Go Go.Sx Go.Proofs
set_option maxRecDepth 100000
def jc (t : Int) : Bool := decide (0 ≤ t) && decide (t ≤ 2305843009213693952)
def qL (s : List UInt8) : Bool := !decide (s = []) && dR s 64
theorem Np (s c : List UInt8) (hc : c ≠ []) (hp : dR c 64 = true) : II ⟨s, c, [], 0, []⟩ = if qL s = true then 0 else 180 := by
  have h1 : dR [] 128 = true := by decide
  have h2 : dR [] 1024 = true := by decide
  unfold II okE qL
  simp [hc, hp, h1, h2]
section
variable {w0 w : World} {L : List HP} {K : Value → World → Prop}
theorem tq {t : Int} (hK : K (.bool (jc t)) w) : ai G64 [.int .i64 t] w K := by
  refine c64 ?_
  unfold F64
  unfold jc at hK
  by_cases g1 : 0 ≤ t <;> simp [g1] at hK ⊢ <;> exact hK
theorem qz {t : Int} (hK : K (.bool (jc t)) w) : ai G62 [.int .i64 t] w K := by
  refine c62 ?_
  unfold F62
  unfold jc at hK
  by_cases g1 : 0 ≤ t <;> simp [g1] at hK ⊢ <;> exact hK
theorem Kv {s : List UInt8} (hs : s.length < 1073741824) (h : Sat w0 L w) (hK : ∀ w', Sat w0 L w' → K (.bool (qL s)) w') : ai G65 [.string (bs s)] w K := by
  refine c65 ?_
  unfold F65
  have eb : aD Tryz.prog 46 [(0, .string (bs s)), (1, .string ⟨#[99]⟩)] = some (evV ⟨s, [99], [], 0, []⟩) := by kernel_rfl
  rw [eb]
  simp only [ak]
  refine wF ⟨hs, by simp, by simp, by simp⟩ h fun w1 h1 => ?_
  rw [Np s [99] (by simp) (by decide)]
  have hk := hK _ h1
  by_cases hw : qL s = true
  · rw [hw] at hk; rw [if_pos hw]; simpa using hk
  · rw [if_neg hw]
    have : qL s = false := by simpa using hw
    rw [this] at hk; simpa using hk
theorem Ie {s : List UInt8} (hs : s.length < 1073741824) (h : Sat w0 L w) (hK : ∀ w', Sat w0 L w' → K (.bool (qL s)) w') : ai G63 [.string (bs s)] w K := by
  refine c63 ?_
  unfold F63
  have eb : aD Tryz.prog 46 [(0, .string (bs s)), (1, .string ⟨#[120]⟩)] = some (evV ⟨s, [120], [], 0, []⟩) := by kernel_rfl
  rw [eb]
  simp only [ak]
  refine su ⟨hs, by simp, by simp, by simp⟩ h fun w1 h1 => ?_
  rw [Np s [120] (by simp) (by decide)]
  have hk := hK _ h1
  by_cases hw : qL s = true
  · rw [hw] at hk; rw [if_pos hw]; simpa using hk
  · rw [if_neg hw]
    have : qL s = false := by simpa using hw
    rw [this] at hk; simpa using hk
end
structure Row where
  id : Int
  e : Evt
  tally : Int
  first : Int
  last : Int
  acked : Bool
  who : List UInt8
  deriving DecidableEq
@[reducible] def bR (r : Row) : List Value := [.int .i64 r.id, .string (bs r.e.node), .string (bs r.e.cls), .string (bs r.e.key), .int .i64 r.e.level, .string (bs r.e.text), .int .i64 r.tally, .int .i64 r.first, .int .i64 r.last, .bool r.acked, .string (bs r.who)]
abbrev fQ (r : Row) : Value := .agg (bR r).toArray
def kL (r : Row) : Bool := jc r.first && jc r.last && decide (r.first ≤ r.last)
def wV (r : Row) : Bool := if r.acked = true then qL r.who else decide (r.who = [])
def okR (r : Row) : Bool := decide (1 ≤ r.id) && decide (1 ≤ r.e.level) && decide (1 ≤ r.tally) && decide (r.tally ≤ 1099511627776) && kL r && wV r && okE r.e
def Bf (r : Row) : Int := if okR r = true then 0 else 4
end Go.Proofs.Gong

/- Bd1 -/
namespace Go.Proofs.Gong
open Go Go.Sx Go.Proofs
set_option maxRecDepth 100000
section
variable {w0 w : World} {L : List HP} {K : Value → World → Prop} {r : Row}
theorem Oa {p : Nat} {k : Value → World → Prop} (c7 : w.cell? ⟨p, 7, none⟩ = some (.int .i64 r.first)) (c8 : w.cell? ⟨p, 8, none⟩ = some (.int .i64 r.last)) (hk : k (.bool (kL r)) w) :
    aa (ae 7 (ptr p)) fun v3 => aa (ld1 v3 w) fun v4 => ai G64 [v4] w fun v6 w5 =>
    Sx.stepG (gd true v6) (ae 8 (ptr p)) fun v7 => Sx.stepG (gd true v6) (ld1 v7 w5) fun v8 => dz (gd true v6) (fun k => ai G64 [v8] w5 k) w5 fun v10 w9 =>
    aa (aG v6 v10 (.bool false)) fun v11 => Sx.stepG (gd true v11) (ae 7 (ptr p)) fun v12 => Sx.stepG (gd true v11) (ld1 v12 w9) fun v13 =>
    Sx.stepG (gd true v11) (ae 8 (ptr p)) fun v14 => Sx.stepG (gd true v11) (ld1 v14 w9) fun v15 => Sx.stepG (gd true v11) (bLe v13 v15) fun v16 => aa (aG v11 v16 (.bool false)) fun v17 => k v17 w9 := by
  simp only [ptr, aX, ak, Nat.zero_add, bu, c7, c8]
  refine tq ?_
  unfold kL at hk
  by_cases t1 : jc r.first = true
  · simp only [t1, bC, aH, ak, bu, c8, bf]
    refine tq ?_
    by_cases t2 : jc r.last = true
    · simp only [t2, aI, ak, bC, aH, bu, c7, c8, gZ]
      simpa [t1, t2] using hk
    · have t2' : jc r.last = false := by simpa using t2
      simp only [t2', aI, ak, bC, aF, aC]
      simpa [t1, t2'] using hk
  · have t1' : jc r.first = false := by simpa using t1
    simp only [t1', bC, aF, aT, aC, ak]
    simpa [t1'] using hk
theorem U3 {p : Nat} {k : Value → World → Prop} (h : Sat w0 (Cl p (bR r).toArray 48 :: L) w) (hs : r.who.length < 1073741824) (hk : ∀ w', Sat w0 (Cl p (bR r).toArray 48 :: L) w' → k (.bool (wV r)) w') :
    aa (ae 9 (ptr p)) fun v18 => aa (ld1 v18 w) fun v19 => Sx.stepG (gd true v19) (ae 10 (ptr p)) fun v20 => Sx.stepG (gd true v19) (ld1 v20 w) fun v21 =>
    dz (gd true v19) (fun k => ai G65 [v21] w k) w fun v23 w22 => aa (aG v19 v23 (.bool false)) fun v24 => Sx.stepG (gd false v24) (ae 9 (ptr p)) fun v25 =>
    Sx.stepG (gd false v24) (ld1 v25 w22) fun v26 => Sx.stepG (gd false v24) (dN v26) fun v27 => aS (gd false v24) v27 fun v28 => Sx.stepG (gd true v28) (ae 10 (ptr p)) fun v29 =>
    Sx.stepG (gd true v28) (ld1 v29 w22) fun v30 => Sx.stepG (gd true v28) (bEq Tryz.prog 9 (.tmp 33) (.const (.string ⟨#[]⟩)) v30 (.string ⟨#[]⟩)) fun v31 =>
    Sx.stepG (gd false v24) (aG v28 v31 (.bool false)) fun v32 => aa (aG v24 (.bool true) v32) fun v33 => k v33 w22 := by
  have cs : ∀ {w' : World}, Sat w0 (Cl p (bR r).toArray 48 :: L) w' → ∀ i, w'.cell? ⟨p, i, none⟩ = (bR r)[i]? := fun h i => by rw [cell_of h.cl, List.getElem?_toArray]
  have k9 : (bR r)[9]? = some (.bool r.acked) := rfl
  have k10 : (bR r)[10]? = some (.string (bs r.who)) := rfl
  unfold wV at hk
  rw [yP]
  simp only [ptr, aX, ak, Nat.zero_add, bu, cs h, k9, k10]
  by_cases ha : r.acked = true
  · rw [if_pos ha] at hk
    simp only [ha, bC, aH, ak, bu, cs h, k10, bf]
    refine Kv hs h fun w2 h2 => ?_
    have hk2 := hk w2 h2
    by_cases hw : qL r.who = true
    · rw [hw] at hk2
      simp only [hw, aI, ak, aZ, Bool.not_true, aF, aP, bP]
      exact hk2
    · have hw' : qL r.who = false := by simpa using hw
      rw [hw'] at hk2
      simp only [hw', aI, aC, ak, aZ, bC, Bool.not_false, Bool.not_true, aH, aF, aQ, bu, cs h2, k9, ha, bg]
      exact hk2
  · have ha' : r.acked = false := by simpa using ha
    rw [if_neg ha] at hk
    have hk2 := hk w h
    simp only [ha', bC, aF, aT, aC, ak, aZ, Bool.not_false, aH, bu, cs h, k9, bg, aQ, k10, eB, bW, cz, aI]
    exact hk2
theorem wR (he : r.e.fits) (hw : r.who.length < 1073741824) (h : Sat w0 L w) (hK : ∀ w', Sat w0 L w' → K (.int .i64 (Bf r)) w') : ai G38 [fQ r] w K := by
  refine c38 ?_
  unfold F38
  refine gB h fun p w1 h1 => ?_
  have e0 : (fQ r).cells = (bR r).toArray := rfl
  rw [e0] at h1
  have cs : ∀ {w' : World}, Sat w0 (Cl p (bR r).toArray 48 :: L) w' → ∀ i, w'.cell? ⟨p, i, none⟩ = (bR r)[i]? := fun h i => by rw [cell_of h.cl, List.getElem?_toArray]
  have k0 : (bR r)[0]? = some (.int .i64 r.id) := rfl
  have k4 : (bR r)[4]? = some (.int .i64 r.e.level) := rfl
  have k6 : (bR r)[6]? = some (.int .i64 r.tally) := rfl
  refine Oa (r := r) (by rw [cs h1]; rfl) (by rw [cs h1]; rfl) ?_
  refine U3 h1 hw fun w2 h2 => ?_
  have cN : ldN 5 (.pointer (some ⟨p, 1, none⟩)) w2 = some (evV r.e) := by rw [lX h2.cl (by simp [bR])]; rfl
  have bad : ∀ w', Sat w0 (Cl p (bR r).toArray 48 :: L) w' → okR r = false → K (.int .i64 4) w' := by
    intro w' hs ho
    have := hK _ hs.drop
    unfold Bf at this
    rw [ho] at this
    exact this
  simp only [ptr, cs h2, bu, k0, k4, k6, bP, bg, decide_true, decide_false, Bool.not_true, Bool.not_false, bC, aZ, aH, aF, bf, aT, aQ, aP, aI, aC, aX, Nat.zero_add, ak, aR, aL, bG, bU, dh]
  by_cases g1 : r.id < 1
  · have ho : okR r = false := by
      have : ¬ (1 ≤ r.id) := by omega
      simp [okR, this]
    simp only [g1, bu, k0, k4, k6, bP, bg, decide_true, decide_false, Bool.not_true, Bool.not_false, bC, aZ, aH, aF, bf, aT, aQ, aP, aI, aC, aX, Nat.zero_add, ak, aR, aL, bG, bU, dh]
    exact bad _ h2 ho
  · by_cases g2 : r.e.level < 1
    · have ho : okR r = false := by
        have : ¬ (1 ≤ r.e.level) := by omega
        simp [okR, this]
      simp only [g1, g2, cs h2, bu, k0, k4, k6, bP, bg, decide_true, decide_false, Bool.not_true, Bool.not_false, bC, aZ, aH, aF, bf, aT, aQ, aP, aI, aC, aX, Nat.zero_add, ak, aR, aL, bG, bU, dh]
      exact bad _ h2 ho
    · by_cases g3 : r.tally < 1
      · have ho : okR r = false := by
          have : ¬ (1 ≤ r.tally) := by omega
          simp [okR, this]
        simp only [g1, g2, g3, cs h2, bu, k0, k4, k6, bP, bg, decide_true, decide_false, Bool.not_true, Bool.not_false, bC, aZ, aH, aF, bf, aT, aQ, aP, aI, aC, aX, Nat.zero_add, ak, aR, aL, bG, bU, dh]
        exact bad _ h2 ho
      · by_cases g4 : r.tally > 1099511627776
        · have ho : okR r = false := by
            have : ¬ (r.tally ≤ 1099511627776) := by omega
            simp [okR, this]
          simp only [g1, g2, g3, g4, cs h2, bu, k0, k4, k6, bP, bg, decide_true, decide_false, Bool.not_true, Bool.not_false, bC, aZ, aH, aF, bf, aT, aQ, aP, aI, aC, aX, Nat.zero_add, ak, aR, aL, bG, bU, dh]
          exact bad _ h2 ho
        · by_cases g5 : kL r = true
          · by_cases g6 : wV r = true
            · simp only [g1, g2, g3, g4, g5, g6, cs h2, cN, bu, k0, k4, k6, bP, bg, decide_true, decide_false, Bool.not_true, Bool.not_false, bC, aZ, aH, aF, bf, aT, aQ, aP, aI, aC, aX, Nat.zero_add, ak, aR, aL, bG, bU, dh]
              refine wF he h2 fun w3 h3 => ?_
              unfold II
              by_cases g7 : okE r.e = true
              · have hk := hK _ h3.drop
                have ho : okR r = true := by
                  have a1 : 1 ≤ r.id := by omega
                  have a2 : 1 ≤ r.e.level := by omega
                  have a3 : 1 ≤ r.tally := by omega
                  have a4 : r.tally ≤ 1099511627776 := by omega
                  simp [okR, a1, a2, a3, a4, g5, g6, g7]
                unfold Bf at hk
                rw [if_pos ho] at hk
                rw [if_pos g7]
                simp only [bu, k0, k4, k6, bP, bg, decide_true, decide_false, Bool.not_true, Bool.not_false, bC, aZ, aH, aF, bf, aT, aQ, aP, aI, aC, aX, Nat.zero_add, ak, aR, aL, bG, bU, dh]
                exact hk
              · have ho : okR r = false := by
                  have g7' : okE r.e = false := by simpa using g7
                  simp [okR, g7']
                rw [if_neg g7]
                have e1 : decide ((180 : Int) = 0) = false := by decide
                simp only [e1, bu, k0, k4, k6, bP, bg, decide_true, decide_false, Bool.not_true, Bool.not_false, bC, aZ, aH, aF, bf, aT, aQ, aP, aI, aC, aX, Nat.zero_add, ak, aR, aL, bG, bU, dh]
                exact bad _ h3 ho
            · have g6' : wV r = false := by simpa using g6
              have ho : okR r = false := by simp [okR, g6']
              simp only [g1, g2, g3, g4, g5, g6', cs h2, bu, k0, k4, k6, bP, bg, decide_true, decide_false, Bool.not_true, Bool.not_false, bC, aZ, aH, aF, bf, aT, aQ, aP, aI, aC, aX, Nat.zero_add, ak, aR, aL, bG, bU, dh]
              exact bad _ h2 ho
          · have g5' : kL r = false := by simpa using g5
            have ho : okR r = false := by simp [okR, g5']
            simp only [g1, g2, g3, g4, g5', cs h2, bu, k0, k4, k6, bP, bg, decide_true, decide_false, Bool.not_true, Bool.not_false, bC, aZ, aH, aF, bf, aT, aQ, aP, aI, aC, aX, Nat.zero_add, ak, aR, aL, bG, bU, dh]
            exact bad _ h2 ho
end
end Go.Proofs.Gong

/- Bd2 -/
namespace Go.Proofs.Gong
open Go Go.Sx Go.Proofs
set_option maxRecDepth 100000
section
variable {w0 w : World} {L : List HP} {K : Value → World → Prop} {r : Row}
theorem sQ (he : r.e.fits) (hw : r.who.length < 1073741824) (h : Sat w0 L w) (hK : ∀ w', Sat w0 L w' → K (.int .i64 (Bf r)) w') : ai G35 [fQ r] w K := by
  refine c35 ?_
  unfold F35
  refine gB h fun p w1 h1 => ?_
  have e0 : (fQ r).cells = (bR r).toArray := rfl
  rw [e0] at h1
  have cs : ∀ {w' : World}, Sat w0 (Cl p (bR r).toArray 48 :: L) w' → ∀ i, w'.cell? ⟨p, i, none⟩ = (bR r)[i]? := fun h i => by rw [cell_of h.cl, List.getElem?_toArray]
  have k0 : (bR r)[0]? = some (.int .i64 r.id) := rfl
  have k4 : (bR r)[4]? = some (.int .i64 r.e.level) := rfl
  have k6 : (bR r)[6]? = some (.int .i64 r.tally) := rfl
  have k7 : (bR r)[7]? = some (.int .i64 r.first) := rfl
  have k8 : (bR r)[8]? = some (.int .i64 r.last) := rfl
  have k9 : (bR r)[9]? = some (.bool r.acked) := rfl
  have k10 : (bR r)[10]? = some (.string (bs r.who)) := rfl
  have cN : ldN 5 (.pointer (some ⟨p, 1, none⟩)) w1 = some (evV r.e) := by rw [lX h1.cl (by simp [bR])]; rfl
  have bad : ∀ w', Sat w0 (Cl p (bR r).toArray 48 :: L) w' → okR r = false → K (.int .i64 4) w' := by
    intro w' hs ho
    have := hK _ hs.drop
    unfold Bf at this
    rw [ho] at this
    exact this
  rw [yP]
  simp only [ptr, cs h1, cN, bu, k0, k4, k6, k7, k8, k9, k10, bP, bg, decide_true, decide_false, Bool.not_true, Bool.not_false, bC, aZ, aH, aF, bf, aT, aQ, aP, aI, aC, aX, Nat.zero_add, ak, aR, aL, bG, bU, dh, cK, bW, cz]
  by_cases g1 : r.id < 1
  · have ho : okR r = false := by
      have : ¬ (1 ≤ r.id) := by omega
      simp [okR, this]
    simp only [g1, cs h1, bu, k0, k4, k6, k7, k8, k9, k10, bP, bg, decide_true, decide_false, Bool.not_true, Bool.not_false, bC, aZ, aH, aF, bf, aT, aQ, aP, aI, aC, aX, Nat.zero_add, ak, aR, aL, bG, bU, dh, cK, bW, cz]
    exact bad _ h1 ho
  · simp only [g1, cN, bu, k0, k4, k6, k7, k8, k9, k10, bP, bg, decide_true, decide_false, Bool.not_true, Bool.not_false, bC, aZ, aH, aF, bf, aT, aQ, aP, aI, aC, aX, Nat.zero_add, ak, aR, aL, bG, bU, dh, cK, bW, cz]
    refine su he h1 fun w2 h2 => ?_
    unfold II
    by_cases g7 : okE r.e = true
    · rw [if_pos g7]
      simp only [cs h2, bu, k0, k4, k6, k7, k8, k9, k10, bP, bg, decide_true, decide_false, Bool.not_true, Bool.not_false, bC, aZ, aH, aF, bf, aT, aQ, aP, aI, aC, aX, Nat.zero_add, ak, aR, aL, bG, bU, dh, cK, bW, cz]
      by_cases g2 : r.e.level < 1
      · have ho : okR r = false := by
          have : ¬ (1 ≤ r.e.level) := by omega
          simp [okR, this]
        simp only [g2, cs h2, bu, k0, k4, k6, k7, k8, k9, k10, bP, bg, decide_true, decide_false, Bool.not_true, Bool.not_false, bC, aZ, aH, aF, bf, aT, aQ, aP, aI, aC, aX, Nat.zero_add, ak, aR, aL, bG, bU, dh, cK, bW, cz]
        exact bad _ h2 ho
      · by_cases g3 : r.tally < 1
        · have ho : okR r = false := by
            have : ¬ (1 ≤ r.tally) := by omega
            simp [okR, this]
          simp only [g2, g3, cs h2, bu, k0, k4, k6, k7, k8, k9, k10, bP, bg, decide_true, decide_false, Bool.not_true, Bool.not_false, bC, aZ, aH, aF, bf, aT, aQ, aP, aI, aC, aX, Nat.zero_add, ak, aR, aL, bG, bU, dh, cK, bW, cz]
          exact bad _ h2 ho
        · by_cases g4 : r.tally > 1099511627776
          · have ho : okR r = false := by
              have : ¬ (r.tally ≤ 1099511627776) := by omega
              simp [okR, this]
            simp only [g2, g3, g4, cs h2, bu, k0, k4, k6, k7, k8, k9, k10, bP, bg, decide_true, decide_false, Bool.not_true, Bool.not_false, bC, aZ, aH, aF, bf, aT, aQ, aP, aI, aC, aX, Nat.zero_add, ak, aR, aL, bG, bU, dh, cK, bW, cz]
            exact bad _ h2 ho
          · simp only [g2, g3, g4, cs h2, bu, k0, k4, k6, k7, k8, k9, k10, bP, bg, decide_true, decide_false, Bool.not_true, Bool.not_false, bC, aZ, aH, aF, bf, aT, aQ, aP, aI, aC, aX, Nat.zero_add, ak, aR, aL, bG, bU, dh, cK, bW, cz]
            refine qz ?_
            by_cases t1 : jc r.first = true
            · simp only [t1, cs h2, bu, k0, k4, k6, k7, k8, k9, k10, bP, bg, decide_true, decide_false, Bool.not_true, Bool.not_false, bC, aZ, aH, aF, bf, aT, aQ, aP, aI, aC, aX, Nat.zero_add, ak, aR, aL, bG, bU, dh, cK, bW, cz]
              refine qz ?_
              by_cases t2 : jc r.last = true
              · simp only [t2, cs h2, bu, k0, k4, k6, k7, k8, k9, k10, bP, bg, decide_true, decide_false, Bool.not_true, Bool.not_false, bC, aZ, aH, aF, bf, aT, aQ, aP, aI, aC, aX, Nat.zero_add, ak, aR, aL, bG, bU, dh, cK, bW, cz]
                by_cases t3 : r.first > r.last
                · have ho : okR r = false := by
                    have : ¬ (r.first ≤ r.last) := by omega
                    simp [okR, kL, this]
                  simp only [t3, bu, k0, k4, k6, k7, k8, k9, k10, bP, bg, decide_true, decide_false, Bool.not_true, Bool.not_false, bC, aZ, aH, aF, bf, aT, aQ, aP, aI, aC, aX, Nat.zero_add, ak, aR, aL, bG, bU, dh, cK, bW, cz]
                  exact bad _ h2 ho
                · have tt : kL r = true := by
                    have : r.first ≤ r.last := by omega
                    simp [kL, t1, t2, this]
                  have fin : ∀ w', Sat w0 (Cl p (bR r).toArray 48 :: L) w' → wV r = true → K (.int .i64 0) w' := by
                    intro w' hs hwho
                    have hk := hK _ hs.drop
                    have ho : okR r = true := by
                      have a1 : 1 ≤ r.id := by omega
                      have a2 : 1 ≤ r.e.level := by omega
                      have a3 : 1 ≤ r.tally := by omega
                      have a4 : r.tally ≤ 1099511627776 := by omega
                      simp [okR, a1, a2, a3, a4, tt, hwho, g7]
                    unfold Bf at hk
                    rw [if_pos ho] at hk
                    exact hk
                  simp only [t3, cs h2, bu, k0, k4, k6, k7, k8, k9, k10, bP, bg, decide_true, decide_false, Bool.not_true, Bool.not_false, bC, aZ, aH, aF, bf, aT, aQ, aP, aI, aC, aX, Nat.zero_add, ak, aR, aL, bG, bU, dh, cK, bW, cz]
                  by_cases ha : r.acked = true
                  · simp only [ha, cs h2, bu, k0, k4, k6, k7, k8, k9, k10, bP, bg, decide_true, decide_false, Bool.not_true, Bool.not_false, bC, aZ, aH, aF, bf, aT, aQ, aP, aI, aC, aX, Nat.zero_add, ak, aR, aL, bG, bU, dh, cK, bW, cz]
                    refine Ie hw h2 fun w3 h3 => ?_
                    by_cases hq : qL r.who = true
                    · simp only [hq, ha, cs h3, bu, k0, k4, k6, k7, k8, k9, k10, bP, bg, decide_true, decide_false, Bool.not_true, Bool.not_false, bC, aZ, aH, aF, bf, aT, aQ, aP, aI, aC, aX, Nat.zero_add, ak, aR, aL, bG, bU, dh, cK, bW, cz]
                      exact fin _ h3 (by simp [wV, ha, hq])
                    · have hq' : qL r.who = false := by simpa using hq
                      simp only [hq', ha, cs h3, bu, k0, k4, k6, k7, k8, k9, k10, bP, bg, decide_true, decide_false, Bool.not_true, Bool.not_false, bC, aZ, aH, aF, bf, aT, aQ, aP, aI, aC, aX, Nat.zero_add, ak, aR, aL, bG, bU, dh, cK, bW, cz]
                      exact bad _ h3 (by simp [okR, wV, ha, hq'])
                  · have ha' : r.acked = false := by simpa using ha
                    by_cases hq : r.who = []
                    · simp only [ha', hq, cs h2, bu, k0, k4, k6, k7, k8, k9, k10, bP, bg, decide_true, decide_false, Bool.not_true, Bool.not_false, bC, aZ, aH, aF, bf, aT, aQ, aP, aI, aC, aX, Nat.zero_add, ak, aR, aL, bG, bU, dh, cK, bW, cz]
                      exact fin _ h2 (by simp [wV, ha', hq])
                    · simp only [ha', hq, cs h2, bu, k0, k4, k6, k7, k8, k9, k10, bP, bg, decide_true, decide_false, Bool.not_true, Bool.not_false, bC, aZ, aH, aF, bf, aT, aQ, aP, aI, aC, aX, Nat.zero_add, ak, aR, aL, bG, bU, dh, cK, bW, cz]
                      exact bad _ h2 (by simp [okR, wV, ha', hq])
              · have t2' : jc r.last = false := by simpa using t2
                simp only [t2', cs h2, bu, k0, k4, k6, k7, k8, k9, k10, bP, bg, decide_true, decide_false, Bool.not_true, Bool.not_false, bC, aZ, aH, aF, bf, aT, aQ, aP, aI, aC, aX, Nat.zero_add, ak, aR, aL, bG, bU, dh, cK, bW, cz]
                exact bad _ h2 (by simp [okR, kL, t2'])
            · have t1' : jc r.first = false := by simpa using t1
              simp only [t1', cs h2, bu, k0, k4, k6, k7, k8, k9, k10, bP, bg, decide_true, decide_false, Bool.not_true, Bool.not_false, bC, aZ, aH, aF, bf, aT, aQ, aP, aI, aC, aX, Nat.zero_add, ak, aR, aL, bG, bU, dh, cK, bW, cz]
              exact bad _ h2 (by simp [okR, kL, t1'])
    · have ho : okR r = false := by
        have g7' : okE r.e = false := by simpa using g7
        simp [okR, g7']
      rw [if_neg g7]
      have e1 : decide ((180 : Int) = 0) = false := by decide
      simp only [e1, bu, k0, k4, k6, k7, k8, k9, k10, bP, bg, decide_true, decide_false, Bool.not_true, Bool.not_false, bC, aZ, aH, aF, bf, aT, aQ, aP, aI, aC, aX, Nat.zero_add, ak, aR, aL, bG, bU, dh, cK, bW, cz]
      exact bad _ h2 ho
end
end Go.Proofs.Gong

/- Bd3 -/
namespace Go.Proofs.Gong
open Go Go.Sx Go.Proofs
set_option maxRecDepth 100000
abbrev Sg := List UInt8 × List UInt8 × List UInt8
@[reducible] def cSg (s : Sg) : List Value := [.string (bs s.1), .string (bs s.2.1), .string (bs s.2.2)]
abbrev ekS (s : Sg) : Value := .agg (cSg s).toArray
abbrev kI (n : Int) : Value := .int .i64 n
def fO (e : Evt) : Sg := (e.node, e.cls, e.key)
theorem eqvS (a b c d e f : ByteArray) : eqv Tryz.prog Op.maxDepth 117 (.agg #[.string a, .string b, .string c]) (.agg #[.string d, .string e, .string f]) = Yf (some (sEq a d)) (Yf (some (sEq b e)) (Yf (some (sEq c f)) (some true))) := by kernel_rfl
theorem KS : KeyT Tryz.prog 117 ekS where
  u := by kernel_rfl
  ck := fun k => by kernel_rfl
  eq := fun a b => by
    unfold ekS cSg
    rw [eqvS]
    simp only [PP, Option.some.injEq]
    rw [Bool.eq_iff_iff]
    obtain ⟨a1, a2, a3⟩ := a
    obtain ⟨b1, b2, b3⟩ := b
    simp [uE]
  sb := fun a => by
    unfold ekS cSg
    simp [Instr.sameBits]
def l9 (v : Value) (n next : Int) (R : List (Int × Row)) (I : List (Sg × Int)) : HP :=
  HEx fun p => HEx fun mr => HEx fun mi => HPr (v = ptr p) (HSt (Cl p #[.int .i64 n, .int .i64 next, mr, mi] 113) (HSt (bS kI fQ mr R) (bS ekS kI mi I)))
section
variable {w0 w : World} {L : List HP} {K : Value → World → Prop} {v : Value} {n next : Int} {R : List (Int × Row)} {I : List (Sg × Int)}
theorem ed : Sat w0 (l9 v n next R I :: L) w ↔ ∃ p mr mi, v = ptr p ∧ Sat w0 (Cl p #[.int .i64 n, .int .i64 next, mr, mi] 113 :: bS kI fQ mr R :: bS ekS kI mi I :: L) w := by
  simp only [l9, Sat.ex_iff, Sat.pr_iff, Sat.star_iff]
  constructor
  · rintro ⟨p, mr, mi, h1, h2⟩
    exact ⟨p, mr, mi, h1, h2.conv fun _ h => h.tail fun _ h => ib.star.1 h⟩
  · rintro ⟨p, mr, mi, h1, h2⟩
    exact ⟨p, mr, mi, h1, h2.conv fun _ h => h.tail fun _ h => ib.star.2 h⟩
theorem M0 {e : Evt} (h : Sat w0 L w) (hK : ∀ w', Sat w0 L w' → K (ekS (fO e)) w') : ai G37 [evV e] w K := by
  refine c37 ?_
  unfold F37
  refine gB h fun p w1 h1 => ?_
  have e0 : (evV e).cells = (cEv e).toArray := rfl
  rw [e0] at h1
  refine nz h1 z117 fun q w2 h2 => ?_
  have c0 : w2.cell? ⟨p, 0, none⟩ = some (.string (bs e.node)) := by rw [cell_of h2.f1.cl]; rfl
  have c1 : w2.cell? ⟨p, 1, none⟩ = some (.string (bs e.cls)) := by rw [cell_of h2.f1.cl]; rfl
  have c2 : w2.cell? ⟨p, 2, none⟩ = some (.string (bs e.key)) := by rw [cell_of h2.f1.cl]; rfl
  simp only [ptr, aX, ak, Nat.zero_add, bu, c0, c1, c2]
  have eb : aD Tryz.prog 117 [(0, .string (bs e.node)), (1, .string (bs e.cls)), (2, .string (bs e.key))] = some (ekS (fO e)) := by kernel_rfl
  rw [eb]
  simp only [ak]
  refine PL h2 (by simp [ekS, cSg]) (by simp [ekS, cSg]) (by simp) fun w3 h3 => ?_
  have ew : wr (Value.agg #[(.string ⟨#[]⟩), (.string ⟨#[]⟩), (.string ⟨#[]⟩)]).cells 0 (ekS (fO e)).cells.toList = (cSg (fO e)).toArray := by rfl
  rw [ew] at h3
  have cN : ldN 3 (.pointer (some ⟨q, 0, none⟩)) w3 = some (ekS (fO e)) := by rw [lX h3.cl (by simp [cSg])]; rfl
  rw [cN]
  simp only [ak]
  exact hK _ h3.drop.drop
theorem PI {n : Int} (h : Sat w0 L w) (h1 : 1 ≤ n) (h2 : n ≤ 65536) (hK : ∀ p w', Sat w0 (l9 (ptr p) n 1 [] [] :: L) w' → K (.tuple #[ptr p, .int .i64 0]) w') : ai G55 [.int .i64 n] w K := by
  refine c55 ?_
  unfold F55
  have e1 : decide (n < 1) = false := by simp; omega
  have e2 : decide (n > 65536) = false := by simp; omega
  simp only [bG, bU, e1, e2, ak, aZ, Bool.not_false, aQ, aH, aC, aL]
  refine dW kI fQ h fun mr w1 g1 => ?_
  refine dW ekS kI g1 fun mi w2 g2 => ?_
  obtain ⟨r1, es1, c1, ⟨rfl, _⟩, _⟩ := eu.1 g1
  obtain ⟨r2, es2, c2, ⟨rfl, _⟩, _⟩ := eu.1 g2
  have eb : aD Tryz.prog 113 [(0, .int .i64 n), (1, .int .i64 1), (2, .map (some r1)), (3, .map (some r2))] = some (.agg #[.int .i64 n, .int .i64 1, .map (some r1), .map (some r2)]) := by kernel_rfl
  rw [eb]
  simp only [ak]
  refine gB g2 fun p w3 g3 => hK p w3 (ed.2 ⟨p, .map (some r1), .map (some r2), rfl, ?_⟩)
  exact g3.conv fun _ h => h.tail fun _ h => h.swap
end
end Go.Proofs.Gong

/- Bd4 -/
namespace Go.Proofs.Gong
open Go Go.Sx Go.Proofs
set_option maxRecDepth 100000
theorem KIr : KeyT Tryz.prog 3 kI := KeyT.int (by kernel_rfl)
section
variable {w0 w : World} {L : List HP} {K : Value → World → Prop} {v : Value} {n next : Int} {R : List (Int × Row)} {I : List (Sg × Int)}
theorem BH {r : Row} (h : Sat w0 (l9 v n next R I :: L) w) (hK : ∀ w', Sat w0 (l9 v n next (iN r.id r R) (iN (fO r.e) r.id I) :: L) w' → K (.tuple #[]) w') : ai G39 [v, fQ r] w K := by
  refine c39 ?_
  unfold F39
  refine gB h fun q w1 h1 => ?_
  have e0 : (fQ r).cells = (bR r).toArray := rfl
  rw [e0] at h1
  obtain ⟨p, mr, mi, rfl, hs⟩ := ed.1 h1.f1
  have hd := hs.drew
  have c2 : w1.drew.cell? ⟨p, 2, none⟩ = some mr := by rw [cell_of hd.cl]; rfl
  have hq := hd.f3
  have cq : w1.drew.cell? ⟨q, 0, none⟩ = some (kI r.id) := by rw [cell_of hq.cl]; rfl
  have cN : ldN 11 (.pointer (some ⟨q, 0, none⟩)) w1.drew = some (fQ r) := by rw [lX hq.cl (by simp [bR])]; rfl
  simp only [ptr, yI, aX, ak, Nat.zero_add, bu, c2, cq, cN]
  refine oD hd.f1 KIr FY r.id r fun w2 h2 => ?_
  have h2 := h2.drew
  have hb := h2.f1
  have c3 : w2.drew.cell? ⟨p, 3, none⟩ = some mi := by rw [cell_of hb.cl]; rfl
  have hq := h2.f3
  have cq : w2.drew.cell? ⟨q, 0, none⟩ = some (kI r.id) := by rw [cell_of hq.cl]; rfl
  have cN : ldN 5 (.pointer (some ⟨q, 1, none⟩)) w2.drew = some (evV r.e) := by rw [lX hq.cl (by simp [bR])]; rfl
  simp only [yI, aX, ak, Nat.zero_add, bu, c3, cq, cN]
  refine M0 h2 fun w3 h3 => ?_
  have hb := h3.f1
  have c3' : w3.cell? ⟨p, 3, none⟩ = some mi := by rw [cell_of hb.cl]; rfl
  have cq' : w3.cell? ⟨q, 0, none⟩ = some (kI r.id) := by rw [cell_of h3.f3.cl]; rfl
  refine ⟨⟨by rw [fD]; exact c3', by rw [fD]; exact cq'⟩, ?_⟩
  refine oD h3.f2 KS Qc (fO r.e) r.id fun w4 h4 => ?_
  refine hK _ (ed.2 ⟨p, mr, mi, rfl, ?_⟩)
  exact (h4.f3.drop.f2).conv fun _ h => h.tail fun _ h => h.swap
end
end Go.Proofs.Gong

/- Bd5 -/
namespace Go.Proofs.Gong
open Go Go.Sx Go.Proofs
set_option maxRecDepth 100000
section
variable {w0 w : World} {L : List HP} {K : Value → World → Prop} {r : Row}
def MO : Row := ⟨0, ⟨[], [], [], 0, []⟩, 0, 0, 0, false, []⟩
theorem zR : bO Tryz.prog 48 = some (fQ MO) := z48
end
end Go.Proofs.Gong

/- Bd6 -/
namespace Go.Proofs.Gong
open Go Go.Sx Go.Proofs
set_option maxRecDepth 100000
attribute [local irreducible] aD bY bO eqv dB Cl bS LsH SlH ld1 ldN st ai bT aY dF bI bz bE aJ aB bK bZ
theorem Z7 (o : Option Row) : o.elim (fQ MO) fQ = fQ (o.getD MO) := by cases o <;> rfl
section
variable {w0 w : World} {L : List HP} {K : Value → World → Prop} {v : Value} {n next : Int} {R : List (Int × Row)} {I : List (Sg × Int)}
end
end Go.Proofs.Gong

/- Bd7 -/
namespace Go.Proofs.Gong
open Go Go.Sx Go.Proofs
set_option maxRecDepth 100000
attribute [local irreducible] aD bY bO eqv dB Cl bS LsH SlH ld1 ldN st ai bT aY dF bI bz bE aJ aB bK bZ
section
variable {w0 w : World} {L : List HP} {K : Value → World → Prop}
end
end Go.Proofs.Gong

/- Bd8 -/
namespace Go.Proofs.Gong
open Go Go.Sx Go.Proofs
set_option maxRecDepth 100000
attribute [local irreducible] aD bY bO eqv dB Cl bS LsH SlH ld1 ldN st ai bT aY dF bI bz bE aJ aB bK bZ
section
variable {w0 w : World} {L : List HP} {K : Value → World → Prop}
end
end Go.Proofs.Gong

/- Ho0 -/
namespace Go.Proofs.Gong
open Go Go.Sx Go.Proofs
set_option maxRecDepth 100000
attribute [local irreducible] aD bY bO eqv dB Cl bS LsH SlH ld1 ldN st ai bT aY dF bI bz bE aJ aB bK bZ
instance : CodC cI 1 := ⟨CI⟩
def RdL {α : Type} (w0 : World) (L : List HP) (f : α → List Value) (es : Nat) (v : Value) (l : List α) : Prop := ∀ w, Sat w0 L w → Rd w es v l.length (l.flatMap f)
theorem RdL.get {α : Type} {w0 : World} {L L' : List HP} {f : α → List Value} {es : Nat} {v : Value} {l : List α} (h : RdL w0 L f es v l) (g : Get L' L) : RdL w0 L' f es v l := fun w hs => h w (hs.get g)
theorem RdL.got {α : Type} {w0 : World} {L L' : List HP} {f : α → List Value} {es : Nat} {v : Value} {l : List α} (h : RdL w0 L f es v l) (g : Get L' L := by repeat (first | exact .done | (refine .pick (by repeat (first | exact .here | apply Fnt.there)) ?_) | refine .skip ?_)) : RdL w0 L' f es v l := fun w hs => h w (hs.get g)
theorem RdL.cons {α : Type} {w0 : World} {L : List HP} {X : HP} {f : α → List Value} {es : Nat} {v : Value} {l : List α} (h : RdL w0 L f es v l) : RdL w0 (X :: L) f es v l := h.get (.skip .done)
def ascI : List Int → Bool
  | a :: b :: r => decide (a ≤ b) && ascI (b :: r)
  | _ => true
section
variable {w0 w : World} {L : List HP} {K : Value → World → Prop}
end
end Go.Proofs.Gong

/- Ho1 -/
namespace Go.Proofs.Gong
open Go Go.Sx Go.Proofs
set_option maxRecDepth 100000
attribute [local irreducible] aD bY bO eqv dB Cl bS LsH SlH ld1 ldN st ai bT aY dF bI bz bE aJ aB bK bZ
structure Ctx where
  id : Int
  watch : Int
  node : List UInt8
  key : List UInt8
  at' : Int
  e : Evt
  times : List Int
  deriving DecidableEq
@[reducible] def cCtx (c : Ctx) (tv : Value) : List Value := [.int .i64 c.id, .int .i64 c.watch, .string (bs c.node), .string (bs c.key), .int .i64 c.at', .string (bs c.e.node), .string (bs c.e.cls), .string (bs c.e.key), .int .i64 c.e.level, .string (bs c.e.text), tv]
abbrev ctxV (c : Ctx) (tv : Value) : Value := .agg (cCtx c tv).toArray
def zeroE : Evt := ⟨[], [], [], 0, []⟩
def okSign (node key : List UInt8) : Bool := okE ⟨node, [99], key, 0, []⟩
def okEv (e : Evt) : Bool := decide (e = zeroE) || okE e
def Vs (l : List Int) : Bool := decide (l.length ≤ 1000) && (ascI l && l.all jc)
def okC (c : Ctx) : Bool := decide (0 ≤ c.watch) && decide (c.watch ≤ 63) && okSign c.node c.key && okEv c.e && Vs c.times && jc c.at'
def Ctx.fits (c : Ctx) : Prop := c.node.length < 1073741824 ∧ c.key.length < 1073741824 ∧ c.e.fits ∧ c.times.length < 1073741824
section
variable {w0 w : World} {L : List HP} {K : Value → World → Prop} {c : Ctx} {tv : Value}
end
end Go.Proofs.Gong

/- Ho2 -/
namespace Go.Proofs.Gong
open Go Go.Sx Go.Proofs
set_option maxRecDepth 100000
attribute [local irreducible] aD bY bO eqv dB Cl bS LsH SlH ld1 ldN st ai bT aY dF bI bz bE aJ aB bK bZ
structure Sgn where
  watch : Int
  node : List UInt8
  key : List UInt8
  deriving DecidableEq
@[reducible] def cSgn (s : Sgn) : List Value := [.int .i64 s.watch, .string (bs s.node), .string (bs s.key)]
abbrev Va (s : Sgn) : Value := .agg (cSgn s).toArray
def rT (c : Ctx) : Sgn := ⟨c.watch, c.node, c.key⟩
section
variable {w0 w : World} {L : List HP} {K : Value → World → Prop} {a b : Ctx} {tv tv' : Value}
end
end Go.Proofs.Gong

/- Ho3 -/
namespace Go.Proofs.Gong
open Go Go.Sx Go.Proofs
set_option maxRecDepth 100000
abbrev kH (n : Int) : Value := .int .i64 n
attribute [local irreducible] aD bY bO eqv dB Cl bS LsH SlH ld1 ldN st ai bT aY dF bI bz bE aJ aB bK bZ
abbrev Held := List (Int × (Ctx × Value))
abbrev X7 (x : Ctx × Value) : Value := ctxV x.1 x.2
def ZZ (x : Int × (Ctx × Value)) : HP := LsH cI 1 3 x.2.2 x.2.1.times
def bag (m : Held) : HP := HS (m.map ZZ)
def zJ (v : Value) (n next hn : Int) (m : Held) (I : List (Sgn × Int)) (M : List It) : HP := HEx fun p => HEx fun dp => HEx fun ml => HEx fun mi =>
  HPr (v = ptr p) (HS [Cl p #[dp, .int .i64 n, .int .i64 next, ml, mi] 249, zK dp hn M, bS kH X7 ml m, bS Va kH mi I, bag m])
section
variable {w0 w : World} {L : List HP} {K : Value → World → Prop} {v : Value} {n next hn : Int} {m : Held} {I : List (Sgn × Int)} {M : List It} {c : Ctx} {tv : Value}
theorem RA : Sat w0 (zJ v n next hn m I M :: L) w ↔ ∃ p dp ml mi, v = ptr p ∧ Sat w0 (Cl p #[dp, .int .i64 n, .int .i64 next, ml, mi] 249 :: zK dp hn M :: bS kH X7 ml m :: bS Va kH mi I :: bag m :: L) w := by
  simp only [zJ, Sat.ex_iff, Sat.pr_iff, Sat.hs_iff, List.cons_append, List.nil_append]
theorem Yc : Sat w0 (bag m :: L) w ↔ Sat w0 (m.map ZZ ++ L) w := Sat.hs_iff
theorem okC_id (c : Ctx) (i : Int) : okC { c with id := i } = okC c := rfl
theorem Hq (h1 : 1 ≤ n) (h2 : n ≤ 65536) (h : Sat w0 L w) (hK : ∀ p w', Sat w0 (zJ (ptr p) n next n [] [] [] :: L) w' → K (ptr p) w') : ai Uj [.int .i64 n, .int .i64 next] w K := by
  refine c106 ?_
  unfold Zk
  refine Ra h (fun h => by omega) fun d w _ _ h => ?_
  (repeat(first
|simp(disch:=omega)only[evA,evB,evC,af,ag]
|refine ax (X4 ..) ?_))
  refine dW kH X7 h fun ml w h => ?_
  obtain ⟨r1, _, _, ⟨e1, _⟩, _⟩ := eu.1 h
  refine dW Va kH h fun mi w h => ?_
  obtain ⟨r2, _, _, ⟨e2, _⟩, _⟩ := eu.1 h
  subst e1 e2
  have close : ∀ q w', Sat w0 (Cl q #[ptr d, .int .i64 n, .int .i64 next, .map (some r1), .map (some r2)] 249 :: bS Va kH (.map (some r2)) [] :: bS kH X7 (.map (some r1)) [] :: zK (ptr d) n [] :: L) w' → Sat w0 (zJ (ptr q) n next n [] [] [] :: L) w' := by
    intro q w' h
    have h3 : Sat w0 (bag [] :: _) w' := Yc.2 h
    exact RA.2 ⟨q, ptr d, .map (some r1), .map (some r2), rfl, h3.got⟩
  (repeat(first
|refine ax (wY ..) ?_
|((with_reducible apply cB h);rfl;intro _ _ h)))
  exact hK _ _ (close _ _ h)
theorem O7 (h1 : 1 ≤ n) (h2 : n ≤ 65536) (h : Sat w0 L w) (hK : ∀ p w', Sat w0 (zJ (ptr p) n 1 n [] [] [] :: L) w' → K (.tuple #[ptr p, .int .i64 0]) w') : ai G56 [.int .i64 n] w K := by
  refine c56 ?_
  unfold F56
  have e1 : decide (n < 1) = false := by simp; omega
  have e2 : decide (n > 65536) = false := by simp; omega
  (repeat simp(disch:=omega)only[evA,evB,evC,af,ag,e1,e2])
  exact Hq h1 h2 h fun p w h => hK p w h
end
end Go.Proofs.Gong

/- Ho5 -/
namespace Go.Proofs.Gong
open Go Go.Sx Go.Proofs
set_option maxRecDepth 100000
structure HInv (n next hn : Int) (m : Held) (I : List (Sgn × Int)) (M : List It) (cs : List Ctx) : Prop where
  pm : (m.map fun x => x.2.1).Perm cs
  key : ∀ x ∈ m, x.1 = x.2.1.id
  asc : cs.Pairwise fun a b => a.id < b.id
  pI : I.Perm (cs.map fun c => (rT c, c.id))
  sg : cs.Pairwise fun a b => rT a ≠ rT b
  pM : M.Perm (cs.map fun c => (c.id, c.at'))
  aM : Asc M
  bd : (cs.length : Int) ≤ n ∧ 1 ≤ n ∧ n ≤ hn ∧ hn ≤ 65536
  ok : ∀ c ∈ cs, okC c = true ∧ c.fits ∧ 1 ≤ c.id ∧ c.id < next
def Sy (id : Int) (cs : List Ctx) : List Ctx := cs.filter fun d => decide (d.id ≠ id)
def DX (c : Ctx) (cs : List Ctx) : Prop := c ∈ cs ∧ ∀ d ∈ cs, ng (d.id, d.at') (c.id, c.at') = false
section
variable {n next hn : Int} {m : Held} {I : List (Sgn × Int)} {M : List It} {cs : List Ctx} {c d : Ctx} {s : Value}
theorem Ck (h : cs.Pairwise fun a b => a.id < b.id) (hc : c ∈ cs) : ∃ l r, cs = l ++ c :: r ∧ (∀ d ∈ l, d.id ≠ c.id) ∧ (∀ d ∈ r, d.id ≠ c.id) := by
  obtain ⟨l, r, rfl⟩ := List.append_of_mem hc
  rw [List.pairwise_append] at h
  obtain ⟨_, h2, h3⟩ := h
  refine ⟨l, r, rfl, fun d hd e => ?_, fun d hd e => ?_⟩
  · have := h3 d hd c (by simp); omega
  · have := (List.pairwise_cons.1 h2).1 d hd; omega
theorem Iz {l r : List Ctx} (h1 : ∀ d ∈ l, d.id ≠ c.id) (h2 : ∀ d ∈ r, d.id ≠ c.id) : Sy c.id (l ++ c :: r) = l ++ r := by
  unfold Sy
  rw [List.filter_append, List.filter_cons, List.filter_eq_self.2 (fun d hd => by simpa using h1 d hd), List.filter_eq_self.2 (fun d hd => by simpa using h2 d hd)]
  simp
theorem asc_eq (h : cs.Pairwise fun a b => a.id < b.id) (hc : c ∈ cs) (hd : d ∈ cs) (e : c.id = d.id) : c = d := by
  obtain ⟨l, r, rfl, h1, h2⟩ := Ck h hc
  rcases List.mem_append.1 hd with g | g
  · exact absurd e.symm (h1 d g)
  · rcases List.mem_cons.1 g with rfl | g
    · rfl
    · exact absurd e.symm (h2 d g)
variable (H : HInv n next hn m I M cs)
include H
theorem HInv.len : m.length = cs.length := by
  have := H.pm.length_eq; simpa using this
theorem HInv.mem {k : Int} (hg : dM k m = some (c, s)) : c ∈ cs ∧ c.id = k := by
  have hm := tJ hg
  refine ⟨H.pm.mem_iff.1 (List.mem_map.2 ⟨_, hm, rfl⟩), ?_⟩
  exact (H.key _ hm).symm
theorem HInv.keys : (m.map Prod.fst).Nodup := by
  have e : m.map Prod.fst = (m.map fun x => x.2.1).map (·.id) := by
    rw [List.map_map]
    exact List.map_congr_left fun x hx => H.key x hx
  rw [e]
  refine ((H.pm.map (·.id)).nodup_iff).2 ?_
  exact List.pairwise_map.2 (H.asc.imp fun h e => by omega)
theorem HInv.get (hc : c ∈ cs) : ∃ s, dM c.id m = some (c, s) := by
  obtain ⟨x, hx, rfl⟩ := List.mem_map.1 (H.pm.mem_iff.2 hc)
  refine ⟨x.2.2, mh H.keys ?_⟩
  have := H.key x hx
  rw [← this]; exact hx
theorem HInv.get_none {k : Int} (h : ∀ c ∈ cs, c.id ≠ k) : dM k m = none := iZ fun y hy => by
  have h1 := H.key _ hy
  exact h y.1 (H.pm.mem_iff.1 (List.mem_map.2 ⟨_, hy, rfl⟩)) h1.symm
theorem HInv.sgs : (I.map Prod.fst).Nodup := by
  refine ((H.pI.map Prod.fst).nodup_iff).2 ?_
  rw [List.map_map]
  exact List.pairwise_map.2 (H.sg.imp fun h => h)
theorem HInv.sget (hc : c ∈ cs) : dM (rT c) I = some c.id := mh H.sgs (H.pI.mem_iff.2 (List.mem_map.2 ⟨c, hc, rfl⟩))
theorem HInv.snone {g : Sgn} (h : ∀ c ∈ cs, rT c ≠ g) : dM g I = none := iZ fun y hy => by
  obtain ⟨c, hc, e⟩ := List.mem_map.1 (H.pI.mem_iff.1 hy)
  simp only [Prod.mk.injEq] at e
  exact h c hc e.1
theorem HInv.mids : (M.map (·.1)).Nodup := by
  refine ((H.pM.map (·.1)).nodup_iff).2 ?_
  rw [List.map_map]
  exact List.pairwise_map.2 (H.asc.imp fun h e => by simp at e; omega)
theorem HInv.mlen : M.length = cs.length := by
  have := H.pM.length_eq; simpa using this
omit H in
theorem QP (h : okC c = true) : 0 ≤ c.at' ∧ c.at' ≤ 2305843009213693952 := by
  unfold okC jc at h
  simp only [Bool.and_eq_true, decide_eq_true_eq] at h
  exact h.2
omit H in
theorem HInv.add (H : HInv n next hn m I M cs) (ho : okC c = true) (hf : c.fits) (hs : ∀ d ∈ cs, rT d ≠ rT c) (hl : (cs.length : Int) < n) (hid : 1 ≤ next) :
    HInv n (next + 1) hn (iN next ({ c with id := next }, s) m) (iN (rT c) next I) (setR hn next c.at' M).2 (cs ++ [{ c with id := next }]) := by
  have hnew : ∀ d ∈ cs, d.id ≠ next := fun d hd e => by have := (H.ok d hd).2.2.2; omega
  have g1 := H.get_none hnew
  have g2 := H.snone hs
  have g3 : ∀ t, (next, t) ∉ M := fun t ht => by
    obtain ⟨d, hd, e⟩ := List.mem_map.1 (H.pM.mem_iff.1 ht)
    simp only [Prod.mk.injEq] at e
    exact hnew d hd e.1
  have hb := H.bd
  have ht := QP ho
  have hM : (setR hn next c.at' M).2 = Qr next c.at' M := by
    unfold setR
    rw [if_neg (by omega), if_neg (by rw [H.mlen]; omega)]
  rw [mH g1, mH g2, hM]
  refine ⟨?_, ?_, ?_, ?_, ?_, ?_, ?_, ?_, ?_⟩
  · rw [List.map_append]
    exact H.pm.append_right _
  · intro x hx
    rcases List.mem_append.1 hx with hx | hx
    · exact H.key x hx
    · simp at hx; subst hx; rfl
  · rw [List.pairwise_append]
    refine ⟨H.asc, by simp, fun a ha b hb => ?_⟩
    simp at hb; subst hb
    exact (H.ok a ha).2.2.2
  · rw [List.map_append]
    exact H.pI.append_right _
  · rw [List.pairwise_append]
    refine ⟨H.sg, by simp, fun a ha b hb => ?_⟩
    simp at hb; subst hb
    exact hs a ha
  · unfold Qr
    rw [List.map_append]
    refine (pK _ _).trans ?_
    rw [oF g3]
    exact (H.pM.cons _).trans (List.perm_append_comm (l₁ := [(next, c.at')]))
  · exact (H.aM.drop _).ins _
  · simp; omega
  · intro d hd
    rcases List.mem_append.1 hd with hd | hd
    · have := H.ok d hd
      exact ⟨this.1, this.2.1, this.2.2.1, by omega⟩
    · simp at hd; subst hd
      exact ⟨(okC_id c next).trans ho, hf, hid, by show next < next + 1; omega⟩
omit H in
theorem HInv.drop (H : HInv n next hn m I M cs) (hc : c ∈ cs) : HInv n next hn (mI c.id m) (mI (rT c) I) (mG c.id M) (Sy c.id cs) := by
  obtain ⟨s0, g1⟩ := H.get hc
  have g2 := H.sget hc
  have hbm : (c.id, c.at') ∈ M := H.pM.mem_iff.2 (List.mem_map.2 ⟨c, hc, rfl⟩)
  obtain ⟨l, r, rfl, h1, h2⟩ := Ck H.asc hc
  rw [Iz h1 h2]
  have hp := kF g1
  have sub : List.Sublist (l ++ r) (l ++ c :: r) := List.Sublist.append_left (List.sublist_cons_self _ _) _
  refine ⟨?_, ?_, H.asc.sublist sub, ?_, H.sg.sublist sub, ?_, H.aM.drop _, ?_, ?_⟩
  · have := ((hp.map fun x => x.2.1).trans H.pm).trans List.perm_middle
    exact List.Perm.cons_inv this
  · intro x hx
    exact H.key x (hp.mem_iff.1 (List.mem_cons_of_mem _ hx))
  · have hq := (kF g2).trans H.pI
    rw [List.map_append, List.map_cons] at hq
    rw [List.map_append]
    exact List.Perm.cons_inv (hq.trans List.perm_middle)
  · have hq := (Cf H.mids hbm).trans H.pM
    rw [List.map_append, List.map_cons] at hq
    rw [List.map_append]
    exact List.Perm.cons_inv (hq.trans List.perm_middle)
  · have := H.bd; simp at this ⊢; omega
  · exact fun d hd => H.ok d (sub.subset hd)
theorem HInv.first {x : It} (h : M.head? = some x) : ∃ c, DX c cs ∧ c.id = x.1 ∧ c.at' = x.2 := by
  obtain ⟨y, R, rfl⟩ : ∃ y R, M = y :: R := by
    cases M with
    | nil => simp at h
    | cons y R => exact ⟨y, R, rfl⟩
  obtain rfl : y = x := by simpa using h
  obtain ⟨c, hc, e⟩ := List.mem_map.1 (H.pM.mem_iff.1 (List.mem_cons_self ..))
  refine ⟨c, ⟨hc, fun d hd => ?_⟩, by rw [← e], by rw [← e]⟩
  rw [e]
  have hm := H.pM.mem_iff.2 (List.mem_map.2 ⟨d, hd, rfl⟩)
  rcases List.mem_cons.1 hm with h1 | h1
  · rw [h1]; exact y7.irr _
  · exact (List.pairwise_cons.1 H.aM).1 _ h1
end
theorem DX.eq {c d : Ctx} {cs : List Ctx} (h : cs.Pairwise fun a b => a.id < b.id) (hc : DX c cs) (hd : DX d cs) : c = d := by
  have := Ry (c.id, c.at') (d.id, d.at') (hd.2 c hc.1) (hc.2 d hd.1)
  exact asc_eq h hc.1 hd.1 (Prod.mk.inj this).1
theorem HInv.start {n : Int} (h1 : 1 ≤ n) (h2 : n ≤ 65536) (next : Int) : HInv n next n [] [] [] [] :=
  ⟨.nil, by simp, .nil, .nil, .nil, .nil, .nil, ⟨by simp; omega, h1, by omega, h2⟩, by simp⟩
end Go.Proofs.Gong

/- Hold2 -/

/- Ho6 -/
namespace Go.Proofs.Gong
open Go Go.Sx Go.Proofs
set_option maxRecDepth 100000
attribute [local irreducible] aD bY bO eqv dB Cl bS LsH SlH ld1 ldN st ai bT aY dF bI bz bE aJ aB bK bZ
def IR (v : Value) (n next : Int) (cs : List Ctx) : HP := HEx fun hn => HEx fun m => HEx fun I => HEx fun M => HPr (HInv n next hn m I M cs ∧ 1 ≤ next ∧ next ≤ 4611686018427387904) (zJ v n next hn m I M)
section
variable {w0 w : World} {L : List HP} {K : Value → World → Prop} {v : Value} {n next hn : Int} {m : Held} {I : List (Sgn × Int)} {M : List It} {cs : List Ctx} {c : Ctx} {tv s : Value}
theorem O6 : Sat w0 (IR v n next cs :: L) w ↔ ∃ hn m I M, (HInv n next hn m I M cs ∧ 1 ≤ next ∧ next ≤ 4611686018427387904) ∧ Sat w0 (zJ v n next hn m I M :: L) w := by
  simp only [IR, Sat.ex_iff, Sat.pr_iff]
theorem PO (h1 : 1 ≤ n) (h2 : n ≤ 65536) (h : Sat w0 L w) (hK : ∀ p w', Sat w0 (IR (ptr p) n 1 [] :: L) w' → K (.tuple #[ptr p, .int .i64 0]) w') : ai G56 [.int .i64 n] w K :=
  O7 h1 h2 h fun p w h => hK p w (O6.2 ⟨n, [], [], [], ⟨.start h1 h2 1, by omega, by omega⟩, h⟩)
end
end Go.Proofs.Gong

/- Be0 -/
namespace Go.Proofs.Gong
open Go Go.Sx Go.Proofs
set_option maxRecDepth 100000
structure BInv (n next : Int) (R : List (Int × Row)) (I : List (Sg × Int)) (rs : List Row) : Prop where
  pm : (R.map Prod.snd).Perm rs
  key : ∀ x ∈ R, x.1 = x.2.id
  asc : rs.Pairwise fun a b => a.id < b.id
  pI : I.Perm (rs.map fun r => (fO r.e, r.id))
  sg : rs.Pairwise fun a b => fO a.e ≠ fO b.e
  bd : (rs.length : Int) ≤ n ∧ 1 ≤ n ∧ n ≤ 65536
  ok : ∀ r ∈ rs, okR r = true ∧ r.id < next
def remL (id : Int) (rs : List Row) : List Row := rs.filter fun d => decide (d.id ≠ id)
def nO (r : Row) (rs : List Row) : List Row := rs.takeWhile (fun d => decide (d.id < r.id)) ++ r :: rs.dropWhile (fun d => decide (d.id < r.id))
section
variable {n next : Int} {R : List (Int × Row)} {I : List (Sg × Int)} {rs : List Row} {r d : Row}
theorem yE (h : rs.Pairwise fun a b => a.id < b.id) (hc : r ∈ rs) : ∃ l t, rs = l ++ r :: t ∧ (∀ d ∈ l, d.id ≠ r.id) ∧ (∀ d ∈ t, d.id ≠ r.id) := by
  obtain ⟨l, t, rfl⟩ := List.append_of_mem hc
  rw [List.pairwise_append] at h
  obtain ⟨_, h2, h3⟩ := h
  refine ⟨l, t, rfl, fun d hd e => ?_, fun d hd e => ?_⟩
  · have := h3 d hd r (by simp); omega
  · have := (List.pairwise_cons.1 h2).1 d hd; omega
theorem J4 {l t : List Row} (h1 : ∀ d ∈ l, d.id ≠ r.id) (h2 : ∀ d ∈ t, d.id ≠ r.id) : remL r.id (l ++ r :: t) = l ++ t := by
  unfold remL
  rw [List.filter_append, List.filter_cons, List.filter_eq_self.2 (fun d hd => by simpa using h1 d hd), List.filter_eq_self.2 (fun d hd => by simpa using h2 d hd)]
  simp
theorem Vk (h : rs.Pairwise fun a b => a.id < b.id) (hc : r ∈ rs) (hd : d ∈ rs) (e : r.id = d.id) : r = d := by
  obtain ⟨l, t, rfl, h1, h2⟩ := yE h hc
  rcases List.mem_append.1 hd with g | g
  · exact absurd e.symm (h1 d g)
  · rcases List.mem_cons.1 g with rfl | g
    · rfl
    · exact absurd e.symm (h2 d g)
theorem mq (c : Row) (cs : List Row) : (nO c cs).Perm (c :: cs) := by
  unfold nO
  exact List.perm_middle.trans (by rw [List.takeWhile_append_dropWhile])
theorem Hl {c : Row} : ∀ {cs : List Row}, (cs.Pairwise fun a b => a.id < b.id) → (∀ d ∈ cs, d.id ≠ c.id) → (nO c cs).Pairwise fun a b => a.id < b.id
  | [], _, _ => by simp [nO]
  | d :: r, h, hn => by
    obtain ⟨h1, h2⟩ := List.pairwise_cons.1 h
    have hd := hn d (by simp)
    by_cases g : d.id < c.id
    · have e : nO c (d :: r) = d :: nO c r := by simp [nO, g]
      rw [e]
      refine List.pairwise_cons.2 ⟨fun x hx => ?_, Hl h2 fun x hx => hn x (List.mem_cons_of_mem _ hx)⟩
      rcases List.mem_cons.1 ((mq c r).mem_iff.1 hx) with rfl | hx
      · exact g
      · exact h1 x hx
    · have e : nO c (d :: r) = c :: d :: r := by simp [nO, g]
      rw [e]
      refine List.pairwise_cons.2 ⟨fun x hx => ?_, h⟩
      rcases List.mem_cons.1 hx with rfl | hx
      · omega
      · have := h1 x hx; omega
variable (H : BInv n next R I rs)
include H
theorem BInv.len : R.length = rs.length := by
  have := H.pm.length_eq; simpa using this
theorem BInv.mem {k : Int} (hg : dM k R = some r) : r ∈ rs ∧ r.id = k := by
  have hm := tJ hg
  exact ⟨H.pm.mem_iff.1 (List.mem_map.2 ⟨_, hm, rfl⟩), (H.key _ hm).symm⟩
theorem BInv.keys : (R.map Prod.fst).Nodup := by
  have e : R.map Prod.fst = (R.map Prod.snd).map (·.id) := by
    rw [List.map_map]
    exact List.map_congr_left fun x hx => H.key x hx
  rw [e]
  refine ((H.pm.map (·.id)).nodup_iff).2 ?_
  exact List.pairwise_map.2 (H.asc.imp fun h e => by omega)
theorem BInv.get (hc : r ∈ rs) : dM r.id R = some r := by
  obtain ⟨x, hx, rfl⟩ := List.mem_map.1 (H.pm.mem_iff.2 hc)
  refine mh H.keys ?_
  rw [← H.key x hx]; exact hx
theorem BInv.get_none {k : Int} (h : ∀ c ∈ rs, c.id ≠ k) : dM k R = none := iZ fun y hy => by
  have h1 := H.key _ hy
  exact h y (H.pm.mem_iff.1 (List.mem_map.2 ⟨_, hy, rfl⟩)) h1.symm
theorem BInv.sgs : (I.map Prod.fst).Nodup := by
  refine ((H.pI.map Prod.fst).nodup_iff).2 ?_
  rw [List.map_map]
  exact List.pairwise_map.2 (H.sg.imp fun h => h)
theorem BInv.sget (hc : r ∈ rs) : dM (fO r.e) I = some r.id := mh H.sgs (H.pI.mem_iff.2 (List.mem_map.2 ⟨r, hc, rfl⟩))
theorem BInv.snone {g : Sg} (h : ∀ c ∈ rs, fO c.e ≠ g) : dM g I = none := iZ fun y hy => by
  obtain ⟨c, hc, e⟩ := List.mem_map.1 (H.pI.mem_iff.1 hy)
  simp only [Prod.mk.injEq] at e
  exact h c hc e.1
omit H in
theorem BInv.ins (H : BInv n next R I rs) (ho : okR r = true) (hs : ∀ d ∈ rs, fO d.e ≠ fO r.e) (hnew : ∀ d ∈ rs, d.id ≠ r.id) (hl : (rs.length : Int) < n) (h2 : r.id < next) :
    BInv n next (iN r.id r R) (iN (fO r.e) r.id I) (nO r rs) := by
  have g1 := H.get_none hnew
  have g2 := H.snone hs
  rw [mH g1, mH g2]
  have hp := mq r rs
  refine ⟨?_, ?_, Hl H.asc hnew, ?_, ?_, ?_, ?_⟩
  · rw [List.map_append]
    refine (List.perm_append_comm.trans ?_).trans hp.symm
    exact H.pm.cons _
  · intro x hx
    rcases List.mem_append.1 hx with hx | hx
    · exact H.key x hx
    · simp at hx; subst hx; rfl
  · refine (List.perm_append_comm.trans ?_).trans (hp.map _).symm
    exact H.pI.cons _
  · refine hp.symm.pairwise ?_ (fun h => h.symm)
    exact List.pairwise_cons.2 ⟨fun d hd e => hs d hd e.symm, H.sg⟩
  · have := hp.length_eq; have := H.bd; simp at *; omega
  · intro d hd
    rcases List.mem_cons.1 (hp.mem_iff.1 hd) with rfl | hd
    · exact ⟨ho, h2⟩
    · exact H.ok d hd
omit H in
theorem BInv.rem (H : BInv n next R I rs) (hc : r ∈ rs) : BInv n next (mI r.id R) (mI (fO r.e) I) (remL r.id rs) := by
  have g1 := H.get hc
  have g2 := H.sget hc
  obtain ⟨l, t, rfl, h1, h2⟩ := yE H.asc hc
  rw [J4 h1 h2]
  have hp := kF g1
  have sub : List.Sublist (l ++ t) (l ++ r :: t) := List.Sublist.append_left (List.sublist_cons_self _ _) _
  refine ⟨?_, ?_, H.asc.sublist sub, ?_, H.sg.sublist sub, ?_, ?_⟩
  · have := ((hp.map Prod.snd).trans H.pm).trans List.perm_middle
    exact List.Perm.cons_inv this
  · intro x hx
    exact H.key x (hp.mem_iff.1 (List.mem_cons_of_mem _ hx))
  · have hq := (kF g2).trans H.pI
    rw [List.map_append, List.map_cons] at hq
    rw [List.map_append]
    exact List.Perm.cons_inv (hq.trans List.perm_middle)
  · have := H.bd; simp at this ⊢; omega
  · exact fun d hd => H.ok d (sub.subset hd)
end
theorem BInv.start {n : Int} (h1 : 1 ≤ n) (h2 : n ≤ 65536) (next : Int) : BInv n next [] [] [] := ⟨.nil, by simp, .nil, .nil, .nil, ⟨by simp; omega, h1, h2⟩, by simp⟩
end Go.Proofs.Gong

/- Board2 -/

/- Be1 -/
namespace Go.Proofs.Gong
open Go Go.Sx Go.Proofs
set_option maxRecDepth 100000
attribute [local irreducible] aD bY bO eqv dB Cl bS LsH SlH ld1 ldN st ai bT aY dF bI bz bE aJ aB bK bZ
theorem CR : Cod bR 11 := ⟨fun _ => rfl, fun _ => rfl, by omega⟩
instance : CodC bR 11 := ⟨CR⟩
instance : Inhabited Row := ⟨MO⟩
def gq (v : Value) (n next : Int) (rs : List Row) : HP := HEx fun R => HEx fun I => HPr (BInv n next R I rs ∧ 1 ≤ next ∧ next ≤ 4611686018427387904) (l9 v n next R I)
def idV (x y : Row) : Int := if x.id < y.id then -1 else if y.id < x.id then 1 else 0
def Ho (x y : Row) : Bool := decide (x.id < y.id)
theorem idSWO : SWO Ho := by
  constructor <;> intros <;> simp_all [Ho] <;> omega
theorem XO (x y : Row) : idV x y < 0 ↔ Ho x y = true := by unfold idV Ho; split <;> (try split) <;> simp_all
section
variable {w0 w : World} {L : List HP} {K : Value → World → Prop} {v : Value} {n next : Int} {R : List (Int × Row)} {I : List (Sg × Int)} {rs : List Row} {r : Row}
theorem gz : Sat w0 (gq v n next rs :: L) w ↔ ∃ R I, (BInv n next R I rs ∧ 1 ≤ next ∧ next ≤ 4611686018427387904) ∧ Sat w0 (l9 v n next R I :: L) w := by
  simp only [gq, Sat.ex_iff, Sat.pr_iff]
theorem zu (h : Sat w0 (gq v n next rs :: L) w) : ∃ R I, BInv n next R I rs := by
  obtain ⟨R, I, H, _⟩ := gz.1 h
  exact ⟨R, I, H.1⟩
theorem K4 (W : World) (x y : Row) : ai G131 [.agg (bR x).toArray, .agg (bR y).toArray] W fun v w' => v = .int .i64 (idV x y) ∧ Gr W w' := by
  refine c131 ?_
  unfold Y4
  refine lJ (Sat.start W) (Gr.refl W) fun p w1 h1 g1 => ?_
  refine lJ h1 g1 fun q w2 h2 g2 => ?_
  have hp := h2.f1.cl
  have hq := h2.cl
  simp only [bR, kE] at hp hq
  simp [ptr, cell_of hp, cell_of hq]
  exact zo ⟨rfl, g2⟩
theorem K9 (h1 : 1 ≤ n) (h2 : n ≤ 65536) (h : Sat w0 L w) (hK : ∀ p w', Sat w0 (gq (ptr p) n 1 [] :: L) w' → K (.tuple #[ptr p, .int .i64 0]) w') : ai G55 [.int .i64 n] w K :=
  PI h h1 h2 fun p w h => hK p w (gz.2 ⟨[], [], ⟨.start h1 h2 1, by omega, by omega⟩, h⟩)
theorem Sd (x : Row) : dx Tryz.prog 48 1 [(0, .agg (bR x).toArray)] = some (bR x).toArray := by kernel_rfl
theorem zw (h : Sat w0 (gq v n next rs :: L) w) (hK : ∀ s w', Sat w0 (LsH bR 11 48 s rs :: gq v n next rs :: L) w' → K s w') : ai G73 [v] w K := by
  refine c73 ?_
  unfold F73
  replace h := gz.1 h
  obtain ⟨R, I, H, h⟩ := h
  replace h := ed.1 h
  obtain ⟨p, mr, mi, rfl, h⟩ := h
  obtain ⟨r1, _, _, ⟨rfl, _⟩, _⟩ := eu.1 (h.frt (A := bS kI fQ mr R))
  (repeat(first
|simp(disch:=omega)only[evA,evB,evC,af,ag]
|with_reducible refine bA h ?_))
  refine c130 ?_
  unfold Y5
  (repeat(first
|simp(disch:=omega)only[evA,evB,evC,af,ag]
|((with_reducible apply cB h);rfl;intro _ _ h)))
  refine c129 ?_
  unfold Y6
  refine c177 ?_
  unfold YR
  have hb := H.1.bd
  refine SS (ek := kI) (ev := fQ) (fv := bR) (m := R) (L := Cl p #[.int .i64 n, .int .i64 next, .map (some r1), mi] 113 :: bS ekS kI mi I :: L) CR (fun _ => rfl) Sd (by rw [H.1.len]; omega) (h.got) fun l s w hp h => ?_
  have hll : l.length = rs.length := by
    have := hp.length_eq
    rw [List.length_map, H.1.len] at this; exact this
  refine Oi (lt := Ho) (cf := idV) (l := l) h (by omega) CR idSWO XO ok131 Tryz.call131 K4 fun l' w h3 h4 h => ?_
  have el : l' = rs := by
    refine List.Perm.eq_of_pairwise (le := fun a b : Row => Ho b a = false) (fun a b ha hb h1 h2 => ?_) h4 (H.1.asc.imp fun h => by simp [Ho]; omega) ((h3.trans hp).trans H.1.pm)
    have hp2 := (h3.trans hp).trans H.1.pm
    simp [Ho] at h1 h2
    exact Vk H.1.asc (hp2.mem_iff.1 ha) hb (by omega)
  subst el
  exact hK _ _ (Sat.f1 (gz.2 ⟨R, I, H, ed.2 ⟨p, _, mi, rfl, h.got⟩⟩))
end
end Go.Proofs.Gong

/- Be2 -/
namespace Go.Proofs.Gong
open Go Go.Sx Go.Proofs
set_option maxRecDepth 100000
attribute [local irreducible] aD bY bO eqv dB Cl bS LsH SlH ld1 ldN st ai bT aY dF bI bz bE aJ aB bK bZ
section
variable {w0 w : World} {L : List HP} {K : Value → World → Prop} {v : Value} {n next : Int} {R : List (Int × Row)} {I : List (Sg × Int)} {rs : List Row} {r : Row}
end
end Go.Proofs.Gong

/- Be3 -/
namespace Go.Proofs.Gong
open Go Go.Sx Go.Proofs
set_option maxRecDepth 100000
attribute [local irreducible] aD bY bO eqv dB Cl bS LsH SlH ld1 ldN st ai bT aY dF bI bz bE aJ aB bK bZ
section
variable {w0 w : World} {L : List HP} {K : Value → World → Prop} {v : Value} {n next : Int} {R : List (Int × Row)} {I : List (Sg × Int)} {rs : List Row} {r : Row}
end
end Go.Proofs.Gong

/- Be4 -/
namespace Go.Proofs.Gong
open Go Go.Sx Go.Proofs
set_option maxRecDepth 100000
attribute [local irreducible] aD bY bO eqv dB Cl bS LsH SlH ld1 ldN st ai bT aY dF bI bz bE aJ aB bK bZ
section
variable {w0 w : World} {L : List HP} {K : Value → World → Prop} {v : Value} {n next : Int} {R : List (Int × Row)} {I : List (Sg × Int)} {rs : List Row} {r : Row}
end
end Go.Proofs.Gong

/- Be5 -/
namespace Go.Proofs.Gong
open Go Go.Sx Go.Proofs
set_option maxRecDepth 100000
def d9 (next : Int) (rs : List Row) (r : Row) : Option (List Row) :=
  if okR r = true ∧ r.id < next ∧ (∀ d ∈ rs, d.id ≠ r.id) ∧ (∀ d ∈ rs, fO d.e ≠ fO r.e) then some (nO r rs) else none
def eO (next : Int) : List Row → List Row → Option (List Row)
  | [], rs => some rs
  | r :: l, rs => (d9 next rs r).bind (eO next l)
attribute [local irreducible] aD bY bO eqv dB Cl bS LsH SlH ld1 ldN st ai bT aY dF bI bz bE aJ aB bK bZ
section
variable {w0 w : World} {L : List HP} {K : Value → World → Prop} {v : Value} {n next : Int} {R : List (Int × Row)} {I : List (Sg × Int)} {rs : List Row} {r : Row}
theorem bload2 {p : Nat} {sv : Value} {l ds : List Row} {next0 : Int} (hlen : (l.length : Int) ≤ n) (hn : 1 ≤ n ∧ n ≤ 65536) (hnx : 1 ≤ next ∧ next ≤ 1152921504606846976) (hrd : RdL w0 L bR 11 sv l)
    (hK : ∀ w', Sat w0 (gq (ptr p) n next ds :: L) w' → K (.int .i64 0) w') :
    ∀ (d i : Nat) (cs : List Row) (R : List (Int × Row)) (I : List (Sg × Int)) (w : World), l.length - i < d → i ≤ l.length → cs.length = i → eO next (l.drop i) cs = some ds → BInv n next R I cs →
      Sat w0 (l9 (ptr p) n next0 R I :: L) w → o5 d (ptr p) (.int .i64 next) sv (.int .i64 (l.length : Nat)) (.int .i64 i) w K := by
  intro d
  induction d with
  | zero => intro i _ _ _ _ hd; omega
  | succ d ih =>
    intro i cs R I w hd hi hc he H h
    rw [o5]
    unfold Ms
    by_cases g : i < l.length
    · have g' : decide ((i : Int) < (l.length : Int)) = true := by simpa using g
      rw [List.drop_eq_getElem_cons g] at he
      unfold eO d9 at he
      split at he
      case isFalse => cases he
      rename_i hs
      have hrL : Rd w 11 sv l.length (l.flatMap bR) := hrd w (h.got)
      (repeat simp(disch:=omega)only[evA,evB,evC,af,ag,g'])
      refine ax (fV hrL g) ?_
      refine ax (wz CR hrL g) ?_
      skip
      refine cu h zR rfl fun _ _ h => ?_
      (repeat(first
|with_reducible refine bA h ?_
|((with_reducible apply dO h);rfl;rfl;(first|rfl|simp[OneV.o]);intro _ h)))
      refine BH (r := l[i]) (v := ptr p) (n := n) (next := next0) (R := R) (I := I) (L := _ :: L) (h.got) fun w h => ?_
      skip
      refine ih (i + 1) (nO l[i] cs) _ _ w (by omega) (by omega) ?_ he (H.ins hs.1 hs.2.2.2 hs.2.2.1 (by omega) hs.2.1) (h.got)
      have := (mq l[i] cs).length_eq; simp at this; omega
    · have g' : decide ((i : Int) < (l.length : Int)) = false := by simpa using g
      rw [List.drop_eq_nil_of_le (by omega)] at he
      simp only [eO, Option.some.injEq] at he
      subst he
      (repeat simp(disch:=omega)only[evA,evB,evC,af,ag,g'])
      unfold CF Mr
      replace h := ed.1 h
      obtain ⟨p', mr, mi, e, h⟩ := h
      cases e
      (repeat(first
|simp(disch:=omega)only[evA,evB,evC,af,ag]
|((with_reducible refine gH h ?_);intro _ h)))
      exact hK _ (gz.2 ⟨R, I, ⟨H, by omega, by omega⟩, ed.2 ⟨p, mr, mi, rfl, h.got⟩⟩)
theorem bload1 {q : Nat} {v sv : Value} {l : List Row} (hfit : ∀ x ∈ l, x.e.fits ∧ x.who.length < 1073741824) (hlen : l.length ≤ 65536) (hnx : 1 ≤ next ∧ next ≤ 1152921504606846976) (hrd : RdL w0 L bR 11 sv l)
    (hK0 : eO next l [] = none → ∀ w', Sat w0 L w' → K (.int .i64 4) w') (hK1 : ∀ ds, eO next l [] = some ds → ∀ w', Sat w0 L w' → zV v sv (.int .i64 next) w' K) :
    ∀ (d i : Nat) (cs : List Row) (R : List (Int × Row)) (I : List (Sg × Int)) (w : World), l.length - i < d → i ≤ l.length → cs.length = i → eO next l [] = eO next (l.drop i) cs → BInv 65536 next R I cs →
      Sat w0 (l9 (ptr q) n next R I :: L) w → o6 d v sv (.int .i64 next) (ptr q) sv (.int .i64 (l.length : Nat)) (.int .i64 i) w K := by
  intro d
  induction d with
  | zero => intro i _ _ _ _ hd; omega
  | succ d ih =>
    intro i cs R I w hd hi hc he H h
    rw [o6]
    unfold Mv
    by_cases g : i < l.length
    · have g' : decide ((i : Int) < (l.length : Int)) = true := by simpa using g
      rw [List.drop_eq_getElem_cons g] at he
      replace h := ed.1 h
      obtain ⟨p', mr, mi, e, h⟩ := h
      cases e
      have := pJ (h.frt (A := bS kI fQ mr R))
      have := pJ (h.frt (A := bS ekS kI mi I))
      have hrL : Rd w 11 sv l.length (l.flatMap bR) := hrd w (h.got)
      (repeat simp(disch:=omega)only[evA,evB,evC,af,ag,g'])
      refine ax (fV hrL g) ?_
      refine ax (wz CR hrL g) ?_
      have hfc := hfit _ (List.getElem_mem g)
      generalize l[i] = c at he hfc
      have hbad : d9 next cs c = none → eO next l [] = none := fun h => by rw [he]; simp [eO, h]
      skip
      refine cu h zR rfl fun _ _ h => ?_
      (repeat(first
|simp(disch:=omega)only[evA,evB,evC,af,ag]
|with_reducible refine bA h ?_
|((with_reducible apply dO h);rfl;rfl;(first|rfl|simp[OneV.o]);intro _ h)))
      refine HZ h (by repeat(first|exact .here|apply Fnt.there)) KIr FY zR c.id ?_
      rw [Z7]
      (repeat simp(disch:=omega)only[evA,evB,evC,af,ag])
      refine cu h zR rfl fun _ _ h => ?_
      (repeat with_reducible refine bA h ?_)
      refine go_fok ((ZX (h.frt) KIr FY zR c.id).trans (by rw [Z7])) ?_
      (repeat(first
|with_reducible refine bA h ?_
|((with_reducible apply dO h);rfl;rfl;(first|rfl|simp[OneV.o]);intro _ h)))
      refine M0 (e := c.e) h.drew fun w h => ?_
      (repeat with_reducible refine bA h ?_)
      refine HZ h (by repeat(first|exact .here|apply Fnt.there)) KS Qc z3 (fO c.e) ?_
      (repeat(first
|simp(disch:=omega)only[evA,evB,evC,af,ag]
|with_reducible refine bA h ?_))
      refine wR (r := c) hfc.1 hfc.2 h fun w h => ?_
      unfold Bf
      cases g1 : okR c
      · have d4 : decide ((4 : Int) = 0) = false := by decide
        (repeat simp(disch:=omega)only[evA,evB,evC,af,ag,Bool.false_eq_true,if_false,d4])
        exact hK0 (hbad (by unfold d9; rw [if_neg]; simp [g1])) _ (h.got)
      by_cases g3 : c.id ≥ next
      · have g3' : decide (c.id ≥ next) = true := by simpa using g3
        (repeat(first
|simp(disch:=omega)only[evA,evB,evC,af,ag,if_true,g3']
|with_reducible refine bA h ?_))
        exact hK0 (hbad (by unfold d9; rw [if_neg]; omega)) _ (h.got)
      have g3' : decide (c.id ≥ next) = false := by simpa using g3
      cases g4 : (dM c.id R).isSome
      case true =>
        (repeat(first
|simp(disch:=omega)only[evA,evB,evC,af,ag,if_true,g3']
|with_reducible refine bA h ?_))
        refine hK0 (hbad ?_) _ (h.got)
        unfold d9
        rw [if_neg]
        intro hh
        rw [H.get_none hh.2.2.1] at g4; cases g4
      cases g5 : (dM (fO c.e) I).isSome
      case true =>
        (repeat(first
|simp(disch:=omega)only[evA,evB,evC,af,ag,if_true,g3']
|with_reducible refine bA h ?_))
        refine hK0 (hbad ?_) _ (h.got)
        unfold d9
        rw [if_neg]
        intro hh
        rw [H.snone hh.2.2.2] at g5; cases g5
      have n1 : ∀ d ∈ cs, d.id ≠ c.id := fun d hd e => by
        have hs := H.get hd
        rw [e] at hs; rw [hs] at g4; cases g4
      have n2 : ∀ d ∈ cs, fO d.e ≠ fO c.e := fun d hd e => by
        have hs := H.sget hd
        rw [e] at hs; rw [hs] at g5; cases g5
      have hstep : d9 next cs c = some (nO c cs) := by
        unfold d9
        rw [if_pos ⟨g1, by omega, n1, n2⟩]
      (repeat(first
|simp(disch:=omega)only[evA,evB,evC,af,ag,if_true,g3']
|with_reducible refine bA h ?_))
      refine BH (r := c) (v := ptr q) (n := n) (next := next) (R := R) (I := I) (L := _ :: _ :: L) (ed.2 ⟨q, mr, mi, rfl, h.got⟩) fun w h => ?_
      skip
      refine ih (i + 1) (nO c cs) _ _ w (by omega) (by omega) ?_ ?_ (H.ins g1 n2 n1 (by omega) (by omega)) (h.got)
      · have := (mq c cs).length_eq; simp at this; omega
      · rw [he]; simp [eO, hstep]
    · have g' : decide ((i : Int) < (l.length : Int)) = false := by simpa using g
      (repeat simp(disch:=omega)only[evA,evB,evC,af,ag,g'])
      refine hK1 cs ?_ w (h.got)
      rw [he, List.drop_eq_nil_of_le (by omega)]; rfl
theorem IK {sv : Value} {l : List Row} {next0 : Int} (hfit : ∀ x ∈ l, x.e.fits ∧ x.who.length < 1073741824) (hlen : l.length ≤ 65536) (hl : ∀ {w}, Sat w0 L w → bI sv = some (.int .i64 l.length)) (hrd : RdL w0 L bR 11 sv l)
    (h : Sat w0 (gq v n next0 rs :: L) w)
    (hKbad : (next < 1 ∨ 1152921504606846976 < next ∨ eO next l [] = none) → ∀ w', Sat w0 (gq v n next0 rs :: L) w' → K (.int .i64 4) w')
    (hKfull : ∀ ds, eO next l [] = some ds → 1 ≤ next ∧ next ≤ 1152921504606846976 → n < l.length → ∀ w', Sat w0 (gq v n next0 rs :: L) w' → K (.int .i64 200) w')
    (hK : ∀ ds, eO next l [] = some ds → 1 ≤ next ∧ next ≤ 1152921504606846976 → (l.length : Int) ≤ n → ∀ w', Sat w0 (gq v n next ds :: L) w' → K (.int .i64 0) w') : ai G21 [v, sv, .int .i64 next] w K := by
  refine c21 ?_
  unfold F21 NS Mw Jo
  have hl := hl h.drop
  by_cases g1 : next < 1
  · have g1' : decide (next < 1) = true := by simpa using g1
    (repeat simp(disch:=omega)only[evA,evB,evC,af,ag,g1'])
    exact hKbad (.inl g1) _ h
  have g1' : decide (next < 1) = false := by simpa using g1
  by_cases g2 : next > 1152921504606846976
  · have g2' : decide (next > 1152921504606846976) = true := by simpa using g2
    (repeat simp(disch:=omega)only[evA,evB,evC,af,ag,g1',g2'])
    exact hKbad (.inr (.inl g2)) _ h
  have g2' : decide (next > 1152921504606846976) = false := by simpa using g2
  replace h := gz.1 h
  obtain ⟨R, I, H, h⟩ := h
  replace h := ed.1 h
  obtain ⟨p, mr, mi, rfl, h⟩ := h
  (repeat(first
|simp(disch:=omega)only[evA,evB,evC,af,ag,g1',g2']
|with_reducible refine bA h ?_))
  refine dW kI fQ h fun m1 w h => ?_
  obtain ⟨r1, _, _, ⟨e1, _⟩, _⟩ := eu.1 h
  refine dW ekS kI h fun m2 w h => ?_
  obtain ⟨r2, _, _, ⟨e2, _⟩, _⟩ := eu.1 h
  subst e1 e2
  have eb : aD Tryz.prog 113 [(0, .int .i64 n), (1, .int .i64 next), (2, .map (some r1)), (3, .map (some r2))] = some (.agg #[.int .i64 n, .int .i64 next, .map (some r1), .map (some r2)]) := by kernel_rfl
  refine ax eb ?_
  refine gB h fun q w h => ?_
  simp only [kE] at h
  refine ax hl ?_
  have h2 : Sat w0 (l9 (ptr q) n next [] [] :: gq (ptr p) n next0 rs :: L) w := by
    refine ed.2 ⟨q, .map (some r1), .map (some r2), rfl, ?_⟩
    have h3 : Sat w0 (gq (ptr p) n next0 rs :: Cl q #[.int .i64 n, .int .i64 next, .map (some r1), .map (some r2)] 113 :: bS ekS kI (.map (some r2)) [] :: bS kI fQ (.map (some r1)) [] :: L) w := gz.2 ⟨R, I, H, ed.2 ⟨p, mr, mi, rfl, h.got⟩⟩
    exact h3.got
  refine bload1 (L := gq (ptr p) n next0 rs :: L) hfit hlen (by omega) hrd.cons (fun hb w h => hKbad (.inr (.inr hb)) w h) (fun ds hds w h => ?_) fuel 0 [] [] [] w (by unfold fuel; omega) (by omega) rfl (by simp) (.start (by omega) (by omega) next) h2
  clear h2
  unfold zV Mt
  replace h := gz.1 h
  obtain ⟨R, I, H, h⟩ := h
  replace h := ed.1 h
  obtain ⟨p', mr, mi, e, h⟩ := h
  cases e
  have := pJ (h.frt (A := bS kI fQ mr R))
  have := pJ (h.frt (A := bS ekS kI mi I))
  by_cases g3 : (l.length : Int) > n
  · have g3' : decide ((l.length : Int) > n) = true := by simpa using g3
    (repeat(first
|simp(disch:=omega)only[evA,evB,evC,af,ag,hl,g3']
|with_reducible refine bA h ?_))
    exact hKfull ds hds (by omega) (by omega) _ (gz.2 ⟨R, I, H, ed.2 ⟨p, mr, mi, rfl, h.got⟩⟩)
  · have g3' : decide ((l.length : Int) > n) = false := by simpa using g3
    (repeat(first
|simp(disch:=omega)only[evA,evB,evC,af,ag,hl,g3']
|with_reducible refine bA h ?_))
    refine zi (h.frt (A := bS kI fQ mr R)) FY fun w h => ?_
    (repeat with_reducible refine bA h ?_)
    refine zi (h.frt (A := bS ekS kI mi I)) Qc fun w h => ?_
    skip
    unfold Jn
    have hb := H.1.bd
    refine bload2 (next0 := next0) (by omega) (by omega) (by omega) hrd (fun w h => hK ds hds (by omega) (by omega) w h) fuel 0 [] [] [] w (by unfold fuel; omega) (by omega) rfl (by simpa using hds) (.start (by omega) (by omega) next) (ed.2 ⟨p, mr, mi, rfl, h.got⟩)
end
end Go.Proofs.Gong

/- Be6 -/
namespace Go.Proofs.Gong
open Go Go.Sx Go.Proofs
set_option maxRecDepth 100000
attribute [local irreducible] aD bY bO eqv dB Cl bS LsH SlH ld1 ldN st ai bT aY dF bI bz bE aJ aB bK bZ
section
variable {w0 w : World} {L : List HP} {K : Value → World → Prop} {ha hb s0 s1 s2 : Value} {n next : Int} {cs : List Row}
end
end Go.Proofs.Gong

/- Be7 -/
namespace Go.Proofs.Gong
open Go Go.Sx Go.Proofs
set_option maxRecDepth 100000
attribute [local irreducible] aD bY bO eqv dB Cl bS LsH SlH ld1 ldN st ai bT aY dF bI bz bE aJ aB bK bZ
section
variable {w0 w : World} {L : List HP} {K : Value → World → Prop} {v : Value} {n next : Int} {R : List (Int × Row)} {I : List (Sg × Int)} {rs : List Row} {r : Row}
end
end Go.Proofs.Gong

/- Be8 -/
namespace Go.Proofs.Gong
open Go Go.Sx Go.Proofs
set_option maxRecDepth 100000
attribute [local irreducible] aD bY bO eqv dB Cl bS LsH SlH ld1 ldN st ai bT aY dF bI bz bE aJ aB bK bZ
section
variable {w0 w : World} {L : List HP} {K : Value → World → Prop} {n next : Int} {rs : List Row}
end
end Go.Proofs.Gong

/- Be9 -/
namespace Go.Proofs.Gong
open Go Go.Sx Go.Proofs
set_option maxRecDepth 100000
attribute [local irreducible] aD bY bO eqv dB Cl bS LsH SlH ld1 ldN st ai bT aY dF bI bz bE aJ aB bK bZ
section
variable {w0 w : World} {L : List HP} {K : Value → World → Prop} {n next : Int} {rs : List Row}
end
end Go.Proofs.Gong

/- Bf0 -/
namespace Go.Proofs.Gong
open Go Go.Sx Go.Proofs
set_option maxRecDepth 100000
section
variable {n next : Int} {rs : List Row} {op : List (Int × Bool)}
end
attribute [local irreducible] aD bY bO eqv dB Cl bS LsH SlH ld1 ldN st ai bT aY dF bI bz bE aJ aB bK bZ
section
variable {w0 w : World} {L : List HP} {K : Value → World → Prop} {n next last : Int} {rs : List Row} {s0 s1 b ov : Value} {op : List (Int × Bool)} {i0 : Nat} {l cl : List Int} {R3 : Value → Value → Value → Value → Value → Value → World → Prop}
end
end Go.Proofs.Gong

/- Bf1 -/
namespace Go.Proofs.Gong
open Go Go.Sx Go.Proofs
set_option maxRecDepth 100000
attribute [local irreducible] aD bY bO eqv dB Cl bS LsH SlH ld1 ldN st ai bT aY dF bI bz bE aJ aB bK bZ
section
variable {w0 w : World} {L : List HP} {K : Value → World → Prop} {n next last : Int} {rs : List Row} {s0 s1 b ov : Value} {op : List (Int × Bool)} {i0 : Nat} {l cl : List Int} {R3 : Value → Value → Value → Value → Value → Value → World → Prop}
end
end Go.Proofs.Gong

/- Board3 -/

/- Bp0 -/
namespace Go.Proofs.Gong
open Go Go.Sx Go.Proofs
set_option maxRecDepth 100000
def nC (v : Value) (n next : Int) (rs : List Row) : HP := HEx fun p => HEx fun s => HPr (v = ptr p) (HSt (Cl p #[.int .i64 n, .int .i64 next, s] 104) (LsH bR 11 48 s rs))
section
variable {rs : List Row} {i : Nat}
end
attribute [local irreducible] aD bY bO eqv dB Cl bS LsH SlH ld1 ldN st ai bT aY dF bI bz bE aJ aB bK bZ
section
variable {w0 w : World} {L : List HP} {K : Value → World → Prop} {v : Value} {n next : Int} {rs : List Row} {r : Row}
theorem jE : Sat w0 (nC v n next rs :: L) w ↔ ∃ p s, v = ptr p ∧ Sat w0 (Cl p #[.int .i64 n, .int .i64 next, s] 104 :: LsH bR 11 48 s rs :: L) w := by
  simp only [nC, Sat.ex_iff, Sat.pr_iff, Sat.star_iff]
theorem JU {a b : Evt} (h : Sat w0 L w) (hK : ∀ w', Sat w0 L w' → K (.bool (decide (fO a = fO b))) w') : ai G36 [evV a, evV b] w K := by
  refine c36 ?_
  unfold F36
  (repeat(first
|simp(disch:=omega)only[evA,evB,evC,af,ag]
|with_reducible refine bA h ?_
|((with_reducible apply cB h);rfl;intro _ _ h)))
  by_cases e1 : a.node = b.node
  case' neg =>
    have e2 : decide (fO a = fO b) = false := by simp [fO, e1]
    rw [e2] at hK
    rw [decide_eq_false e1]
    (repeat simp(disch:=omega)only[evA,evB,evC,af,ag])
    exact hK _ (h.got)
  rw [decide_eq_true e1]
  (repeat(first
|simp(disch:=omega)only[evA,evB,evC,af,ag]
|with_reducible refine bA h ?_))
  by_cases e2 : a.cls = b.cls
  case' neg =>
    have e2 : decide (fO a = fO b) = false := by simp [fO, e2]
    rw [e2] at hK
    rw [decide_eq_false ‹¬ a.cls = b.cls›]
    (repeat simp(disch:=omega)only[evA,evB,evC,af,ag])
    exact hK _ (h.got)
  rw [decide_eq_true e2]
  (repeat(first
|simp(disch:=omega)only[evA,evB,evC,af,ag]
|with_reducible refine bA h ?_))
  have e3 : decide (a.key = b.key) = decide (fO a = fO b) := by simp [fO, e1, e2]
  rw [e3]
  exact hK _ (h.got)
end
end Go.Proofs.Gong

/- Bp1 -/
namespace Go.Proofs.Gong
open Go Go.Sx Go.Proofs
set_option maxRecDepth 100000
attribute [local irreducible] aD bY bO eqv dB Cl bS LsH SlH ld1 ldN st ai bT aY dF bI bz bE aJ aB bK bZ
section
variable {w0 w : World} {L : List HP} {K : Value → World → Prop} {v : Value} {n next : Int} {rs : List Row} {r : Row} {R : List (Int × Row)} {I : List (Sg × Int)}
theorem Qz (h : Sat w0 (nC v n next rs :: L) w) : ∃ p, v = ptr p := by
  obtain ⟨p, s, hv, _⟩ := jE.1 h; exact ⟨p, hv⟩
theorem Vi {p : Nat} (h : Sat w0 (nC (ptr p) n next rs :: L) w) : ∃ s, Sat w0 (Cl p #[.int .i64 n, .int .i64 next, s] 104 :: LsH bR 11 48 s rs :: L) w := by
  obtain ⟨q, s, hv, h⟩ := jE.1 h; cases hv; exact ⟨s, h⟩
end
end Go.Proofs.Gong

/- Bp2 -/
namespace Go.Proofs.Gong
open Go Go.Sx Go.Proofs
set_option maxRecDepth 100000
attribute [local irreducible] aD bY bO eqv dB Cl bS LsH SlH ld1 ldN st ai bT aY dF bI bz bE aJ aB bK bZ
section
variable {w0 w : World} {L : List HP} {K : Value → World → Prop} {v : Value} {n next : Int} {rs : List Row} {r : Row} {R : List (Int × Row)} {I : List (Sg × Int)}
theorem Ou {m : Int} (h : Sat w0 L w) (hK0 : (m < 1 ∨ 65536 < m) → K (.tuple #[.pointer none, .int .i64 1]) w) (hK1 : 1 ≤ m → m ≤ 65536 → ∀ p w', Sat w0 (nC (ptr p) m 1 [] :: L) w' → K (.tuple #[ptr p, .int .i64 0]) w') : ai G59 [.int .i64 m] w K := by
  refine c59 ?_
  unfold F59
  by_cases g1 : m < 1
  · have g1' : decide (m < 1) = true := by simpa using g1
    (repeat simp(disch:=omega)only[evA,evB,evC,af,ag,g1'])
    exact hK0 (.inl g1)
  have g1' : decide (m < 1) = false := by simpa using g1
  by_cases g2 : m > 65536
  · have g2' : decide (m > 65536) = true := by simpa using g2
    (repeat simp(disch:=omega)only[evA,evB,evC,af,ag,g1',g2'])
    exact hK0 (.inr g2)
  have g2' : decide (m > 65536) = false := by simpa using g2
  have eb : aD Tryz.prog 104 [(0, .int .i64 m), (1, .int .i64 1)] = some (.agg #[.int .i64 m, .int .i64 1, .slice none 0 0]) := by kernel_rfl
  (repeat(first
|simp(disch:=omega)only[evA,evB,evC,af,ag,g1',g2']
|refine ax (eb ..) ?_
|((with_reducible apply cB h);rfl;intro _ _ h)))
  have h2 := Sat.nilLs bR 11 48 h
  exact hK1 (by omega) (by omega) _ _ (jE.2 ⟨_, _, rfl, h2.got⟩)
end
end Go.Proofs.Gong

/- Bp3 -/
namespace Go.Proofs.Gong
open Go Go.Sx Go.Proofs
set_option maxRecDepth 100000
def qo (n next0 : Int) (rs l : List Row) (next : Int) : Int × Int × List Row := if next < 1 ∨ 1152921504606846976 < next then (4, next0, rs) else match eO next l [] with
  | none => (4, next0, rs)
  | some ds => if n < (l.length : Int) then (200, next0, rs) else (0, next, ds)
attribute [local irreducible] aD bY bO eqv dB Cl bS LsH SlH ld1 ldN st ai bT aY dF bI bz bE aJ aB bK bZ
section
variable {w0 w : World} {L : List HP} {K : Value → World → Prop} {v : Value} {n next : Int} {rs : List Row} {r : Row} {R : List (Int × Row)} {I : List (Sg × Int)}
end
end Go.Proofs.Gong

/- Bp4 -/
namespace Go.Proofs.Gong
open Go Go.Sx Go.Proofs
set_option maxRecDepth 100000
theorem M8 {r : Row} {o : List Row} {k : Nat} (hle : ∀ x ∈ o.take k, x.id < r.id) (hs : ∀ x, o[k]? = some x → ¬ x.id < r.id) : o.take k ++ r :: o.drop k = nO r o := by
  unfold nO
  have e0 : o = o.take k ++ o.drop k := (List.take_append_drop k o).symm
  have e1 : o.takeWhile (fun d => decide (d.id < r.id)) = o.take k ∧ o.dropWhile (fun d => decide (d.id < r.id)) = o.drop k := by
    constructor
    · conv => lhs; rw [e0]
      rw [List.takeWhile_append_of_pos (by intro x hx; simpa using hle x hx)]
      cases hd : o.drop k with
      | nil => simp
      | cons y t =>
        have : o[k]? = some y := by rw [← List.head?_drop, hd]; rfl
        have := hs y this
        rw [List.takeWhile_cons, if_neg (by simpa using this), List.append_nil]
    · conv => lhs; rw [e0]
      rw [List.dropWhile_append_of_pos (by intro x hx; simpa using hle x hx)]
      cases hd : o.drop k with
      | nil => simp
      | cons y t =>
        have : o[k]? = some y := by rw [← List.head?_drop, hd]; rfl
        have := hs y this
        rw [List.dropWhile_cons, if_neg (by simpa using this)]
  rw [e1.1, e1.2]
attribute [local irreducible] aD bY bO eqv dB Cl bS LsH SlH ld1 ldN st ai bT aY dF bI bz bE aJ aB bK bZ
section
variable {w0 w : World} {L : List HP} {K : Value → World → Prop} {v : Value} {n next : Int} {rs : List Row} {r : Row}
theorem BF {s0 sv s2 s7 : Value} {i k : Nat} {o l : List Row} {R3 : Value → Value → Value → Value → Value → World → Prop} [hrd : RdIn w0 L sv Row bR 11 l] (hi : i < l.length) (hl : o.length ≤ 1073741824) (hk : k ≤ o.length) (h : Sat w0 (LsH bR 11 48 s7 o :: L) w)
    (hE : ∀ s7' w', Sat w0 (LsH bR 11 48 s7' (o.take k ++ l[i] :: o.drop k) :: L) w' → gT s0 sv s2 s7' (.int .i64 i) w' K R3) : rG s0 sv s2 s7 (.int .i64 (i : Nat)) (.int .i64 (k : Nat)) w K R3 := by
  unfold rG EG
  refine Pi h (i := k) hk fun v1 r1 => ?_
  replace h := Sat.nilLs bR 11 48 h
  refine fI (l := []) (m := o.take k) CR h Oj Qj (r1 h.drop inferInstance) (by simp; omega) fun s1 w h => ?_
  (repeat(first
|simp(disch:=omega)only[evA,evB,evC,af,ag]
|((with_reducible apply jm h);omega)
|((with_reducible first|apply jq h|apply jo h|apply gW h|apply gX h|apply jr h|apply gY h);(case hc=>exact inferInstance);(case hi=>omega);(try case hx=>exact inferInstance);(try case hv=>rfl))
|((with_reducible first|apply xg CR h u22 (by kernel_rfl)|apply jQ CR h u22 (Sd _) rfl);intro _ _ h)
|((with_reducible apply Nc h Oj Qj);(case hm=>repeat(first|exact .here|apply Fnt.there));(case hb=>first|omega|(simp;omega));intro _ _ _ h)))
  refine HY (v := s7) (l := o) h (i := k) hk fun v2 r2 => ?_
  refine fI (l := ([] ++ o.take k) ++ [l[i]]) (m := o.drop k) CR (h.frt) Oj Qj (r2 h inferInstance) (by simp; omega) fun s3 w h => ?_
  refine hE s3 w ?_
  have e : [] ++ o.take k ++ [l[i]] ++ o.drop k = o.take k ++ l[i] :: o.drop k := by simp
  rw [e] at h
  exact h.got
theorem JZ {s0 sv s2 s7 : Value} {i : Nat} {o l : List Row} {R3 : Value → Value → Value → Value → Value → World → Prop} [hrd : RdIn w0 L sv Row bR 11 l] (hi : i < l.length) (hl : o.length ≤ 1073741824)
    (hE : ∀ s7' w', Sat w0 (LsH bR 11 48 s7' (nO l[i] o) :: L) w' → gT s0 sv s2 s7' (.int .i64 i) w' K R3) :
    ∀ (d k : Nat) (w : World), o.length - k < d → k ≤ o.length → (∀ x ∈ o.take k, x.id < l[i].id) → Sat w0 (LsH bR 11 48 s7 o :: L) w → lN d s0 sv s2 s7 (.int .i64 (i : Nat)) (.int .i64 (k : Nat)) w K R3 := by
  intro d
  induction d with
  | zero => intro k w hd; omega
  | succ d ih =>
    intro k w hd hk hle h
    rw [lN]
    unfold EH
    by_cases g : k < o.length
    · have g' : decide ((k : Int) < (o.length : Int)) = true := by simpa using g
      by_cases g2 : o[k].id < l[i].id
      · have g2' : decide (o[k].id < l[i].id) = true := by simpa using g2
        (repeat(first
|simp(disch:=omega)only[evA,evB,evC,af,ag,g',g2']
|with_reducible refine bA h ?_
|((with_reducible apply jm h);omega)
|((with_reducible first|apply jq h|apply jo h|apply gW h|apply gX h|apply jr h|apply gY h);(case hc=>exact inferInstance);(case hi=>omega);(try case hx=>exact inferInstance);(try case hv=>rfl))
|((with_reducible apply oz h);(case hc=>exact inferInstance);omega;omega)))
        refine ih (k + 1) _ (by omega) (by omega) (fun x hx => ?_) h.drew
        rw [List.take_succ_eq_append_getElem g] at hx
        rcases List.mem_append.1 hx with hx | hx
        · exact hle x hx
        · simp at hx; subst hx; exact g2
      · have g2' : decide (o[k].id < l[i].id) = false := by simpa using g2
        (repeat(first
|simp(disch:=omega)only[evA,evB,evC,af,ag,g',g2']
|with_reducible refine bA h ?_
|((with_reducible apply jm h);omega)
|((with_reducible first|apply jq h|apply jo h|apply gW h|apply gX h|apply jr h|apply gY h);(case hc=>exact inferInstance);(case hi=>omega);(try case hx=>exact inferInstance);(try case hv=>rfl))
|((with_reducible apply oz h);(case hc=>exact inferInstance);omega;omega)))
        refine BF hi hl hk h.drew fun s7' w' h => hE s7' w' ?_
        rw [M8 hle fun x hx => by rw [List.getElem?_eq_getElem g] at hx; cases hx; exact g2] at h
        exact h
    · have g' : decide ((k : Int) < (o.length : Int)) = false := by simpa using g
      (repeat(first
|simp(disch:=omega)only[evA,evB,evC,af,ag,g']
|with_reducible refine bA h ?_))
      refine BF hi hl hk h.drew fun s7' w' h => hE s7' w' ?_
      rw [M8 hle fun x hx => by rw [List.getElem?_eq_none (by omega)] at hx; cases hx] at h
      exact h
theorem JX {s0 sv s2 s7 : Value} {i : Nat} {o l : List Row} {R3 : Value → Value → Value → Value → Value → World → Prop} [hrd : RdIn w0 L sv Row bR 11 l] (hi : i < l.length) (hl : l.length ≤ 1073741824)
    (hK0 : (∃ k, ∃ hk : k < i, l[k].id = l[i].id ∨ fO l[k].e = fO l[i].e) → ∀ w', Sat w0 (LsH bR 11 48 s7 o :: L) w' → K (.int .i64 4) w')
    (hE : (∀ k, ∀ hk : k < i, l[k].id ≠ l[i].id ∧ fO l[k].e ≠ fO l[i].e) → ∀ w', Sat w0 (LsH bR 11 48 s7 o :: L) w' → zZ s0 sv s2 s7 (.int .i64 i) w' K R3) :
    ∀ (d k : Nat) (w : World), i - k < d → k ≤ i → (∀ j, ∀ hj : j < k, ∀ hji : j < i, l[j].id ≠ l[i].id ∧ fO l[j].e ≠ fO l[i].e) → Sat w0 (LsH bR 11 48 s7 o :: L) w → o7 d s0 sv s2 s7 (.int .i64 (i : Nat)) (.int .i64 (k : Nat)) w K R3 := by
  intro d
  induction d with
  | zero => intro k w hd; omega
  | succ d ih =>
    intro k w hd hk hno h
    rw [o7]
    unfold MB
    by_cases g : k < i
    · have g' : decide ((k : Int) < (i : Int)) = true := by simpa using g
      have hkl : k < l.length := by omega
      by_cases g2 : l[k].id = l[i].id
      · have g2' : decide (l[k].id = l[i].id) = true := by simpa using g2
        (repeat(first
|simp(disch:=omega)only[evA,evB,evC,af,ag,g',g2']
|((with_reducible apply jm h);omega)
|((with_reducible first|apply jq h|apply jo h|apply gW h|apply gX h|apply jr h|apply gY h);(case hc=>exact inferInstance);(case hi=>omega);(try case hx=>exact inferInstance);(try case hv=>rfl))
|((with_reducible apply oz h);(case hc=>exact inferInstance);omega;omega)))
        exact hK0 ⟨k, g, .inl g2⟩ _ h.drew
      · have g2' : decide (l[k].id = l[i].id) = false := by simpa using g2
        (repeat(first
|simp(disch:=omega)only[evA,evB,evC,af,ag,g',g2']
|((with_reducible apply jm h);omega)
|((with_reducible first|apply jq h|apply jo h|apply gW h|apply gX h|apply jr h|apply gY h);(case hc=>exact inferInstance);(case hi=>omega);(try case hx=>exact inferInstance);(try case hv=>rfl))
|((with_reducible apply RQ h);(case hc=>exact inferInstance);(case hi=>omega);(try case hp=>exact inferInstance);(try case hv=>rfl))
|((with_reducible apply oz h);(case hc=>exact inferInstance);omega;omega)))
        refine JU (a := l[k].e) (b := l[i].e) h.drew fun w h => ?_
        by_cases g3 : fO l[k].e = fO l[i].e
        · rw [decide_eq_true g3]
          (repeat simp(disch:=omega)only[evA,evB,evC,af,ag])
          exact hK0 ⟨k, g, .inr g3⟩ _ h
        · rw [decide_eq_false g3]
          (repeat simp(disch:=omega)only[evA,evB,evC,af,ag])
          refine ih (k + 1) _ (by omega) (by omega) (fun j hj hji => ?_) h
          by_cases ej : j = k
          · subst ej; exact ⟨g2, g3⟩
          · exact hno j (by omega) hji
    · have g' : decide ((k : Int) < (i : Int)) = false := by simpa using g
      (repeat simp(disch:=omega)only[evA,evB,evC,af,ag,g'])
      exact hE (fun j hj => hno j (by omega) hj) _ h
theorem JY {p : Nat} {s sv : Value} {l : List Row} {next0 : Int} [hrd : RdIn w0 L sv Row bR 11 l] (hfit : ∀ x ∈ l, x.e.fits ∧ x.who.length < 1073741824) (hlen : l.length ≤ 65536)
    (hK0 : eO next l [] = none → ∀ w', Sat w0 (nC (ptr p) n next0 rs :: L) w' → K (.int .i64 4) w')
    (hK1 : ∀ ds, eO next l [] = some ds → n < l.length → ∀ w', Sat w0 (nC (ptr p) n next0 rs :: L) w' → K (.int .i64 200) w')
    (hK2 : ∀ ds, eO next l [] = some ds → (l.length : Int) ≤ n → ∀ w', Sat w0 (nC (ptr p) n next ds :: L) w' → K (.int .i64 0) w') :
    ∀ (d i : Nat) (o : List Row) (s7 : Value) (w : World), l.length - i < d → i ≤ l.length → o.Perm (l.take i) → eO next l [] = eO next (l.drop i) o →
      Sat w0 (LsH bR 11 48 s7 o :: Cl p #[.int .i64 n, .int .i64 next0, s] 104 :: LsH bR 11 48 s rs :: L) w → o8 d (ptr p) sv (.int .i64 next) s7 (.int .i64 i) w K := by
  intro d
  induction d with
  | zero => intro i _ _ _ hd; omega
  | succ d ih =>
    intro i o s7 w hd hi hp he h
    rw [o8]
    unfold NU MF
    have hol := hp.length_eq
    rw [List.length_take, Nat.min_eq_left hi] at hol
    by_cases g : i < l.length
    · have g' : decide ((i : Int) < (l.length : Int)) = true := by simpa using g
      (repeat(first
|simp(disch:=omega)only[evA,evB,evC,af,ag,g']
|with_reducible apply fq h))
      unfold Jq NT MC
      (repeat(first
|simp(disch:=omega)only[evA,evB,evC,af,ag]
|((with_reducible apply jm h);omega)
|((with_reducible first|apply jq h|apply jo h|apply gW h|apply gX h|apply jr h|apply gY h);(case hc=>exact inferInstance);(case hi=>omega);(try case hx=>exact inferInstance);(try case hv=>rfl))))
      have hfc := hfit _ (List.getElem_mem g)
      rw [List.drop_eq_getElem_cons g] at he
      have hbad : d9 next o l[i] = none → eO next l [] = none := fun h => by rw [he]; simp [eO, h]
      refine sQ (r := l[i]) hfc.1 hfc.2 h fun w h => ?_
      unfold Bf
      cases g1 : okR l[i]
      · have d4 : decide ((4 : Int) = 0) = false := by decide
        (repeat simp(disch:=omega)only[evA,evB,evC,af,ag,Bool.false_eq_true,if_false,d4])
        exact hK0 (hbad (by unfold d9; rw [if_neg]; simp [g1])) _ (jE.2 ⟨p, s, rfl, h.got⟩)
      by_cases g3 : l[i].id ≥ next
      · have g3' : decide (l[i].id ≥ next) = true := by simpa using g3
        (repeat(first
|simp(disch:=omega)only[evA,evB,evC,af,ag,if_true,g3']
|((with_reducible apply jm h);omega)
|((with_reducible first|apply jq h|apply jo h|apply gW h|apply gX h|apply jr h|apply gY h);(case hc=>exact inferInstance);(case hi=>omega);(try case hx=>exact inferInstance);(try case hv=>rfl))
|((with_reducible apply oz h);(case hc=>exact inferInstance);omega;omega)))
        exact hK0 (hbad (by unfold d9; rw [if_neg]; omega)) _ (jE.2 ⟨p, s, rfl, h.got⟩)
      have g3' : decide (l[i].id ≥ next) = false := by simpa using g3
      (repeat(first
|simp(disch:=omega)only[evA,evB,evC,af,ag,if_true,g3']
|((with_reducible apply jm h);omega)
|((with_reducible first|apply jq h|apply jo h|apply gW h|apply gX h|apply jr h|apply gY h);(case hc=>exact inferInstance);(case hi=>omega);(try case hx=>exact inferInstance);(try case hv=>rfl))
|((with_reducible apply oz h);(case hc=>exact inferInstance);omega;omega)))
      unfold Jp
      refine JX (L := Cl p #[.int .i64 n, .int .i64 next0, s] 104 :: LsH bR 11 48 s rs :: L) (o := o) (l := l) g (by omega) (fun hx w h => ?_) (fun hno w h => ?_) fuel 0 _ (by unfold fuel; omega) (by omega) (fun j h => by omega) h
      · refine hK0 (hbad ?_) _ (jE.2 ⟨p, s, rfl, h.got⟩)
        unfold d9
        rw [if_neg]
        rintro ⟨_, _, h1, h2⟩
        obtain ⟨k, hk, hx⟩ := hx
        have hm : l[k] ∈ o := hp.mem_iff.2 (List.mem_iff_getElem.2 ⟨k, by rw [List.length_take]; omega, by simp⟩)
        rcases hx with hx | hx
        · exact h1 _ hm hx
        · exact h2 _ hm hx
      · unfold zZ Mx z8
        refine JZ (L := Cl p #[.int .i64 n, .int .i64 next0, s] 104 :: LsH bR 11 48 s rs :: L) (o := o) (l := l) g (by omega) (fun s7' w h => ?_) fuel 0 _ (by unfold fuel; omega) (by omega) (by simp) h
        unfold gT ME
        (repeat simp(disch:=omega)only[evA,evB,evC,af,ag])
        have hst : d9 next o l[i] = some (nO l[i] o) := by
          unfold d9
          have hmem : ∀ d ∈ o, ∃ k, ∃ hk : k < i, d = l[k] := fun d hd => by
            obtain ⟨k, hk, e⟩ := List.mem_iff_getElem.1 (hp.mem_iff.1 hd)
            rw [List.length_take] at hk
            exact ⟨k, by omega, by rw [← e]; simp⟩
          rw [if_pos]
          refine ⟨g1, by omega, fun d hd => ?_, fun d hd => ?_⟩
          · obtain ⟨k, hk, rfl⟩ := hmem d hd; exact (hno k hk).1
          · obtain ⟨k, hk, rfl⟩ := hmem d hd; exact (hno k hk).2
        refine ih (i + 1) _ s7' _ (by omega) (by omega) ?_ ?_ h
        · rw [List.take_succ_eq_append_getElem g]
          exact (mq _ _).trans ((hp.cons _).trans (List.perm_append_singleton _ _).symm)
        · rw [he]; simp [eO, hst]
    · have g' : decide ((i : Int) < (l.length : Int)) = false := by simpa using g
      rw [List.drop_eq_nil_of_le (by omega)] at he
      simp only [eO] at he
      (repeat(first
|simp(disch:=omega)only[evA,evB,evC,af,ag,g']
|with_reducible apply fq h))
      unfold ic MG
      by_cases g3 : (l.length : Int) > n
      · have g3' : decide ((l.length : Int) > n) = true := by simpa using g3
        (repeat(first
|simp(disch:=omega)only[evA,evB,evC,af,ag,g3']
|with_reducible refine bA h ?_
|with_reducible apply fq h))
        exact hK1 _ he (by omega) _ (jE.2 ⟨p, s, rfl, h.got⟩)
      · have g3' : decide ((l.length : Int) > n) = false := by simpa using g3
        have := fT h
        (repeat(first
|simp(disch:=omega)only[evA,evB,evC,af,ag,g3']
|with_reducible refine bA h ?_
|with_reducible apply fq h
|((with_reducible refine gH h ?_);intro _ h)))
        exact hK2 _ he (by omega) _ (jE.2 ⟨p, s7, rfl, h.got⟩)
theorem yA {sv : Value} {l : List Row} {next0 : Int} [hrd : RdIn w0 L sv Row bR 11 l] (hfit : ∀ x ∈ l, x.e.fits ∧ x.who.length < 1073741824) (hlen : l.length ≤ 65536) (h : Sat w0 (nC v n next0 rs :: L) w)
    (hK : ∀ w', Sat w0 (nC v n (qo n next0 rs l next).2.1 (qo n next0 rs l next).2.2 :: L) w' → K (.int .i64 (qo n next0 rs l next).1) w') : ai G19 [v, sv, .int .i64 next] w K := by
  obtain ⟨p, rfl⟩ := Qz h
  unfold qo at hK
  refine c19 ?_
  unfold F19 NV MH
  by_cases g1 : next < 1
  · have g1' : decide (next < 1) = true := by simpa using g1
    rw [if_pos (.inl g1)] at hK
    (repeat simp(disch:=omega)only[evA,evB,evC,af,ag,g1'])
    exact hK _ h
  have g1' : decide (next < 1) = false := by simpa using g1
  by_cases g2 : next > 1152921504606846976
  · have g2' : decide (next > 1152921504606846976) = true := by simpa using g2
    rw [if_pos (.inr g2)] at hK
    (repeat simp(disch:=omega)only[evA,evB,evC,af,ag,g1',g2'])
    exact hK _ h
  have g2' : decide (next > 1152921504606846976) = false := by simpa using g2
  rw [if_neg (by omega)] at hK
  (repeat simp(disch:=omega)only[evA,evB,evC,af,ag,g1',g2'])
  unfold Jr
  obtain ⟨s, h⟩ := Vi h
  refine JY (next := next) (rs := rs) (n := n) (next0 := next0) (l := l) hfit hlen (fun e w h => ?_) (fun ds e hlt w h => ?_) (fun ds e hle w h => ?_) fuel 0 [] _ _ (by unfold fuel; omega) (by omega) (by simp) (by simp) (Sat.nilLs bR 11 48 h)
  · rw [e] at hK; exact hK w h
  · rw [e] at hK; simp only at hK; rw [if_pos hlt] at hK; exact hK w h
  · rw [e] at hK; simp only at hK; rw [if_neg (by omega)] at hK; exact hK w h
end
end Go.Proofs.Gong

/- Ob0 -/
namespace Go.Proofs.Gong
open Go Go.Sx Go.Proofs
set_option maxRecDepth 100000
structure Tk where
  seq : Int
  what : Int
  r : Row
@[reducible] def cTk (t : Tk) : List Value := [.int .i64 t.seq, .int .i64 t.what, .int .i64 t.r.id, .string (bs t.r.e.node), .string (bs t.r.e.cls), .string (bs t.r.e.key), .int .i64 t.r.e.level, .string (bs t.r.e.text), .int .i64 t.r.tally, .int .i64 t.r.first, .int .i64 t.r.last, .bool t.r.acked, .string (bs t.r.who)]
abbrev tkV (t : Tk) : Value := .agg (cTk t).toArray
structure Ltr where
  t : Tk
  sent : Nat
  at_ : Int
abbrev Kq (x : Ltr) : Int := x.t.seq
def QE (base top : Int) : Nat → Int
  | 0 => base
  | k + 1 => min (2 * QE base top k) top
structure Ob where
  most : Int
  base : Int
  top : Int
  last : Int
  refused : Int
  mark : Int
  ls : List Ltr
def iC (most base top : Int) : Ob := ⟨most, base, top, 0, 0, 0, []⟩
def si (what : Int) (r : Row) (o : Ob) : (Int × Int) × Ob :=
  if (decide (what < 1) || decide (5 < what) || !okR r) = true then ((0, 4), o) else
  if o.most ≤ (o.ls.length : Int) then ((0, 200), { o with refused := o.refused + 1 }) else
  ((o.last + 1, 0), { o with last := o.last + 1, ls := o.ls ++ [⟨⟨o.last + 1, what, r⟩, 0, 0⟩] })
structure OOk (o : Ob) : Prop where
  most : 1 ≤ o.most ∧ o.most ≤ 65536
  base : 1 ≤ o.base ∧ o.base ≤ o.top ∧ o.top ≤ 144115188075855872
  len : (o.ls.length : Int) ≤ o.most
  last : 0 ≤ o.last ∧ o.last ≤ 2305843009213693952
  refused : 0 ≤ o.refused ∧ o.refused ≤ 2305843009213693952
  mark : 0 ≤ o.mark ∧ o.mark ≤ o.last
  asc : tO ltI Kq o.ls
  ok : ∀ x ∈ o.ls, 1 ≤ x.t.seq ∧ x.t.seq ≤ o.last ∧ 0 ≤ x.at_ ∧ x.at_ ≤ 2305843009213693952 ∧ okR x.t.r = true ∧ 1 ≤ x.t.what ∧ x.t.what ≤ 5
theorem XC {most base top : Int} (h1 : 1 ≤ most ∧ most ≤ 65536) (h2 : 1 ≤ base ∧ base ≤ top ∧ top ≤ 144115188075855872) : OOk (iC most base top) :=
  ⟨h1, h2, by simp [iC]; omega, by simp [iC], by simp [iC], by simp [iC], .nil, by simp [iC]⟩
section
variable {o : Ob} (H : OOk o)
include H
theorem Vm {what : Int} {r : Row} (hl : o.last < 2305843009213693952) (hr : o.refused < 2305843009213693952) : OOk (si what r o).2 := by
  unfold si
  split
  · exact H
  rename_i h1
  simp only [Bool.or_eq_true, decide_eq_true_eq, Bool.not_eq_true', not_or, Bool.not_eq_false] at h1
  split
  · exact ⟨H.most, H.base, H.len, H.last, by have := H.refused; simp; omega, H.mark, H.asc, H.ok⟩
  · rename_i h2
    have hlast := H.last
    have hm := H.mark
    refine ⟨H.most, H.base, by simp; omega, by simp; omega, H.refused, by simp; omega, ?_, fun x hx => ?_⟩
    · unfold tO
      rw [List.pairwise_append]
      refine ⟨H.asc, by simp, fun a ha b hb => ?_⟩
      simp at hb; subst hb
      have := H.ok a ha
      simp [ltI, Kq]; omega
    · rcases List.mem_append.1 hx with hx | hx
      · have := H.ok x hx
        refine ⟨this.1, ?_, this.2.2⟩
        simp; omega
      · simp at hx; subst hx
        refine ⟨by simp; omega, by simp, by simp, by simp, by simpa using h1.2, by simp; omega, by simp; omega⟩
end
end Go.Proofs.Gong

/- Ob1 -/
namespace Go.Proofs.Gong
open Go Go.Sx Go.Proofs
set_option maxRecDepth 100000
def evO1 : Evt := ⟨[110], [99], [], 3, []⟩
def rowO (n : Int) : Row := ⟨1 + bel n 50, evO1, 1 + bel (n.tdiv 50) 9, 0, 0, false, []⟩
end Go.Proofs.Gong

/- Ob2 -/
namespace Go.Proofs.Gong
open Go Go.Sx Go.Proofs
set_option maxRecDepth 100000
abbrev kO (n : Int) : Value := .int .i64 n
theorem KIO : KeyT Tryz.prog 3 kO := KeyT.int (by kernel_rfl)
@[reducible] def cLt (y : Tk × Int × Int) : List Value := [.int .i64 y.1.seq, .int .i64 y.1.what, .int .i64 y.1.r.id, .string (bs y.1.r.e.node), .string (bs y.1.r.e.cls), .string (bs y.1.r.e.key), .int .i64 y.1.r.e.level, .string (bs y.1.r.e.text), .int .i64 y.1.r.tally, .int .i64 y.1.r.first, .int .i64 y.1.r.last, .bool y.1.r.acked, .string (bs y.1.r.who), .int .i64 y.2.1, .int .i64 y.2.2]
abbrev ltV (y : Tk × Int × Int) : Value := .agg (cLt y).toArray
def XK (base top : Int) (x : Ltr) : Tk × Int × Int := (x.t, QE base top x.sent, x.at_)
abbrev PX := List (Int × (Tk × Int × Int))
abbrev OCl (p : Nat) (o : Ob) (m : Value) : HP := Cl p #[.int .i64 o.most, .int .i64 o.base, .int .i64 o.top, .int .i64 o.last, .int .i64 o.refused, .int .i64 o.mark, m] 122
def xc (v : Value) (o : Ob) : HP := HEx fun M => HEx fun p => HEx fun m => HPr (v = ptr p ∧ KInv ltI Kq (XK o.base o.top) M o.ls ∧ OOk o) (HSt (OCl p o m) (bS kO ltV m M))
theorem fbTk (n what : Int) (r : Row) : aD Tryz.prog 125 [(0, .int .i64 n), (1, .int .i64 what), (2, .agg (bR r).toArray)] = some (tkV ⟨n, what, r⟩) := by kernel_rfl
theorem fbLt (t : Tk) (b : Int) : aD Tryz.prog 159 [(0, .agg (cTk t).toArray), (1, .int .i64 b)] = some (ltV (t, b, 0)) := by kernel_rfl
attribute [local irreducible] aD bY bO eqv dB Cl bS LsH SlH ld1 ldN st ai bT aY dF bI bz bE aJ aB bK bZ
section
variable {w0 w : World} {L : List HP} {K : Value → World → Prop} {v : Value} {o : Ob} {n : Int} {M : PX}
theorem GA : Sat w0 (xc v o :: L) w ↔ ∃ M p m, (v = ptr p ∧ KInv ltI Kq (XK o.base o.top) M o.ls ∧ OOk o) ∧ Sat w0 (OCl p o m :: bS kO ltV m M :: L) w := by
  simp only [xc, Sat.ex_iff, Sat.pr_iff, Sat.star_iff]
theorem BI (h : Sat w0 (xc v o :: L) w) : ∃ p m M, v = ptr p ∧ KInv ltI Kq (XK o.base o.top) M o.ls ∧ OOk o ∧ Sat w0 (OCl p o m :: bS kO ltV m M :: L) w := by
  obtain ⟨M, p, m, ⟨h1, h2, h3⟩, h⟩ := GA.1 h
  exact ⟨p, m, M, h1, h2, h3, h⟩
theorem jh {p : Nat} {m : Value} (H : KInv ltI Kq (XK o.base o.top) M o.ls) (ok : OOk o) (h : Sat w0 (OCl p o m :: bS kO ltV m M :: L) w) : Sat w0 (xc (ptr p) o :: L) w :=
  GA.2 ⟨M, p, m, ⟨rfl, H, ok⟩, h⟩
theorem MU (h : Sat w0 (xc v o :: L) w) : OOk o := by
  obtain ⟨_, _, _, _, _, h, _⟩ := BI h
  exact h
theorem BJ {m b t : Int} (h1 : 1 ≤ m ∧ m ≤ 65536) (h2 : 1 ≤ b ∧ b ≤ t ∧ t ≤ 144115188075855872) (h : Sat w0 L w) (hK : ∀ p w', Sat w0 (xc (ptr p) (iC m b t) :: L) w' → K (.tuple #[ptr p, .int .i64 0]) w') : ai G32 [.int .i64 m, .int .i64 b, .int .i64 t] w K := by
  refine c32 ?_
  unfold F32
  have g1 : decide (m < 1) = false := by simp; omega
  have g2 : decide (m > 65536) = false := by simp; omega
  have g3 : decide (b < 1) = false := by simp; omega
  have g4 : decide (b > t) = false := by simp; omega
  have g5 : decide (t > 144115188075855872) = false := by simp; omega
  (repeat simp(disch:=omega)only[evA,evB,evC,af,ag,g1,g2,g3,g4,g5])
  refine dW kO ltV h fun mv w h => ?_
  obtain ⟨r1, _, _, ⟨rfl, _⟩, _⟩ := eu.1 h
  have eb : aD Tryz.prog 122 [(0, .int .i64 m), (1, .int .i64 b), (2, .int .i64 t), (6, .map (some r1))] = some (.agg #[.int .i64 m, .int .i64 b, .int .i64 t, .int .i64 0, .int .i64 0, .int .i64 0, .map (some r1)]) := by kernel_rfl
  (repeat(first
|refine ax (eb ..) ?_
|((with_reducible apply cB h);rfl;intro _ _ h)))
  exact hK _ _ (jh (o := iC m b t) .nil (XC h1 h2) h)
theorem OG {what : Int} {r : Row} (hl : o.last < 2305843009213693952) (hr : o.refused < 2305843009213693952) (he : r.e.fits) (hw : r.who.length < 1073741824) (h : Sat w0 (xc v o :: L) w)
    (hK : ∀ w', Sat w0 (xc v (si what r o).2 :: L) w' → K (.tuple #[.int .i64 (si what r o).1.1, .int .i64 (si what r o).1.2]) w') : ai G22 [v, .int .i64 what, fQ r] w K := by
  have oka := Vm (MU h) hl hr (what := what) (r := r)
  unfold si at oka hK
  obtain ⟨p, m, M, rfl, H, ok, h2⟩ := BI h
  refine c22 ?_
  unfold F22
  clear h
  have h := h2
  clear h2
  have := pJ (h.frt (A := bS kO ltV m M))
  have hlb := ok.last
  have hrb := ok.refused
  have hln := ok.len
  have hmb := ok.most
  by_cases g1 : what < 1
  · have g1' : decide (what < 1) = true := by simpa using g1
    rw [if_pos (by rw [g1']; rfl)] at hK
    (repeat(first
|simp(disch:=omega)only[evA,evB,evC,af,ag,g1']
|((with_reducible apply cB h);rfl;intro _ _ h)))
    exact hK _ (jh H ok (h.got))
  have g1' : decide (what < 1) = false := by simpa using g1
  by_cases g2 : 5 < what
  · have g2' : decide (what > 5) = true := by simpa using g2
    rw [if_pos (by rw [show decide (5 < what) = true from g2']; simp)] at hK
    (repeat(first
|simp(disch:=omega)only[evA,evB,evC,af,ag,g1',g2']
|((with_reducible apply cB h);rfl;intro _ _ h)))
    exact hK _ (jh H ok (h.got))
  have g2' : decide (what > 5) = false := by simpa using g2
  (repeat(first
|simp(disch:=omega)only[evA,evB,evC,af,ag,g1',g2']
|with_reducible refine bA h ?_
|((with_reducible apply cB h);rfl;intro _ _ h)))
  refine wR he hw h fun w h => ?_
  unfold Bf
  cases g3 : okR r
  · rw [if_pos (by simp [g3])] at hK
    rw [if_neg (by simp)]
    (repeat simp(disch:=omega)only[evA,evB,evC,af,ag,Int.reduceEq])
    exact hK _ (jh H ok (h.got))
  rw [if_neg (by rw [g1', show decide (5 < what) = false from g2', g3]; simp)] at hK oka
  rw [if_pos rfl]
  (repeat(first
|simp(disch:=omega)only[evA,evB,evC,af,ag,Int.reduceEq]
|with_reducible refine bA h ?_))
  refine XR h (by repeat(first|exact .here|apply Fnt.there)) ?_
  rw [H.len]
  (repeat(first
|simp(disch:=omega)only[evA,evB,evC,af,ag]
|with_reducible refine bA h ?_))
  by_cases g4 : o.most ≤ (o.ls.length : Int)
  · have g4' : decide ((o.ls.length : Int) ≥ o.most) = true := by simpa using g4
    rw [if_pos g4] at hK oka
    (repeat(first
|simp(disch:=omega)only[evA,evB,evC,af,ag,g4']
|with_reducible refine bA h ?_
|((with_reducible refine gH h ?_);intro _ h)))
    exact hK _ (jh (o := { o with refused := o.refused + 1 }) H oka (h.got))
  have g4' : decide ((o.ls.length : Int) ≥ o.most) = false := by simp; omega
  rw [if_neg g4] at hK oka
  (repeat(first
|simp(disch:=omega)only[evA,evB,evC,af,ag,g4']
|with_reducible refine bA h ?_
|((with_reducible refine gH h ?_);intro _ h)))
  refine ax (fbTk (o.last + 1) what r) ?_
  refine c40 ?_
  unfold F40
  (repeat(first
|simp(disch:=omega)only[evA,evB,evC,af,ag]
|with_reducible refine bA h ?_
|((with_reducible apply cB h);rfl;intro _ _ h)))
  refine ax (fbLt ⟨o.last + 1, what, r⟩ o.base) ?_
  refine oD (h.drew.frt (A := bS kO ltV m M)) KIO um120 (o.last + 1) ((⟨o.last + 1, what, r⟩, o.base, 0) : Tk × Int × Int) fun w h => ?_
  (repeat with_reducible refine bA h ?_)
  refine hK _ (jh (o := { o with last := o.last + 1, ls := o.ls ++ [⟨⟨o.last + 1, what, r⟩, 0, 0⟩] }) ?_ oka (h.got))
  have h1 := H.put STO.int ⟨⟨o.last + 1, what, r⟩, 0, 0⟩
  rw [O4 STO.int fun d hd => by have := ok.ok d hd; simp [ltI, Kq]; omega] at h1
  exact h1
end
end Go.Proofs.Gong

/- Ob3 -/
namespace Go.Proofs.Gong
open Go Go.Sx Go.Proofs
set_option maxRecDepth 100000
theorem CTk : Cod cTk 13 := ⟨fun _ => rfl, fun _ => rfl, by omega⟩
instance : CodC cTk 13 := ⟨CTk⟩
attribute [local irreducible] aD bY bO eqv dB Cl bS LsH SlH ld1 ldN st ai bT aY dF bI bz bE aJ aB bK bZ
section
variable {w0 w : World} {L : List HP} {K : Value → World → Prop} {v : Value} {o : Ob} {n now : Int} {M : PX}
end
end Go.Proofs.Gong

/- Ob4 -/
namespace Go.Proofs.Gong
open Go Go.Sx Go.Proofs
set_option maxRecDepth 100000
attribute [local irreducible] aD bY bO eqv dB Cl bS LsH SlH ld1 ldN st ai bT aY dF bI bz bE aJ aB bK bZ
section
variable {w0 w : World} {L : List HP} {K : Value → World → Prop} {v : Value} {o : Ob} {n now : Int} {M : PX}
end
end Go.Proofs.Gong

/- Ob5 -/
namespace Go.Proofs.Gong
open Go Go.Sx Go.Proofs
set_option maxRecDepth 100000
attribute [local irreducible] aD bY bO eqv dB Cl bS LsH SlH ld1 ldN st ai bT aY dF bI bz bE aJ aB bK bZ
section
variable {w0 w : World} {L : List HP} {K : Value → World → Prop} {v : Value} {o : Ob} {n now : Int} {M : PX}
end
end Go.Proofs.Gong

/- Oa0 -/
namespace Go.Proofs.Gong
open Go Go.Sx Go.Proofs
set_option maxRecDepth 100000
section
variable {o : Ob} (H : OOk o)
include H
end
structure Nine (i : Nat) (o : Ob) : Prop where
  most : o.most = 9 ∧ o.base = 1 ∧ o.top = 1
  last : 0 ≤ o.last ∧ o.last ≤ i
  refused : 0 ≤ o.refused ∧ o.refused ≤ i
  rows : ∀ x ∈ o.ls, ∃ n, x.t.r = rowO n
theorem Nine.put {i : Nat} {o : Ob} (h : Nine i o) (n : Int) : Nine (i + 1) (si 1 (rowO n) o).2 := by
  have h1 := h.last
  have h2 := h.refused
  unfold si
  split
  · exact ⟨h.most, by show 0 ≤ o.last ∧ o.last ≤ _; omega, by show 0 ≤ o.refused ∧ o.refused ≤ _; omega, h.rows⟩
  split
  · exact ⟨h.most, by show 0 ≤ o.last ∧ o.last ≤ _; omega, by show 0 ≤ o.refused + 1 ∧ o.refused + 1 ≤ _; omega, h.rows⟩
  · refine ⟨h.most, by show 0 ≤ o.last + 1 ∧ o.last + 1 ≤ _; omega, by show 0 ≤ o.refused ∧ o.refused ≤ _; omega, fun x hx => ?_⟩
    rcases List.mem_append.1 hx with hx | hx
    · exact h.rows x hx
    · simp at hx; subst hx; exact ⟨n, rfl⟩
end Go.Proofs.Gong

/- Outbox2 -/

/- Oa1 -/
namespace Go.Proofs.Gong
open Go Go.Sx Go.Proofs
set_option maxRecDepth 100000
attribute [local irreducible] aD bY bO eqv dB Cl bS LsH SlH ld1 ldN st ai bT aY dF bI bz bE aJ aB bK bZ
section
variable {w0 w : World} {L : List HP} {K : Value → World → Prop} {v : Value} {o : Ob} {n now last refused : Int} {M : PX} {t : Tk}
end
end Go.Proofs.Gong

/- Outbox3 -/

/- Or0 -/
namespace Go.Proofs.Gong
open Go Go.Sx Go.Proofs
set_option maxRecDepth 100000
@[reducible] def cEn (x : Ltr) : List Value := [.int .i64 x.t.seq, .int .i64 x.t.what, .int .i64 x.t.r.id, .string (bs x.t.r.e.node), .string (bs x.t.r.e.cls), .string (bs x.t.r.e.key), .int .i64 x.t.r.e.level, .string (bs x.t.r.e.text), .int .i64 x.t.r.tally, .int .i64 x.t.r.first, .int .i64 x.t.r.last, .bool x.t.r.acked, .string (bs x.t.r.who), .int .i64 (x.sent : Nat), .int .i64 x.at_]
abbrev enV (x : Ltr) : Value := .agg (cEn x).toArray
theorem CEn : Cod cEn 15 := ⟨fun _ => rfl, fun _ => rfl, by omega⟩
instance : CodC cEn 15 := ⟨CEn⟩
abbrev RCl (q : Nat) (o : Ob) (s : Value) : HP := Cl q #[.int .i64 o.most, .int .i64 o.base, .int .i64 o.top, .int .i64 o.last, .int .i64 o.refused, .int .i64 o.mark, s] 128
def tN (v : Value) (o : Ob) : HP := HEx fun q => HEx fun s => HPr (v = ptr q) (HSt (RCl q o s) (LsH cEn 15 130 s o.ls))
theorem fbEn (t : Tk) : aD Tryz.prog 130 [(0, .agg (cTk t).toArray)] = some (enV ⟨t, 0, 0⟩) := by kernel_rfl
theorem Si (x : Ltr) : dx Tryz.prog 130 1 [(0, .agg (cEn x).toArray)] = some (cEn x).toArray := by kernel_rfl
attribute [local irreducible] aD bY bO eqv dB Cl bS LsH SlH ld1 ldN st ai bT aY dF bI bz bE aJ aB bK bZ
section
variable {w0 w : World} {L : List HP} {K : Value → World → Prop} {v : Value} {o : Ob} {n now : Int} {t : Tk}
theorem yB : Sat w0 (tN v o :: L) w ↔ ∃ q s, v = ptr q ∧ Sat w0 (RCl q o s :: LsH cEn 15 130 s o.ls :: L) w := by
  simp only [tN, Sat.ex_iff, Sat.pr_iff, Sat.star_iff]
theorem Qy (h : Sat w0 (tN v o :: L) w) : ∃ q, v = ptr q := by
  obtain ⟨q, s, e, _⟩ := yB.1 h
  exact ⟨q, e⟩
theorem Vh {q : Nat} (h : Sat w0 (tN (ptr q) o :: L) w) : ∃ s, Sat w0 (RCl q o s :: LsH cEn 15 130 s o.ls :: L) w := by
  obtain ⟨q', s, e, h⟩ := yB.1 h
  cases e
  exact ⟨s, h⟩
theorem jP {q : Nat} {s : Value} (h : Sat w0 (RCl q o s :: LsH cEn 15 130 s o.ls :: L) w) : Sat w0 (tN (ptr q) o :: L) w := yB.2 ⟨q, s, rfl, h⟩
end
end Go.Proofs.Gong

/- Or1 -/
namespace Go.Proofs.Gong
open Go Go.Sx Go.Proofs
set_option maxRecDepth 100000
attribute [local irreducible] aD bY bO eqv dB Cl bS LsH SlH ld1 ldN st ai bT aY dF bI bz bE aJ aB bK bZ
section
variable {w0 w : World} {L : List HP} {K : Value → World → Prop} {v : Value} {o : Ob} {n now : Int} {t : Tk}
theorem Ot {what : Int} {r : Row} (H : OOk o) (hl : o.last < 2305843009213693952) (hr : o.refused < 2305843009213693952) (he : r.e.fits) (hw : r.who.length < 1073741824) (h : Sat w0 (tN v o :: L) w)
    (hK : ∀ w', Sat w0 (tN v (si what r o).2 :: L) w' → K (.tuple #[.int .i64 (si what r o).1.1, .int .i64 (si what r o).1.2]) w') : ai G23 [v, .int .i64 what, fQ r] w K := by
  obtain ⟨q, rfl⟩ := Qy h
  have h0 := h
  clear h
  obtain ⟨s, h⟩ := Vh h0
  unfold si at hK
  have hlb := H.last
  have hrb := H.refused
  have hln := H.len
  have hmb := H.most
  refine c23 ?_
  unfold F23
  by_cases g1 : what < 1
  · have g1' : decide (what < 1) = true := by simpa using g1
    rw [if_pos (by rw [g1']; rfl)] at hK
    (repeat(first
|simp(disch:=omega)only[evA,evB,evC,af,ag,g1']
|((with_reducible apply cB h);rfl;intro _ _ h)))
    exact hK _ (jP (h.got))
  have g1' : decide (what < 1) = false := by simpa using g1
  by_cases g2 : 5 < what
  · have g2' : decide (what > 5) = true := by simpa using g2
    rw [if_pos (by rw [show decide (5 < what) = true from g2']; simp)] at hK
    (repeat(first
|simp(disch:=omega)only[evA,evB,evC,af,ag,g1',g2']
|((with_reducible apply cB h);rfl;intro _ _ h)))
    exact hK _ (jP (h.got))
  have g2' : decide (what > 5) = false := by simpa using g2
  (repeat(first
|simp(disch:=omega)only[evA,evB,evC,af,ag,g1',g2']
|with_reducible refine bA h ?_
|((with_reducible apply cB h);rfl;intro _ _ h)))
  refine sQ (r := r) he hw h fun w h => ?_
  unfold Bf
  cases g3 : okR r
  · rw [if_pos (by simp [g3])] at hK
    rw [if_neg (by simp)]
    (repeat simp(disch:=omega)only[evA,evB,evC,af,ag,Int.reduceEq])
    exact hK _ (jP (h.got))
  rw [if_neg (by rw [g1', show decide (5 < what) = false from g2', g3]; simp)] at hK
  rw [if_pos rfl]
  by_cases g4 : o.most ≤ (o.ls.length : Int)
  · have g4' : decide ((o.ls.length : Int) ≥ o.most) = true := by simpa using g4
    rw [if_pos g4] at hK
    (repeat(first
|simp(disch:=omega)only[evA,evB,evC,af,ag,g4',Int.reduceEq]
|with_reducible refine bA h ?_
|((with_reducible refine gH h ?_);intro _ h)))
    exact hK _ (jP (o := { o with refused := o.refused + 1 }) (h.got))
  have g4' : decide ((o.ls.length : Int) ≥ o.most) = false := by simp; omega
  rw [if_neg g4] at hK
  obtain ⟨x, hx⟩ : ∃ x : Ltr, x = ⟨⟨o.last + 1, what, r⟩, 0, 0⟩ := ⟨_, rfl⟩
  rw [← hx] at hK
  have eb1 := fbTk (o.last + 1) what r
  have eb2 : aD Tryz.prog 130 [(0, .agg (cTk ⟨o.last + 1, what, r⟩).toArray)] = some (enV x) := by rw [hx]; exact fbEn _
  (repeat(first
|simp(disch:=omega)only[evA,evB,evC,af,ag,g4',Int.reduceEq]
|with_reducible refine bA h ?_
|((with_reducible refine gH h ?_);intro _ h)))
  refine ax eb1 ?_
  refine ax eb2 ?_
  have fin : ∀ {s9 : Value} {w : World} {L' : List HP}, Sat w0 (LsH cEn 15 130 s9 (o.ls ++ [x]) :: L') w → Get (LsH cEn 15 130 s9 (o.ls ++ [x]) :: L') (RCl q { o with last := o.last + 1 } s9 :: LsH cEn 15 130 s9 (o.ls ++ [x]) :: L) → K (.tuple #[.int .i64 (o.last + 1), .int .i64 0]) w := fun h g => hK _ (jP (o := { o with last := o.last + 1, ls := o.ls ++ [x] }) (h.get g))
  refine ⟨?_, ?_⟩
  · refine xg CEn h.drew Qe (by kernel_rfl) fun sa w h => ?_
    (repeat with_reducible refine bA h ?_)
    refine ⟨?_, ?_⟩
    · refine fI (l := []) (m := o.ls) CEn h BC Bz (je h (.refl _) (inferInstance : LsIn s _ _ _ _ _ o.ls)) (by simp; omega) fun sb w h => ?_
      rw [List.nil_append] at h
      (repeat with_reducible refine bA h ?_)
      refine jQ (x := x) CEn h Qe (Si x) rfl fun sc w h => ?_
      (repeat with_reducible refine bA h ?_)
      refine fI (l := o.ls) (m := [x]) CEn (h.frt (A := LsH cEn 15 130 sb o.ls)) BC Bz (je h (.refl _) (inferInstance : LsIn sc _ _ _ _ _ [x])) (by simp; omega) fun sd w h => ?_
      have := fT h
      (repeat(first
|with_reducible refine bA h ?_
|((with_reducible refine gH h ?_);intro _ h)))
      exact hK _ (jP (o := { o with last := o.last + 1, ls := o.ls ++ [x] }) (h.got))
    · refine jQ (x := x) CEn h Qe (Si x) rfl fun sc w h => ?_
      (repeat with_reducible refine bA h ?_)
      refine fI (l := []) (m := o.ls) CEn (h.frt (A := LsH cEn 15 130 sa [])) BC Bz (je h (.refl _) (inferInstance : LsIn s _ _ _ _ _ o.ls)) (by simp; omega) fun sb w h => ?_
      rw [List.nil_append] at h
      (repeat with_reducible refine bA h ?_)
      refine fI (l := o.ls) (m := [x]) CEn (h.frt (A := LsH cEn 15 130 sb o.ls)) BC Bz (je h (.refl _) (inferInstance : LsIn sc _ _ _ _ _ [x])) (by simp; omega) fun sd w h => ?_
      have := fT h
      (repeat(first
|with_reducible refine bA h ?_
|((with_reducible refine gH h ?_);intro _ h)))
      exact hK _ (jP (o := { o with last := o.last + 1, ls := o.ls ++ [x] }) (h.got))
  · refine jQ (x := x) CEn h.drew Qe (Si x) rfl fun sc w h => ?_
    (repeat with_reducible refine bA h ?_)
    refine xg CEn h Qe (by kernel_rfl) fun sa w h => ?_
    (repeat with_reducible refine bA h ?_)
    refine fI (l := []) (m := o.ls) CEn h BC Bz (je h (.refl _) (inferInstance : LsIn s _ _ _ _ _ o.ls)) (by simp; omega) fun sb w h => ?_
    rw [List.nil_append] at h
    (repeat with_reducible refine bA h ?_)
    refine fI (l := o.ls) (m := [x]) CEn (h.frt (A := LsH cEn 15 130 sb o.ls)) BC Bz (je h (.refl _) (inferInstance : LsIn sc _ _ _ _ _ [x])) (by simp; omega) fun sd w h => ?_
    have := fT h
    (repeat(first
|with_reducible refine bA h ?_
|((with_reducible refine gH h ?_);intro _ h)))
    exact hK _ (jP (o := { o with last := o.last + 1, ls := o.ls ++ [x] }) (h.got))
end
end Go.Proofs.Gong

/- Or2 -/
namespace Go.Proofs.Gong
open Go Go.Sx Go.Proofs
set_option maxRecDepth 100000
attribute [local irreducible] aD bY bO eqv dB Cl bS LsH SlH ld1 ldN st ai bT aY dF bI bz bE aJ aB bK bZ
section
variable {w0 w : World} {L : List HP} {K : Value → World → Prop} {v : Value} {o : Ob} {n last refused : Int} {t : Tk}
end
end Go.Proofs.Gong

/- Or3 -/
namespace Go.Proofs.Gong
open Go Go.Sx Go.Proofs
set_option maxRecDepth 100000
theorem fH {s : List UInt8} {n : Nat} (h : dR s n = true) : s.length ≤ n := by
  unfold dR at h
  split at h
  · cases h
  · simp at h; exact h.2
theorem Vw {r : Row} (h : okR r = true) : r.e.fits ∧ r.who.length < 1073741824 := by
  unfold okR okE wV at h
  simp only [Bool.and_eq_true] at h
  obtain ⟨⟨_, hw⟩, he⟩ := h
  obtain ⟨⟨⟨⟨⟨⟨_, h1⟩, h2⟩, h3⟩, h4⟩, _⟩, _⟩ := he
  have a1 := fH h1
  have a2 := fH h2
  have a3 := fH h3
  have a4 := fH h4
  refine ⟨⟨by omega, by omega, by omega, by omega⟩, ?_⟩
  split at hw
  · unfold qL at hw
    simp only [Bool.and_eq_true] at hw
    have := fH hw.2
    omega
  · simp at hw; rw [hw]; simp
attribute [local irreducible] aD bY bO eqv dB Cl bS LsH SlH ld1 ldN st ai bT aY dF bI bz bE aJ aB bK bZ
section
variable {w0 w : World} {L : List HP} {K : Value → World → Prop} {v rv : Value} {o : Ob} {n : Int} {M : PX}
end
end Go.Proofs.Gong

/- Qp0 -/
namespace Go.Proofs.Gong
open Go Go.Sx Go.Proofs
set_option maxRecDepth 100000
def ol (y : Int) : Int := if y % 4 = 0 ∧ (y % 100 ≠ 0 ∨ y % 400 = 0) then 1 else 0
def SX : List Int := [0, 0, 31, 59, 90, 120, 151, 181, 212, 243, 273, 304, 334, 365]
def jL (m : Nat) : Int := SX[m]?.getD 0
def beforeN (y : Int) (m : Nat) : Int := if 2 < m then jL m + ol y else jL m
def dY (y : Int) : Int := (y - 1) * 365 + (y - 1) / 4 - (y - 1) / 100 + (y - 1) / 400 - 719162
theorem since_next (y : Int) : dY (y + 1) = dY y + 365 + ol y := by
  unfold dY ol
  split <;> omega
theorem sG (y : Int) : 0 ≤ ol y ∧ ol y ≤ 1 := by unfold ol; split <;> omega
def qj : Nat → Int → Int → Int
  | 0, _, y => y
  | k + 1, days, y => if dY (y + 1) ≤ days then qj k days (y + 1) else y
def ji : Nat → Int → Int → Nat → Nat
  | 0, _, _, m => m
  | k + 1, y, d, m => if beforeN y (m + 1) ≤ d then ji k y d (m + 1) else m
theorem Gg (days : Int) (h : 0 ≤ days) (h2 : days ≤ 30000) : dY (1970 + days / 366) ≤ days := by
  unfold dY; omega
theorem xW : ∀ (k : Nat) (days y : Int), dY y ≤ days → days < dY y + 365 * k → dY (qj k days y) ≤ days ∧ days < dY (qj k days y + 1) ∧ y ≤ qj k days y ∧ qj k days y ≤ y + k
  | 0, days, y, h1, h2 => by simp at h2; omega
  | k + 1, days, y, h1, h2 => by
    rw [qj]
    split
    · rename_i h
      have e := since_next y
      have l := sG y
      obtain ⟨a, b, c, d⟩ := xW k days (y + 1) h (by push_cast at h2; omega)
      exact ⟨a, b, by omega, by push_cast; omega⟩
    · exact ⟨h1, by omega, by omega, by push_cast; omega⟩
theorem Ci (y : Int) : beforeN y 13 = 365 + ol y := by
  unfold beforeN; rw [if_pos (by omega)]; rfl
theorem IJ (y : Int) : beforeN y 1 = 0 := by unfold beforeN; rw [if_neg (by omega)]; rfl
theorem wH {y d : Int} (hd : d < 365 + ol y) : ∀ (k m : Nat), m + k = 13 → 1 ≤ m → m ≤ 12 → beforeN y m ≤ d → 1 ≤ ji k y d m ∧ ji k y d m ≤ 12 ∧ beforeN y (ji k y d m) ≤ d ∧ d < beforeN y (ji k y d m + 1)
  | 0, m, h, h1, h2, _ => by omega
  | k + 1, m, h, h1, h2, hb => by
    rw [ji]
    split
    · rename_i g
      by_cases h12 : m = 12
      · subst h12
        rw [Ci] at g
        omega
      · exact wH hd k (m + 1) (by omega) (by omega) (by omega) g
    · exact ⟨h1, h2, hb, by omega⟩
theorem DJ (y : Int) {m : Nat} (h1 : 1 ≤ m) (h2 : m ≤ 12) : 0 ≤ beforeN y m ∧ beforeN y (m + 1) ≤ beforeN y m + 31 ∧ beforeN y m ≤ 365 := by
  have l := sG y
  have : m = 1 ∨ m = 2 ∨ m = 3 ∨ m = 4 ∨ m = 5 ∨ m = 6 ∨ m = 7 ∨ m = 8 ∨ m = 9 ∨ m = 10 ∨ m = 11 ∨ m = 12 := by omega
  unfold beforeN
  rcases this with rfl | rfl | rfl | rfl | rfl | rfl | rfl | rfl | rfl | rfl | rfl | rfl <;> simp [jL, SX] <;> omega
def iO (n : Int) : List UInt8 := [UInt8.ofNat (48 + n.toNat / 10), UInt8.ofNat (48 + n.toNat % 10)]
def yl (t : Int) : List UInt8 :=
  let days := t / 86400
  let left := t % 86400
  let y := qj 100 days (1970 + days / 366)
  let d := days - dY y
  let m := ji 12 y d 1
  iO (y / 100) ++ iO (y % 100) ++ [45] ++ iO m ++ [45] ++ iO (d - beforeN y m + 1) ++ [84] ++ iO (left / 3600) ++ [58] ++ iO (left / 60 % 60) ++ [58] ++ iO (left % 60)
def kY (n : Nat) : UInt8 := if n < 10 then UInt8.ofNat (48 + n) else UInt8.ofNat (87 + n)
def Dx (c : UInt8) : List UInt8 :=
  if c = 34 ∨ c = 92 then [92, c] else if c = 10 then [92, 110] else if c = 9 then [92, 116] else
  if c < 32 ∨ 127 ≤ c then [92, 120, kY (c.toNat / 16), kY (c.toNat % 16)] else [c]
def jI (s : List UInt8) : List UInt8 := 34 :: s.flatMap Dx ++ [34]
end Go.Proofs.Gong

/- Qp1 -/
namespace Go.Proofs.Gong
open Go Go.Sx Go.Proofs
set_option maxRecDepth 100000
def eF : List UInt8 → List (List UInt8)
  | [] => [[]]
  | c :: s => if c = 32 then [] :: eF s else match eF s with
    | [] => [[c]]
    | x :: r => (c :: x) :: r
theorem qN : ∀ {a : List UInt8}, (32 : UInt8) ∉ a → eF a = [a]
  | [], _ => rfl
  | c :: a, h => by
    have h1 : c ≠ 32 := fun e => h (by simp [e])
    have h2 : (32 : UInt8) ∉ a := fun e => h (by simp [e])
    rw [eF, if_neg h1, qN h2]
theorem lC : ∀ {a b : List UInt8}, (32 : UInt8) ∉ a → eF (a ++ 32 :: b) = a :: eF b
  | [], b, _ => by simp [eF]
  | c :: a, b, h => by
    have h1 : c ≠ 32 := fun e => h (by simp [e])
    have h2 : (32 : UInt8) ∉ a := fun e => h (by simp [e])
    rw [List.cons_append, eF, if_neg h1, lC h2]
theorem qp : ∀ {a b : List UInt8}, (32 : UInt8) ∉ a → Lib.indexByte (a ++ 32 :: b) 32 = a.length
  | [], b, _ => by simp [Lib.indexByte]
  | c :: a, b, h => by
    have h1 : c ≠ 32 := fun e => h (by simp [e])
    have h2 : (32 : UInt8) ∉ a := fun e => h (by simp [e])
    have ih := qp (b := b) h2
    rw [List.cons_append, Lib.indexByte, ih]
    have e1 : (c == 32) = false := by simpa using h1
    have e2 : ((a.length : Int) == -1) = false := by simp only [beq_eq_false_iff_ne, ne_eq]; omega
    rw [e1, e2]; simp
theorem sK : ∀ {a : List UInt8}, (32 : UInt8) ∉ a → Lib.indexByte a 32 = -1
  | [], _ => rfl
  | c :: a, h => by
    have h1 : c ≠ 32 := fun e => h (by simp [e])
    have h2 : (32 : UInt8) ∉ a := fun e => h (by simp [e])
    rw [Lib.indexByte, sK h2]
    have e1 : (c == 32) = false := by simpa using h1
    rw [e1]; simp
theorem sM (s : ByteArray) : Lib.indexB s (bs [32]) = Lib.indexByte s.data.toList 32 := Lib.one s (bs [32]) rfl
theorem wK : ∀ (s : List UInt8), (32 : UInt8) ∉ s ∨ ∃ a b, s = a ++ 32 :: b ∧ (32 : UInt8) ∉ a
  | [] => .inl (by simp)
  | c :: s => by
    by_cases h : c = 32
    · exact .inr ⟨[], s, by rw [h]; rfl, by simp⟩
    · rcases wK s with h2 | ⟨a, b, h2, h3⟩
      · exact .inl (by simp [h2]; exact fun e => h e.symm)
      · exact .inr ⟨c :: a, b, by simp [h2], by simp [h3]; exact fun e => h e.symm⟩
theorem Ch (s : ByteArray) : bs s.data.toList = s := by cases s; rfl
theorem BA : ∀ (n : Nat) (s : List UInt8), s.length ≤ n → (Lib.splitB (bs [32]) 0 (Lib.countB (bs s) (bs [32])) (bs s)).map (·.data.toList) = eF s
  | n, s, hn => by
    rcases wK s with h | ⟨a, b, rfl, h⟩
    · have e : Lib.indexB (bs s) (bs [32]) = -1 := by rw [sM]; exact sK (by simpa [bs] using h)
      rw [Lib.countB_miss _ _ e, qN h]
      simp [Lib.splitB, bs]
    · have e : Lib.indexB (bs (a ++ 32 :: b)) (bs [32]) = (a.length : Nat) := by
        rw [sM]
        have : (bs (a ++ 32 :: b)).data.toList = a ++ 32 :: b := by simp [bs]
        rw [this]; exact qp h
      have ex : (bs (a ++ 32 :: b)).extract (a.length + (bs [32]).size) (bs (a ++ 32 :: b)).size = bs b := by
        rw [← Ch (ByteArray.extract _ _ _), Lib.extract_data]
        congr 1
        have e1 : (bs (a ++ 32 :: b)).data.toList = a ++ 32 :: b := by simp [bs]
        have e2 : (bs [32]).size = 1 := rfl
        have e3 : (bs (a ++ 32 :: b)).size = a.length + (b.length + 1) := by rw [fM]; simp
        rw [e1, e2, e3, show a ++ 32 :: b = (a ++ [32]) ++ b by simp, List.drop_append_of_le_length (by simp), List.drop_of_length_le (by simp), List.nil_append, List.take_of_length_le (by omega)]
      have ex0 : (bs (a ++ 32 :: b)).extract 0 (a.length + 0) = bs a := by
        rw [← Ch (ByteArray.extract _ _ _), Lib.extract_data]
        congr 1
        simp [bs]
      cases n with
      | zero => simp at hn
      | succ n =>
        have ih := BA n b (by simp at hn; omega)
        rw [Lib.countB_hit _ _ _ (by decide) e, ex, Nat.add_comm 1, Lib.splitB_hit _ _ _ _ _ e, ex, ex0, List.map_cons, ih, lC h]
        simp [bs]
theorem Qm (s : List UInt8) : qO s [32] = eF s := BA s.length s (Nat.le_refl _)
def uz (s : List UInt8) : List (List UInt8) := (eF s).filter (· ≠ [])
theorem wM {d : Nat} (h : d < 10) : Lib.digitVal (UInt8.ofNat (48 + d)) = some d := by
  have : (UInt8.ofNat (48 + d)).toNat = 48 + d := by rw [UInt8.toNat_ofNat']; omega
  unfold Lib.digitVal
  rw [this, if_pos (by omega)]
  congr 1; omega
theorem wO : ∀ (a b : List UInt8) (acc n : Nat), Lib.decFrom acc a = some n → Lib.decFrom acc (a ++ b) = Lib.decFrom n b
  | [], b, acc, n, h => by cases h; rfl
  | c :: a, b, acc, n, h => by
    unfold Lib.decFrom at h
    rw [List.cons_append]
    cases hd : Lib.digitVal c with
    | none => rw [hd] at h; cases h
    | some d =>
      rw [hd] at h
      simp only at h
      conv => lhs; unfold Lib.decFrom
      rw [hd]
      exact wO a b _ n h
theorem zm (u : Nat) : Lib.decFrom 0 (Lib.decDigits u) = some u := by
  induction u using Nat.strongRecOn with
  | ind u ih =>
    rw [Lib.decDigits]
    split
    · rename_i h
      unfold Lib.decFrom
      rw [wM h]
      simp [Lib.decFrom]
    · rename_i h
      rw [wO _ _ _ _ (ih (u / 10) (by omega))]
      unfold Lib.decFrom
      rw [wM (by omega)]
      simp [Lib.decFrom]; omega
theorem Cg (u : Nat) : Lib.decDigits u ≠ [] := by
  rw [Lib.decDigits]; split <;> simp
theorem q8 (u : Nat) : ∀ c ∈ Lib.decDigits u, 48 ≤ c.toNat ∧ c.toNat ≤ 57 := by
  induction u using Nat.strongRecOn with
  | ind u ih =>
    have one : ∀ d, d < 10 → 48 ≤ (UInt8.ofNat (48 + d)).toNat ∧ (UInt8.ofNat (48 + d)).toNat ≤ 57 := by
      intro d hd
      rw [UInt8.toNat_ofNat']; omega
    rw [Lib.decDigits]
    split
    · rename_i h
      intro c hc
      obtain rfl := List.mem_singleton.1 hc
      exact one u h
    · rename_i h
      intro c hc
      rcases List.mem_append.1 hc with hc | hc
      · exact ih (u / 10) (by omega) c hc
      · obtain rfl := List.mem_singleton.1 hc
        exact one (u % 10) (by omega)
theorem zl : ∀ (k u : Nat), u < 10 ^ (k + 1) → (Lib.decDigits u).length ≤ k + 1
  | 0, u, h => by rw [Lib.decDigits, dif_pos (by simpa using h)]; simp
  | k + 1, u, h => by
    rw [Lib.decDigits]
    split
    · simp
    · have := zl k (u / 10) (by rw [Nat.pow_succ] at h; omega)
      simp; omega
theorem ou (u : Nat) : Lib.itoa (u : Int) = Lib.decDigits u := Lib.itoa_nonneg u
theorem Cj (u : Nat) : Lib.atoi (Lib.itoa (u : Int)) = some (u : Int) := by
  rw [ou]
  have h := zm u
  have ha := q8 u
  have hne := Cg u
  cases hd : Lib.decDigits u with
  | nil => exact absurd hd hne
  | cons c r =>
    rw [hd] at h ha
    have hc := ha c (by simp)
    unfold Lib.atoi
    have e1 : (c == 45) = false := by
      simp only [beq_eq_false_iff_ne, ne_eq]
      rintro rfl
      simp at hc
    have e2 : (c == 43) = false := by
      simp only [beq_eq_false_iff_ne, ne_eq]
      rintro rfl
      simp at hc
    simp only [e1, e2]
    simp [Lib.decNat, h]
theorem Dh (u : Nat) : (32 : UInt8) ∉ Lib.itoa (u : Int) := by
  rw [ou]
  intro h
  have := q8 u 32 h
  simp at this
theorem M7 (u : Nat) : Lib.itoa (u : Int) ≠ [] := by rw [ou]; exact Cg u
theorem sJ {u : Nat} (h : u < 1000000000000000000) : (Lib.itoa (u : Int)).length ≤ 18 := by
  rw [ou]; exact zl 17 u (by omega)
end Go.Proofs.Gong
