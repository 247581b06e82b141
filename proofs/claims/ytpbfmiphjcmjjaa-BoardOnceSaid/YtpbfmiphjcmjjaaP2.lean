/- A part of the proofs: what stands below it, told in lemmas. No condition. -/
import Derived.Test.YtpbfmiphjcmjjaaP1
set_option linter.all false

/- Hp3 -/
namespace Go.Proofs.Gong
open Go Go.Sx Go.Proofs
section
variable {w0 w : World} {L : List HP} {K : Value → World → Prop} {v : Value} {n : Int} {l : List It} {m : Pl}
theorem nan_spec {a : Int} (hK : K (.bool false) w) : callP G139 [.int .i64 a] w K := by
  refine c139 ?_
  unfold F139
  simpa using hK
theorem cmp_spec {a b : Int} (hK : K (.int .i64 (if a < b then -1 else if b < a then 1 else 0)) w) : callP G117 [.int .i64 a, .int .i64 b] w K := by
  refine c117 ?_
  unfold F117
  refine nan_spec (nan_spec ?_)
  simp
  by_cases h1 : a < b
  · simp [h1] at hK ⊢; exact hK
  · by_cases h2 : b < a
    · simp [h1, h2] at hK ⊢; exact hK
    · simp [h1, h2] at hK ⊢; exact hK
theorem or_loop {s : Value} {cs : List Int} (hr : Rd w 1 s cs.length (cs.flatMap cI)) (hlen : cs.length < 1000) (hK : K (.int .i64 ((cs.find? (fun c => decide (c ≠ 0))).getD 0)) w) :
    ∀ (d i : Nat), cs.length - i < d → i ≤ cs.length → (∀ c ∈ cs.take i, c = 0) → F116_2L d (.int .i64 0) s (.int .i64 cs.length) (.int .i64 i) w K := by
  intro d
  induction d with
  | zero => intro i hd; omega
  | succ d ih =>
    intro i hd hi h0
    rw [F116_2L]
    unfold F116_2b
    by_cases hlt : i < cs.length
    · have e1 := rd_ld1 (g := fun c => .int .i64 c) hr hlt
      simp [hlt, ix_el hr hlt, e1]
      by_cases hc : cs[i] = 0
      · simp [hc, wrap_id (show -9223372036854775808 ≤ (i : Int) + 1 ∧ (i : Int) + 1 ≤ 9223372036854775807 by omega)]
        refine ih (i + 1) (by omega) (by omega) fun c hc' => ?_
        rw [List.take_succ_eq_append_getElem hlt] at hc'
        rcases List.mem_append.1 hc' with h | h
        · exact h0 c h
        · simp at h; rw [h, hc]
      · simp [hc]
        have : cs.find? (fun c => decide (c ≠ 0)) = some cs[i] := by
          rw [List.find?_eq_some_iff_getElem]
          refine ⟨by simpa using hc, i, hlt, rfl, fun j hj => ?_⟩
          have := h0 cs[j] (by rw [List.mem_take_iff_getElem]; exact ⟨j, by omega, rfl⟩)
          simp [this]
        rw [this] at hK; exact hK
    · have : ¬ ((i : Int) < cs.length) := by omega
      simp [this, F116_3, F116_3b]
      have : cs.find? (fun c => decide (c ≠ 0)) = none := by
        rw [List.find?_eq_none]
        intro c hc
        rw [List.take_of_length_le (by omega)] at h0
        simp [h0 c hc]
      rw [this] at hK; exact hK
theorem or_spec {s : Value} {cs : List Int} (hr : Rd w 1 s cs.length (cs.flatMap cI)) (hlen : cs.length < 1000) (hK : K (.int .i64 ((cs.find? (fun c => decide (c ≠ 0))).getD 0)) w) : callP G116 [s] w K := by
  refine c116 ?_
  unfold F116 F116_1 F116_1b
  simp [hr.len]
  exact or_loop hr hlen hK fuel 0 (by unfold fuel; omega) (by omega) (by simp)
def ordV (x y : It) : Int := if itLt x y then -1 else if itLt y x then 1 else 0
theorem ord_find (x y : It) : (([if x.2 < y.2 then (-1 : Int) else if y.2 < x.2 then 1 else 0, if x.1 < y.1 then (-1 : Int) else if y.1 < x.1 then 1 else 0] : List Int).find? (fun c => decide (c ≠ 0))).getD 0 = ordV x y := by
  unfold ordV itLt
  by_cases a1 : x.2 < y.2
  · simp [a1]
  · by_cases a2 : y.2 < x.2
    · have : ¬ x.2 = y.2 := by omega
      simp [a1, a2, this]
    · have a3 : x.2 = y.2 := by omega
      by_cases b1 : x.1 < y.1
      · simp [a3, b1]
      · by_cases b2 : y.1 < x.1
        · simp [a3, b1, b2]
        · simp [a3, b1, b2]
theorem ordV_neg (x y : It) : ordV x y < 0 ↔ itLt x y = true := by unfold ordV; split <;> (try split) <;> simp_all
end
end Go.Proofs.Gong

/- Hp4 -/
namespace Go.Proofs.Gong
open Go Go.Sx Go.Proofs
set_option maxRecDepth 100000
section
variable {w0 w : World} {L : List HP} {K : Value → World → Prop} {v : Value} {n : Int} {l : List It} {m : Pl}
end
end Go.Proofs.Gong

/- Hp5 -/
namespace Go.Proofs.Gong
open Go Go.Sx Go.Proofs
set_option maxRecDepth 100000
section
variable {w0 w : World} {L : List HP} {K : Value → World → Prop} {v : Value} {n : Int} {l : List It} {m : Pl} {M : List It}
end
end Go.Proofs.Gong

/- Hp6 -/
namespace Go.Proofs.Gong
open Go Go.Sx Go.Proofs
set_option maxRecDepth 100000
section
variable {w0 w : World} {L : List HP} {K : Value → World → Prop} {v : Value} {n : Int} {l : List It} {m : Pl} {M : List It}
end
end Go.Proofs.Gong

/- Hp7 -/
namespace Go.Proofs.Gong
open Go Go.Sx Go.Proofs
set_option maxRecDepth 100000
section
variable {w0 w : World} {L : List HP} {K : Value → World → Prop} {v : Value} {n : Int} {l : List It} {m : Pl} {M : List It}
end
end Go.Proofs.Gong

/- Bk0 -/
namespace Go.Proofs.Gong
open Go Go.Sx Go.Proofs
def bel (x n : Int) : Int := (x.tmod n + n).tmod n
section
variable {w : World} {K : Value → World → Prop}
theorem Below_spec {x n : Int} (hn : 0 < n) (hn2 : n ≤ 4611686018427387904) (hK : ∀ r : Int, 0 ≤ r → r < n → r = bel x n → K (.int .i64 r) w) : callP G15 [.int .i64 x, .int .i64 n] w K := by
  refine c15 ?_
  unfold F15
  have h1 := Int.tmod_lt_of_pos x hn
  have h2 : -n < x.tmod n := by
    have := Int.lt_tmod_of_pos x hn
    omega
  have h3 := Int.tmod_nonneg n (show (0 : Int) ≤ x.tmod n + n by omega)
  have h4 := Int.tmod_lt_of_pos (x.tmod n + n) hn
  simp [bRem_int _ _ _ (show n ≠ 0 by omega), wrap_id (show -9223372036854775808 ≤ x.tmod n + n ∧ x.tmod n + n ≤ 9223372036854775807 by omega)]
  exact hK _ h3 h4 rfl
end
end Go.Proofs.Gong

/- Hp9 -/
namespace Go.Proofs.Gong
open Go Go.Sx Go.Proofs
set_option maxRecDepth 100000
attribute [local irreducible] fBuild fLook fZero eqv bEqv Cl MapH LsH SlH ld1 ldN st callP eBox eAlloc lenM lenL eMapSet eDelete eAppend eBuildSl eRange eNext
section
variable {w0 w : World} {L : List HP} {K : Value → World → Prop} {v : Value} {n : Int} {M : List It}
end
end Go.Proofs.Gong

/- Nm0 -/
namespace Go.Proofs.Gong
open Go Go.Sx
def longP (b : Nat) : Nat × Nat := if b < 128 then (1, b) else if b / 32 = 6 then (2, b % 32) else if b / 16 = 14 then (3, b % 16) else if b / 8 = 30 then (4, b % 8) else (0, 0)
def leastP (n : Nat) : Nat := if n = 2 then 128 else if n = 3 then 2048 else if n = 4 then 65536 else 0
def isC (c : Nat) : Bool := decide (c ≤ 1114111) && (decide (c < 55296) || decide (57343 < c))
def contP : Nat → Nat → List UInt8 → Option Nat
  | 0, c, _ => some c
  | _ + 1, _, [] => none
  | k + 1, c, b :: s => if b.toNat / 64 = 2 then contP k (c * 64 + b.toNat % 64) s else none
def firstP : List UInt8 → Option (Nat × Nat)
  | [] => none
  | b :: s => if (longP b.toNat).1 = 0 ∨ s.length + 1 < (longP b.toNat).1 then none else
    match contP ((longP b.toNat).1 - 1) (longP b.toNat).2 s with
    | none => none
    | some c => if isC c = true ∧ leastP (longP b.toNat).1 ≤ c then some (c, (longP b.toNat).1) else none
end Go.Proofs.Gong

/- Norm -/
namespace Go.Proofs.Gong
open Go Go.Sx Go.Proofs
set_option linter.all false
set_option maxRecDepth 100000
def T180 : List (Nat × FnT) := []
def F180 (x0 : Value) (w : World) (K : Value → World → Prop) : Prop :=
bindP (bLt x0 (.int .u8 128)) fun v1 =>
ifB v1 (
bindP (cInt .i64 x0) fun v2 =>
K (.tuple #[(.int .i64 1), v2]) w) (
bindP (bShr x0 (.int .u64 5)) fun v3 =>
bindP (bEq Try.prog 5 (.tmp 11) (.const (.int .u8 6)) v3 (.int .u8 6)) fun v4 =>
ifB v4 (
bindP (bBit .and x0 (.int .u8 31)) fun v5 =>
bindP (cInt .i64 v5) fun v6 =>
K (.tuple #[(.int .i64 2), v6]) w) (
bindP (bShr x0 (.int .u64 4)) fun v7 =>
bindP (bEq Try.prog 5 (.tmp 18) (.const (.int .u8 14)) v7 (.int .u8 14)) fun v8 =>
ifB v8 (
bindP (bBit .and x0 (.int .u8 15)) fun v9 =>
bindP (cInt .i64 v9) fun v10 =>
K (.tuple #[(.int .i64 3), v10]) w) (
bindP (bShr x0 (.int .u64 3)) fun v11 =>
bindP (bEq Try.prog 5 (.tmp 25) (.const (.int .u8 30)) v11 (.int .u8 30)) fun v12 =>
ifB v12 (
bindP (bBit .and x0 (.int .u8 7)) fun v13 =>
bindP (cInt .i64 v13) fun v14 =>
K (.tuple #[(.int .i64 4), v14]) w) (
K (.tuple #[(.int .i64 0), (.int .i64 0)]) w))))
def G180 : FnT := fun args w K => on1 (fun x0 => F180 x0 w K) args
theorem c180 {x0 : Value} {w : World} {K : Value → World → Prop} (h : F180 x0 w K) : callP G180 [x0] w K := callP_intro (on1_mk (p := fun x0 => F180 x0 w K) h)
theorem ok180 : OkF Try.prog 180 G180 := by
  refine okF_of (tab_ok (l := T180) trivial) mixed (n := fuel) Try.func180 Try.call180 fun args w K h => ?_
  obtain ⟨x0, rfl, hh⟩ := of_on1 h
  exact fnD_list (c := bodyOf Try.f180) (by kernel_rfl) (by kernel_rfl) (Eq.mp (by kernel_rfl) hh)
def T181 : List (Nat × FnT) := []
def F181 (x0 : Value) (w : World) (K : Value → World → Prop) : Prop :=
bindP (bGe x0 (.int .i64 0)) fun v1 =>
stepM (gd true v1) x0 fun v2 =>
Sx.stepG (gd true v1) (bLe v2 (.int .i64 1114111)) fun v3 =>
bindP (pPick v1 v3 (.bool false)) fun v4 =>
stepM (gd true v4) x0 fun v5 =>
Sx.stepG (gd true v4) (bLt v5 (.int .i64 55296)) fun v6 =>
stepM (gd true v4) v6 fun v7 =>
stepM (gd false v7) x0 fun v8 =>
Sx.stepG (gd false v7) (bGt v8 (.int .i64 57343)) fun v9 =>
Sx.stepG (gd true v4) (pPick v7 (.bool true) v9) fun v10 =>
bindP (pPick v4 v10 (.bool false)) fun v11 =>
K v11 w
def G181 : FnT := fun args w K => on1 (fun x0 => F181 x0 w K) args
theorem c181 {x0 : Value} {w : World} {K : Value → World → Prop} (h : F181 x0 w K) : callP G181 [x0] w K := callP_intro (on1_mk (p := fun x0 => F181 x0 w K) h)
theorem ok181 : OkF Try.prog 181 G181 := by
  refine okF_of (tab_ok (l := T181) trivial) mixed (n := fuel) Try.func181 Try.call181 fun args w K h => ?_
  obtain ⟨x0, rfl, hh⟩ := of_on1 h
  exact fnD_list (c := bodyOf Try.f181) (by kernel_rfl) (by kernel_rfl) (Eq.mp (by kernel_rfl) hh)
def T182 : List (Nat × FnT) := []
def F182 (x0 : Value) (w : World) (K : Value → World → Prop) : Prop :=
bindP (bEq Try.prog 3 (.tmp 3) (.const (.int .i64 2)) x0 (.int .i64 2)) fun v1 =>
ifB v1 (
K (.int .i64 128) w) (
bindP (bEq Try.prog 3 (.tmp 3) (.const (.int .i64 3)) x0 (.int .i64 3)) fun v2 =>
ifB v2 (
K (.int .i64 2048) w) (
bindP (bEq Try.prog 3 (.tmp 3) (.const (.int .i64 4)) x0 (.int .i64 4)) fun v3 =>
ifB v3 (
K (.int .i64 65536) w) (
K (.int .i64 0) w)))
def G182 : FnT := fun args w K => on1 (fun x0 => F182 x0 w K) args
theorem c182 {x0 : Value} {w : World} {K : Value → World → Prop} (h : F182 x0 w K) : callP G182 [x0] w K := callP_intro (on1_mk (p := fun x0 => F182 x0 w K) h)
theorem ok182 : OkF Try.prog 182 G182 := by
  refine okF_of (tab_ok (l := T182) trivial) mixed (n := fuel) Try.func182 Try.call182 fun args w K h => ?_
  obtain ⟨x0, rfl, hh⟩ := of_on1 h
  exact fnD_list (c := bodyOf Try.f182) (by kernel_rfl) (by kernel_rfl) (Eq.mp (by kernel_rfl) hh)
def T161 : List (Nat × FnT) := [(180, G180), (181, G181), (182, G182)]
def F161_3b (s2 : Value) (s3 : Value) (w : World) (K : Value → World → Prop) : Prop :=
callP G181 [s2] w fun v2 w1 =>
bindP (uNot v2) fun v3 =>
stepM (gd false v3) s2 fun v4 =>
stepM (gd false v3) s3 fun v5 =>
stepE (gd false v3) (fun k => callP G182 [v5] w1 k) w1 fun v7 w6 =>
Sx.stepG (gd false v3) (bLt v4 v7) fun v8 =>
bindP (pPick v3 (.bool true) v8) fun v9 =>
ifB v9 (
K (.tuple #[(.int .i64 0), (.int .i64 0), (.int .i64 40)]) w6) (
K (.tuple #[s2, s3, (.int .i64 0)]) w6)
def F161_3 (s2 : Value) (s3 : Value) (w : World) (K : Value → World → Prop) : Prop := F161_3b s2 s3 w K
theorem ok161_3 {K : Value → World → Prop} {kn kr : Env → World → Prop} {ke : Nat → Env → World → Prop}
    (hn : ∀ e w, (fun e w => K (.tuple #[(e 2), (e 3), (e 4)]) w) e w → kn e w) (hr : ∀ e w, endD Try.prog [.tmp 2, .tmp 3, .tmp 4] K e w → kr e w) (he : ∀ i e w, noE i e w → ke i e w) :
    ∀ e w, F161_3 (e 2) (e 3) w K → denL Try.prog (tabOf T161) 51 fuel ((flat (bodyOf Try.f161)).drop 8) e w kn kr ke := by
  intro e w h
  unfold F161_3 at h
  have e1 : ∀ (_ : Unit), F161_3b (e 2) (e 3) w K = denL Try.prog (tabOf T161) 51 fuel ((flat (bodyOf Try.f161)).drop 8) e w (fun e w => K (.tuple #[(e 2), (e 3), (e 4)]) w) (endD Try.prog [.tmp 2, .tmp 3, .tmp 4] K) noE := by intro _; kernel_rfl
  exact seg_end (Eq.mp (e1 ()) h) hn hr he
def F161_2b (s0 : Value) (s2 : Value) (s3 : Value) (s5 : Value) (w : World) (K : Value → World → Prop) (Y0 : Value → Value → Value → Value → World → Prop) (Y1 : Value → Value → World → Prop) : Prop :=
bindP (bLt s5 s3) fun v10 =>
ifB v10 (
bindP (pIndexS s0 s5) fun v11 =>
bindP (bShr v11 (.int .u64 6)) fun v12 =>
bindP (bNe Try.prog 5 (.tmp 30) (.const (.int .u8 2)) v12 (.int .u8 2)) fun v13 =>
ifB v13 (
K (.tuple #[(.int .i64 0), (.int .i64 0), (.int .i64 40)]) w) (
bindP (bShl s2 (.int .u64 6)) fun v14 =>
bindP (pIndexS s0 s5) fun v15 =>
bindP (bBit .and v15 (.int .u8 63)) fun v16 =>
bindP (cInt .i64 v16) fun v17 =>
bindP (bBit .or v14 v17) fun v18 =>
bindP (bAdd s5 (.int .i64 1)) fun v19 =>
Y0 s0 v18 s3 v19 w)) (
Y1 s2 s3 w)
def F161_2L : Nat → Value → Value → Value → Value → World → (Value → World → Prop) → Prop
  | 0, _, _, _, _, _, _ => False
  | n + 1, s0, s2, s3, s5, w, K => F161_2b s0 s2 s3 s5 w K (fun a0 a2 a3 a5 w => F161_2L n a0 a2 a3 a5 w K) (fun a2 a3 w => F161_3 a2 a3 w K)
def F161_2 (s0 : Value) (s2 : Value) (s3 : Value) (s5 : Value) (w : World) (K : Value → World → Prop) : Prop := F161_2L fuel s0 s2 s3 s5 w K
theorem ok161_2 {K : Value → World → Prop} {kn kr : Env → World → Prop} {ke : Nat → Env → World → Prop}
    (hn : ∀ e w, (fun e w => K (.tuple #[(e 2), (e 3), (e 4)]) w) e w → kn e w) (hr : ∀ e w, endD Try.prog [.tmp 2, .tmp 3, .tmp 4] K e w → kr e w) (he : ∀ i e w, noE i e w → ke i e w) :
    ∀ e w, F161_2 (e 0) (e 2) (e 3) (e 5) w K → denL Try.prog (tabOf T161) 51 fuel ((flat (bodyOf Try.f161)).drop 7) e w kn kr ke := by
  intro e w h
  unfold F161_2 at h
  refine seg_loop (id := 0) (body := (loopB (blkB (nthC (flat (bodyOf Try.f161)) 7)))) (l2 := (flat (bodyOf Try.f161)).drop 8) (by kernel_rfl) ?_
  refine loop_ok (FL := fun m e w => F161_2L m (e 0) (e 2) (e 3) (e 5) w K) (fr := endD Try.prog [.tmp 2, .tmp 3, .tmp 4] K) (fe := (blkK 0 (fun e w => F161_3 (e 2) (e 3) w K) noE)) (fun _ _ h => h) ?_ hr (blkK_mono (fun e w h => ok161_3 hn hr he e w h) he) fuel e w h
  intro m e w h
  have h : F161_2L (m + 1) (e 0) (e 2) (e 3) (e 5) w K := h
  rw [F161_2L] at h
  have e1 : ∀ (Y0 : Value → Value → Value → Value → World → Prop) (Y1 : Value → Value → World → Prop), F161_2b (e 0) (e 2) (e 3) (e 5) w K Y0 Y1 = denL Try.prog (tabOf T161) 51 fuel (flat (loopB (blkB (nthC (flat (bodyOf Try.f161)) 7)))) e w (fun e w => Y0 (e 0) (e 2) (e 3) (e 5) w) (endD Try.prog [.tmp 2, .tmp 3, .tmp 4] K) (blkK 0 (fun e w => Y1 (e 2) (e 3) w) noE) := by intro Y0 Y1; kernel_rfl
  exact Eq.mp (e1 (fun a0 a2 a3 a5 w => F161_2L m a0 a2 a3 a5 w K) (fun a2 a3 w => F161_3 a2 a3 w K)) h
def F161_1b (s0 : Value) (w : World) (K : Value → World → Prop) (Y0 : Value → Value → Value → Value → World → Prop) : Prop :=
bindP (bEq Try.prog 9 (.tmp 6) (.const (.string ⟨#[]⟩)) s0 (.string ⟨#[]⟩)) fun v20 =>
ifB v20 (
K (.tuple #[(.int .i64 0), (.int .i64 0), (.int .i64 40)]) w) (
bindP (pIndexS s0 (.int .i64 0)) fun v21 =>
callP G180 [v21] w fun v23 w22 =>
bindP (pTuple v23 0) fun v24 =>
bindP (pTuple v23 1) fun v25 =>
bindP (bEq Try.prog 3 (.tmp 14) (.const (.int .i64 0)) v24 (.int .i64 0)) fun v26 =>
stepM (gd false v26) v24 fun v27 =>
stepM (gd false v26) s0 fun v28 =>
Sx.stepG (gd false v26) (lenS v28) fun v29 =>
Sx.stepG (gd false v26) (bGt v27 v29) fun v30 =>
bindP (pPick v26 (.bool true) v30) fun v31 =>
ifB v31 (
K (.tuple #[(.int .i64 0), (.int .i64 0), (.int .i64 40)]) w22) (
Y0 s0 v25 v24 (.int .i64 1) w22))
def F161_1 (s0 : Value) (w : World) (K : Value → World → Prop) : Prop := F161_1b s0 w K (fun a0 a2 a3 a5 w => F161_2 a0 a2 a3 a5 w K)
theorem ok161_1 {K : Value → World → Prop} {kn kr : Env → World → Prop} {ke : Nat → Env → World → Prop}
    (hn : ∀ e w, (fun e w => K (.tuple #[(e 2), (e 3), (e 4)]) w) e w → kn e w) (hr : ∀ e w, endD Try.prog [.tmp 2, .tmp 3, .tmp 4] K e w → kr e w) (he : ∀ i e w, noE i e w → ke i e w) :
    ∀ e w, F161_1 (e 0) w K → denL Try.prog (tabOf T161) 51 fuel ((flat (bodyOf Try.f161)).drop 0) e w kn kr ke := by
  intro e w h
  unfold F161_1 at h
  have e1 : ∀ (Y0 : Value → Value → Value → Value → World → Prop), F161_1b (e 0) w K Y0 = denL Try.prog (tabOf T161) 51 fuel (((flat (bodyOf Try.f161)).drop 0).take 7) e w (fun e w => Y0 (e 0) (e 2) (e 3) (e 5) w) (endD Try.prog [.tmp 2, .tmp 3, .tmp 4] K) noE := by intro Y0; kernel_rfl
  exact seg 7 (Eq.mp (e1 (fun a0 a2 a3 a5 w => F161_2 a0 a2 a3 a5 w K)) h) (fun e w h => ok161_2 hn hr he e w h) hr he
def F161 (x0 : Value) (w : World) (K : Value → World → Prop) : Prop := F161_1 x0 w K
def G161 : FnT := fun args w K => on1 (fun x0 => F161 x0 w K) args
theorem c161 {x0 : Value} {w : World} {K : Value → World → Prop} (h : F161 x0 w K) : callP G161 [x0] w K := callP_intro (on1_mk (p := fun x0 => F161 x0 w K) h)
theorem ok161 : OkF Try.prog 161 G161 := by
  refine okF_of (tab_ok (l := T161) ⟨ok180, ok181, ok182, trivial⟩) mixed (n := fuel) Try.func161 Try.call161 fun args w K h => ?_
  obtain ⟨x0, rfl, hh⟩ := of_on1 h
  unfold F161 at hh
  exact fnD_list (c := bodyOf Try.f161) (by kernel_rfl) (by kernel_rfl) (ok161_1 (fun _ _ h => h) (fun _ _ h => h) (fun _ _ _ h => h) (initE [x0]) w hh)
def T135 : List (Nat × FnT) := [(161, G161)]
def F135_3b (s4 : Value) (w : World) (K : Value → World → Prop) : Prop :=
K (.tuple #[s4, (.int .i64 0)]) w
def F135_3 (s4 : Value) (w : World) (K : Value → World → Prop) : Prop := F135_3b s4 w K
theorem ok135_3 {K : Value → World → Prop} {kn kr : Env → World → Prop} {ke : Nat → Env → World → Prop}
    (hn : ∀ e w, (fun e w => K (.tuple #[(e 2), (e 3)]) w) e w → kn e w) (hr : ∀ e w, endD Try.prog [.tmp 2, .tmp 3] K e w → kr e w) (he : ∀ i e w, noE i e w → ke i e w) :
    ∀ e w, F135_3 (e 4) w K → denL Try.prog (tabOf T135) 27 fuel ((flat (bodyOf Try.f135)).drop 3) e w kn kr ke := by
  intro e w h
  unfold F135_3 at h
  have e1 : ∀ (_ : Unit), F135_3b (e 4) w K = denL Try.prog (tabOf T135) 27 fuel ((flat (bodyOf Try.f135)).drop 3) e w (fun e w => K (.tuple #[(e 2), (e 3)]) w) (endD Try.prog [.tmp 2, .tmp 3] K) noE := by intro _; kernel_rfl
  exact seg_end (Eq.mp (e1 ()) h) hn hr he
def F135_2b (s0 : Value) (s4 : Value) (w : World) (K : Value → World → Prop) (Y0 : Value → Value → World → Prop) (Y1 : Value → World → Prop) : Prop :=
bindP (bNe Try.prog 9 (.tmp 8) (.const (.string ⟨#[]⟩)) s0 (.string ⟨#[]⟩)) fun v1 =>
ifB v1 (
callP G161 [s0] w fun v3 w2 =>
bindP (pTuple v3 0) fun v4 =>
bindP (pTuple v3 1) fun v5 =>
bindP (pTuple v3 2) fun v6 =>
bindP (bNe Try.prog 24 (.tmp 16) (.const (.int .i64 0)) v6 (.int .i64 0)) fun v7 =>
ifB v7 (
K (.tuple #[(.slice none 0 0), v6]) w2) (
eBuildSl Try.prog 22 1 [(0, v4)] w2 fun v9 w8 =>
eAppend Try.prog 22 22 s4 v9 w8 fun v11 w10 =>
bindP (pSliceS s0 (some v5) none) fun v12 =>
Y0 v12 v11 w10)) (
Y1 s4 w)
def F135_2L : Nat → Value → Value → World → (Value → World → Prop) → Prop
  | 0, _, _, _, _ => False
  | n + 1, s0, s4, w, K => F135_2b s0 s4 w K (fun a0 a4 w => F135_2L n a0 a4 w K) (fun a4 w => F135_3 a4 w K)
def F135_2 (s0 : Value) (s4 : Value) (w : World) (K : Value → World → Prop) : Prop := F135_2L fuel s0 s4 w K
theorem ok135_2 {K : Value → World → Prop} {kn kr : Env → World → Prop} {ke : Nat → Env → World → Prop}
    (hn : ∀ e w, (fun e w => K (.tuple #[(e 2), (e 3)]) w) e w → kn e w) (hr : ∀ e w, endD Try.prog [.tmp 2, .tmp 3] K e w → kr e w) (he : ∀ i e w, noE i e w → ke i e w) :
    ∀ e w, F135_2 (e 0) (e 4) w K → denL Try.prog (tabOf T135) 27 fuel ((flat (bodyOf Try.f135)).drop 2) e w kn kr ke := by
  intro e w h
  unfold F135_2 at h
  refine seg_loop (id := 0) (body := (loopB (blkB (nthC (flat (bodyOf Try.f135)) 2)))) (l2 := (flat (bodyOf Try.f135)).drop 3) (by kernel_rfl) ?_
  refine loop_ok (FL := fun m e w => F135_2L m (e 0) (e 4) w K) (fr := endD Try.prog [.tmp 2, .tmp 3] K) (fe := (blkK 0 (fun e w => F135_3 (e 4) w K) noE)) (fun _ _ h => h) ?_ hr (blkK_mono (fun e w h => ok135_3 hn hr he e w h) he) fuel e w h
  intro m e w h
  have h : F135_2L (m + 1) (e 0) (e 4) w K := h
  rw [F135_2L] at h
  have e1 : ∀ (Y0 : Value → Value → World → Prop) (Y1 : Value → World → Prop), F135_2b (e 0) (e 4) w K Y0 Y1 = denL Try.prog (tabOf T135) 27 fuel (flat (loopB (blkB (nthC (flat (bodyOf Try.f135)) 2)))) e w (fun e w => Y0 (e 0) (e 4) w) (endD Try.prog [.tmp 2, .tmp 3] K) (blkK 0 (fun e w => Y1 (e 4) w) noE) := by intro Y0 Y1; kernel_rfl
  exact Eq.mp (e1 (fun a0 a4 w => F135_2L m a0 a4 w K) (fun a4 w => F135_3 a4 w K)) h
def F135_1b (s0 : Value) (w : World) (_K : Value → World → Prop) (Y0 : Value → Value → World → Prop) : Prop :=
Y0 s0 (.slice none 0 0) w
def F135_1 (s0 : Value) (w : World) (K : Value → World → Prop) : Prop := F135_1b s0 w K (fun a0 a4 w => F135_2 a0 a4 w K)
theorem ok135_1 {K : Value → World → Prop} {kn kr : Env → World → Prop} {ke : Nat → Env → World → Prop}
    (hn : ∀ e w, (fun e w => K (.tuple #[(e 2), (e 3)]) w) e w → kn e w) (hr : ∀ e w, endD Try.prog [.tmp 2, .tmp 3] K e w → kr e w) (he : ∀ i e w, noE i e w → ke i e w) :
    ∀ e w, F135_1 (e 0) w K → denL Try.prog (tabOf T135) 27 fuel ((flat (bodyOf Try.f135)).drop 0) e w kn kr ke := by
  intro e w h
  unfold F135_1 at h
  have e1 : ∀ (Y0 : Value → Value → World → Prop), F135_1b (e 0) w K Y0 = denL Try.prog (tabOf T135) 27 fuel (((flat (bodyOf Try.f135)).drop 0).take 2) e w (fun e w => Y0 (e 0) (e 4) w) (endD Try.prog [.tmp 2, .tmp 3] K) noE := by intro Y0; kernel_rfl
  exact seg 2 (Eq.mp (e1 (fun a0 a4 w => F135_2 a0 a4 w K)) h) (fun e w h => ok135_2 hn hr he e w h) hr he
def F135 (x0 : Value) (w : World) (K : Value → World → Prop) : Prop := F135_1 x0 w K
def G135 : FnT := fun args w K => on1 (fun x0 => F135 x0 w K) args
theorem c135 {x0 : Value} {w : World} {K : Value → World → Prop} (h : F135 x0 w K) : callP G135 [x0] w K := callP_intro (on1_mk (p := fun x0 => F135 x0 w K) h)
theorem ok135 : OkF Try.prog 135 G135 := by
  refine okF_of (tab_ok (l := T135) ⟨ok161, trivial⟩) mixed (n := fuel) Try.func135 Try.call135 fun args w K h => ?_
  obtain ⟨x0, rfl, hh⟩ := of_on1 h
  unfold F135 at hh
  exact fnD_list (c := bodyOf Try.f135) (by kernel_rfl) (by kernel_rfl) (ok135_1 (fun _ _ h => h) (fun _ _ h => h) (fun _ _ _ h => h) (initE [x0]) w hh)
def T137 : List (Nat × FnT) := []
def F137 (x0 : Value) (w : World) (K : Value → World → Prop) : Prop :=
bindP (bLt x0 (.int .i64 32)) fun v1 =>
stepM (gd false v1) x0 fun v2 =>
Sx.stepG (gd false v1) (bEq Try.prog 3 (.tmp 6) (.const (.int .i64 127)) v2 (.int .i64 127)) fun v3 =>
bindP (pPick v1 (.bool true) v3) fun v4 =>
K v4 w
def G137 : FnT := fun args w K => on1 (fun x0 => F137 x0 w K) args
theorem c137 {x0 : Value} {w : World} {K : Value → World → Prop} (h : F137 x0 w K) : callP G137 [x0] w K := callP_intro (on1_mk (p := fun x0 => F137 x0 w K) h)
theorem ok137 : OkF Try.prog 137 G137 := by
  refine okF_of (tab_ok (l := T137) trivial) mixed (n := fuel) Try.func137 Try.call137 fun args w K h => ?_
  obtain ⟨x0, rfl, hh⟩ := of_on1 h
  exact fnD_list (c := bodyOf Try.f137) (by kernel_rfl) (by kernel_rfl) (Eq.mp (by kernel_rfl) hh)
def T162 : List (Nat × FnT) := [(137, G137)]
def F162_3b (w : World) (K : Value → World → Prop) : Prop :=
K (.int .i64 (-1)) w
def F162_3 (w : World) (K : Value → World → Prop) : Prop := F162_3b w K
theorem ok162_3 {K : Value → World → Prop} {kn kr : Env → World → Prop} {ke : Nat → Env → World → Prop}
    (hn : ∀ e w, (fun e w => K (e 4) w) e w → kn e w) (hr : ∀ e w, endD Try.prog [.tmp 4] K e w → kr e w) (he : ∀ i e w, noE i e w → ke i e w) :
    ∀ e w, F162_3 w K → denL Try.prog (tabOf T162) 19 fuel ((flat (bodyOf Try.f162)).drop 3) e w kn kr ke := by
  intro e w h
  unfold F162_3 at h
  have e1 : ∀ (_ : Unit), F162_3b w K = denL Try.prog (tabOf T162) 19 fuel ((flat (bodyOf Try.f162)).drop 3) e w (fun e w => K (e 4) w) (endD Try.prog [.tmp 4] K) noE := by intro _; kernel_rfl
  exact seg_end (Eq.mp (e1 ()) h) hn hr he
def F162_2b (s0 : Value) (s1 : Value) (s7 : Value) (s8 : Value) (w : World) (K : Value → World → Prop) (Y0 : Value → Value → Value → Value → World → Prop) (Y1 : World → Prop) : Prop :=
bindP (bLt s8 s7) fun v1 =>
ifB v1 (
bindP (pIndexL 1 s0 s8) fun v2 =>
bindP (ld1 v2 w) fun v3 =>
eCallV (tabOf T162) s1 [v3] w fun v5 w4 =>
ifB v5 (
K s8 w4) (
bindP (bAdd s8 (.int .i64 1)) fun v6 =>
Y0 s0 s1 s7 v6 w4)) (
Y1 w)
def F162_2L : Nat → Value → Value → Value → Value → World → (Value → World → Prop) → Prop
  | 0, _, _, _, _, _, _ => False
  | n + 1, s0, s1, s7, s8, w, K => F162_2b s0 s1 s7 s8 w K (fun a0 a1 a7 a8 w => F162_2L n a0 a1 a7 a8 w K) (fun w => F162_3 w K)
def F162_2 (s0 : Value) (s1 : Value) (s7 : Value) (s8 : Value) (w : World) (K : Value → World → Prop) : Prop := F162_2L fuel s0 s1 s7 s8 w K
theorem ok162_2 {K : Value → World → Prop} {kn kr : Env → World → Prop} {ke : Nat → Env → World → Prop}
    (hn : ∀ e w, (fun e w => K (e 4) w) e w → kn e w) (hr : ∀ e w, endD Try.prog [.tmp 4] K e w → kr e w) (he : ∀ i e w, noE i e w → ke i e w) :
    ∀ e w, F162_2 (e 0) (e 1) (e 7) (e 8) w K → denL Try.prog (tabOf T162) 19 fuel ((flat (bodyOf Try.f162)).drop 2) e w kn kr ke := by
  intro e w h
  unfold F162_2 at h
  refine seg_loop (id := 0) (body := (loopB (blkB (nthC (flat (bodyOf Try.f162)) 2)))) (l2 := (flat (bodyOf Try.f162)).drop 3) (by kernel_rfl) ?_
  refine loop_ok (FL := fun m e w => F162_2L m (e 0) (e 1) (e 7) (e 8) w K) (fr := endD Try.prog [.tmp 4] K) (fe := (blkK 0 (fun e w => F162_3 w K) noE)) (fun _ _ h => h) ?_ hr (blkK_mono (fun e w h => ok162_3 hn hr he e w h) he) fuel e w h
  intro m e w h
  have h : F162_2L (m + 1) (e 0) (e 1) (e 7) (e 8) w K := h
  rw [F162_2L] at h
  have e1 : ∀ (Y0 : Value → Value → Value → Value → World → Prop) (Y1 : World → Prop), F162_2b (e 0) (e 1) (e 7) (e 8) w K Y0 Y1 = denL Try.prog (tabOf T162) 19 fuel (flat (loopB (blkB (nthC (flat (bodyOf Try.f162)) 2)))) e w (fun e w => Y0 (e 0) (e 1) (e 7) (e 8) w) (endD Try.prog [.tmp 4] K) (blkK 0 (fun e w => Y1 w) noE) := by intro Y0 Y1; kernel_rfl
  exact Eq.mp (e1 (fun a0 a1 a7 a8 w => F162_2L m a0 a1 a7 a8 w K) (fun w => F162_3 w K)) h
def F162_1b (s0 : Value) (s1 : Value) (w : World) (_K : Value → World → Prop) (Y0 : Value → Value → Value → Value → World → Prop) : Prop :=
bindP (lenL s0) fun v7 =>
Y0 s0 s1 v7 (.int .i64 0) w
def F162_1 (s0 : Value) (s1 : Value) (w : World) (K : Value → World → Prop) : Prop := F162_1b s0 s1 w K (fun a0 a1 a7 a8 w => F162_2 a0 a1 a7 a8 w K)
theorem ok162_1 {K : Value → World → Prop} {kn kr : Env → World → Prop} {ke : Nat → Env → World → Prop}
    (hn : ∀ e w, (fun e w => K (e 4) w) e w → kn e w) (hr : ∀ e w, endD Try.prog [.tmp 4] K e w → kr e w) (he : ∀ i e w, noE i e w → ke i e w) :
    ∀ e w, F162_1 (e 0) (e 1) w K → denL Try.prog (tabOf T162) 19 fuel ((flat (bodyOf Try.f162)).drop 0) e w kn kr ke := by
  intro e w h
  unfold F162_1 at h
  have e1 : ∀ (Y0 : Value → Value → Value → Value → World → Prop), F162_1b (e 0) (e 1) w K Y0 = denL Try.prog (tabOf T162) 19 fuel (((flat (bodyOf Try.f162)).drop 0).take 2) e w (fun e w => Y0 (e 0) (e 1) (e 7) (e 8) w) (endD Try.prog [.tmp 4] K) noE := by intro Y0; kernel_rfl
  exact seg 2 (Eq.mp (e1 (fun a0 a1 a7 a8 w => F162_2 a0 a1 a7 a8 w K)) h) (fun e w h => ok162_2 hn hr he e w h) hr he
def F162 (x0 : Value) (x1 : Value) (w : World) (K : Value → World → Prop) : Prop := F162_1 x0 x1 w K
def G162 : FnT := fun args w K => on2 (fun x0 x1 => F162 x0 x1 w K) args
theorem c162 {x0 x1 : Value} {w : World} {K : Value → World → Prop} (h : F162 x0 x1 w K) : callP G162 [x0, x1] w K := callP_intro (on2_mk (p := fun x0 x1 => F162 x0 x1 w K) h)
theorem ok162 : OkF Try.prog 162 G162 := by
  refine okF_of (tab_ok (l := T162) ⟨ok137, trivial⟩) mixed (n := fuel) Try.func162 Try.call162 fun args w K h => ?_
  obtain ⟨x0, x1, rfl, hh⟩ := of_on2 h
  unfold F162 at hh
  exact fnD_list (c := bodyOf Try.f162) (by kernel_rfl) (by kernel_rfl) (ok162_1 (fun _ _ h => h) (fun _ _ h => h) (fun _ _ _ h => h) (initE [x0, x1]) w hh)
def T136 : List (Nat × FnT) := [(162, G162)]
def F136 (x0 : Value) (x1 : Value) (w : World) (K : Value → World → Prop) : Prop :=
callP G162 [x0, x1] w fun v2 w1 =>
bindP (bGe v2 (.int .i64 0)) fun v3 =>
K v3 w1
def G136 : FnT := fun args w K => on2 (fun x0 x1 => F136 x0 x1 w K) args
theorem c136 {x0 x1 : Value} {w : World} {K : Value → World → Prop} (h : F136 x0 x1 w K) : callP G136 [x0, x1] w K := callP_intro (on2_mk (p := fun x0 x1 => F136 x0 x1 w K) h)
theorem ok136 : OkF Try.prog 136 G136 := by
  refine okF_of (tab_ok (l := T136) ⟨ok162, trivial⟩) mixed (n := fuel) Try.func136 Try.call136 fun args w K h => ?_
  obtain ⟨x0, x1, rfl, hh⟩ := of_on2 h
  exact fnD_list (c := bodyOf Try.f136) (by kernel_rfl) (by kernel_rfl) (Eq.mp (by kernel_rfl) hh)
def T111 : List (Nat × FnT) := [(135, G135), (136, G136)]
def F111 (x0 : Value) (x1 : Value) (w : World) (K : Value → World → Prop) : Prop :=
callP G135 [x0] w fun v2 w1 =>
bindP (pTuple v2 0) fun v3 =>
bindP (pTuple v2 1) fun v4 =>
callP G136 [v3, (.func (.func 137) #[] #[])] w1 fun v6 w5 =>
bindP (bEq Try.prog 24 (.tmp 15) (.const (.int .i64 0)) v4 (.int .i64 0)) fun v7 =>
stepM (gd true v7) v6 fun v8 =>
Sx.stepG (gd true v7) (uNot v8) fun v9 =>
bindP (pPick v7 v9 (.bool false)) fun v10 =>
stepM (gd true v10) x0 fun v11 =>
Sx.stepG (gd true v10) (lenS v11) fun v12 =>
stepM (gd true v10) x1 fun v13 =>
Sx.stepG (gd true v10) (bLe v12 v13) fun v14 =>
bindP (pPick v10 v14 (.bool false)) fun v15 =>
K v15 w5
def G111 : FnT := fun args w K => on2 (fun x0 x1 => F111 x0 x1 w K) args
theorem c111 {x0 x1 : Value} {w : World} {K : Value → World → Prop} (h : F111 x0 x1 w K) : callP G111 [x0, x1] w K := callP_intro (on2_mk (p := fun x0 x1 => F111 x0 x1 w K) h)
theorem ok111 : OkF Try.prog 111 G111 := by
  refine okF_of (tab_ok (l := T111) ⟨ok135, ok136, trivial⟩) mixed (n := fuel) Try.func111 Try.call111 fun args w K h => ?_
  obtain ⟨x0, x1, rfl, hh⟩ := of_on2 h
  exact fnD_list (c := bodyOf Try.f111) (by kernel_rfl) (by kernel_rfl) (Eq.mp (by kernel_rfl) hh)
def T61 : List (Nat × FnT) := [(111, G111)]
def F61 (x0 : Value) (w : World) (K : Value → World → Prop) : Prop :=
eBox 31 x0 w fun v2 w1 =>
bindP (pFieldAddr 0 v2) fun v3 =>
bindP (ld1 v3 w1) fun v4 =>
bindP (bNe Try.prog 9 (.tmp 5) (.const (.string ⟨#[]⟩)) v4 (.string ⟨#[]⟩)) fun v5 =>
Sx.stepG (gd true v5) (pFieldAddr 1 v2) fun v6 =>
Sx.stepG (gd true v5) (ld1 v6 w1) fun v7 =>
Sx.stepG (gd true v5) (bNe Try.prog 9 (.tmp 9) (.const (.string ⟨#[]⟩)) v7 (.string ⟨#[]⟩)) fun v8 =>
bindP (pPick v5 v8 (.bool false)) fun v9 =>
Sx.stepG (gd true v9) (pFieldAddr 0 v2) fun v10 =>
Sx.stepG (gd true v9) (ld1 v10 w1) fun v11 =>
stepE (gd true v9) (fun k => callP G111 [v11, (.int .i64 64)] w1 k) w1 fun v13 w12 =>
bindP (pPick v9 v13 (.bool false)) fun v14 =>
Sx.stepG (gd true v14) (pFieldAddr 1 v2) fun v15 =>
Sx.stepG (gd true v14) (ld1 v15 w12) fun v16 =>
stepE (gd true v14) (fun k => callP G111 [v16, (.int .i64 64)] w12 k) w12 fun v18 w17 =>
bindP (pPick v14 v18 (.bool false)) fun v19 =>
bindP (uNot v19) fun v20 =>
Sx.stepG (gd false v20) (pFieldAddr 2 v2) fun v21 =>
Sx.stepG (gd false v20) (ld1 v21 w17) fun v22 =>
stepE (gd false v20) (fun k => callP G111 [v22, (.int .i64 128)] w17 k) w17 fun v24 w23 =>
Sx.stepG (gd false v20) (uNot v24) fun v25 =>
bindP (pPick v20 (.bool true) v25) fun v26 =>
Sx.stepG (gd false v26) (pFieldAddr 4 v2) fun v27 =>
Sx.stepG (gd false v26) (ld1 v27 w23) fun v28 =>
stepE (gd false v26) (fun k => callP G111 [v28, (.int .i64 1024)] w23 k) w23 fun v30 w29 =>
Sx.stepG (gd false v26) (uNot v30) fun v31 =>
bindP (pPick v26 (.bool true) v31) fun v32 =>
Sx.stepG (gd false v32) (pFieldAddr 3 v2) fun v33 =>
Sx.stepG (gd false v32) (ld1 v33 w29) fun v34 =>
Sx.stepG (gd false v32) (bLt v34 (.int .i64 0)) fun v35 =>
bindP (pPick v32 (.bool true) v35) fun v36 =>
Sx.stepG (gd false v36) (pFieldAddr 3 v2) fun v37 =>
Sx.stepG (gd false v36) (ld1 v37 w29) fun v38 =>
Sx.stepG (gd false v36) (bGt v38 (.int .i64 5)) fun v39 =>
bindP (pPick v36 (.bool true) v39) fun v40 =>
ifB v40 (
K (.int .i64 180) w29) (
K (.int .i64 0) w29)
def G61 : FnT := fun args w K => on1 (fun x0 => F61 x0 w K) args
theorem c61 {x0 : Value} {w : World} {K : Value → World → Prop} (h : F61 x0 w K) : callP G61 [x0] w K := callP_intro (on1_mk (p := fun x0 => F61 x0 w K) h)
theorem ok61 : OkF Try.prog 61 G61 := by
  refine okF_of (tab_ok (l := T61) ⟨ok111, trivial⟩) mixed (n := fuel) Try.func61 Try.call61 fun args w K h => ?_
  obtain ⟨x0, rfl, hh⟩ := of_on1 h
  exact fnD_list (c := bodyOf Try.f61) (by kernel_rfl) (by kernel_rfl) (Eq.mp (by kernel_rfl) hh)
def F183_4b (s5 : Value) (w : World) (K : Value → World → Prop) : Prop :=
K s5 w
def F183_4 (s5 : Value) (w : World) (K : Value → World → Prop) : Prop := F183_4b s5 w K
def F183_3b (s0 : Value) (s1 : Value) (s5 : Value) (s6 : Value) (w : World) (_K : Value → World → Prop) (Y0 : Value → Value → Value → Value → World → Prop) (Y1 : Value → World → Prop) : Prop :=
bindP (bLt s6 s1) fun v1 =>
ifB v1 (
bindP (bMul s5 (.int .i64 64)) fun v2 =>
bindP (pIndexS s0 s6) fun v3 =>
bindP (bRem v3 (.int .u8 64)) fun v4 =>
bindP (cInt .i64 v4) fun v5 =>
bindP (bAdd v2 v5) fun v6 =>
bindP (bAdd s6 (.int .i64 1)) fun v7 =>
Y0 s0 s1 v6 v7 w) (
Y1 s5 w)
def F183_3L : Nat → Value → Value → Value → Value → World → (Value → World → Prop) → Prop
  | 0, _, _, _, _, _, _ => False
  | n + 1, s0, s1, s5, s6, w, K => F183_3b s0 s1 s5 s6 w K (fun a0 a1 a5 a6 w => F183_3L n a0 a1 a5 a6 w K) (fun a5 w => F183_4 a5 w K)
def F183_3 (s0 : Value) (s1 : Value) (s5 : Value) (s6 : Value) (w : World) (K : Value → World → Prop) : Prop := F183_3L fuel s0 s1 s5 s6 w K
def F183_2b (s0 : Value) (s1 : Value) (s5 : Value) (w : World) (_K : Value → World → Prop) (Y0 : Value → Value → Value → Value → World → Prop) : Prop :=
Y0 s0 s1 s5 (.int .i64 1) w
def F183_2 (s0 : Value) (s1 : Value) (s5 : Value) (w : World) (K : Value → World → Prop) : Prop := F183_2b s0 s1 s5 w K (fun a0 a1 a5 a6 w => F183_3 a0 a1 a5 a6 w K)
def F183_1b (s0 : Value) (s1 : Value) (w : World) (K : Value → World → Prop) (Y0 : Value → Value → Value → World → Prop) : Prop :=
bindP (pIndexS s0 (.int .i64 0)) fun v8 =>
bindP (cInt .i64 v8) fun v9 =>
bindP (bEq Try.prog 3 (.tmp 10) (.const (.int .i64 1)) s1 (.int .i64 1)) fun v10 =>
ifB v10 (
K v9 w) (
bindP (bEq Try.prog 3 (.tmp 10) (.const (.int .i64 2)) s1 (.int .i64 2)) fun v11 =>
ifB v11 (
bindP (bRem v9 (.int .i64 32)) fun v12 =>
Y0 s0 s1 v12 w) (
bindP (bEq Try.prog 3 (.tmp 10) (.const (.int .i64 3)) s1 (.int .i64 3)) fun v13 =>
ifB v13 (
bindP (bRem v9 (.int .i64 16)) fun v14 =>
Y0 s0 s1 v14 w) (
bindP (bRem v9 (.int .i64 8)) fun v15 =>
Y0 s0 s1 v15 w)))
def F183_1 (s0 : Value) (s1 : Value) (w : World) (K : Value → World → Prop) : Prop := F183_1b s0 s1 w K (fun a0 a1 a5 w => F183_2 a0 a1 a5 w K)
def F183 (x0 : Value) (x1 : Value) (w : World) (K : Value → World → Prop) : Prop := F183_1 x0 x1 w K
def G183 : FnT := fun args w K => on2 (fun x0 x1 => F183 x0 x1 w K) args
def F184 (x0 : Value) (w : World) (K : Value → World → Prop) : Prop :=
bindP (bGe x0 (.int .i64 0)) fun v1 =>
stepM (gd true v1) x0 fun v2 =>
Sx.stepG (gd true v1) (bLe v2 (.int .i64 1114111)) fun v3 =>
bindP (pPick v1 v3 (.bool false)) fun v4 =>
stepM (gd true v4) x0 fun v5 =>
Sx.stepG (gd true v4) (bLt v5 (.int .i64 55296)) fun v6 =>
stepM (gd true v4) v6 fun v7 =>
stepM (gd false v7) x0 fun v8 =>
Sx.stepG (gd false v7) (bGt v8 (.int .i64 57343)) fun v9 =>
Sx.stepG (gd true v4) (pPick v7 (.bool true) v9) fun v10 =>
bindP (pPick v4 v10 (.bool false)) fun v11 =>
K v11 w
def G184 : FnT := fun args w K => on1 (fun x0 => F184 x0 w K) args
def F185 (x0 : Value) (w : World) (K : Value → World → Prop) : Prop :=
bindP (bLt x0 (.int .i64 128)) fun v1 =>
ifB v1 (
bindP (cInt .u8 x0) fun v2 =>
eBuildSl Try.prog 29 1 [(0, v2)] w fun v4 w3 =>
bindP (cBytes v4 w3) fun v5 =>
K v5 w3) (
bindP (bLt x0 (.int .i64 2048)) fun v6 =>
ifB v6 (
bindP (bQuo x0 (.int .i64 64)) fun v7 =>
bindP (bAdd (.int .i64 192) v7) fun v8 =>
bindP (cInt .u8 v8) fun v9 =>
bindP (bRem x0 (.int .i64 64)) fun v10 =>
bindP (bAdd (.int .i64 128) v10) fun v11 =>
bindP (cInt .u8 v11) fun v12 =>
eBuildSl Try.prog 29 2 [(0, v9), (1, v12)] w fun v14 w13 =>
bindP (cBytes v14 w13) fun v15 =>
K v15 w13) (
bindP (bLt x0 (.int .i64 65536)) fun v16 =>
ifB v16 (
bindP (bQuo x0 (.int .i64 4096)) fun v17 =>
bindP (bAdd (.int .i64 224) v17) fun v18 =>
bindP (cInt .u8 v18) fun v19 =>
bindP (bQuo x0 (.int .i64 64)) fun v20 =>
bindP (bRem v20 (.int .i64 64)) fun v21 =>
bindP (bAdd (.int .i64 128) v21) fun v22 =>
bindP (cInt .u8 v22) fun v23 =>
bindP (bRem x0 (.int .i64 64)) fun v24 =>
bindP (bAdd (.int .i64 128) v24) fun v25 =>
bindP (cInt .u8 v25) fun v26 =>
eBuildSl Try.prog 29 3 [(0, v19), (1, v23), (2, v26)] w fun v28 w27 =>
bindP (cBytes v28 w27) fun v29 =>
K v29 w27) (
bindP (bQuo x0 (.int .i64 262144)) fun v30 =>
bindP (bAdd (.int .i64 240) v30) fun v31 =>
bindP (cInt .u8 v31) fun v32 =>
bindP (bQuo x0 (.int .i64 4096)) fun v33 =>
bindP (bRem v33 (.int .i64 64)) fun v34 =>
bindP (bAdd (.int .i64 128) v34) fun v35 =>
bindP (cInt .u8 v35) fun v36 =>
bindP (bQuo x0 (.int .i64 64)) fun v37 =>
bindP (bRem v37 (.int .i64 64)) fun v38 =>
bindP (bAdd (.int .i64 128) v38) fun v39 =>
bindP (cInt .u8 v39) fun v40 =>
bindP (bRem x0 (.int .i64 64)) fun v41 =>
bindP (bAdd (.int .i64 128) v41) fun v42 =>
bindP (cInt .u8 v42) fun v43 =>
eBuildSl Try.prog 29 4 [(0, v32), (1, v36), (2, v40), (3, v43)] w fun v45 w44 =>
bindP (cBytes v45 w44) fun v46 =>
K v46 w44)))
def G185 : FnT := fun args w K => on1 (fun x0 => F185 x0 w K) args
def F163_3b (w : World) (K : Value → World → Prop) : Prop :=
K (.tuple #[(.int .i64 0), (.int .i64 0), (.int .i64 40)]) w
def F163_3 (w : World) (K : Value → World → Prop) : Prop := F163_3b w K
def F163_2b (s0 : Value) (s5 : Value) (w : World) (K : Value → World → Prop) (Y0 : Value → Value → World → Prop) (Y1 : World → Prop) : Prop :=
bindP (bLe s5 (.int .i64 4)) fun v1 =>
stepM (gd true v1) s5 fun v2 =>
stepM (gd true v1) s0 fun v3 =>
Sx.stepG (gd true v1) (lenS v3) fun v4 =>
Sx.stepG (gd true v1) (bLe v2 v4) fun v5 =>
bindP (pPick v1 v5 (.bool false)) fun v6 =>
ifB v6 (
callP G183 [s0, s5] w fun v8 w7 =>
callP G184 [v8] w7.drew fun v10 w9 =>
stepM (gd true v10) v8 fun v11 =>
stepM (gd true v10) s0 fun v12 =>
stepM (gd true v10) s5 fun v13 =>
Sx.stepG (gd true v10) (pSliceS v12 none (some v13)) fun v14 =>
stepE (gd true v10) (fun k => callP G185 [v11] w9 k) w9 fun v16 w15 =>
Sx.stepG (gd true v10) (bEq Try.prog 9 (.tmp 24) (.tmp 27) v16 v14) fun v17 =>
bindP (pPick v10 v17 (.bool false)) fun v18 =>
ifB v18 (
K (.tuple #[v8, s5, (.int .i64 0)]) w15) (
bindP (bAdd s5 (.int .i64 1)) fun v19 =>
Y0 s0 v19 w15)) (
Y1 w)
def F163_2L : Nat → Value → Value → World → (Value → World → Prop) → Prop
  | 0, _, _, _, _ => False
  | n + 1, s0, s5, w, K => F163_2b s0 s5 w K (fun a0 a5 w => F163_2L n a0 a5 w K) (fun w => F163_3 w K)
def F163_2 (s0 : Value) (s5 : Value) (w : World) (K : Value → World → Prop) : Prop := F163_2L fuel s0 s5 w K
def F163_1b (s0 : Value) (w : World) (_K : Value → World → Prop) (Y0 : Value → Value → World → Prop) : Prop :=
Y0 s0 (.int .i64 1) w
def F163_1 (s0 : Value) (w : World) (K : Value → World → Prop) : Prop := F163_1b s0 w K (fun a0 a5 w => F163_2 a0 a5 w K)
def F163 (x0 : Value) (w : World) (K : Value → World → Prop) : Prop := F163_1 x0 w K
def G163 : FnT := fun args w K => on1 (fun x0 => F163 x0 w K) args
def F138_3b (s4 : Value) (w : World) (K : Value → World → Prop) : Prop :=
K (.tuple #[s4, (.int .i64 0)]) w
def F138_3 (s4 : Value) (w : World) (K : Value → World → Prop) : Prop := F138_3b s4 w K
def F138_2b (s0 : Value) (s4 : Value) (s5 : Value) (w : World) (K : Value → World → Prop) (Y0 : Value → Value → Value → World → Prop) (Y1 : Value → World → Prop) : Prop :=
bindP (lenS s0) fun v1 =>
bindP (bLt s5 v1) fun v2 =>
ifB v2 (
bindP (pSliceS s0 (some s5) none) fun v3 =>
callP G163 [v3] w fun v5 w4 =>
bindP (pTuple v5 0) fun v6 =>
bindP (pTuple v5 1) fun v7 =>
bindP (pTuple v5 2) fun v8 =>
bindP (bNe Try.prog 24 (.tmp 21) (.const (.int .i64 0)) v8 (.int .i64 0)) fun v9 =>
ifB v9 (
K (.tuple #[(.slice none 0 0), v8]) w4) (
eBuildSl Try.prog 22 1 [(0, v6)] w4 fun v11 w10 =>
eAppend Try.prog 22 22 s4 v11 w10 fun v13 w12 =>
bindP (bAdd s5 v7) fun v14 =>
Y0 s0 v13 v14 w12)) (
Y1 s4 w)
def F138_2L : Nat → Value → Value → Value → World → (Value → World → Prop) → Prop
  | 0, _, _, _, _, _ => False
  | n + 1, s0, s4, s5, w, K => F138_2b s0 s4 s5 w K (fun a0 a4 a5 w => F138_2L n a0 a4 a5 w K) (fun a4 w => F138_3 a4 w K)
def F138_2 (s0 : Value) (s4 : Value) (s5 : Value) (w : World) (K : Value → World → Prop) : Prop := F138_2L fuel s0 s4 s5 w K
def F138_1b (s0 : Value) (w : World) (_K : Value → World → Prop) (Y0 : Value → Value → Value → World → Prop) : Prop :=
Y0 s0 (.slice none 0 0) (.int .i64 0) w
def F138_1 (s0 : Value) (w : World) (K : Value → World → Prop) : Prop := F138_1b s0 w K (fun a0 a4 a5 w => F138_2 a0 a4 a5 w K)
def F138 (x0 : Value) (w : World) (K : Value → World → Prop) : Prop := F138_1 x0 w K
def G138 : FnT := fun args w K => on1 (fun x0 => F138 x0 w K) args
def F112_3b (s0 : Value) (s1 : Value) (s6 : Value) (w : World) (K : Value → World → Prop) : Prop :=
bindP (bEq Try.prog 24 (.tmp 31) (.const (.int .i64 0)) s6 (.int .i64 0)) fun v1 =>
stepM (gd true v1) s0 fun v2 =>
Sx.stepG (gd true v1) (lenS v2) fun v3 =>
stepM (gd true v1) s1 fun v4 =>
Sx.stepG (gd true v1) (bLe v3 v4) fun v5 =>
bindP (pPick v1 v5 (.bool false)) fun v6 =>
K v6 w
def F112_3 (s0 : Value) (s1 : Value) (s6 : Value) (w : World) (K : Value → World → Prop) : Prop := F112_3b s0 s1 s6 w K
def F112_2b (s0 : Value) (s1 : Value) (s5 : Value) (s6 : Value) (s7 : Value) (w : World) (K : Value → World → Prop) (Y0 : Value → Value → Value → Value → Value → World → Prop) (Y1 : Value → Value → Value → World → Prop) : Prop :=
bindP (lenL s5) fun v7 =>
bindP (bLt s7 v7) fun v8 =>
ifB v8 (
bindP (pIndexL 1 s5 s7) fun v9 =>
bindP (ld1 v9 w) fun v10 =>
bindP (bLt v10 (.int .i64 32)) fun v11 =>
stepM (gd false v11) s5 fun v12 =>
stepM (gd false v11) s7 fun v13 =>
Sx.stepG (gd false v11) (pIndexL 1 v12 v13) fun v14 =>
Sx.stepG (gd false v11) (ld1 v14 w) fun v15 =>
Sx.stepG (gd false v11) (bEq Try.prog 3 (.tmp 28) (.const (.int .i64 127)) v15 (.int .i64 127)) fun v16 =>
bindP (pPick v11 (.bool true) v16) fun v17 =>
ifB v17 (
K (.bool false) w) (
bindP (bAdd s7 (.int .i64 1)) fun v18 =>
Y0 s0 s1 s5 s6 v18 w)) (
Y1 s0 s1 s6 w)
def F112_2L : Nat → Value → Value → Value → Value → Value → World → (Value → World → Prop) → Prop
  | 0, _, _, _, _, _, _, _ => False
  | n + 1, s0, s1, s5, s6, s7, w, K => F112_2b s0 s1 s5 s6 s7 w K (fun a0 a1 a5 a6 a7 w => F112_2L n a0 a1 a5 a6 a7 w K) (fun a0 a1 a6 w => F112_3 a0 a1 a6 w K)
def F112_2 (s0 : Value) (s1 : Value) (s5 : Value) (s6 : Value) (s7 : Value) (w : World) (K : Value → World → Prop) : Prop := F112_2L fuel s0 s1 s5 s6 s7 w K
def F112_1b (s0 : Value) (s1 : Value) (w : World) (_K : Value → World → Prop) (Y0 : Value → Value → Value → Value → Value → World → Prop) : Prop :=
callP G138 [s0] w fun v20 w19 =>
bindP (pTuple v20 0) fun v21 =>
bindP (pTuple v20 1) fun v22 =>
Y0 s0 s1 v21 v22 (.int .i64 0) w19
def F112_1 (s0 : Value) (s1 : Value) (w : World) (K : Value → World → Prop) : Prop := F112_1b s0 s1 w K (fun a0 a1 a5 a6 a7 w => F112_2 a0 a1 a5 a6 a7 w K)
def F112 (x0 : Value) (x1 : Value) (w : World) (K : Value → World → Prop) : Prop := F112_1 x0 x1 w K
def G112 : FnT := fun args w K => on2 (fun x0 x1 => F112 x0 x1 w K) args
def F68 (x0 : Value) (w : World) (K : Value → World → Prop) : Prop :=
eBox 31 x0 w fun v2 w1 =>
bindP (pFieldAddr 0 v2) fun v3 =>
bindP (ld1 v3 w1) fun v4 =>
bindP (bEq Try.prog 9 (.tmp 4) (.const (.string ⟨#[]⟩)) v4 (.string ⟨#[]⟩)) fun v5 =>
Sx.stepG (gd false v5) (pFieldAddr 1 v2) fun v6 =>
Sx.stepG (gd false v5) (ld1 v6 w1) fun v7 =>
Sx.stepG (gd false v5) (bEq Try.prog 9 (.tmp 8) (.const (.string ⟨#[]⟩)) v7 (.string ⟨#[]⟩)) fun v8 =>
bindP (pPick v5 (.bool true) v8) fun v9 =>
Sx.stepG (gd false v9) (pFieldAddr 0 v2) fun v10 =>
Sx.stepG (gd false v9) (ld1 v10 w1) fun v11 =>
stepE (gd false v9) (fun k => callP G112 [v11, (.int .i64 64)] w1 k) w1 fun v13 w12 =>
Sx.stepG (gd false v9) (uNot v13) fun v14 =>
bindP (pPick v9 (.bool true) v14) fun v15 =>
Sx.stepG (gd false v15) (pFieldAddr 1 v2) fun v16 =>
Sx.stepG (gd false v15) (ld1 v16 w12) fun v17 =>
stepE (gd false v15) (fun k => callP G112 [v17, (.int .i64 64)] w12 k) w12 fun v19 w18 =>
Sx.stepG (gd false v15) (uNot v19) fun v20 =>
bindP (pPick v15 (.bool true) v20) fun v21 =>
Sx.stepG (gd false v21) (pFieldAddr 2 v2) fun v22 =>
Sx.stepG (gd false v21) (ld1 v22 w18) fun v23 =>
stepE (gd false v21) (fun k => callP G112 [v23, (.int .i64 128)] w18 k) w18 fun v25 w24 =>
Sx.stepG (gd false v21) (uNot v25) fun v26 =>
bindP (pPick v21 (.bool true) v26) fun v27 =>
Sx.stepG (gd false v27) (pFieldAddr 4 v2) fun v28 =>
Sx.stepG (gd false v27) (ld1 v28 w24) fun v29 =>
stepE (gd false v27) (fun k => callP G112 [v29, (.int .i64 1024)] w24 k) w24 fun v31 w30 =>
Sx.stepG (gd false v27) (uNot v31) fun v32 =>
bindP (pPick v27 (.bool true) v32) fun v33 =>
Sx.stepG (gd false v33) (pFieldAddr 3 v2) fun v34 =>
Sx.stepG (gd false v33) (ld1 v34 w30) fun v35 =>
Sx.stepG (gd false v33) (bLt v35 (.int .i64 0)) fun v36 =>
bindP (pPick v33 (.bool true) v36) fun v37 =>
Sx.stepG (gd false v37) (pFieldAddr 3 v2) fun v38 =>
Sx.stepG (gd false v37) (ld1 v38 w30) fun v39 =>
Sx.stepG (gd false v37) (bGt v39 (.int .i64 5)) fun v40 =>
bindP (pPick v37 (.bool true) v40) fun v41 =>
ifB v41 (
K (.int .i64 180) w30) (
K (.int .i64 0) w30)
def G68 : FnT := fun args w K => on1 (fun x0 => F68 x0 w K) args
end Go.Proofs.Gong

/- Nm1 -/
namespace Go.Proofs.Gong
open Go Go.Sx Go.Proofs
set_option maxRecDepth 100000
theorem nil_b : (⟨#[]⟩ : ByteArray) = bs [] := by simp [bs]
theorem gd_undef (b : Bool) : gd b undef = false := by cases b <;> rfl
theorem and31 : ∀ n : Fin 256, bBits .and .u8 (n.val : Int) 31 = some ((n.val % 32 : Nat) : Int) := by decide +kernel
theorem and15 : ∀ n : Fin 256, bBits .and .u8 (n.val : Int) 15 = some ((n.val % 16 : Nat) : Int) := by decide +kernel
theorem and7 : ∀ n : Fin 256, bBits .and .u8 (n.val : Int) 7 = some ((n.val % 8 : Nat) : Int) := by decide +kernel
theorem and63 : ∀ n : Fin 256, bBits .and .u8 (n.val : Int) 63 = some ((n.val % 64 : Nat) : Int) := by decide +kernel
theorem bAnd_u8 {k m : Nat} (h : ∀ n : Fin 256, bBits .and .u8 (n.val : Int) (k : Int) = some ((n.val % m : Nat) : Int)) (b : UInt8) : bBit .and (.int .u8 b.toNat) (.int .u8 k) = some (.int .u8 ((b.toNat % m : Nat))) := by
  have := h ⟨b.toNat, b.toNat_lt⟩
  simp only at this
  simp only [bBit, if_true, this, Option.map_some]
theorem shr_u8 (n k : Nat) (h : k ≤ 8) : bShr (.int .u8 n) (.int .u64 k) = some (.int .u8 ((n / 2 ^ k : Nat))) := bShr_nat (j := .u8) (by exact h)
theorem to64 (n : Nat) (h : n < 9223372036854775808) : cInt .i64 (.int .u8 n) = some (.int .i64 n) := by
  simp only [cInt]; rw [wrap_id (by omega)]
theorem shl6 {n : Nat} (h : n < 72057594037927936) : bShl (.int .i64 n) (.int .u64 6) = some (.int .i64 ((n * 64 : Nat))) := by
  have e : min ((6 : Int).toNat) IntKind.i64.bits = 6 := by decide
  simp only [bShl]
  rw [if_neg (by decide), e, show ((n : Int) * 2 ^ 6) = ((n * 64 : Nat) : Int) by omega, wrap_id (by omega)]
theorem plus1 {a : Nat} (h : a + 1 < 9223372036854775808) : bAdd (.int .i64 a) (.int .i64 1) = some (.int .i64 ((a + 1 : Nat))) := by
  rw [bAdd_int, show ((a : Int) + 1) = ((a + 1 : Nat) : Int) by omega, wrap_id (by omega)]
section
variable {w : World} {K : Value → World → Prop}
theorem long_spec {b : UInt8} (hK : K (.tuple #[.int .i64 (longP b.toNat).1, .int .i64 (longP b.toNat).2]) w) : callP G180 [.int .u8 b.toNat] w K := by
  refine c180 ?_
  unfold F180
  have hb := b.toNat_lt
  unfold longP at hK
  by_cases h1 : b.toNat < 128
  · rw [if_pos h1] at hK
    have e : bLt (.int .u8 (b.toNat : Int)) (.int .u8 128) = some (.bool true) := by simp; omega
    simp only [e, bindP_some, ifB_true, to64 _ (show b.toNat < 9223372036854775808 by omega)]
    exact hK
  · rw [if_neg h1] at hK
    have e : bLt (.int .u8 (b.toNat : Int)) (.int .u8 128) = some (.bool false) := by simp; omega
    have s5 : bShr (.int .u8 (b.toNat : Int)) (.int .u64 5) = some (.int .u8 ((b.toNat / 32 : Nat))) := shr_u8 _ 5 (by omega)
    have s4 : bShr (.int .u8 (b.toNat : Int)) (.int .u64 4) = some (.int .u8 ((b.toNat / 16 : Nat))) := shr_u8 _ 4 (by omega)
    have s3 : bShr (.int .u8 (b.toNat : Int)) (.int .u64 3) = some (.int .u8 ((b.toNat / 8 : Nat))) := shr_u8 _ 3 (by omega)
    have a31 : bBit .and (.int .u8 (b.toNat : Int)) (.int .u8 31) = _ := bAnd_u8 (k := 31) and31 b
    have a15 : bBit .and (.int .u8 (b.toNat : Int)) (.int .u8 15) = _ := bAnd_u8 (k := 15) and15 b
    have a7 : bBit .and (.int .u8 (b.toNat : Int)) (.int .u8 7) = _ := bAnd_u8 (k := 7) and7 b
    simp only [e, bindP_some, ifB_false, s5, s4, s3, a31, a15, a7, bEq_int]
    by_cases h2 : b.toNat / 32 = 6
    · rw [if_pos h2] at hK
      have : decide (((b.toNat / 32 : Nat) : Int) = 6) = true := by rw [h2]; rfl
      simp only [this, ifB_true, to64 _ (show b.toNat % 32 < 9223372036854775808 by omega), bindP_some]
      exact hK
    · rw [if_neg h2] at hK
      have : decide (((b.toNat / 32 : Nat) : Int) = 6) = false := by rw [decide_eq_false_iff_not]; omega
      simp only [this, ifB_false]
      by_cases h3 : b.toNat / 16 = 14
      · rw [if_pos h3] at hK
        have : decide (((b.toNat / 16 : Nat) : Int) = 14) = true := by rw [h3]; rfl
        simp only [this, ifB_true, to64 _ (show b.toNat % 16 < 9223372036854775808 by omega), bindP_some]
        exact hK
      · rw [if_neg h3] at hK
        have : decide (((b.toNat / 16 : Nat) : Int) = 14) = false := by rw [decide_eq_false_iff_not]; omega
        simp only [this, ifB_false]
        by_cases h4 : b.toNat / 8 = 30
        · rw [if_pos h4] at hK
          have : decide (((b.toNat / 8 : Nat) : Int) = 30) = true := by rw [h4]; rfl
          simp only [this, ifB_true, to64 _ (show b.toNat % 8 < 9223372036854775808 by omega), bindP_some]
          exact hK
        · rw [if_neg h4] at hK
          have : decide (((b.toNat / 8 : Nat) : Int) = 30) = false := by rw [decide_eq_false_iff_not]; omega
          simp only [this, ifB_false]
          exact hK
theorem is_spec {c : Nat} (hK : K (.bool (isC c)) w) : callP G181 [.int .i64 c] w K := by
  refine c181 ?_
  unfold F181
  unfold isC at hK
  by_cases h1 : c ≤ 1114111
  · by_cases h2 : c < 55296
    · have e1 : decide ((c : Int) ≥ 0) = true := by simp
      have e2 : decide ((c : Int) ≤ 1114111) = true := by simp; omega
      have e3 : decide ((c : Int) < 55296) = true := by simp; omega
      simp only [bGe_int, bLe_int, bLt_int, e1, e2, e3, bindP_some, gd_true, gd_false, Bool.not_true, stepM_true, stepM_false, stepG_true, stepG_false, pPick_true]
      simpa [h1, h2] using hK
    · have e1 : decide ((c : Int) ≥ 0) = true := by simp
      have e2 : decide ((c : Int) ≤ 1114111) = true := by simp; omega
      have e3 : decide ((c : Int) < 55296) = false := by simp; omega
      have e4 : decide ((c : Int) > 57343) = decide (57343 < c) := by rw [decide_eq_decide]; omega
      simp only [bGe_int, bLe_int, bLt_int, bGt_int, e1, e2, e3, e4, bindP_some, gd_true, gd_false, Bool.not_false, stepM_true, stepG_true, pPick_true, pPick_false]
      simpa [h1, h2] using hK
  · have e1 : decide ((c : Int) ≥ 0) = true := by simp
    have e2 : decide ((c : Int) ≤ 1114111) = false := by simp; omega
    simp only [bGe_int, bLe_int, e1, e2, bindP_some, gd_true, gd_false, Bool.not_false, stepM_true, stepM_false, stepG_true, stepG_false, pPick_true, pPick_false, gd_undef]
    simpa [h1] using hK
theorem least_spec {n : Nat} (hK : K (.int .i64 (leastP n)) w) : callP G182 [.int .i64 n] w K := by
  refine c182 ?_
  unfold F182
  unfold leastP at hK
  by_cases h2 : n = 2
  · subst h2; simpa using hK
  · by_cases h3 : n = 3
    · subst h3; simpa using hK
    · by_cases h4 : n = 4
      · subst h4; simpa using hK
      · have e2 : decide ((n : Int) = 2) = false := by rw [decide_eq_false_iff_not]; omega
        have e3 : decide ((n : Int) = 3) = false := by rw [decide_eq_false_iff_not]; omega
        have e4 : decide ((n : Int) = 4) = false := by rw [decide_eq_false_iff_not]; omega
        simp only [bEq_int, e2, e3, e4, bindP_some, ifB_false]
        simpa [h2, h3, h4] using hK
def errV : Value := .tuple #[.int .i64 0, .int .i64 0, .int .i64 40]
def firstV (s : List UInt8) : Value := match firstP s with
  | some x => .tuple #[.int .i64 x.1, .int .i64 x.2, .int .i64 0]
  | none => errV
theorem cont_spec {s : List UInt8} {n : Nat} (hs : n ≤ s.length) (h4 : n ≤ 4) : ∀ (k i c m : Nat), k + i = n → k ≤ m → c < 256 * 64 ^ i → (match contP k c (s.drop i) with | none => K errV w | some c' => F161_3 (.int .i64 c') (.int .i64 n) w K) →
    F161_2L (m + 1) (.string (bs s)) (.int .i64 c) (.int .i64 n) (.int .i64 i) w K := by
  intro k
  induction k with
  | zero =>
    intro i c m hk hm hc hK
    rw [F161_2L]; unfold F161_2b
    obtain rfl : i = n := by omega
    rw [bLt_int]
    simp only [bindP_some, Int.lt_irrefl, decide_false, ifB_false]
    simpa [contP] using hK
  | succ k ih =>
    intro i c m hk hm hc hK
    obtain ⟨m, rfl⟩ : ∃ j, m = j + 1 := ⟨m - 1, by omega⟩
    rw [F161_2L]; unfold F161_2b
    have hi : i < s.length := by omega
    have e : bLt (.int .i64 (i : Int)) (.int .i64 n) = some (.bool true) := by simp; omega
    have hdr : s.drop i = s[i] :: s.drop (i + 1) := List.drop_eq_getElem_cons hi
    rw [hdr] at hK
    rw [e]
    simp only [bindP_some, ifB_true, ix_txt hi]
    generalize s[i] = b at hK
    have hb := b.toNat_lt
    have s6 : bShr (.int .u8 (b.toNat : Int)) (.int .u64 6) = some (.int .u8 ((b.toNat / 64 : Nat))) := shr_u8 _ 6 (by omega)
    simp only [s6, bindP_some, bNe_int]
    simp only [contP] at hK
    by_cases h2 : b.toNat / 64 = 2
    · rw [if_pos h2] at hK
      have : (!decide (((b.toNat / 64 : Nat) : Int) = 2)) = false := by rw [h2]; rfl
      have a63 : bBit .and (.int .u8 (b.toNat : Int)) (.int .u8 63) = _ := bAnd_u8 (k := 63) and63 b
      have hp : 64 ^ i ≤ 64 ^ 4 := Nat.pow_le_pow_right (by omega) (by omega)
      have e4 : 64 ^ 4 = 16777216 := by decide
      simp only [this, ifB_false, shl6 (show c < 72057594037927936 by omega), a63, to64 _ (show b.toNat % 64 < 9223372036854775808 by omega), bindP_some]
      rw [bOr_i64 (by omega) (by omega), or_add (a := c) (i := 6) (by omega)]
      simp only [bindP_some, plus1 (show i + 1 < 9223372036854775808 by omega)]
      refine ih (i + 1) (c * 64 + b.toNat % 64) m (by omega) (by omega) (by rw [Nat.pow_succ]; omega) hK
    · rw [if_neg h2] at hK
      have : (!decide (((b.toNat / 64 : Nat) : Int) = 2)) = true := by simp; omega
      simp only [this, ifB_true]
      exact hK
theorem first_spec4 {s : List UInt8} (hK : K (firstV s) w) : callP G161 [.string (bs s)] w K := by
  refine c161 ?_
  unfold F161 F161_1 F161_1b
  rw [nil_b]
  cases s with
  | nil =>
    simp only [bEq_str, bs_beq, decide_true, bindP_some, ifB_true]
    exact hK
  | cons b s =>
    have e : decide (bs (b :: s) = bs []) = false := by simp
    have ix := ix_txt (l := b :: s) (i := 0) (j := .i64) (by simp)
    simp only [List.getElem_cons_zero] at ix
    have ix0 : pIndexS (.string (bs (b :: s))) (.int .i64 0) = some (.int .u8 b.toNat) := ix
    simp only [bEq_str, bs_beq, e, bindP_some, ifB_false, ix0]
    refine long_spec ?_
    simp only [pTuple, List.getElem?_toArray, List.getElem?_cons_zero, List.getElem?_cons_succ, bindP_some, bEq_int]
    have hl4 : (longP b.toNat).1 ≤ 4 ∧ (longP b.toNat).2 < 256 := by
      have := b.toNat_lt
      unfold longP
      split
      · exact ⟨by simp, by simp; omega⟩
      · split
        · exact ⟨by simp, by simp; omega⟩
        · split
          · exact ⟨by simp, by simp; omega⟩
          · split
            · exact ⟨by simp, by simp; omega⟩
            · exact ⟨by simp, by simp⟩
    unfold firstV firstP at hK
    simp only at hK
    generalize longP b.toNat = x at hK hl4
    by_cases h0 : x.1 = 0
    · rw [if_pos (.inl h0)] at hK
      have : decide ((x.1 : Int) = 0) = true := by simp; omega
      simp only [this, gd_false, Bool.not_true, stepM_false, stepG_false, pPick_true, bindP_some, ifB_true]
      exact hK
    · have : decide ((x.1 : Int) = 0) = false := by simp; omega
      simp only [this, gd_false, Bool.not_false, stepM_true, stepG_true, lenS_mk, bs_size, bGt_int, pPick_false, bindP_some]
      by_cases h1 : s.length + 1 < x.1
      · rw [if_pos (.inr h1)] at hK
        have : decide ((x.1 : Int) > ((b :: s).length : Int)) = true := by simp; omega
        simp only [this, ifB_true]
        exact hK
      · rw [if_neg (by rintro (h | h) <;> omega)] at hK
        have : decide ((x.1 : Int) > ((b :: s).length : Int)) = false := by simp; omega
        simp only [this, ifB_false]
        unfold F161_2
        refine cont_spec (n := x.1) (by simp; omega) hl4.1 (x.1 - 1) 1 x.2 (fuel - 1) (by omega) (Nat.le_trans (show x.1 - 1 ≤ 4 by omega) (by decide)) (by omega) ?_
        simp only [List.drop_succ_cons, List.drop_zero]
        cases hc : contP (x.1 - 1) x.2 s with
        | none => rw [hc] at hK; exact hK
        | some c =>
          rw [hc] at hK
          simp only at hK ⊢
          unfold F161_3 F161_3b
          refine is_spec ?_
          by_cases h5 : isC c = true
          · simp only [h5, uNot_bool, Bool.not_true, bindP_some, gd_false, Bool.not_false, stepM_true, stepE_true]
            refine least_spec ?_
            by_cases h6 : leastP x.1 ≤ c
            · rw [if_pos ⟨h5, h6⟩] at hK
              have : decide ((c : Int) < (leastP x.1 : Int)) = false := by simp; omega
              simp only [bLt_int, this, stepG_true, bindP_some, pPick_false, ifB_false]
              exact hK
            · rw [if_neg (fun h => h6 h.2)] at hK
              have : decide ((c : Int) < (leastP x.1 : Int)) = true := by simp; omega
              simp only [bLt_int, this, stepG_true, bindP_some, pPick_false, ifB_true]
              exact hK
          · rw [if_neg (fun h => h5 h.1)] at hK
            have h5' : isC c = false := by simpa using h5
            simp only [h5', uNot_bool, Bool.not_false, bindP_some, gd_false, Bool.not_true, stepM_false, stepG_false, stepE_false, pPick_true, ifB_true]
            exact hK
end
end Go.Proofs.Gong

/- Nm2 -/
namespace Go.Proofs.Gong
open Go Go.Sx Go.Proofs
set_option maxRecDepth 100000
section
variable {w0 w : World} {L : List HP} {K : Value → World → Prop}
end
end Go.Proofs.Gong

/- Nm3 -/
namespace Go.Proofs.Gong
open Go Go.Sx Go.Proofs
set_option maxRecDepth 100000
section
variable {w0 w : World} {L : List HP} {K : Value → World → Prop}
def charsF : Nat → List UInt8 → Option (List Int)
  | _, [] => some []
  | 0, _ :: _ => none
  | k + 1, b :: s => match firstP (b :: s) with
    | none => none
    | some x => (charsF k ((b :: s).drop x.2)).map ((x.1 : Int) :: ·)
def charsP (s : List UInt8) : Option (List Int) := charsF s.length s
theorem firstP_len {s : List UInt8} {c n : Nat} (h : firstP s = some (c, n)) : 1 ≤ n ∧ n ≤ s.length := by
  cases s with
  | nil => simp [firstP] at h
  | cons b s =>
    unfold firstP at h
    simp only at h
    split at h
    · cases h
    · rename_i hn
      split at h
      · cases h
      · split at h
        · simp only [Option.some.injEq, Prod.mk.injEq] at h
          simp only [List.length_cons]
          omega
        · cases h
theorem one_lit {c : Int} {v : Value} {l : List Int} (h : Sat w0 (LsH cI 1 3 v l :: L) w) (hl : l.length < 1000000) (hK : ∀ v' w', Sat w0 (LsH cI 1 3 v' (l ++ [c]) :: L) w' → K v' w') :
    eBuildSl Try.prog 22 1 [(0, .int .i64 c)] w fun v9 w8 => eAppend Try.prog 22 22 v v9 w8 K := by
  have hb : fBuildSl Try.prog 3 1 [(0, .int .i64 c)] = some #[.int .i64 c] := by kernel_rfl
  refine ls_lit (m := [c]) CI h u22 hb rfl fun sv w1 h1 => ?_
  exact ls_app (m := [c]) CI h1.f1 sl22 ss22 (ls_rd h1) (by simp; omega) fun s' w' h' => hK s' w' (h'.f1.drop)
theorem chL_spec : ∀ (k m : Nat) (s : List UInt8) (l : List Int) (v : Value) (w : World), s.length ≤ k → k ≤ m → l.length + s.length < 1000000 → Sat w0 (LsH cI 1 3 v l :: L) w →
    (∀ w', Sat w0 L w' → charsF k s = none → K (.tuple #[.slice none 0 0, .int .i64 40]) w') → (∀ v' r w', charsF k s = some r → Sat w0 (LsH cI 1 3 v' (l ++ r) :: L) w' → K (.tuple #[v', .int .i64 0]) w') →
    F135_2L (m + 1) (.string (bs s)) v w K := by
  intro k
  induction k with
  | zero =>
    intro m s l v w hs hm hl h hN hK
    obtain rfl : s = [] := List.length_eq_zero_iff.1 (by omega)
    rw [F135_2L]; unfold F135_2b F135_3 F135_3b
    rw [nil_b]
    simp only [bNe_str, bs_beq, decide_true, Bool.not_true, bindP_some, ifB_false]
    exact hK v [] w rfl (by simpa using h)
  | succ k ih =>
    intro m s l v w hs hm hl h hN hK
    obtain ⟨m, rfl⟩ : ∃ j, m = j + 1 := ⟨m - 1, by omega⟩
    rw [F135_2L]; unfold F135_2b
    rw [nil_b]
    cases s with
    | nil =>
      unfold F135_3 F135_3b
      simp only [bNe_str, bs_beq, decide_true, Bool.not_true, bindP_some, ifB_false]
      exact hK v [] w rfl (by simpa using h)
    | cons b s =>
      have e : (!decide (bs (b :: s) = bs [])) = true := by simp
      simp only [bNe_str, bs_beq, e, bindP_some, ifB_true]
      refine first_spec4 ?_
      unfold firstV
      cases hf : firstP (b :: s) with
      | none =>
        have e1 : (!decide ((40 : Int) = 0)) = true := by decide
        simp only [errV, pTuple, List.getElem?_toArray, List.getElem?_cons_zero, List.getElem?_cons_succ, bindP_some, bNe_int, e1, ifB_true]
        exact hN w h.drop (by simp [charsF, hf])
      | some x =>
        obtain ⟨g1, g2⟩ := firstP_len (c := x.1) (n := x.2) hf
        simp only [pTuple, List.getElem?_toArray, List.getElem?_cons_zero, List.getElem?_cons_succ, bindP_some, bNe_int, decide_true, Bool.not_true, ifB_false]
        refine one_lit h (by omega) fun v' w' h' => ?_
        rw [sub_from g2]
        simp only [bindP_some]
        refine ih m ((b :: s).drop x.2) (l ++ [(x.1 : Int)]) v' w' (by simp at hs ⊢; omega) (by omega) (by simp at hl ⊢; omega) h' (fun w2 h2 hn => hN w2 h2 (by simp [charsF, hf, hn])) fun v2 r w2 hr h2 => ?_
        refine hK v2 ((x.1 : Int) :: r) w2 (by simp [charsF, hf, hr]) ?_
        simpa using h2
theorem chars_spec {s : List UInt8} (hs : s.length < 1000000) (h : Sat w0 L w) (hN : ∀ w', Sat w0 L w' → charsP s = none → K (.tuple #[.slice none 0 0, .int .i64 40]) w')
    (hK : ∀ v' r w', charsP s = some r → Sat w0 (LsH cI 1 3 v' r :: L) w' → K (.tuple #[v', .int .i64 0]) w') : callP G135 [.string (bs s)] w K := by
  refine c135 ?_
  unfold F135 F135_1 F135_1b F135_2
  exact chL_spec s.length (fuel - 1) s [] _ w (Nat.le_refl _) (Nat.le_trans (show s.length ≤ 1000000 by omega) (by decide)) (by simpa using hs) (ls_nil h) hN fun v' r w' hr h' => hK v' r w' hr (by simpa using h')
end
end Go.Proofs.Gong

/- Nm4 -/
namespace Go.Proofs.Gong
open Go Go.Sx Go.Proofs
set_option maxRecDepth 100000
def ctlP (c : Int) : Bool := decide (c < 32) || decide (c = 127)
def plainP (s : List UInt8) (most : Nat) : Bool := match charsP s with
  | none => false
  | some l => !(l.any ctlP) && decide (s.length ≤ most)
section
variable {w0 w : World} {L : List HP} {K : Value → World → Prop}
theorem ctl_spec {c : Int} (hK : K (.bool (ctlP c)) w) : callP G137 [.int .i64 c] w K := by
  refine c137 ?_
  unfold F137
  unfold ctlP at hK
  by_cases h : c < 32
  · simp [h] at hK ⊢; exact hK
  · simp [h] at hK ⊢; exact hK
def fnV : Value := .func (.func 137) #[] #[]
theorem ixL_spec {l : List Int} {v : Value} (h : Rd w 1 v l.length (l.flatMap cI)) (hl : l.length ≤ 1000000) : ∀ (k i m : Nat), k + i = l.length → k ≤ m → (∀ j : Int, (decide (j ≥ 0) = (l.drop i).any ctlP) → K (.int .i64 j) w) →
    F162_2L (m + 1) v fnV (.int .i64 l.length) (.int .i64 i) w K := by
  intro k
  induction k with
  | zero =>
    intro i m hk hm hK
    rw [F162_2L]; unfold F162_2b F162_3 F162_3b
    obtain rfl : i = l.length := by omega
    rw [bLt_int]
    simp only [bindP_some, Int.lt_irrefl, decide_false, ifB_false]
    exact hK (-1) (by simp)
  | succ k ih =>
    intro i m hk hm hK
    obtain ⟨m, rfl⟩ : ∃ j, m = j + 1 := ⟨m - 1, by omega⟩
    rw [F162_2L]; unfold F162_2b
    have hi : i < l.length := by omega
    have e : bLt (.int .i64 (i : Int)) (.int .i64 l.length) = some (.bool true) := by simp; omega
    have e1 := ix_el h hi
    have e2 := rd_ld1 (g := fun c : Int => Value.int .i64 c) h hi
    have hdr : l.drop i = l[i] :: l.drop (i + 1) := List.drop_eq_getElem_cons hi
    rw [hdr, List.any_cons] at hK
    rw [e]
    simp only [bindP_some, ifB_true, e1, e2]
    generalize l[i] = c at hK
    have call : ∀ k : Value → World → Prop, callP G137 [.int .i64 c] w k → eCallV (tabOf T162) fnV [.int .i64 c] w k := by
      intro k h
      show callP (tabOf T162 137) _ _ _
      exact h
    refine call _ (ctl_spec ?_)
    by_cases hc : ctlP c = true
    · simp only [hc, ifB_true]
      exact hK i (by simp [hc])
    · have hc' : ctlP c = false := by simpa using hc
      simp only [hc', ifB_false, plus1 (show i + 1 < 9223372036854775808 by omega), bindP_some]
      exact ih (i + 1) m (by omega) (by omega) fun j hj => hK j (by rw [hj, hc']; simp)
theorem contains_spec {l : List Int} {v : Value} (h : Rd w 1 v l.length (l.flatMap cI)) (hl : l.length ≤ 1000000) (hK : K (.bool (l.any ctlP)) w) : callP G136 [v, fnV] w K := by
  refine c136 ?_
  unfold F136
  refine c162 ?_
  unfold F162 F162_1 F162_1b
  rw [h.len]
  simp only [bindP_some]
  unfold F162_2
  refine ixL_spec h hl l.length 0 (fuel - 1) (by omega) (Nat.le_trans hl (by decide)) fun j hj => ?_
  simp only [bGe_int, bindP_some]
  rw [hj, List.drop_zero]
  exact hK
theorem charsF_len : ∀ (k : Nat) (s : List UInt8) (r : List Int), charsF k s = some r → r.length ≤ s.length
  | _, [], r, h => by
    have : some r = some [] := by rw [← h]; cases ‹Nat› <;> rfl
    simp at this; subst this; simp
  | 0, _ :: _, r, h => by simp [charsF] at h
  | k + 1, b :: s, r, h => by
    unfold charsF at h
    split at h
    · cases h
    · rename_i x hf
      obtain ⟨g1, g2⟩ := firstP_len (c := x.1) (n := x.2) hf
      simp only [Option.map_eq_some_iff] at h
      obtain ⟨r', h1, rfl⟩ := h
      have := charsF_len k _ r' h1
      simp at this ⊢
      simp at g2
      omega
theorem plain_spec {s : List UInt8} {most : Nat} (hs : s.length < 1000000) (h : Sat w0 L w) (hK : ∀ w', Sat w0 L w' → K (.bool (plainP s most)) w') : callP G111 [.string (bs s), .int .i64 most] w K := by
  refine c111 ?_
  unfold F111
  unfold plainP at hK
  refine chars_spec hs h (fun w1 h1 hn => ?_) fun v r w1 hr h1 => ?_
  · rw [hn] at hK
    simp only [pTuple, List.getElem?_toArray, List.getElem?_cons_zero, List.getElem?_cons_succ, bindP_some]
    refine contains_spec (l := []) (.emp _ _) (by simp) ?_
    have e : decide ((40 : Int) = 0) = false := by decide
    simp only [bEq_int, e, bindP_some, gd_true, stepM_false, stepG_false, pPick_false]
    exact hK _ h1
  · rw [hr] at hK
    have hl := charsF_len _ _ _ hr
    simp only [pTuple, List.getElem?_toArray, List.getElem?_cons_zero, List.getElem?_cons_succ, bindP_some]
    refine contains_spec (ls_rd h1) (by omega) ?_
    have hk := hK _ h1.drop
    simp only at hk
    by_cases hc : r.any ctlP = true
    · simp only [hc, Bool.not_true, Bool.false_and] at hk
      simp only [bEq_int, decide_true, bindP_some, gd_true, stepM_true, stepG_true, hc, uNot_bool, Bool.not_true, pPick_true, stepM_false, stepG_false, pPick_false]
      exact hk
    · have hc' : r.any ctlP = false := by simpa using hc
      simp only [hc', Bool.not_false, Bool.true_and] at hk
      have e : decide ((s.length : Int) ≤ (most : Int)) = decide (s.length ≤ most) := by rw [decide_eq_decide]; omega
      simp only [bEq_int, decide_true, bindP_some, gd_true, stepM_true, stepG_true, hc', uNot_bool, Bool.not_false, pPick_true, lenS_mk, bs_size, bLe_int, e]
      exact hk
end
end Go.Proofs.Gong

/- Nm5 -/
namespace Go.Proofs.Gong
open Go Go.Sx Go.Proofs
set_option maxRecDepth 100000
structure Evt where
  node : List UInt8
  cls : List UInt8
  key : List UInt8
  level : Int
  text : List UInt8
  deriving DecidableEq
@[reducible] def cEv (e : Evt) : List Value := [.string (bs e.node), .string (bs e.cls), .string (bs e.key), .int .i64 e.level, .string (bs e.text)]
abbrev evV (e : Evt) : Value := .agg (cEv e).toArray
def Evt.fits (e : Evt) : Prop := e.node.length < 1000000 ∧ e.cls.length < 1000000 ∧ e.key.length < 1000000 ∧ e.text.length < 1000000
def okE (e : Evt) : Bool := !decide (e.node = []) && !decide (e.cls = []) && plainP e.node 64 && plainP e.cls 64 && plainP e.key 128 && plainP e.text 1024 && decide (0 ≤ e.level) && decide (e.level ≤ 5)
def chkE (e : Evt) : Int := if okE e = true then 0 else 180
section
variable {w0 w : World} {L : List HP} {K : Value → World → Prop} {e : Evt}
theorem ncheck_spec (he : e.fits) (h : Sat w0 L w) (hK : ∀ w', Sat w0 L w' → K (.int .i64 (chkE e)) w') : callP G61 [evV e] w K := by
  refine c61 ?_
  unfold F61
  refine eBox_sat h fun p w1 h1 => ?_
  have e0 : (evV e).cells = (cEv e).toArray := rfl
  rw [e0] at h1
  have cs : ∀ {w' : World}, Sat w0 (Cl p (cEv e).toArray 31 :: L) w' → ∀ i, w'.cell? ⟨p, i, none⟩ = (cEv e)[i]? := fun h i => by rw [cell_of h.cl, List.getElem?_toArray]
  have k0 : (cEv e)[0]? = some (.string (bs e.node)) := rfl
  have k1 : (cEv e)[1]? = some (.string (bs e.cls)) := rfl
  have k2 : (cEv e)[2]? = some (.string (bs e.key)) := rfl
  have k3 : (cEv e)[3]? = some (.int .i64 e.level) := rfl
  have k4 : (cEv e)[4]? = some (.string (bs e.text)) := rfl
  obtain ⟨f1, f2, f3, f4⟩ := he
  unfold chkE okE at hK
  rw [nil_b]
  simp only [ptr, pFieldAddr_ptr, bindP_some, Nat.zero_add, ld1_ptr, cs h1, k0, k1, bNe_str, bs_beq, bs_inj]
  have bad : ∀ w', Sat w0 (Cl p (cEv e).toArray 31 :: L) w' → okE e = false → K (.int .i64 180) w' := by
    intro w' hs ho
    have := hK _ hs.drop
    unfold okE at ho
    rw [ho] at this
    exact this
  by_cases n1 : e.node = []
  · have ho : okE e = false := by simp [okE, n1]
    simp only [ld1_ptr, k0, k1, k2, k3, k4, bNe_str, bs_beq, bs_inj, cs h1, n1, decide_true, Bool.not_true, gd_true, stepG_false, stepE_false, pPick_false, bindP_some, uNot_bool, Bool.not_false, gd_false, pPick_true, ifB_true]
    exact bad _ h1 ho
  · by_cases n2 : e.cls = []
    · have ho : okE e = false := by simp [okE, n2]
      simp only [ld1_ptr, k0, k1, k2, k3, k4, bNe_str, bs_beq, bs_inj, cs h1, n1, n2, decide_true, decide_false, Bool.not_true, Bool.not_false, gd_true, stepG_true, stepG_false, stepE_false, pPick_true, pPick_false, bindP_some, uNot_bool, gd_false, ifB_true]
      exact bad _ h1 ho
    · simp only [ld1_ptr, k0, k1, k2, k3, k4, bNe_str, bs_beq, bs_inj, cs h1, n1, n2, decide_false, Bool.not_false, gd_true, stepG_true, stepE_true, pPick_true, bindP_some]
      refine plain_spec (most := 64) f1 h1 fun w2 h2 => ?_
      by_cases p1 : plainP e.node 64 = true
      · simp only [ld1_ptr, k0, k1, k2, k3, k4, bNe_str, bs_beq, bs_inj, p1, pPick_true, bindP_some, gd_true, stepG_true, stepE_true, cs h2, k1]
        refine plain_spec (most := 64) f2 h2 fun w3 h3 => ?_
        by_cases p2 : plainP e.cls 64 = true
        · simp only [ld1_ptr, k0, k1, k2, k3, k4, bNe_str, bs_beq, bs_inj, p2, pPick_true, bindP_some, uNot_bool, Bool.not_true, gd_false, Bool.not_false, stepG_true, stepE_true, cs h3, k2]
          refine plain_spec (most := 128) f3 h3 fun w4 h4 => ?_
          by_cases p3 : plainP e.key 128 = true
          · simp only [ld1_ptr, k0, k1, k2, k3, k4, bNe_str, bs_beq, bs_inj, p3, uNot_bool, Bool.not_true, pPick_false, bindP_some, gd_false, Bool.not_false, stepG_true, stepE_true, cs h4, k4]
            refine plain_spec (most := 1024) f4 h4 fun w5 h5 => ?_
            by_cases p4 : plainP e.text 1024 = true
            · simp only [ld1_ptr, k0, k1, k2, k3, k4, bNe_str, bs_beq, bs_inj, p4, uNot_bool, Bool.not_true, pPick_false, bindP_some, gd_false, Bool.not_false, stepG_true, cs h5, k3, bLt_int]
              by_cases l1 : e.level < 0
              · have ho : okE e = false := by
                  have : ¬ (0 ≤ e.level) := by omega
                  simp [okE, this]
                simp only [ld1_ptr, k0, k1, k2, k3, k4, bNe_str, bs_beq, bs_inj, l1, decide_true, pPick_true, bindP_some, gd_false, Bool.not_true, stepG_false, ifB_true]
                exact bad _ h5 ho
              · by_cases l2 : e.level > 5
                · have ho : okE e = false := by
                    have : ¬ (e.level ≤ 5) := by omega
                    simp [okE, this]
                  simp only [ld1_ptr, k0, k1, k2, k3, k4, bNe_str, bs_beq, bs_inj, cs h5, l1, l2, bGt_int, decide_true, decide_false, pPick_false, bindP_some, gd_false, Bool.not_false, stepG_true, ifB_true]
                  exact bad _ h5 ho
                · have hk := hK _ h5.drop
                  have g1 : 0 ≤ e.level := by omega
                  have g2 : e.level ≤ 5 := by omega
                  simp only [n1, n2, p1, p2, p3, p4, g1, g2, decide_true, decide_false, Bool.not_false, Bool.and_self, if_true] at hk
                  simp only [ld1_ptr, k0, k1, k2, k3, k4, bNe_str, bs_beq, bs_inj, cs h5, l1, l2, bGt_int, decide_false, pPick_false, bindP_some, gd_false, Bool.not_false, stepG_true, ifB_false]
                  exact hk
            · have p4' : plainP e.text 1024 = false := by simpa using p4
              have ho : okE e = false := by simp [okE, p4']
              simp only [ld1_ptr, k0, k1, k2, k3, k4, bNe_str, bs_beq, bs_inj, p4', uNot_bool, Bool.not_false, pPick_false, pPick_true, bindP_some, gd_false, Bool.not_true, stepG_false, ifB_true]
              exact bad _ h5 ho
          · have p3' : plainP e.key 128 = false := by simpa using p3
            have ho : okE e = false := by simp [okE, p3']
            simp only [ld1_ptr, k0, k1, k2, k3, k4, bNe_str, bs_beq, bs_inj, p3', uNot_bool, Bool.not_false, pPick_false, pPick_true, bindP_some, gd_false, Bool.not_true, stepG_false, stepE_false, ifB_true]
            exact bad _ h4 ho
        · have p2' : plainP e.cls 64 = false := by simpa using p2
          have ho : okE e = false := by simp [okE, p2']
          simp only [ld1_ptr, k0, k1, k2, k3, k4, bNe_str, bs_beq, bs_inj, p2', uNot_bool, Bool.not_false, pPick_false, pPick_true, bindP_some, gd_false, Bool.not_true, stepG_false, stepE_false, ifB_true]
          exact bad _ h3 ho
      · have p1' : plainP e.node 64 = false := by simpa using p1
        have ho : okE e = false := by simp [okE, p1']
        simp only [ld1_ptr, k0, k1, k2, k3, k4, bNe_str, bs_beq, bs_inj, p1', gd_true, uNot_bool, Bool.not_false, pPick_false, pPick_true, bindP_some, gd_false, Bool.not_true, stepG_false, stepE_false, ifB_true]
        exact bad _ h2 ho
end
end Go.Proofs.Gong

/- Board1 -/
namespace Go.Proofs.Gong
open Go Go.Sx Go.Proofs
set_option linter.all false
set_option maxRecDepth 100000
def T13 : List (Nat × FnT) := []
def F13 (x0 : Value) (w : World) (K : Value → World → Prop) : Prop :=
bindP (bLt x0 (.int .i64 1)) fun v1 =>
stepM (gd false v1) x0 fun v2 =>
Sx.stepG (gd false v1) (bGt v2 (.int .i64 65536)) fun v3 =>
bindP (pPick v1 (.bool true) v3) fun v4 =>
ifB v4 (
K (.tuple #[(.pointer none), (.int .i64 1)]) w) (
eMakeMap none w fun v6 w5 =>
eMakeMap none w5 fun v8 w7 =>
bindP (fBuild Try.prog 110 [(0, x0), (1, (.int .i64 1)), (2, v6), (3, v8)]) fun v9 =>
eBox 110 v9 w7 fun v11 w10 =>
K (.tuple #[v11, (.int .i64 0)]) w10)
def G13 : FnT := fun args w K => on1 (fun x0 => F13 x0 w K) args
theorem c13 {x0 : Value} {w : World} {K : Value → World → Prop} (h : F13 x0 w K) : callP G13 [x0] w K := callP_intro (on1_mk (p := fun x0 => F13 x0 w K) h)
theorem ok13 : OkF Try.prog 13 G13 := by
  refine okF_of (tab_ok (l := T13) trivial) mixed (n := fuel) Try.func13 Try.call13 fun args w K h => ?_
  obtain ⟨x0, rfl, hh⟩ := of_on1 h
  exact fnD_list (c := bodyOf Try.f13) (by kernel_rfl) (by kernel_rfl) (Eq.mp (by kernel_rfl) hh)
def T62 : List (Nat × FnT) := []
def F62 (x0 : Value) (w : World) (K : Value → World → Prop) : Prop :=
bindP (bGe x0 (.int .i64 0)) fun v1 =>
stepM (gd true v1) x0 fun v2 =>
Sx.stepG (gd true v1) (bLe v2 (.int .i64 2305843009213693952)) fun v3 =>
bindP (pPick v1 v3 (.bool false)) fun v4 =>
K v4 w
def G62 : FnT := fun args w K => on1 (fun x0 => F62 x0 w K) args
theorem c62 {x0 : Value} {w : World} {K : Value → World → Prop} (h : F62 x0 w K) : callP G62 [x0] w K := callP_intro (on1_mk (p := fun x0 => F62 x0 w K) h)
theorem ok62 : OkF Try.prog 62 G62 := by
  refine okF_of (tab_ok (l := T62) trivial) mixed (n := fuel) Try.func62 Try.call62 fun args w K h => ?_
  obtain ⟨x0, rfl, hh⟩ := of_on1 h
  exact fnD_list (c := bodyOf Try.f62) (by kernel_rfl) (by kernel_rfl) (Eq.mp (by kernel_rfl) hh)
def T63 : List (Nat × FnT) := []
def F63 (x0 : Value) (w : World) (K : Value → World → Prop) : Prop :=
eBox 31 x0 w fun v2 w1 =>
eAlloc Try.prog 114 w1 fun v4 w3 =>
bindP (pFieldAddr 0 v2) fun v5 =>
bindP (ld1 v5 w3) fun v6 =>
bindP (pFieldAddr 1 v2) fun v7 =>
bindP (ld1 v7 w3) fun v8 =>
bindP (pFieldAddr 2 v2) fun v9 =>
bindP (ld1 v9 w3) fun v10 =>
bindP (fBuild Try.prog 114 [(0, v6), (1, v8), (2, v10)]) fun v11 =>
bindW (st 3 v4 v11 w3) fun w12 =>
bindP (ldN 3 v4 w12) fun v14 =>
K v14 w12
def G63 : FnT := fun args w K => on1 (fun x0 => F63 x0 w K) args
theorem c63 {x0 : Value} {w : World} {K : Value → World → Prop} (h : F63 x0 w K) : callP G63 [x0] w K := callP_intro (on1_mk (p := fun x0 => F63 x0 w K) h)
theorem ok63 : OkF Try.prog 63 G63 := by
  refine okF_of (tab_ok (l := T63) trivial) mixed (n := fuel) Try.func63 Try.call63 fun args w K h => ?_
  obtain ⟨x0, rfl, hh⟩ := of_on1 h
  exact fnD_list (c := bodyOf Try.f63) (by kernel_rfl) (by kernel_rfl) (Eq.mp (by kernel_rfl) hh)
def T64 : List (Nat × FnT) := [(63, G63)]
def F64 (x0 : Value) (x1 : Value) (w : World) (K : Value → World → Prop) : Prop :=
eBox 33 x1 w fun v2 w1 =>
bindP (pNil x0) fun v3 =>
bindP (pFieldAddr 2 v3) fun v4 =>
bindP (ld1 v4 w1.drew) fun v5 =>
bindP (pFieldAddr 0 v2) fun v6 =>
bindP (ld1 v6 w1.drew) fun v7 =>
eDelete Try.prog 107 v5 v7 w1.drew fun _ w8 =>
bindP (pNil x0) fun v10 =>
bindP (pFieldAddr 3 v10) fun v11 =>
bindP (ld1 v11 w8.drew) fun v12 =>
bindP (pFieldAddr 1 v2) fun v13 =>
bindP (ldN 5 v13 w8.drew) fun v14 =>
callP G63 [v14] w8.drew fun v16 w15 =>
fok true (ld1 v11 w15) v12 ∧ (eDelete Try.prog 108 v12 v16 w15 fun _ w17 =>
K (.tuple #[]) w17)
def G64 : FnT := fun args w K => on2 (fun x0 x1 => F64 x0 x1 w K) args
theorem c64 {x0 x1 : Value} {w : World} {K : Value → World → Prop} (h : F64 x0 x1 w K) : callP G64 [x0, x1] w K := callP_intro (on2_mk (p := fun x0 x1 => F64 x0 x1 w K) h)
theorem ok64 : OkF Try.prog 64 G64 := by
  refine okF_of (tab_ok (l := T64) ⟨ok63, trivial⟩) mixed (n := fuel) Try.func64 Try.call64 fun args w K h => ?_
  obtain ⟨x0, x1, rfl, hh⟩ := of_on2 h
  exact fnD_list (c := bodyOf Try.f64) (by kernel_rfl) (by kernel_rfl) (Eq.mp (by kernel_rfl) hh)
def T65 : List (Nat × FnT) := []
def F65_2b (s3 : Value) (s4 : Value) (s6 : Value) (w : World) (K : Value → World → Prop) : Prop :=
bindP (pFieldAddr 3 s4) fun v1 =>
bindP (ld1 v1 w) fun v2 =>
bindP (pFieldAddr 1 s3) fun v3 =>
bindP (pFieldAddr 3 v3) fun v4 =>
bindW (st 1 v4 v2 w) fun w5 =>
bindP (ldN 11 s3 w5) fun v7 =>
bindW (st 11 s6 v7 w5) fun w8 =>
bindP (ldN 11 s6 w8) fun v10 =>
K (.tuple #[v10, (.int .i64 2)]) w8
def F65_2 (s3 : Value) (s4 : Value) (s6 : Value) (w : World) (K : Value → World → Prop) : Prop := F65_2b s3 s4 s6 w K
theorem ok65_2 {K : Value → World → Prop} {kn kr : Env → World → Prop} {ke : Nat → Env → World → Prop}
    (hn : ∀ e w, (fun e w => bindP (ldN 11 (e 6) w) fun v12 =>
K (.tuple #[v12, (e 7)]) w) e w → kn e w) (hr : ∀ e w, endD Try.prog [.cell 6 33, .tmp 7] K e w → kr e w) (he : ∀ i e w, noE i e w → ke i e w) :
    ∀ e w, F65_2 (e 3) (e 4) (e 6) w K → denL Try.prog (tabOf T65) 42 fuel ((flat (bodyOf Try.f65)).drop 8) e w kn kr ke := by
  intro e w h
  unfold F65_2 at h
  have e1 : ∀ (_ : Unit), F65_2b (e 3) (e 4) (e 6) w K = denL Try.prog (tabOf T65) 42 fuel ((flat (bodyOf Try.f65)).drop 8) e w (fun e w => bindP (ldN 11 (e 6) w) fun v11 =>
K (.tuple #[v11, (e 7)]) w) (endD Try.prog [.cell 6 33, .tmp 7] K) noE := by intro _; kernel_rfl
  exact seg_end (Eq.mp (e1 ()) h) hn hr he
def F65_1b (s0 : Value) (s1 : Value) (s2 : Value) (w : World) (K : Value → World → Prop) (Y0 : Value → Value → Value → World → Prop) : Prop :=
eBox 33 s0 w fun v14 w13 =>
eBox 31 s1 w13 fun v16 w15 =>
eAlloc Try.prog 33 w15 fun v18 w17 =>
bindP (pFieldAddr 6 v14) fun v19 =>
bindP (ld1 v19 w17) fun v20 =>
bindP (bAdd v20 (.int .i64 1)) fun v21 =>
bindP (pMin v21 (.int .i64 1099511627776)) fun v22 =>
bindP (pFieldAddr 6 v14) fun v23 =>
bindW (st 1 v23 v22 w17) fun w24 =>
bindP (pFieldAddr 8 v14) fun v26 =>
bindP (ld1 v26 w24) fun v27 =>
bindP (pMax v27 s2) fun v28 =>
bindP (pFieldAddr 8 v14) fun v29 =>
bindW (st 1 v29 v28 w24) fun w30 =>
bindP (pFieldAddr 4 v16) fun v32 =>
bindP (ld1 v32 w30) fun v33 =>
bindP (pFieldAddr 1 v14) fun v34 =>
bindP (pFieldAddr 4 v34) fun v35 =>
bindW (st 1 v35 v33 w30) fun w36 =>
bindP (pFieldAddr 1 v14) fun v38 =>
bindP (pFieldAddr 3 v38) fun v39 =>
bindP (ld1 v39 w36) fun v40 =>
bindP (pFieldAddr 3 v16) fun v41 =>
bindP (ld1 v41 w36) fun v42 =>
bindP (bEq Try.prog 3 (.tmp 24) (.tmp 26) v40 v42) fun v43 =>
ifB v43 (
bindP (ldN 11 v14 w36) fun v44 =>
bindW (st 11 v18 v44 w36) fun w45 =>
bindP (ldN 11 v18 w45) fun v47 =>
K (.tuple #[v47, (.int .i64 0)]) w45) (
bindP (pFieldAddr 3 v16) fun v48 =>
bindP (ld1 v48 w36) fun v49 =>
bindP (pFieldAddr 1 v14) fun v50 =>
bindP (pFieldAddr 3 v50) fun v51 =>
bindP (ld1 v51 w36) fun v52 =>
bindP (bGt v49 v52) fun v53 =>
ifB v53 (
bindP (pFieldAddr 9 v14) fun v54 =>
bindW (st 1 v54 (.bool false) w36) fun w55 =>
bindP (pFieldAddr 10 v14) fun v57 =>
bindW (st 1 v57 (.string ⟨#[]⟩) w55) fun w58 =>
Y0 v14 v16 v18 w58) (
Y0 v14 v16 v18 w36))
def F65_1 (s0 : Value) (s1 : Value) (s2 : Value) (w : World) (K : Value → World → Prop) : Prop := F65_1b s0 s1 s2 w K (fun a3 a4 a6 w => F65_2 a3 a4 a6 w K)
theorem ok65_1 {K : Value → World → Prop} {kn kr : Env → World → Prop} {ke : Nat → Env → World → Prop}
    (hn : ∀ e w, (fun e w => bindP (ldN 11 (e 6) w) fun v60 =>
K (.tuple #[v60, (e 7)]) w) e w → kn e w) (hr : ∀ e w, endD Try.prog [.cell 6 33, .tmp 7] K e w → kr e w) (he : ∀ i e w, noE i e w → ke i e w) :
    ∀ e w, F65_1 (e 0) (e 1) (e 2) w K → denL Try.prog (tabOf T65) 42 fuel ((flat (bodyOf Try.f65)).drop 0) e w kn kr ke := by
  intro e w h
  unfold F65_1 at h
  have e1 : ∀ (Y0 : Value → Value → Value → World → Prop), F65_1b (e 0) (e 1) (e 2) w K Y0 = denL Try.prog (tabOf T65) 42 fuel (((flat (bodyOf Try.f65)).drop 0).take 8) e w (fun e w => Y0 (e 3) (e 4) (e 6) w) (endD Try.prog [.cell 6 33, .tmp 7] K) noE := by intro Y0; kernel_rfl
  exact seg 8 (Eq.mp (e1 (fun a3 a4 a6 w => F65_2 a3 a4 a6 w K)) h) (fun e w h => ok65_2 hn hr he e w h) hr he
def F65 (x0 : Value) (x1 : Value) (x2 : Value) (w : World) (K : Value → World → Prop) : Prop := F65_1 x0 x1 x2 w K
def G65 : FnT := fun args w K => on3 (fun x0 x1 x2 => F65 x0 x1 x2 w K) args
theorem c65 {x0 x1 x2 : Value} {w : World} {K : Value → World → Prop} (h : F65 x0 x1 x2 w K) : callP G65 [x0, x1, x2] w K := callP_intro (on3_mk (p := fun x0 x1 x2 => F65 x0 x1 x2 w K) h)
theorem ok65 : OkF Try.prog 65 G65 := by
  refine okF_of (tab_ok (l := T65) trivial) mixed (n := fuel) Try.func65 Try.call65 fun args w K h => ?_
  obtain ⟨x0, x1, x2, rfl, hh⟩ := of_on3 h
  unfold F65 at hh
  exact fnD_list (c := bodyOf Try.f65) (by kernel_rfl) (by kernel_rfl) (ok65_1 (fun _ _ h => h) (fun _ _ h => h) (fun _ _ _ h => h) (initE [x0, x1, x2]) w hh)
def T66 : List (Nat × FnT) := [(63, G63)]
def F66 (x0 : Value) (x1 : Value) (w : World) (K : Value → World → Prop) : Prop :=
eBox 33 x1 w fun v2 w1 =>
bindP (pNil x0) fun v3 =>
bindP (pFieldAddr 2 v3) fun v4 =>
bindP (ld1 v4 w1.drew) fun v5 =>
bindP (pFieldAddr 0 v2) fun v6 =>
bindP (ld1 v6 w1.drew) fun v7 =>
bindP (ldN 11 v2 w1.drew) fun v8 =>
eMapSet Try.prog 107 v5 v7 v8 w1.drew fun _ w9 =>
bindP (pNil x0) fun v11 =>
bindP (pFieldAddr 3 v11) fun v12 =>
bindP (ld1 v12 w9.drew) fun v13 =>
bindP (pFieldAddr 1 v2) fun v14 =>
bindP (ldN 5 v14 w9.drew) fun v15 =>
bindP (pFieldAddr 0 v2) fun v16 =>
bindP (ld1 v16 w9.drew) fun v17 =>
callP G63 [v15] w9.drew fun v19 w18 =>
(fok true (ld1 v12 w18) v13 ∧ fok true (ld1 v16 w18) v17) ∧ (eMapSet Try.prog 108 v13 v19 v17 w18 fun _ w20 =>
K (.tuple #[]) w20)
def G66 : FnT := fun args w K => on2 (fun x0 x1 => F66 x0 x1 w K) args
theorem c66 {x0 x1 : Value} {w : World} {K : Value → World → Prop} (h : F66 x0 x1 w K) : callP G66 [x0, x1] w K := callP_intro (on2_mk (p := fun x0 x1 => F66 x0 x1 w K) h)
theorem ok66 : OkF Try.prog 66 G66 := by
  refine okF_of (tab_ok (l := T66) ⟨ok63, trivial⟩) mixed (n := fuel) Try.func66 Try.call66 fun args w K h => ?_
  obtain ⟨x0, x1, rfl, hh⟩ := of_on2 h
  exact fnD_list (c := bodyOf Try.f66) (by kernel_rfl) (by kernel_rfl) (Eq.mp (by kernel_rfl) hh)
def T16 : List (Nat × FnT) := [(61, G61), (62, G62), (63, G63), (64, G64), (65, G65), (66, G66)]
def F16_2b (s0 : Value) (s6 : Value) (s7 : Value) (w : World) (K : Value → World → Prop) : Prop :=
bindP (ldN 11 s6 w) fun v1 =>
callP G66 [s0, v1] w fun _ w2 =>
bindP (ldN 11 s6 w2) fun v4 =>
bindW (st 11 s6 v4 w2) fun w5 =>
bindP (ldN 11 s6 w5) fun v7 =>
K (.tuple #[v7, s7, (.int .i64 0)]) w5
def F16_2 (s0 : Value) (s6 : Value) (s7 : Value) (w : World) (K : Value → World → Prop) : Prop := F16_2b s0 s6 s7 w K
theorem ok16_2 {K : Value → World → Prop} {kn kr : Env → World → Prop} {ke : Nat → Env → World → Prop}
    (hn : ∀ e w, (fun e w => bindP (ldN 11 (e 6) w) fun v9 =>
K (.tuple #[v9, (e 7), (e 8)]) w) e w → kn e w) (hr : ∀ e w, endD Try.prog [.cell 6 33, .tmp 7, .tmp 8] K e w → kr e w) (he : ∀ i e w, noE i e w → ke i e w) :
    ∀ e w, F16_2 (e 0) (e 6) (e 7) w K → denL Try.prog (tabOf T16) 101 fuel ((flat (bodyOf Try.f16)).drop 4) e w kn kr ke := by
  intro e w h
  unfold F16_2 at h
  have e1 : ∀ (_ : Unit), F16_2b (e 0) (e 6) (e 7) w K = denL Try.prog (tabOf T16) 101 fuel ((flat (bodyOf Try.f16)).drop 4) e w (fun e w => bindP (ldN 11 (e 6) w) fun v8 =>
K (.tuple #[v8, (e 7), (e 8)]) w) (endD Try.prog [.cell 6 33, .tmp 7, .tmp 8] K) noE := by intro _; kernel_rfl
  exact seg_end (Eq.mp (e1 ()) h) hn hr he
def F16_1b (s0 : Value) (s1 : Value) (s2 : Value) (w : World) (K : Value → World → Prop) (Y0 : Value → Value → Value → World → Prop) : Prop :=
eBox 31 s1 w fun v11 w10 =>
eAlloc Try.prog 33 w10 fun v13 w12 =>
bindP (ldN 5 v11 w12) fun v14 =>
callP G61 [v14] w12 fun v16 w15 =>
bindP (bNe Try.prog 24 (.tmp 13) (.const (.int .i64 0)) v16 (.int .i64 0)) fun v17 =>
ifB v17 (
bindP (fBuild Try.prog 33 []) fun v18 =>
bindW (st 11 v13 v18 w15) fun w19 =>
bindP (ldN 11 v13 w19) fun v21 =>
K (.tuple #[v21, (.int .i64 0), (.int .i64 180)]) w19) (
callP G62 [s2] w15 fun v23 w22 =>
bindP (uNot v23) fun v24 =>
ifB v24 (
bindP (fBuild Try.prog 33 []) fun v25 =>
bindW (st 11 v13 v25 w22) fun w26 =>
bindP (ldN 11 v13 w26) fun v28 =>
K (.tuple #[v28, (.int .i64 0), (.int .i64 1)]) w26) (
bindP (pNil s0) fun v29 =>
bindP (pFieldAddr 3 v29) fun v30 =>
bindP (ld1 v30 w22.drew) fun v31 =>
bindP (ldN 5 v11 w22.drew) fun v32 =>
callP G63 [v32] w22.drew fun v34 w33 =>
fok true (ld1 v30 w33) v31 ∧ (bindP (fLook Try.prog 108 v31 v34 true w33) fun v35 =>
bindP (pTuple v35 0) fun v36 =>
bindP (pTuple v35 1) fun v37 =>
bindP (pFieldAddr 3 v11) fun v38 =>
bindP (ld1 v38 w33) fun v39 =>
bindP (bEq Try.prog 3 (.tmp 48) (.const (.int .i64 0)) v39 (.int .i64 0)) fun v40 =>
stepM (gd true v40) v37 fun v41 =>
Sx.stepG (gd true v40) (uNot v41) fun v42 =>
bindP (pPick v40 v42 (.bool false)) fun v43 =>
ifB v43 (
bindP (fBuild Try.prog 33 []) fun v44 =>
bindW (st 11 v13 v44 w33) fun w45 =>
bindP (ldN 11 v13 w45) fun v47 =>
K (.tuple #[v47, (.int .i64 0), (.int .i64 5)]) w45) (
bindP (pFieldAddr 3 v11) fun v48 =>
bindP (ld1 v48 w33) fun v49 =>
bindP (bEq Try.prog 3 (.tmp 57) (.const (.int .i64 0)) v49 (.int .i64 0)) fun v50 =>
ifB v50 (
bindP (pNil s0) fun v51 =>
bindP (pFieldAddr 2 v51) fun v52 =>
bindP (ld1 v52 w33) fun v53 =>
bindP (fLook Try.prog 107 v53 v36 false w33) fun v54 =>
bindW (st 11 v13 v54 w33) fun w55 =>
bindP (ldN 11 v13 w55) fun v57 =>
callP G64 [s0, v57] w55 fun _ w58 =>
bindP (ldN 11 v13 w58) fun v60 =>
bindW (st 11 v13 v60 w58) fun w61 =>
bindP (ldN 11 v13 w61) fun v63 =>
K (.tuple #[v63, (.int .i64 3), (.int .i64 0)]) w61) (
ifB v37 (
bindP (pNil s0) fun v64 =>
bindP (pFieldAddr 2 v64) fun v65 =>
bindP (ld1 v65 w33.drew) fun v66 =>
bindP (fLook Try.prog 107 v66 v36 false w33.drew) fun v67 =>
bindP (ldN 5 v11 w33.drew) fun v68 =>
callP G65 [v67, v68, s2] w33.drew fun v70 w69 =>
bindP (pTuple v70 0) fun v71 =>
bindP (pTuple v70 1) fun v72 =>
bindW (st 11 v13 v71 w69) fun w73 =>
Y0 s0 v13 v72 w73) (
bindP (pNil s0) fun v75 =>
bindP (pFieldAddr 2 v75) fun v76 =>
bindP (ld1 v76 w33.drew) fun v77 =>
bindP (lenM v77 w33.drew) fun v78 =>
bindP (pNil s0) fun v79 =>
bindP (pFieldAddr 0 v79) fun v80 =>
bindP (ld1 v80 w33.drew) fun v81 =>
bindP (bGe v78 v81) fun v82 =>
ifB v82 (
bindP (fBuild Try.prog 33 []) fun v83 =>
bindW (st 11 v13 v83 w33.drew) fun w84 =>
bindP (ldN 11 v13 w84) fun v86 =>
K (.tuple #[v86, (.int .i64 0), (.int .i64 200)]) w84) (
bindP (pNil s0) fun v87 =>
bindP (pFieldAddr 1 v87) fun v88 =>
bindP (ld1 v88 (w33.drew).drew) fun v89 =>
bindP (ldN 5 v11 (w33.drew).drew) fun v90 =>
bindP (fBuild Try.prog 33 [(0, v89), (1, v90), (2, (.int .i64 1)), (3, s2), (4, s2)]) fun v91 =>
bindW (st 11 v13 v91 (w33.drew).drew) fun w92 =>
bindP (pNil s0) fun v94 =>
bindP (pFieldAddr 1 v94) fun v95 =>
bindP (ld1 v95 w92) fun v96 =>
bindP (bAdd v96 (.int .i64 1)) fun v97 =>
bindP (pNil s0) fun v98 =>
bindP (pFieldAddr 1 v98) fun v99 =>
bindW (st 1 v99 v97 w92) fun w100 =>
Y0 s0 v13 (.int .i64 1) w100)))))))
def F16_1 (s0 : Value) (s1 : Value) (s2 : Value) (w : World) (K : Value → World → Prop) : Prop := F16_1b s0 s1 s2 w K (fun a0 a6 a7 w => F16_2 a0 a6 a7 w K)
theorem ok16_1 {K : Value → World → Prop} {kn kr : Env → World → Prop} {ke : Nat → Env → World → Prop}
    (hn : ∀ e w, (fun e w => bindP (ldN 11 (e 6) w) fun v102 =>
K (.tuple #[v102, (e 7), (e 8)]) w) e w → kn e w) (hr : ∀ e w, endD Try.prog [.cell 6 33, .tmp 7, .tmp 8] K e w → kr e w) (he : ∀ i e w, noE i e w → ke i e w) :
    ∀ e w, F16_1 (e 0) (e 1) (e 2) w K → denL Try.prog (tabOf T16) 101 fuel ((flat (bodyOf Try.f16)).drop 0) e w kn kr ke := by
  intro e w h
  unfold F16_1 at h
  have e1 : ∀ (Y0 : Value → Value → Value → World → Prop), F16_1b (e 0) (e 1) (e 2) w K Y0 = denL Try.prog (tabOf T16) 101 fuel (((flat (bodyOf Try.f16)).drop 0).take 4) e w (fun e w => Y0 (e 0) (e 6) (e 7) w) (endD Try.prog [.cell 6 33, .tmp 7, .tmp 8] K) noE := by intro Y0; kernel_rfl
  exact seg 4 (Eq.mp (e1 (fun a0 a6 a7 w => F16_2 a0 a6 a7 w K)) h) (fun e w h => ok16_2 hn hr he e w h) hr he
def F16 (x0 : Value) (x1 : Value) (x2 : Value) (w : World) (K : Value → World → Prop) : Prop := F16_1 x0 x1 x2 w K
def G16 : FnT := fun args w K => on3 (fun x0 x1 x2 => F16 x0 x1 x2 w K) args
theorem c16 {x0 x1 x2 : Value} {w : World} {K : Value → World → Prop} (h : F16 x0 x1 x2 w K) : callP G16 [x0, x1, x2] w K := callP_intro (on3_mk (p := fun x0 x1 x2 => F16 x0 x1 x2 w K) h)
theorem ok16 : OkF Try.prog 16 G16 := by
  refine okF_of (tab_ok (l := T16) ⟨ok61, ok62, ok63, ok64, ok65, ok66, trivial⟩) mixed (n := fuel) Try.func16 Try.call16 fun args w K h => ?_
  obtain ⟨x0, x1, x2, rfl, hh⟩ := of_on3 h
  unfold F16 at hh
  exact fnD_list (c := bodyOf Try.f16) (by kernel_rfl) (by kernel_rfl) (ok16_1 (fun _ _ h => h) (fun _ _ h => h) (fun _ _ _ h => h) (initE [x0, x1, x2]) w hh)
def T17 : List (Nat × FnT) := []
def F17 (x0 : Value) (w : World) (K : Value → World → Prop) : Prop :=
bindP (pNil x0) fun v1 =>
bindP (pFieldAddr 2 v1) fun v2 =>
bindP (ld1 v2 w) fun v3 =>
bindP (lenM v3 w) fun v4 =>
K v4 w
def G17 : FnT := fun args w K => on1 (fun x0 => F17 x0 w K) args
theorem c17 {x0 : Value} {w : World} {K : Value → World → Prop} (h : F17 x0 w K) : callP G17 [x0] w K := callP_intro (on1_mk (p := fun x0 => F17 x0 w K) h)
theorem ok17 : OkF Try.prog 17 G17 := by
  refine okF_of (tab_ok (l := T17) trivial) mixed (n := fuel) Try.func17 Try.call17 fun args w K h => ?_
  obtain ⟨x0, rfl, hh⟩ := of_on1 h
  exact fnD_list (c := bodyOf Try.f17) (by kernel_rfl) (by kernel_rfl) (Eq.mp (by kernel_rfl) hh)
def T14 : List (Nat × FnT) := [(13, G13), (16, G16), (17, G17)]
def F14 (w : World) (K : Value → World → Prop) : Prop :=
callP G13 [(.int .i64 5)] w fun v2 w1 =>
bindP (pTuple v2 0) fun v3 =>
bindP (pTuple v2 1) fun v4 =>
bindP (bEq Try.prog 23 (.tmp 17) (.const (.pointer none)) v3 (.pointer none)) fun v5 =>
stepM (gd false v5) v4 fun v6 =>
Sx.stepG (gd false v5) (bNe Try.prog 24 (.tmp 20) (.const (.int .i64 0)) v6 (.int .i64 0)) fun v7 =>
bindP (pPick v5 (.bool true) v7) fun v8 =>
ifB v8 (
K (.bool false) w1) (
bindP (fBuild Try.prog 31 [(0, (.string ⟨#[110]⟩)), (1, (.string ⟨#[108, 105, 110, 107]⟩)), (3, (.int .i64 4))]) fun v9 =>
bindP (fBuild Try.prog 31 [(0, (.string ⟨#[110]⟩)), (1, (.string ⟨#[108, 105, 110, 107]⟩))]) fun v10 =>
eAlloc Try.prog 31 w1 fun v12 w11 =>
eAlloc Try.prog 31 w11 fun v14 w13 =>
bindW (st 5 v12 v9 w13) fun w15 =>
bindW (st 5 v14 v10 w15) fun w17 =>
bindP (ldN 5 v12 w17) fun v19 =>
callP G16 [v3, v19, (.int .i64 1)] w17 fun v21 w20 =>
bindP (pTuple v21 0) fun v22 =>
bindP (pTuple v21 1) fun v23 =>
bindP (pTuple v21 2) fun v24 =>
eAlloc Try.prog 33 w20 fun v26 w25 =>
bindW (st 11 v26 v22 w25) fun w27 =>
bindP (ldN 5 v12 w27) fun v29 =>
callP G16 [v3, v29, (.int .i64 2)] w27 fun v31 w30 =>
bindP (pTuple v31 0) fun v32 =>
bindP (pTuple v31 1) fun v33 =>
bindP (pTuple v31 2) fun v34 =>
eAlloc Try.prog 33 w30 fun v36 w35 =>
bindW (st 11 v36 v32 w35) fun w37 =>
bindP (ldN 5 v14 w37) fun v39 =>
callP G16 [v3, v39, (.int .i64 3)] w37 fun v41 w40 =>
bindP (pTuple v41 0) fun v42 =>
bindP (pTuple v41 1) fun v43 =>
bindP (pTuple v41 2) fun v44 =>
eAlloc Try.prog 33 w40 fun v46 w45 =>
bindW (st 11 v46 v42 w45) fun w47 =>
bindP (bEq Try.prog 24 (.tmp 46) (.const (.int .i64 0)) v24 (.int .i64 0)) fun v49 =>
stepM (gd true v49) v34 fun v50 =>
Sx.stepG (gd true v49) (bEq Try.prog 24 (.tmp 49) (.const (.int .i64 0)) v50 (.int .i64 0)) fun v51 =>
bindP (pPick v49 v51 (.bool false)) fun v52 =>
stepM (gd true v52) v44 fun v53 =>
Sx.stepG (gd true v52) (bEq Try.prog 24 (.tmp 53) (.const (.int .i64 0)) v53 (.int .i64 0)) fun v54 =>
bindP (pPick v52 v54 (.bool false)) fun v55 =>
stepM (gd true v55) v23 fun v56 =>
Sx.stepG (gd true v55) (bEq Try.prog 3 (.tmp 57) (.const (.int .i64 1)) v56 (.int .i64 1)) fun v57 =>
bindP (pPick v55 v57 (.bool false)) fun v58 =>
stepM (gd true v58) v33 fun v59 =>
Sx.stepG (gd true v58) (bEq Try.prog 3 (.tmp 61) (.const (.int .i64 0)) v59 (.int .i64 0)) fun v60 =>
bindP (pPick v58 v60 (.bool false)) fun v61 =>
stepM (gd true v61) v43 fun v62 =>
Sx.stepG (gd true v61) (bEq Try.prog 3 (.tmp 65) (.const (.int .i64 3)) v62 (.int .i64 3)) fun v63 =>
bindP (pPick v61 v63 (.bool false)) fun v64 =>
Sx.stepG (gd true v64) (pFieldAddr 6 v46) fun v65 =>
Sx.stepG (gd true v64) (ld1 v65 w47) fun v66 =>
Sx.stepG (gd true v64) (bEq Try.prog 3 (.tmp 70) (.const (.int .i64 2)) v66 (.int .i64 2)) fun v67 =>
bindP (pPick v64 v67 (.bool false)) fun v68 =>
stepM (gd true v68) v3 fun v69 =>
stepE (gd true v68) (fun k => callP G17 [v69] w47 k) w47 fun v71 w70 =>
Sx.stepG (gd true v68) (bEq Try.prog 3 (.tmp 75) (.const (.int .i64 0)) v71 (.int .i64 0)) fun v72 =>
bindP (pPick v68 v72 (.bool false)) fun v73 =>
K v73 w70)
def G14 : FnT := fun args w K => on0 (F14 w K) args
theorem c14 {w : World} {K : Value → World → Prop} (h : F14 w K) : callP G14 [] w K := callP_intro (on0_mk (p := F14 w K) h)
theorem ok14 : OkF Try.prog 14 G14 := by
  refine okF_of (tab_ok (l := T14) ⟨ok13, ok16, ok17, trivial⟩) mixed (n := fuel) Try.func14 Try.call14 fun args w K h => ?_
  obtain ⟨rfl, hh⟩ := of_on0 h
  exact fnD_list (c := bodyOf Try.f14) (by kernel_rfl) (by kernel_rfl) (Eq.mp (by kernel_rfl) hh)
def T67 : List (Nat × FnT) := [(61, G61)]
def F67 (x0 : Value) (w : World) (K : Value → World → Prop) : Prop :=
bindP (fBuild Try.prog 31 [(0, x0), (1, (.string ⟨#[99]⟩))]) fun v1 =>
callP G61 [v1] w fun v3 w2 =>
bindP (bEq Try.prog 24 (.tmp 5) (.const (.int .i64 0)) v3 (.int .i64 0)) fun v4 =>
K v4 w2
def G67 : FnT := fun args w K => on1 (fun x0 => F67 x0 w K) args
theorem c67 {x0 : Value} {w : World} {K : Value → World → Prop} (h : F67 x0 w K) : callP G67 [x0] w K := callP_intro (on1_mk (p := fun x0 => F67 x0 w K) h)
theorem ok67 : OkF Try.prog 67 G67 := by
  refine okF_of (tab_ok (l := T67) ⟨ok61, trivial⟩) mixed (n := fuel) Try.func67 Try.call67 fun args w K h => ?_
  obtain ⟨x0, rfl, hh⟩ := of_on1 h
  exact fnD_list (c := bodyOf Try.f67) (by kernel_rfl) (by kernel_rfl) (Eq.mp (by kernel_rfl) hh)
def T18 : List (Nat × FnT) := [(61, G61), (62, G62), (67, G67)]
def F18 (x0 : Value) (w : World) (K : Value → World → Prop) : Prop :=
eBox 33 x0 w fun v2 w1 =>
bindP (pFieldAddr 7 v2) fun v3 =>
bindP (ld1 v3 w1) fun v4 =>
callP G62 [v4] w1 fun v6 w5 =>
Sx.stepG (gd true v6) (pFieldAddr 8 v2) fun v7 =>
Sx.stepG (gd true v6) (ld1 v7 w5) fun v8 =>
stepE (gd true v6) (fun k => callP G62 [v8] w5 k) w5 fun v10 w9 =>
bindP (pPick v6 v10 (.bool false)) fun v11 =>
Sx.stepG (gd true v11) (pFieldAddr 7 v2) fun v12 =>
Sx.stepG (gd true v11) (ld1 v12 w9) fun v13 =>
Sx.stepG (gd true v11) (pFieldAddr 8 v2) fun v14 =>
Sx.stepG (gd true v11) (ld1 v14 w9) fun v15 =>
Sx.stepG (gd true v11) (bLe v13 v15) fun v16 =>
bindP (pPick v11 v16 (.bool false)) fun v17 =>
bindP (pFieldAddr 9 v2) fun v18 =>
bindP (ld1 v18 w9) fun v19 =>
Sx.stepG (gd true v19) (pFieldAddr 10 v2) fun v20 =>
Sx.stepG (gd true v19) (ld1 v20 w9) fun v21 =>
stepE (gd true v19) (fun k => callP G67 [v21] w9 k) w9 fun v23 w22 =>
bindP (pPick v19 v23 (.bool false)) fun v24 =>
Sx.stepG (gd false v24) (pFieldAddr 9 v2) fun v25 =>
Sx.stepG (gd false v24) (ld1 v25 w22) fun v26 =>
Sx.stepG (gd false v24) (uNot v26) fun v27 =>
stepM (gd false v24) v27 fun v28 =>
Sx.stepG (gd true v28) (pFieldAddr 10 v2) fun v29 =>
Sx.stepG (gd true v28) (ld1 v29 w22) fun v30 =>
Sx.stepG (gd true v28) (bEq Try.prog 9 (.tmp 33) (.const (.string ⟨#[]⟩)) v30 (.string ⟨#[]⟩)) fun v31 =>
Sx.stepG (gd false v24) (pPick v28 v31 (.bool false)) fun v32 =>
bindP (pPick v24 (.bool true) v32) fun v33 =>
bindP (pFieldAddr 0 v2) fun v34 =>
bindP (ld1 v34 w22) fun v35 =>
bindP (bLt v35 (.int .i64 1)) fun v36 =>
Sx.stepG (gd false v36) (pFieldAddr 1 v2) fun v37 =>
Sx.stepG (gd false v36) (pFieldAddr 3 v37) fun v38 =>
Sx.stepG (gd false v36) (ld1 v38 w22) fun v39 =>
Sx.stepG (gd false v36) (bLt v39 (.int .i64 1)) fun v40 =>
bindP (pPick v36 (.bool true) v40) fun v41 =>
Sx.stepG (gd false v41) (pFieldAddr 6 v2) fun v42 =>
Sx.stepG (gd false v41) (ld1 v42 w22) fun v43 =>
Sx.stepG (gd false v41) (bLt v43 (.int .i64 1)) fun v44 =>
bindP (pPick v41 (.bool true) v44) fun v45 =>
Sx.stepG (gd false v45) (pFieldAddr 6 v2) fun v46 =>
Sx.stepG (gd false v45) (ld1 v46 w22) fun v47 =>
Sx.stepG (gd false v45) (bGt v47 (.int .i64 1099511627776)) fun v48 =>
bindP (pPick v45 (.bool true) v48) fun v49 =>
stepM (gd false v49) v17 fun v50 =>
Sx.stepG (gd false v49) (uNot v50) fun v51 =>
bindP (pPick v49 (.bool true) v51) fun v52 =>
stepM (gd false v52) v33 fun v53 =>
Sx.stepG (gd false v52) (uNot v53) fun v54 =>
bindP (pPick v52 (.bool true) v54) fun v55 =>
Sx.stepG (gd false v55) (pFieldAddr 1 v2) fun v56 =>
Sx.stepG (gd false v55) (ldN 5 v56 w22) fun v57 =>
stepE (gd false v55) (fun k => callP G61 [v57] w22 k) w22 fun v59 w58 =>
Sx.stepG (gd false v55) (bNe Try.prog 24 (.tmp 67) (.const (.int .i64 0)) v59 (.int .i64 0)) fun v60 =>
bindP (pPick v55 (.bool true) v60) fun v61 =>
ifB v61 (
K (.int .i64 4) w58) (
K (.int .i64 0) w58)
def G18 : FnT := fun args w K => on1 (fun x0 => F18 x0 w K) args
theorem c18 {x0 : Value} {w : World} {K : Value → World → Prop} (h : F18 x0 w K) : callP G18 [x0] w K := callP_intro (on1_mk (p := fun x0 => F18 x0 w K) h)
theorem ok18 : OkF Try.prog 18 G18 := by
  refine okF_of (tab_ok (l := T18) ⟨ok61, ok62, ok67, trivial⟩) mixed (n := fuel) Try.func18 Try.call18 fun args w K h => ?_
  obtain ⟨x0, rfl, hh⟩ := of_on1 h
  exact fnD_list (c := bodyOf Try.f18) (by kernel_rfl) (by kernel_rfl) (Eq.mp (by kernel_rfl) hh)
def F70 (x0 : Value) (w : World) (K : Value → World → Prop) : Prop :=
bindP (fBuild Try.prog 31 [(0, x0), (1, (.string ⟨#[120]⟩))]) fun v1 =>
callP G68 [v1] w fun v3 w2 =>
bindP (bEq Try.prog 24 (.tmp 5) (.const (.int .i64 0)) v3 (.int .i64 0)) fun v4 =>
K v4 w2
def G70 : FnT := fun args w K => on1 (fun x0 => F70 x0 w K) args
def F19 (x0 : Value) (w : World) (K : Value → World → Prop) : Prop :=
eBox 33 x0 w fun v2 w1 =>
bindP (pFieldAddr 0 v2) fun v3 =>
bindP (ld1 v3 w1) fun v4 =>
bindP (bLt v4 (.int .i64 1)) fun v5 =>
Sx.stepG (gd false v5) (pFieldAddr 1 v2) fun v6 =>
Sx.stepG (gd false v5) (ldN 5 v6 w1) fun v7 =>
stepE (gd false v5) (fun k => callP G68 [v7] w1 k) w1 fun v9 w8 =>
Sx.stepG (gd false v5) (bNe Try.prog 24 (.tmp 9) (.const (.int .i64 0)) v9 (.int .i64 0)) fun v10 =>
bindP (pPick v5 (.bool true) v10) fun v11 =>
Sx.stepG (gd false v11) (pFieldAddr 1 v2) fun v12 =>
Sx.stepG (gd false v11) (pFieldAddr 3 v12) fun v13 =>
Sx.stepG (gd false v11) (ld1 v13 w8) fun v14 =>
Sx.stepG (gd false v11) (bLt v14 (.int .i64 1)) fun v15 =>
bindP (pPick v11 (.bool true) v15) fun v16 =>
Sx.stepG (gd false v16) (pFieldAddr 6 v2) fun v17 =>
Sx.stepG (gd false v16) (ld1 v17 w8) fun v18 =>
Sx.stepG (gd false v16) (bLt v18 (.int .i64 1)) fun v19 =>
bindP (pPick v16 (.bool true) v19) fun v20 =>
Sx.stepG (gd false v20) (pFieldAddr 6 v2) fun v21 =>
Sx.stepG (gd false v20) (ld1 v21 w8) fun v22 =>
Sx.stepG (gd false v20) (bGt v22 (.int .i64 1099511627776)) fun v23 =>
bindP (pPick v20 (.bool true) v23) fun v24 =>
Sx.stepG (gd false v24) (pFieldAddr 7 v2) fun v25 =>
Sx.stepG (gd false v24) (ld1 v25 w8) fun v26 =>
stepE (gd false v24) (fun k => callP G69 [v26] w8 k) w8 fun v28 w27 =>
Sx.stepG (gd false v24) (uNot v28) fun v29 =>
bindP (pPick v24 (.bool true) v29) fun v30 =>
Sx.stepG (gd false v30) (pFieldAddr 8 v2) fun v31 =>
Sx.stepG (gd false v30) (ld1 v31 w27) fun v32 =>
stepE (gd false v30) (fun k => callP G69 [v32] w27 k) w27 fun v34 w33 =>
Sx.stepG (gd false v30) (uNot v34) fun v35 =>
bindP (pPick v30 (.bool true) v35) fun v36 =>
Sx.stepG (gd false v36) (pFieldAddr 7 v2) fun v37 =>
Sx.stepG (gd false v36) (ld1 v37 w33) fun v38 =>
Sx.stepG (gd false v36) (pFieldAddr 8 v2) fun v39 =>
Sx.stepG (gd false v36) (ld1 v39 w33) fun v40 =>
Sx.stepG (gd false v36) (bGt v38 v40) fun v41 =>
bindP (pPick v36 (.bool true) v41) fun v42 =>
ifB v42 (
K (.int .i64 4) w33) (
bindP (pFieldAddr 9 v2) fun v43 =>
bindP (ld1 v43 w33) fun v44 =>
Sx.stepG (gd true v44) (pFieldAddr 10 v2) fun v45 =>
Sx.stepG (gd true v44) (ld1 v45 w33) fun v46 =>
stepE (gd true v44) (fun k => callP G70 [v46] w33 k) w33 fun v48 w47 =>
Sx.stepG (gd true v44) (uNot v48) fun v49 =>
bindP (pPick v44 v49 (.bool false)) fun v50 =>
Sx.stepG (gd false v50) (pFieldAddr 9 v2) fun v51 =>
Sx.stepG (gd false v50) (ld1 v51 w47) fun v52 =>
Sx.stepG (gd false v50) (uNot v52) fun v53 =>
stepM (gd false v50) v53 fun v54 =>
Sx.stepG (gd true v54) (pFieldAddr 10 v2) fun v55 =>
Sx.stepG (gd true v54) (ld1 v55 w47) fun v56 =>
Sx.stepG (gd true v54) (bNe Try.prog 9 (.tmp 61) (.const (.string ⟨#[]⟩)) v56 (.string ⟨#[]⟩)) fun v57 =>
Sx.stepG (gd false v50) (pPick v54 v57 (.bool false)) fun v58 =>
bindP (pPick v50 (.bool true) v58) fun v59 =>
ifB v59 (
K (.int .i64 4) w47) (
K (.int .i64 0) w47))
def G19 : FnT := fun args w K => on1 (fun x0 => F19 x0 w K) args
def F4 (x0 : Value) (w : World) (K : Value → World → Prop) : Prop :=
eBox 33 x0 w fun v2 w1 =>
bindP (pFieldAddr 1 v2) fun v3 =>
bindP (pFieldAddr 0 v3) fun v4 =>
bindP (ld1 v4 w1) fun v5 =>
bindP (lenS v5) fun v6 =>
bindP (pFieldAddr 1 v2) fun v7 =>
bindP (pFieldAddr 1 v7) fun v8 =>
bindP (ld1 v8 w1) fun v9 =>
bindP (lenS v9) fun v10 =>
bindP (bAdd v6 v10) fun v11 =>
bindP (pFieldAddr 1 v2) fun v12 =>
bindP (pFieldAddr 2 v12) fun v13 =>
bindP (ld1 v13 w1) fun v14 =>
bindP (lenS v14) fun v15 =>
bindP (bAdd v11 v15) fun v16 =>
bindP (pFieldAddr 1 v2) fun v17 =>
bindP (pFieldAddr 4 v17) fun v18 =>
bindP (ld1 v18 w1) fun v19 =>
bindP (lenS v19) fun v20 =>
bindP (bAdd v16 v20) fun v21 =>
bindP (pFieldAddr 10 v2) fun v22 =>
bindP (ld1 v22 w1) fun v23 =>
bindP (lenS v23) fun v24 =>
bindP (bAdd v21 v24) fun v25 =>
bindP (bGt v25 (.int .i64 3000)) fun v26 =>
ifB v26 (
callP G14 [] w1 fun v28 w27 =>
K v28 w27) (
bindP (ldN 11 v2 w1.drew) fun v29 =>
bindP (ldN 11 v2 w1.drew) fun v30 =>
callP G18 [v29] w1.drew fun v32 w31 =>
fok true (ldN 11 v2 w31) v30 ∧ (callP G19 [v30] w31 fun v34 w33 =>
bindP (bEq Try.prog 24 (.tmp 29) (.tmp 31) v32 v34) fun v35 =>
stepE (gd true v35) (fun k => callP G14 [] w33 k) w33 fun v37 w36 =>
bindP (pPick v35 v37 (.bool false)) fun v38 =>
K v38 w36))
def G4 : FnT := fun args w K => on1 (fun x0 => F4 x0 w K) args
theorem c4 {x0 : Value} {w : World} {K : Value → World → Prop} (h : F4 x0 w K) : callP G4 [x0] w K := callP_intro (on1_mk (p := fun x0 => F4 x0 w K) h)
def F3_3b (w : World) (K : Value → World → Prop) : Prop :=
K (.bool true) w
def F3_3 (w : World) (K : Value → World → Prop) : Prop := F3_3b w K
def F3_6b (s0 : Value) (s3 : Value) (s5 : Value) (s6 : Value) (w : World) (_K : Value → World → Prop) (R3 : Value → Value → Value → Value → World → Prop) : Prop :=
bindP (bAdd s6 (.int .i64 1)) fun v1 =>
R3 s0 s3 s5 v1 w
def F3_6 (s0 : Value) (s3 : Value) (s5 : Value) (s6 : Value) (w : World) (K : Value → World → Prop) (R3 : Value → Value → Value → Value → World → Prop) : Prop := F3_6b s0 s3 s5 s6 w K R3
def F3_8b (s0 : Value) (s3 : Value) (s6 : Value) (s7 : Value) (s8 : Value) (s9 : Value) (s10 : Value) (s11 : Value) (w : World) (K : Value → World → Prop) (R3 : Value → Value → Value → Value → World → Prop) (Y0 : Value → Value → Value → Value → World → Prop) : Prop :=
bindP (bNe Try.prog 24 (.tmp 67) (.const (.int .i64 0)) s10 (.int .i64 0)) fun v2 =>
stepM (gd false v2) s9 fun v3 =>
stepM (gd false v2) s11 fun v4 =>
Sx.stepG (gd false v2) (bNe Try.prog 3 (.tmp 70) (.tmp 71) v3 v4) fun v5 =>
bindP (pPick v2 (.bool true) v5) fun v6 =>
Sx.stepG (gd false v6) (ldN 11 s8 w) fun v7 =>
Sx.stepG (gd false v6) (ldN 5 s7 w) fun v8 =>
stepM (gd false v6) s6 fun v9 =>
Sx.stepG (gd false v6) (bAdd v9 (.int .i64 1)) fun v10 =>
stepM (gd false v6) s6 fun v11 =>
Sx.stepG (gd false v6) (bMul (.int .i64 5) v11) fun v12 =>
Sx.stepG (gd false v6) (fBuild Try.prog 33 [(0, (.int .i64 1)), (1, v8), (2, v10), (3, (.int .i64 0)), (4, v12)]) fun v13 =>
Sx.stepG (gd false v6) (bNe Try.prog 33 (.tmp 75) (.tmp 81) v7 v13) fun v14 =>
bindP (pPick v6 (.bool true) v14) fun v15 =>
ifB v15 (
K (.bool false) w) (
bindP (pFieldAddr 3 s7) fun v16 =>
bindP (ld1 v16 w) fun v17 =>
bindP (fBuild Try.prog 31 [(0, (.string ⟨#[111]⟩)), (1, (.string ⟨#[99]⟩)), (3, (.int .i64 1))]) fun v18 =>
bindP (bMul (.int .i64 5) s6) fun v19 =>
callP G16 [s3, v18, v19] w fun v21 w20 =>
bindP (pTuple v21 0) fun v22 =>
bindP (pTuple v21 1) fun _ =>
bindP (pTuple v21 2) fun v24 =>
eAlloc Try.prog 33 w20 fun v26 w25 =>
bindW (st 11 v26 v22 w25) fun w27 =>
bindP (bNe Try.prog 24 (.tmp 95) (.const (.int .i64 200)) v24 (.int .i64 200)) fun v29 =>
Sx.stepG (gd false v29) (ldN 11 v26 w27) fun v30 =>
Sx.stepG (gd false v29) (fBuild Try.prog 33 []) fun v31 =>
Sx.stepG (gd false v29) (bNe Try.prog 33 (.tmp 98) (.tmp 99) v30 v31) fun v32 =>
bindP (pPick v29 (.bool true) v32) fun v33 =>
stepM (gd false v33) s3 fun v34 =>
stepE (gd false v33) (fun k => callP G17 [v34] w27 k) w27 fun v36 w35 =>
Sx.stepG (gd false v33) (bNe Try.prog 3 (.tmp 104) (.const (.int .i64 1)) v36 (.int .i64 1)) fun v37 =>
bindP (pPick v33 (.bool true) v37) fun v38 =>
ifB v38 (
K (.bool false) w35) (
Y0 s0 s3 v17 s6 w35))
def F3_8 (s0 : Value) (s3 : Value) (s6 : Value) (s7 : Value) (s8 : Value) (s9 : Value) (s10 : Value) (s11 : Value) (w : World) (K : Value → World → Prop) (R3 : Value → Value → Value → Value → World → Prop) : Prop := F3_8b s0 s3 s6 s7 s8 s9 s10 s11 w K R3 (fun a0 a3 a5 a6 w => F3_6 a0 a3 a5 a6 w K R3)
def F3_7b (s0 : Value) (s3 : Value) (s5 : Value) (s6 : Value) (w : World) (_K : Value → World → Prop) (R3 : Value → Value → Value → Value → World → Prop) (Y0 : Value → Value → Value → Value → Value → Value → Value → Value → World → Prop) : Prop :=
bindP (pIndexL 1 s0 s6) fun v39 =>
bindP (ld1 v39 w.drew) fun v40 =>
bindP (bRem s6 (.int .i64 20)) fun v41 =>
bindP (bAdd (.int .i64 97) v41) fun v42 =>
bindP (cInt .u8 v42) fun v43 =>
(callP G15 [v40, (.int .i64 5)] w.drew fun v45 w44 =>
fok true (cInt .u8 v42) v43 ∧ (bindP (bAdd (.int .i64 1) v45) fun v46 =>
(eBuildSl Try.prog 29 1 [(0, v43)] w44 fun v48 w47 =>
fok true (ld1 v39 w47) v40 ∧ (bindP (cBytes v48 w47) fun v49 =>
bindP (fBuild Try.prog 31 [(0, (.string ⟨#[110]⟩)), (1, (.string ⟨#[99]⟩)), (2, (.string ⟨#[107]⟩)), (3, v46), (4, v49)]) fun v50 =>
eAlloc Try.prog 31 w47 fun v52 w51 =>
(fok true (ld1 v39 w51) v40 ∧ fok true (cInt .u8 v42) v43 ∧ fok true (cBytes v48 w51) v49) ∧ (bindW (st 5 v52 v50 w51) fun w53 =>
bindP (ldN 5 v52 w53) fun v55 =>
bindP (bMul (.int .i64 5) s6) fun v56 =>
callP G16 [s3, v55, v56] w53 fun v58 w57 =>
bindP (pTuple v58 0) fun v59 =>
bindP (pTuple v58 1) fun v60 =>
bindP (pTuple v58 2) fun v61 =>
eAlloc Try.prog 33 w57 fun v63 w62 =>
bindW (st 11 v63 v59 w62) fun w64 =>
bindP (bEq Try.prog 3 (.tmp 61) (.const (.int .i64 0)) s6 (.int .i64 0)) fun v66 =>
ifB v66 (
Y0 s0 s3 s6 v52 v63 v60 v61 (.int .i64 1) w64) (
bindP (pFieldAddr 3 v52) fun v67 =>
bindP (ld1 v67 w64) fun v68 =>
bindP (bNe Try.prog 3 (.tmp 64) (.tmp 65) v68 s5) fun v69 =>
ifB v69 (
Y0 s0 s3 s6 v52 v63 v60 v61 (.int .i64 2) w64) (
Y0 s0 s3 s6 v52 v63 v60 v61 (.int .i64 0) w64))))) ∧ (eAlloc Try.prog 31 w44 fun v71 w70 =>
(fok true (ld1 v39 w70) v40 ∧ fok true (cInt .u8 v42) v43) ∧ (eBuildSl Try.prog 29 1 [(0, v43)] w70 fun v73 w72 =>
fok true (ld1 v39 w72) v40 ∧ (bindP (cBytes v73 w72) fun v74 =>
bindP (fBuild Try.prog 31 [(0, (.string ⟨#[110]⟩)), (1, (.string ⟨#[99]⟩)), (2, (.string ⟨#[107]⟩)), (3, v46), (4, v74)]) fun v75 =>
bindW (st 5 v71 v75 w72) fun w76 =>
bindP (ldN 5 v71 w76) fun v78 =>
bindP (bMul (.int .i64 5) s6) fun v79 =>
callP G16 [s3, v78, v79] w76 fun v81 w80 =>
bindP (pTuple v81 0) fun v82 =>
bindP (pTuple v81 1) fun v83 =>
bindP (pTuple v81 2) fun v84 =>
eAlloc Try.prog 33 w80 fun v86 w85 =>
bindW (st 11 v86 v82 w85) fun w87 =>
bindP (bEq Try.prog 3 (.tmp 61) (.const (.int .i64 0)) s6 (.int .i64 0)) fun v89 =>
ifB v89 (
Y0 s0 s3 s6 v71 v86 v83 v84 (.int .i64 1) w87) (
bindP (pFieldAddr 3 v71) fun v90 =>
bindP (ld1 v90 w87) fun v91 =>
bindP (bNe Try.prog 3 (.tmp 64) (.tmp 65) v91 s5) fun v92 =>
ifB v92 (
Y0 s0 s3 s6 v71 v86 v83 v84 (.int .i64 2) w87) (
Y0 s0 s3 s6 v71 v86 v83 v84 (.int .i64 0) w87))))))) ∧ (eBuildSl Try.prog 29 1 [(0, v43)] w.drew fun v94 w93 =>
fok true (ld1 v39 w93) v40 ∧ (bindP (cBytes v94 w93) fun v95 =>
(callP G15 [v40, (.int .i64 5)] w93 fun v97 w96 =>
(fok true (cInt .u8 v42) v43 ∧ fok true (cBytes v94 w96) v95) ∧ (bindP (bAdd (.int .i64 1) v97) fun v98 =>
bindP (fBuild Try.prog 31 [(0, (.string ⟨#[110]⟩)), (1, (.string ⟨#[99]⟩)), (2, (.string ⟨#[107]⟩)), (3, v98), (4, v95)]) fun v99 =>
eAlloc Try.prog 31 w96 fun v101 w100 =>
(fok true (ld1 v39 w100) v40 ∧ fok true (cInt .u8 v42) v43 ∧ fok true (cBytes v94 w100) v95) ∧ (bindW (st 5 v101 v99 w100) fun w102 =>
bindP (ldN 5 v101 w102) fun v104 =>
bindP (bMul (.int .i64 5) s6) fun v105 =>
callP G16 [s3, v104, v105] w102 fun v107 w106 =>
bindP (pTuple v107 0) fun v108 =>
bindP (pTuple v107 1) fun v109 =>
bindP (pTuple v107 2) fun v110 =>
eAlloc Try.prog 33 w106 fun v112 w111 =>
bindW (st 11 v112 v108 w111) fun w113 =>
bindP (bEq Try.prog 3 (.tmp 61) (.const (.int .i64 0)) s6 (.int .i64 0)) fun v115 =>
ifB v115 (
Y0 s0 s3 s6 v101 v112 v109 v110 (.int .i64 1) w113) (
bindP (pFieldAddr 3 v101) fun v116 =>
bindP (ld1 v116 w113) fun v117 =>
bindP (bNe Try.prog 3 (.tmp 64) (.tmp 65) v117 s5) fun v118 =>
ifB v118 (
Y0 s0 s3 s6 v101 v112 v109 v110 (.int .i64 2) w113) (
Y0 s0 s3 s6 v101 v112 v109 v110 (.int .i64 0) w113))))) ∧ (eAlloc Try.prog 31 w93 fun v120 w119 =>
(fok true (ld1 v39 w119) v40 ∧ fok true (cInt .u8 v42) v43 ∧ fok true (cBytes v94 w119) v95) ∧ (callP G15 [v40, (.int .i64 5)] w119 fun v122 w121 =>
(fok true (cInt .u8 v42) v43 ∧ fok true (cBytes v94 w121) v95) ∧ (bindP (bAdd (.int .i64 1) v122) fun v123 =>
bindP (fBuild Try.prog 31 [(0, (.string ⟨#[110]⟩)), (1, (.string ⟨#[99]⟩)), (2, (.string ⟨#[107]⟩)), (3, v123), (4, v95)]) fun v124 =>
bindW (st 5 v120 v124 w121) fun w125 =>
bindP (ldN 5 v120 w125) fun v127 =>
bindP (bMul (.int .i64 5) s6) fun v128 =>
callP G16 [s3, v127, v128] w125 fun v130 w129 =>
bindP (pTuple v130 0) fun v131 =>
bindP (pTuple v130 1) fun v132 =>
bindP (pTuple v130 2) fun v133 =>
eAlloc Try.prog 33 w129 fun v135 w134 =>
bindW (st 11 v135 v131 w134) fun w136 =>
bindP (bEq Try.prog 3 (.tmp 61) (.const (.int .i64 0)) s6 (.int .i64 0)) fun v138 =>
ifB v138 (
Y0 s0 s3 s6 v120 v135 v132 v133 (.int .i64 1) w136) (
bindP (pFieldAddr 3 v120) fun v139 =>
bindP (ld1 v139 w136) fun v140 =>
bindP (bNe Try.prog 3 (.tmp 64) (.tmp 65) v140 s5) fun v141 =>
ifB v141 (
Y0 s0 s3 s6 v120 v135 v132 v133 (.int .i64 2) w136) (
Y0 s0 s3 s6 v120 v135 v132 v133 (.int .i64 0) w136))))))) ∧ (eAlloc Try.prog 31 w.drew fun v143 w142 =>
(fok true (ld1 v39 w142) v40 ∧ fok true (cInt .u8 v42) v43) ∧ ((callP G15 [v40, (.int .i64 5)] w142 fun v145 w144 =>
fok true (cInt .u8 v42) v43 ∧ (bindP (bAdd (.int .i64 1) v145) fun v146 =>
eBuildSl Try.prog 29 1 [(0, v43)] w144 fun v148 w147 =>
fok true (ld1 v39 w147) v40 ∧ (bindP (cBytes v148 w147) fun v149 =>
bindP (fBuild Try.prog 31 [(0, (.string ⟨#[110]⟩)), (1, (.string ⟨#[99]⟩)), (2, (.string ⟨#[107]⟩)), (3, v146), (4, v149)]) fun v150 =>
bindW (st 5 v143 v150 w147) fun w151 =>
bindP (ldN 5 v143 w151) fun v153 =>
bindP (bMul (.int .i64 5) s6) fun v154 =>
callP G16 [s3, v153, v154] w151 fun v156 w155 =>
bindP (pTuple v156 0) fun v157 =>
bindP (pTuple v156 1) fun v158 =>
bindP (pTuple v156 2) fun v159 =>
eAlloc Try.prog 33 w155 fun v161 w160 =>
bindW (st 11 v161 v157 w160) fun w162 =>
bindP (bEq Try.prog 3 (.tmp 61) (.const (.int .i64 0)) s6 (.int .i64 0)) fun v164 =>
ifB v164 (
Y0 s0 s3 s6 v143 v161 v158 v159 (.int .i64 1) w162) (
bindP (pFieldAddr 3 v143) fun v165 =>
bindP (ld1 v165 w162) fun v166 =>
bindP (bNe Try.prog 3 (.tmp 64) (.tmp 65) v166 s5) fun v167 =>
ifB v167 (
Y0 s0 s3 s6 v143 v161 v158 v159 (.int .i64 2) w162) (
Y0 s0 s3 s6 v143 v161 v158 v159 (.int .i64 0) w162))))) ∧ (eBuildSl Try.prog 29 1 [(0, v43)] w142 fun v169 w168 =>
fok true (ld1 v39 w168) v40 ∧ (bindP (cBytes v169 w168) fun v170 =>
callP G15 [v40, (.int .i64 5)] w168 fun v172 w171 =>
(fok true (cInt .u8 v42) v43 ∧ fok true (cBytes v169 w171) v170) ∧ (bindP (bAdd (.int .i64 1) v172) fun v173 =>
bindP (fBuild Try.prog 31 [(0, (.string ⟨#[110]⟩)), (1, (.string ⟨#[99]⟩)), (2, (.string ⟨#[107]⟩)), (3, v173), (4, v170)]) fun v174 =>
bindW (st 5 v143 v174 w171) fun w175 =>
bindP (ldN 5 v143 w175) fun v177 =>
bindP (bMul (.int .i64 5) s6) fun v178 =>
callP G16 [s3, v177, v178] w175 fun v180 w179 =>
bindP (pTuple v180 0) fun v181 =>
bindP (pTuple v180 1) fun v182 =>
bindP (pTuple v180 2) fun v183 =>
eAlloc Try.prog 33 w179 fun v185 w184 =>
bindW (st 11 v185 v181 w184) fun w186 =>
bindP (bEq Try.prog 3 (.tmp 61) (.const (.int .i64 0)) s6 (.int .i64 0)) fun v188 =>
ifB v188 (
Y0 s0 s3 s6 v143 v185 v182 v183 (.int .i64 1) w186) (
bindP (pFieldAddr 3 v143) fun v189 =>
bindP (ld1 v189 w186) fun v190 =>
bindP (bNe Try.prog 3 (.tmp 64) (.tmp 65) v190 s5) fun v191 =>
ifB v191 (
Y0 s0 s3 s6 v143 v185 v182 v183 (.int .i64 2) w186) (
Y0 s0 s3 s6 v143 v185 v182 v183 (.int .i64 0) w186)))))))
def F3_7 (s0 : Value) (s3 : Value) (s5 : Value) (s6 : Value) (w : World) (K : Value → World → Prop) (R3 : Value → Value → Value → Value → World → Prop) : Prop := F3_7b s0 s3 s5 s6 w K R3 (fun a0 a3 a6 a7 a8 a9 a10 a11 w => F3_8 a0 a3 a6 a7 a8 a9 a10 a11 w K R3)
def F3_5 (s0 : Value) (s3 : Value) (s5 : Value) (s6 : Value) (w : World) (K : Value → World → Prop) (R3 : Value → Value → Value → Value → World → Prop) : Prop := F3_7 s0 s3 s5 s6 w K R3
def F3_4b (s0 : Value) (s3 : Value) (s5 : Value) (s6 : Value) (w : World) (_K : Value → World → Prop) (R3 : Value → Value → Value → Value → World → Prop) (Y0 : Value → Value → Value → Value → World → Prop) (Y1 : World → Prop) : Prop :=
bindP (lenL s0) fun v192 =>
bindP (bLt s6 v192) fun v193 =>
stepM (gd true v193) s6 fun v194 =>
Sx.stepG (gd true v193) (bLt v194 (.int .i64 100)) fun v195 =>
bindP (pPick v193 v195 (.bool false)) fun v196 =>
ifB v196 (
Y0 s0 s3 s5 s6 w) (
Y1 w)
def F3_4 (s0 : Value) (s3 : Value) (s5 : Value) (s6 : Value) (w : World) (K : Value → World → Prop) (R3 : Value → Value → Value → Value → World → Prop) : Prop := F3_4b s0 s3 s5 s6 w K R3 (fun a0 a3 a5 a6 w => F3_5 a0 a3 a5 a6 w K R3) (fun w => F3_3 w K)
def F3_2L : Nat → Value → Value → Value → Value → World → (Value → World → Prop) → Prop
  | 0, _, _, _, _, _, _ => False
  | n + 1, s0, s3, s5, s6, w, K => F3_4 s0 s3 s5 s6 w K (fun a0 a3 a5 a6 w => F3_2L n a0 a3 a5 a6 w K)
def F3_2 (s0 : Value) (s3 : Value) (s5 : Value) (s6 : Value) (w : World) (K : Value → World → Prop) : Prop := F3_2L fuel s0 s3 s5 s6 w K
def F3_1b (s0 : Value) (w : World) (K : Value → World → Prop) (Y0 : Value → Value → Value → Value → World → Prop) : Prop :=
callP G13 [(.int .i64 1)] w fun v198 w197 =>
bindP (pTuple v198 0) fun v199 =>
bindP (pTuple v198 1) fun v200 =>
bindP (bEq Try.prog 23 (.tmp 19) (.const (.pointer none)) v199 (.pointer none)) fun v201 =>
stepM (gd false v201) v200 fun v202 =>
Sx.stepG (gd false v201) (bNe Try.prog 24 (.tmp 22) (.const (.int .i64 0)) v202 (.int .i64 0)) fun v203 =>
bindP (pPick v201 (.bool true) v203) fun v204 =>
stepE (gd false v204) (fun k => callP G14 [] w197 k) w197 fun v206 w205 =>
Sx.stepG (gd false v204) (uNot v206) fun v207 =>
bindP (pPick v204 (.bool true) v207) fun v208 =>
ifB v208 (
K (.bool false) w205) (
Y0 s0 v199 (.int .i64 0) (.int .i64 0) w205)
def F3_1 (s0 : Value) (w : World) (K : Value → World → Prop) : Prop := F3_1b s0 w K (fun a0 a3 a5 a6 w => F3_2 a0 a3 a5 a6 w K)
def F3 (x0 : Value) (w : World) (K : Value → World → Prop) : Prop := F3_1 x0 w K
def G3 : FnT := fun args w K => on1 (fun x0 => F3 x0 w K) args
theorem c3 {x0 : Value} {w : World} {K : Value → World → Prop} (h : F3 x0 w K) : callP G3 [x0] w K := callP_intro (on1_mk (p := fun x0 => F3 x0 w K) h)
end Go.Proofs.Gong

/- Bd0 -/
namespace Go.Proofs.Gong
open Go Go.Sx Go.Proofs
set_option maxRecDepth 100000
def timeP (t : Int) : Bool := decide (0 ≤ t) && decide (t ≤ 2305843009213693952)
def whoP (s : List UInt8) : Bool := !decide (s = []) && plainP s 64
theorem chk_who (s c : List UInt8) (hc : c ≠ []) (hp : plainP c 64 = true) : chkE ⟨s, c, [], 0, []⟩ = if whoP s = true then 0 else 180 := by
  have h1 : plainP [] 128 = true := by decide
  have h2 : plainP [] 1024 = true := by decide
  unfold chkE okE whoP
  simp [hc, hp, h1, h2]
section
variable {w0 w : World} {L : List HP} {K : Value → World → Prop}
theorem bistime_spec {t : Int} (hK : K (.bool (timeP t)) w) : callP G62 [.int .i64 t] w K := by
  refine c62 ?_
  unfold F62
  unfold timeP at hK
  by_cases g1 : 0 ≤ t <;> simp [g1] at hK ⊢ <;> exact hK
theorem iswho_spec {s : List UInt8} (hs : s.length < 1000000) (h : Sat w0 L w) (hK : ∀ w', Sat w0 L w' → K (.bool (whoP s)) w') : callP G67 [.string (bs s)] w K := by
  refine c67 ?_
  unfold F67
  have eb : fBuild Try.prog 31 [(0, .string (bs s)), (1, .string ⟨#[99]⟩)] = some (evV ⟨s, [99], [], 0, []⟩) := by kernel_rfl
  rw [eb]
  simp only [bindP_some]
  refine ncheck_spec ⟨hs, by simp, by simp, by simp⟩ h fun w1 h1 => ?_
  rw [chk_who s [99] (by simp) (by decide)]
  have hk := hK _ h1
  by_cases hw : whoP s = true
  · rw [hw] at hk; rw [if_pos hw]; simpa using hk
  · rw [if_neg hw]
    have : whoP s = false := by simpa using hw
    rw [this] at hk; simpa using hk
end
structure Row where
  id : Int
  e : Evt
  tally : Int
  first : Int
  last : Int
  acked : Bool
  who : List UInt8
  deriving DecidableEq
@[reducible] def cRow (r : Row) : List Value := [.int .i64 r.id, .string (bs r.e.node), .string (bs r.e.cls), .string (bs r.e.key), .int .i64 r.e.level, .string (bs r.e.text), .int .i64 r.tally, .int .i64 r.first, .int .i64 r.last, .bool r.acked, .string (bs r.who)]
abbrev rowV (r : Row) : Value := .agg (cRow r).toArray
def timesR (r : Row) : Bool := timeP r.first && timeP r.last && decide (r.first ≤ r.last)
def whoR (r : Row) : Bool := if r.acked = true then whoP r.who else decide (r.who = [])
def okR (r : Row) : Bool := decide (1 ≤ r.id) && decide (1 ≤ r.e.level) && decide (1 ≤ r.tally) && decide (r.tally ≤ 1099511627776) && timesR r && whoR r && okE r.e
def chkR (r : Row) : Int := if okR r = true then 0 else 4
end Go.Proofs.Gong

/- Bd1 -/
namespace Go.Proofs.Gong
open Go Go.Sx Go.Proofs
set_option maxRecDepth 100000
section
variable {w0 w : World} {L : List HP} {K : Value → World → Prop} {r : Row}
theorem times_blk {p : Nat} {k : Value → World → Prop} (c7 : w.cell? ⟨p, 7, none⟩ = some (.int .i64 r.first)) (c8 : w.cell? ⟨p, 8, none⟩ = some (.int .i64 r.last)) (hk : k (.bool (timesR r)) w) :
    bindP (pFieldAddr 7 (ptr p)) fun v3 => bindP (ld1 v3 w) fun v4 => callP G62 [v4] w fun v6 w5 =>
    Sx.stepG (gd true v6) (pFieldAddr 8 (ptr p)) fun v7 => Sx.stepG (gd true v6) (ld1 v7 w5) fun v8 => stepE (gd true v6) (fun k => callP G62 [v8] w5 k) w5 fun v10 w9 =>
    bindP (pPick v6 v10 (.bool false)) fun v11 => Sx.stepG (gd true v11) (pFieldAddr 7 (ptr p)) fun v12 => Sx.stepG (gd true v11) (ld1 v12 w9) fun v13 =>
    Sx.stepG (gd true v11) (pFieldAddr 8 (ptr p)) fun v14 => Sx.stepG (gd true v11) (ld1 v14 w9) fun v15 => Sx.stepG (gd true v11) (bLe v13 v15) fun v16 => bindP (pPick v11 v16 (.bool false)) fun v17 => k v17 w9 := by
  simp only [ptr, pFieldAddr_ptr, bindP_some, Nat.zero_add, ld1_ptr, c7, c8]
  refine bistime_spec ?_
  unfold timesR at hk
  by_cases t1 : timeP r.first = true
  · simp only [t1, gd_true, stepG_true, bindP_some, ld1_ptr, c8, stepE_true]
    refine bistime_spec ?_
    by_cases t2 : timeP r.last = true
    · simp only [t2, pPick_true, bindP_some, gd_true, stepG_true, ld1_ptr, c7, c8, bLe_int]
      simpa [t1, t2] using hk
    · have t2' : timeP r.last = false := by simpa using t2
      simp only [t2', pPick_true, bindP_some, gd_true, stepG_false, pPick_false]
      simpa [t1, t2'] using hk
  · have t1' : timeP r.first = false := by simpa using t1
    simp only [t1', gd_true, stepG_false, stepE_false, pPick_false, bindP_some]
    simpa [t1'] using hk
theorem who_blk {p : Nat} {k : Value → World → Prop} (h : Sat w0 (Cl p (cRow r).toArray 33 :: L) w) (hs : r.who.length < 1000000) (hk : ∀ w', Sat w0 (Cl p (cRow r).toArray 33 :: L) w' → k (.bool (whoR r)) w') :
    bindP (pFieldAddr 9 (ptr p)) fun v18 => bindP (ld1 v18 w) fun v19 => Sx.stepG (gd true v19) (pFieldAddr 10 (ptr p)) fun v20 => Sx.stepG (gd true v19) (ld1 v20 w) fun v21 =>
    stepE (gd true v19) (fun k => callP G67 [v21] w k) w fun v23 w22 => bindP (pPick v19 v23 (.bool false)) fun v24 => Sx.stepG (gd false v24) (pFieldAddr 9 (ptr p)) fun v25 =>
    Sx.stepG (gd false v24) (ld1 v25 w22) fun v26 => Sx.stepG (gd false v24) (uNot v26) fun v27 => stepM (gd false v24) v27 fun v28 => Sx.stepG (gd true v28) (pFieldAddr 10 (ptr p)) fun v29 =>
    Sx.stepG (gd true v28) (ld1 v29 w22) fun v30 => Sx.stepG (gd true v28) (bEq Try.prog 9 (.tmp 33) (.const (.string ⟨#[]⟩)) v30 (.string ⟨#[]⟩)) fun v31 =>
    Sx.stepG (gd false v24) (pPick v28 v31 (.bool false)) fun v32 => bindP (pPick v24 (.bool true) v32) fun v33 => k v33 w22 := by
  have cs : ∀ {w' : World}, Sat w0 (Cl p (cRow r).toArray 33 :: L) w' → ∀ i, w'.cell? ⟨p, i, none⟩ = (cRow r)[i]? := fun h i => by rw [cell_of h.cl, List.getElem?_toArray]
  have k9 : (cRow r)[9]? = some (.bool r.acked) := rfl
  have k10 : (cRow r)[10]? = some (.string (bs r.who)) := rfl
  unfold whoR at hk
  rw [nil_b]
  simp only [ptr, pFieldAddr_ptr, bindP_some, Nat.zero_add, ld1_ptr, cs h, k9, k10]
  by_cases ha : r.acked = true
  · rw [if_pos ha] at hk
    simp only [ha, gd_true, stepG_true, bindP_some, ld1_ptr, cs h, k10, stepE_true]
    refine iswho_spec hs h fun w2 h2 => ?_
    have hk2 := hk w2 h2
    by_cases hw : whoP r.who = true
    · rw [hw] at hk2
      simp only [hw, pPick_true, bindP_some, gd_false, Bool.not_true, stepG_false, stepM_false, gd_undef]
      exact hk2
    · have hw' : whoP r.who = false := by simpa using hw
      rw [hw'] at hk2
      simp only [hw', pPick_true, pPick_false, bindP_some, gd_false, gd_true, Bool.not_false, Bool.not_true, stepG_true, stepG_false, stepM_true, ld1_ptr, cs h2, k9, ha, uNot_bool]
      exact hk2
  · have ha' : r.acked = false := by simpa using ha
    rw [if_neg ha] at hk
    have hk2 := hk w h
    simp only [ha', gd_true, stepG_false, stepE_false, pPick_false, bindP_some, gd_false, Bool.not_false, stepG_true, ld1_ptr, cs h, k9, uNot_bool, stepM_true, k10, bEq_str, bs_beq, bs_inj, pPick_true]
    exact hk2
theorem bcheck_spec (he : r.e.fits) (hw : r.who.length < 1000000) (h : Sat w0 L w) (hK : ∀ w', Sat w0 L w' → K (.int .i64 (chkR r)) w') : callP G18 [rowV r] w K := by
  refine c18 ?_
  unfold F18
  refine eBox_sat h fun p w1 h1 => ?_
  have e0 : (rowV r).cells = (cRow r).toArray := rfl
  rw [e0] at h1
  have cs : ∀ {w' : World}, Sat w0 (Cl p (cRow r).toArray 33 :: L) w' → ∀ i, w'.cell? ⟨p, i, none⟩ = (cRow r)[i]? := fun h i => by rw [cell_of h.cl, List.getElem?_toArray]
  have k0 : (cRow r)[0]? = some (.int .i64 r.id) := rfl
  have k4 : (cRow r)[4]? = some (.int .i64 r.e.level) := rfl
  have k6 : (cRow r)[6]? = some (.int .i64 r.tally) := rfl
  refine times_blk (r := r) (by rw [cs h1]; rfl) (by rw [cs h1]; rfl) ?_
  refine who_blk h1 hw fun w2 h2 => ?_
  have cN : ldN 5 (.pointer (some ⟨p, 1, none⟩)) w2 = some (evV r.e) := by rw [ldN_of h2.cl (by simp [cRow])]; rfl
  have bad : ∀ w', Sat w0 (Cl p (cRow r).toArray 33 :: L) w' → okR r = false → K (.int .i64 4) w' := by
    intro w' hs ho
    have := hK _ hs.drop
    unfold chkR at this
    rw [ho] at this
    exact this
  simp only [ptr, cs h2, ld1_ptr, k0, k4, k6, gd_undef, uNot_bool, decide_true, decide_false, Bool.not_true, Bool.not_false, gd_true, gd_false, stepG_true, stepG_false, stepE_true, stepE_false, stepM_true, stepM_false, pPick_true, pPick_false, pFieldAddr_ptr, Nat.zero_add, bindP_some, ifB_true, ifB_false, bLt_int, bGt_int, bNe_int]
  by_cases g1 : r.id < 1
  · have ho : okR r = false := by
      have : ¬ (1 ≤ r.id) := by omega
      simp [okR, this]
    simp only [g1, ld1_ptr, k0, k4, k6, gd_undef, uNot_bool, decide_true, decide_false, Bool.not_true, Bool.not_false, gd_true, gd_false, stepG_true, stepG_false, stepE_true, stepE_false, stepM_true, stepM_false, pPick_true, pPick_false, pFieldAddr_ptr, Nat.zero_add, bindP_some, ifB_true, ifB_false, bLt_int, bGt_int, bNe_int]
    exact bad _ h2 ho
  · by_cases g2 : r.e.level < 1
    · have ho : okR r = false := by
        have : ¬ (1 ≤ r.e.level) := by omega
        simp [okR, this]
      simp only [g1, g2, cs h2, ld1_ptr, k0, k4, k6, gd_undef, uNot_bool, decide_true, decide_false, Bool.not_true, Bool.not_false, gd_true, gd_false, stepG_true, stepG_false, stepE_true, stepE_false, stepM_true, stepM_false, pPick_true, pPick_false, pFieldAddr_ptr, Nat.zero_add, bindP_some, ifB_true, ifB_false, bLt_int, bGt_int, bNe_int]
      exact bad _ h2 ho
    · by_cases g3 : r.tally < 1
      · have ho : okR r = false := by
          have : ¬ (1 ≤ r.tally) := by omega
          simp [okR, this]
        simp only [g1, g2, g3, cs h2, ld1_ptr, k0, k4, k6, gd_undef, uNot_bool, decide_true, decide_false, Bool.not_true, Bool.not_false, gd_true, gd_false, stepG_true, stepG_false, stepE_true, stepE_false, stepM_true, stepM_false, pPick_true, pPick_false, pFieldAddr_ptr, Nat.zero_add, bindP_some, ifB_true, ifB_false, bLt_int, bGt_int, bNe_int]
        exact bad _ h2 ho
      · by_cases g4 : r.tally > 1099511627776
        · have ho : okR r = false := by
            have : ¬ (r.tally ≤ 1099511627776) := by omega
            simp [okR, this]
          simp only [g1, g2, g3, g4, cs h2, ld1_ptr, k0, k4, k6, gd_undef, uNot_bool, decide_true, decide_false, Bool.not_true, Bool.not_false, gd_true, gd_false, stepG_true, stepG_false, stepE_true, stepE_false, stepM_true, stepM_false, pPick_true, pPick_false, pFieldAddr_ptr, Nat.zero_add, bindP_some, ifB_true, ifB_false, bLt_int, bGt_int, bNe_int]
          exact bad _ h2 ho
        · by_cases g5 : timesR r = true
          · by_cases g6 : whoR r = true
            · simp only [g1, g2, g3, g4, g5, g6, cs h2, cN, ld1_ptr, k0, k4, k6, gd_undef, uNot_bool, decide_true, decide_false, Bool.not_true, Bool.not_false, gd_true, gd_false, stepG_true, stepG_false, stepE_true, stepE_false, stepM_true, stepM_false, pPick_true, pPick_false, pFieldAddr_ptr, Nat.zero_add, bindP_some, ifB_true, ifB_false, bLt_int, bGt_int, bNe_int]
              refine ncheck_spec he h2 fun w3 h3 => ?_
              unfold chkE
              by_cases g7 : okE r.e = true
              · have hk := hK _ h3.drop
                have ho : okR r = true := by
                  have a1 : 1 ≤ r.id := by omega
                  have a2 : 1 ≤ r.e.level := by omega
                  have a3 : 1 ≤ r.tally := by omega
                  have a4 : r.tally ≤ 1099511627776 := by omega
                  simp [okR, a1, a2, a3, a4, g5, g6, g7]
                unfold chkR at hk
                rw [if_pos ho] at hk
                rw [if_pos g7]
                simp only [ld1_ptr, k0, k4, k6, gd_undef, uNot_bool, decide_true, decide_false, Bool.not_true, Bool.not_false, gd_true, gd_false, stepG_true, stepG_false, stepE_true, stepE_false, stepM_true, stepM_false, pPick_true, pPick_false, pFieldAddr_ptr, Nat.zero_add, bindP_some, ifB_true, ifB_false, bLt_int, bGt_int, bNe_int]
                exact hk
              · have ho : okR r = false := by
                  have g7' : okE r.e = false := by simpa using g7
                  simp [okR, g7']
                rw [if_neg g7]
                have e1 : decide ((180 : Int) = 0) = false := by decide
                simp only [e1, ld1_ptr, k0, k4, k6, gd_undef, uNot_bool, decide_true, decide_false, Bool.not_true, Bool.not_false, gd_true, gd_false, stepG_true, stepG_false, stepE_true, stepE_false, stepM_true, stepM_false, pPick_true, pPick_false, pFieldAddr_ptr, Nat.zero_add, bindP_some, ifB_true, ifB_false, bLt_int, bGt_int, bNe_int]
                exact bad _ h3 ho
            · have g6' : whoR r = false := by simpa using g6
              have ho : okR r = false := by simp [okR, g6']
              simp only [g1, g2, g3, g4, g5, g6', cs h2, ld1_ptr, k0, k4, k6, gd_undef, uNot_bool, decide_true, decide_false, Bool.not_true, Bool.not_false, gd_true, gd_false, stepG_true, stepG_false, stepE_true, stepE_false, stepM_true, stepM_false, pPick_true, pPick_false, pFieldAddr_ptr, Nat.zero_add, bindP_some, ifB_true, ifB_false, bLt_int, bGt_int, bNe_int]
              exact bad _ h2 ho
          · have g5' : timesR r = false := by simpa using g5
            have ho : okR r = false := by simp [okR, g5']
            simp only [g1, g2, g3, g4, g5', cs h2, ld1_ptr, k0, k4, k6, gd_undef, uNot_bool, decide_true, decide_false, Bool.not_true, Bool.not_false, gd_true, gd_false, stepG_true, stepG_false, stepE_true, stepE_false, stepM_true, stepM_false, pPick_true, pPick_false, pFieldAddr_ptr, Nat.zero_add, bindP_some, ifB_true, ifB_false, bLt_int, bGt_int, bNe_int]
            exact bad _ h2 ho
end
end Go.Proofs.Gong

/- Bd2 -/
namespace Go.Proofs.Gong
open Go Go.Sx Go.Proofs
set_option maxRecDepth 100000
section
variable {w0 w : World} {L : List HP} {K : Value → World → Prop} {r : Row}
end
end Go.Proofs.Gong

/- Bd3 -/
namespace Go.Proofs.Gong
open Go Go.Sx Go.Proofs
set_option maxRecDepth 100000
abbrev Sg := List UInt8 × List UInt8 × List UInt8
@[reducible] def cSg (s : Sg) : List Value := [.string (bs s.1), .string (bs s.2.1), .string (bs s.2.2)]
abbrev ekS (s : Sg) : Value := .agg (cSg s).toArray
abbrev kI (n : Int) : Value := .int .i64 n
def sgOf (e : Evt) : Sg := (e.node, e.cls, e.key)
theorem eqvS (a b c d e f : ByteArray) : eqv Try.prog Op.maxDepth 114 (.agg #[.string a, .string b, .string c]) (.agg #[.string d, .string e, .string f]) = andO (some (sEq a d)) (andO (some (sEq b e)) (andO (some (sEq c f)) (some true))) := by kernel_rfl
theorem KS : KeyT Try.prog 114 ekS where
  u := by kernel_rfl
  ck := fun k => by kernel_rfl
  eq := fun a b => by
    unfold ekS cSg
    rw [eqvS]
    simp only [andO_some, Option.some.injEq]
    rw [Bool.eq_iff_iff]
    obtain ⟨a1, a2, a3⟩ := a
    obtain ⟨b1, b2, b3⟩ := b
    simp [sEq_eq]
  sb := fun a => by
    unfold ekS cSg
    simp [Instr.sameBits]
def BoardI (v : Value) (n next : Int) (R : List (Int × Row)) (I : List (Sg × Int)) : HP :=
  HEx fun p => HEx fun mr => HEx fun mi => HPr (v = ptr p) (HSt (Cl p #[.int .i64 n, .int .i64 next, mr, mi] 110) (HSt (MapH kI rowV mr R) (MapH ekS kI mi I)))
section
variable {w0 w : World} {L : List HP} {K : Value → World → Prop} {v : Value} {n next : Int} {R : List (Int × Row)} {I : List (Sg × Int)}
theorem board_iff : Sat w0 (BoardI v n next R I :: L) w ↔ ∃ p mr mi, v = ptr p ∧ Sat w0 (Cl p #[.int .i64 n, .int .i64 next, mr, mi] 110 :: MapH kI rowV mr R :: MapH ekS kI mi I :: L) w := by
  simp only [BoardI, Sat.ex_iff, Sat.pr_iff, Sat.star_iff]
  constructor
  · rintro ⟨p, mr, mi, h1, h2⟩
    exact ⟨p, mr, mi, h1, h2.conv fun _ h => h.tail fun _ h => SepL.star.1 h⟩
  · rintro ⟨p, mr, mi, h1, h2⟩
    exact ⟨p, mr, mi, h1, h2.conv fun _ h => h.tail fun _ h => SepL.star.2 h⟩
theorem of_spec {e : Evt} (h : Sat w0 L w) (hK : ∀ w', Sat w0 L w' → K (ekS (sgOf e)) w') : callP G63 [evV e] w K := by
  refine c63 ?_
  unfold F63
  refine eBox_sat h fun p w1 h1 => ?_
  have e0 : (evV e).cells = (cEv e).toArray := rfl
  rw [e0] at h1
  refine eAlloc_sat h1 z114 fun q w2 h2 => ?_
  have c0 : w2.cell? ⟨p, 0, none⟩ = some (.string (bs e.node)) := by rw [cell_of h2.f1.cl]; rfl
  have c1 : w2.cell? ⟨p, 1, none⟩ = some (.string (bs e.cls)) := by rw [cell_of h2.f1.cl]; rfl
  have c2 : w2.cell? ⟨p, 2, none⟩ = some (.string (bs e.key)) := by rw [cell_of h2.f1.cl]; rfl
  simp only [ptr, pFieldAddr_ptr, bindP_some, Nat.zero_add, ld1_ptr, c0, c1, c2]
  have eb : fBuild Try.prog 114 [(0, .string (bs e.node)), (1, .string (bs e.cls)), (2, .string (bs e.key))] = some (ekS (sgOf e)) := by kernel_rfl
  rw [eb]
  simp only [bindP_some]
  refine bindW_stN h2 (by simp [ekS, cSg]) (by simp [ekS, cSg]) (by simp) fun w3 h3 => ?_
  have ew : wr (Value.agg #[(.string ⟨#[]⟩), (.string ⟨#[]⟩), (.string ⟨#[]⟩)]).cells 0 (ekS (sgOf e)).cells.toList = (cSg (sgOf e)).toArray := by rfl
  rw [ew] at h3
  have cN : ldN 3 (.pointer (some ⟨q, 0, none⟩)) w3 = some (ekS (sgOf e)) := by rw [ldN_of h3.cl (by simp [cSg])]; rfl
  rw [cN]
  simp only [bindP_some]
  exact hK _ h3.drop.drop
theorem bnew_spec {n : Int} (h : Sat w0 L w) (h1 : 1 ≤ n) (h2 : n ≤ 65536) (hK : ∀ p w', Sat w0 (BoardI (ptr p) n 1 [] [] :: L) w' → K (.tuple #[ptr p, .int .i64 0]) w') : callP G13 [.int .i64 n] w K := by
  refine c13 ?_
  unfold F13
  have e1 : decide (n < 1) = false := by simp; omega
  have e2 : decide (n > 65536) = false := by simp; omega
  simp only [bLt_int, bGt_int, e1, e2, bindP_some, gd_false, Bool.not_false, stepM_true, stepG_true, pPick_false, ifB_false]
  refine eMakeMap_sat kI rowV h fun mr w1 g1 => ?_
  refine eMakeMap_sat ekS kI g1 fun mi w2 g2 => ?_
  obtain ⟨r1, es1, c1, ⟨rfl, _⟩, _⟩ := map_iff.1 g1
  obtain ⟨r2, es2, c2, ⟨rfl, _⟩, _⟩ := map_iff.1 g2
  have eb : fBuild Try.prog 110 [(0, .int .i64 n), (1, .int .i64 1), (2, .map (some r1)), (3, .map (some r2))] = some (.agg #[.int .i64 n, .int .i64 1, .map (some r1), .map (some r2)]) := by kernel_rfl
  rw [eb]
  simp only [bindP_some]
  refine eBox_sat g2 fun p w3 g3 => hK p w3 (board_iff.2 ⟨p, .map (some r1), .map (some r2), rfl, ?_⟩)
  exact g3.conv fun _ h => h.tail fun _ h => h.swap
theorem blen_spec (h : Sat w0 (BoardI v n next R I :: L) w) (hK : K (.int .i64 R.length) w) : callP G17 [v] w K := by
  refine c17 ?_
  unfold F17
  obtain ⟨p, mr, mi, rfl, hs⟩ := board_iff.1 h
  have c2 : w.cell? ⟨p, 2, none⟩ = some mr := by rw [cell_of hs.cl]; rfl
  simp only [ptr, pNil_ptr, pFieldAddr_ptr, bindP_some, Nat.zero_add, ld1_ptr, c2, lenM_map hs.f1]
  exact hK
end
end Go.Proofs.Gong

/- Bd4 -/
namespace Go.Proofs.Gong
open Go Go.Sx Go.Proofs
set_option maxRecDepth 100000
theorem KIr : KeyT Try.prog 3 kI := KeyT.int (by kernel_rfl)
section
variable {w0 w : World} {L : List HP} {K : Value → World → Prop} {v : Value} {n next : Int} {R : List (Int × Row)} {I : List (Sg × Int)}
theorem put_bspec {r : Row} (h : Sat w0 (BoardI v n next R I :: L) w) (hK : ∀ w', Sat w0 (BoardI v n next (aSet r.id r R) (aSet (sgOf r.e) r.id I) :: L) w' → K (.tuple #[]) w') : callP G66 [v, rowV r] w K := by
  refine c66 ?_
  unfold F66
  refine eBox_sat h fun q w1 h1 => ?_
  have e0 : (rowV r).cells = (cRow r).toArray := rfl
  rw [e0] at h1
  obtain ⟨p, mr, mi, rfl, hs⟩ := board_iff.1 h1.f1
  have hd := hs.drew
  have c2 : w1.drew.cell? ⟨p, 2, none⟩ = some mr := by rw [cell_of hd.cl]; rfl
  have hq := hd.f3
  have cq : w1.drew.cell? ⟨q, 0, none⟩ = some (kI r.id) := by rw [cell_of hq.cl]; rfl
  have cN : ldN 11 (.pointer (some ⟨q, 0, none⟩)) w1.drew = some (rowV r) := by rw [ldN_of hq.cl (by simp [cRow])]; rfl
  simp only [ptr, pNil_ptr, pFieldAddr_ptr, bindP_some, Nat.zero_add, ld1_ptr, c2, cq, cN]
  refine eMapSet_sat hd.f1 KIr um107 r.id r fun w2 h2 => ?_
  have h2 := h2.drew
  have hb := h2.f1
  have c3 : w2.drew.cell? ⟨p, 3, none⟩ = some mi := by rw [cell_of hb.cl]; rfl
  have hq := h2.f3
  have cq : w2.drew.cell? ⟨q, 0, none⟩ = some (kI r.id) := by rw [cell_of hq.cl]; rfl
  have cN : ldN 5 (.pointer (some ⟨q, 1, none⟩)) w2.drew = some (evV r.e) := by rw [ldN_of hq.cl (by simp [cRow])]; rfl
  simp only [pNil_ptr, pFieldAddr_ptr, bindP_some, Nat.zero_add, ld1_ptr, c3, cq, cN]
  refine of_spec h2 fun w3 h3 => ?_
  have hb := h3.f1
  have c3' : w3.cell? ⟨p, 3, none⟩ = some mi := by rw [cell_of hb.cl]; rfl
  have cq' : w3.cell? ⟨q, 0, none⟩ = some (kI r.id) := by rw [cell_of h3.f3.cl]; rfl
  refine ⟨⟨by rw [fok_true]; exact c3', by rw [fok_true]; exact cq'⟩, ?_⟩
  refine eMapSet_sat h3.f2 KS um108 (sgOf r.e) r.id fun w4 h4 => ?_
  refine hK _ (board_iff.2 ⟨p, mr, mi, rfl, ?_⟩)
  exact (h4.f3.drop.f2).conv fun _ h => h.tail fun _ h => h.swap
theorem take_bspec {r : Row} (h : Sat w0 (BoardI v n next R I :: L) w) (hK : ∀ w', Sat w0 (BoardI v n next (aDel r.id R) (aDel (sgOf r.e) I) :: L) w' → K (.tuple #[]) w') : callP G64 [v, rowV r] w K := by
  refine c64 ?_
  unfold F64
  refine eBox_sat h fun q w1 h1 => ?_
  have e0 : (rowV r).cells = (cRow r).toArray := rfl
  rw [e0] at h1
  obtain ⟨p, mr, mi, rfl, hs⟩ := board_iff.1 h1.f1
  have hd := hs.drew
  have c2 : w1.drew.cell? ⟨p, 2, none⟩ = some mr := by rw [cell_of hd.cl]; rfl
  have hq := hd.f3
  have cq : w1.drew.cell? ⟨q, 0, none⟩ = some (kI r.id) := by rw [cell_of hq.cl]; rfl
  simp only [ptr, pNil_ptr, pFieldAddr_ptr, bindP_some, Nat.zero_add, ld1_ptr, c2, cq]
  refine eDelete_sat hd.f1 KIr um107 r.id fun w2 h2 => ?_
  have h2 := h2.drew
  have hb := h2.f1
  have c3 : w2.drew.cell? ⟨p, 3, none⟩ = some mi := by rw [cell_of hb.cl]; rfl
  have hq := h2.f3
  have cN : ldN 5 (.pointer (some ⟨q, 1, none⟩)) w2.drew = some (evV r.e) := by rw [ldN_of hq.cl (by simp [cRow])]; rfl
  simp only [pNil_ptr, pFieldAddr_ptr, bindP_some, Nat.zero_add, ld1_ptr, c3, cN]
  refine of_spec h2 fun w3 h3 => ?_
  have hb := h3.f1
  have c3' : w3.cell? ⟨p, 3, none⟩ = some mi := by rw [cell_of hb.cl]; rfl
  refine ⟨by rw [fok_true]; exact c3', ?_⟩
  refine eDelete_sat h3.f2 KS um108 (sgOf r.e) fun w4 h4 => ?_
  refine hK _ (board_iff.2 ⟨p, mr, mi, rfl, ?_⟩)
  exact (h4.f3.drop.f2).conv fun _ h => h.tail fun _ h => h.swap
end
end Go.Proofs.Gong

/- Bd5 -/
namespace Go.Proofs.Gong
open Go Go.Sx Go.Proofs
set_option maxRecDepth 100000
def againP (r : Row) (e : Evt) (now : Int) : Row × Int :=
  if r.e.level = e.level then (⟨r.id, ⟨r.e.node, r.e.cls, r.e.key, r.e.level, e.text⟩, min (r.tally + 1) 1099511627776, r.first, max r.last now, r.acked, r.who⟩, 0) else
  if r.e.level < e.level then (⟨r.id, ⟨r.e.node, r.e.cls, r.e.key, e.level, e.text⟩, min (r.tally + 1) 1099511627776, r.first, max r.last now, false, []⟩, 2) else
  (⟨r.id, ⟨r.e.node, r.e.cls, r.e.key, e.level, e.text⟩, min (r.tally + 1) 1099511627776, r.first, max r.last now, r.acked, r.who⟩, 2)
section
variable {w0 w : World} {L : List HP} {K : Value → World → Prop} {r : Row}
theorem stR {p i : Nat} {c : Array Value} {y : Value} [OneV y] {k : World → Prop} (h : Sat w0 (Cl p c 33 :: L) w) (hi : i < c.size) {c' : Array Value} (hc : c.setIfInBounds i y = c') (hk : ∀ w', Sat w0 (Cl p c' 33 :: L) w' → k w') : bindW (st 1 (.pointer (some ⟨p, i, none⟩)) y w) k := by
  refine bindW_st h hi fun w9 h9 => ?_
  rw [hc] at h9
  exact hk _ h9
theorem cellN {p : Nat} {c : Array Value} {ty : TypeId} (h : Sat w0 L w) (hm : Cl p c ty ∈ L) : w.heap[p]? = some (.cells c ty (0, 0)) := by
  obtain ⟨A, B, rfl⟩ := List.append_of_mem hm
  exact (h.perm List.perm_middle).cl
theorem wr_all {c : Array Value} {l : List Value} (h : c.size = l.length) : wr c 0 l = l.toArray := by
  apply Array.toList_inj.1
  rw [wr_toList _ _ _ (by omega)]
  simp [h]
theorem cRow_len (x : Row) : (cRow x).length = 11 := rfl
theorem stRow {p : Nat} {x y : Row} {k : World → Prop} (h : Sat w0 (Cl p (cRow x).toArray 33 :: L) w) (hk : ∀ w', Sat w0 (Cl p (cRow y).toArray 33 :: L) w' → k w') : bindW (st 11 (.pointer (some ⟨p, 0, none⟩)) (rowV y) w) k := by
  have hc : (rowV y).cells = (cRow y).toArray := rfl
  refine bindW_stN h (by rw [hc]; rfl) (by rw [hc]; rfl) (by rw [List.size_toArray, cRow_len]; omega) fun w9 h9 => ?_
  rw [hc, wr_all (by simp [cRow_len])] at h9
  exact hk _ h9
def zeroR : Row := ⟨0, ⟨[], [], [], 0, []⟩, 0, 0, 0, false, []⟩
theorem zR : fZero Try.prog 33 = some (rowV zeroR) := z33
theorem ldR {p : Nat} {x : Row} {ty : TypeId} (h : Sat w0 L w) (hm : Cl p (cRow x).toArray ty ∈ L) : ldN 11 (.pointer (some ⟨p, 0, none⟩)) w = some (rowV x) := by
  rw [ldN_of (cellN h hm) (by rw [List.size_toArray, cRow_len]; omega)]; rfl
theorem again2_spec {p q o : Nat} {e : Evt} {x : Row} (h : Sat w0 (Cl p (cRow x).toArray 33 :: Cl o (cRow zeroR).toArray 33 :: Cl q (cEv e).toArray 31 :: L) w)
    (hK : ∀ w', Sat w0 L w' → K (.tuple #[rowV ⟨x.id, ⟨x.e.node, x.e.cls, x.e.key, e.level, x.e.text⟩, x.tally, x.first, x.last, x.acked, x.who⟩, .int .i64 2]) w') :
    F65_2 (.pointer (some ⟨p, 0, none⟩)) (.pointer (some ⟨q, 0, none⟩)) (.pointer (some ⟨o, 0, none⟩)) w K := by
  unfold F65_2 F65_2b
  have q3 : w.cell? ⟨q, 3, none⟩ = some (.int .i64 e.level) := by rw [cell_of h.f2.cl]; rfl
  simp only [pFieldAddr_ptr, bindP_some, Nat.zero_add, ld1_ptr, q3]
  refine stR (c' := (cRow ⟨x.id, ⟨x.e.node, x.e.cls, x.e.key, e.level, x.e.text⟩, x.tally, x.first, x.last, x.acked, x.who⟩).toArray) h (by rw [List.size_toArray, cRow_len]; omega) rfl fun w7 h7 => ?_
  rw [ldR h7 (x := ⟨x.id, ⟨x.e.node, x.e.cls, x.e.key, e.level, x.e.text⟩, x.tally, x.first, x.last, x.acked, x.who⟩) (p := p) (ty := 33) (by simp)]
  simp only [bindP_some]
  refine stRow (x := zeroR) h7.f1 fun w8 h8 => ?_
  rw [ldR h8 (x := ⟨x.id, ⟨x.e.node, x.e.cls, x.e.key, e.level, x.e.text⟩, x.tally, x.first, x.last, x.acked, x.who⟩) (p := o) (ty := 33) (by simp)]
  simp only [bindP_some]
  exact hK _ h8.drop.drop.drop
theorem again_spec {r : Row} {e : Evt} {now : Int} (hb : 0 ≤ r.tally ∧ r.tally ≤ 4611686018427387904) (h : Sat w0 L w) (hK : ∀ w', Sat w0 L w' → K (.tuple #[rowV (againP r e now).1, .int .i64 (againP r e now).2]) w') :
    callP G65 [rowV r, evV e, .int .i64 now] w K := by
  refine c65 ?_
  unfold F65 F65_1 F65_1b
  refine eBox_sat h fun p w1 h1 => ?_
  refine eBox_sat h1 fun q w2 h2 => ?_
  refine eAlloc_sat h2 zR fun o w3 h3 => ?_
  have e0 : (rowV r).cells = (cRow r).toArray := rfl
  have e1 : (evV e).cells = (cEv e).toArray := rfl
  have e2 : (rowV zeroR).cells = (cRow zeroR).toArray := rfl
  rw [e0, e1, e2] at h3
  have h4 := h3.f2
  have c6 : w3.cell? ⟨p, 6, none⟩ = some (.int .i64 r.tally) := by rw [cell_of h4.cl]; rfl
  have ea : bAdd (.int .i64 r.tally) (.int .i64 1) = some (.int .i64 (r.tally + 1)) := by rw [bAdd_int, wrap_id (by omega)]
  have em : pMin (.int .i64 (r.tally + 1)) (.int .i64 1099511627776) = some (.int .i64 (min (r.tally + 1) 1099511627776)) := by
    simp only [pMin]; congr 2; rw [Int.min_def]; split <;> split <;> omega
  simp only [ptr, pFieldAddr_ptr, bindP_some, Nat.zero_add, ld1_ptr, c6, ea, em]
  have ex : ∀ b : Int, pMax (.int .i64 r.last) (.int .i64 b) = some (.int .i64 (max r.last b)) := by
    intro b
    simp only [pMax]; congr 2; rw [Int.max_def]; split <;> split <;> omega
  have inst : ∀ n : Int, OneV (.int .i64 n) := fun _ => inferInstance
  refine stR (c' := (cRow ⟨r.id, r.e, min (r.tally + 1) 1099511627776, r.first, r.last, r.acked, r.who⟩).toArray) h4 (by rw [List.size_toArray, cRow_len]; omega) rfl fun w5 h5 => ?_
  have c8 : w5.cell? ⟨p, 8, none⟩ = some (.int .i64 r.last) := by rw [cell_of h5.cl]; rfl
  simp only [c8, bindP_some, ex]
  refine stR (c' := (cRow ⟨r.id, r.e, min (r.tally + 1) 1099511627776, r.first, max r.last now, r.acked, r.who⟩).toArray) h5 (by rw [List.size_toArray, cRow_len]; omega) rfl fun w6 h6 => ?_
  have q4 : w6.cell? ⟨q, 4, none⟩ = some (.string (bs e.text)) := by rw [cell_of h6.f2.cl]; rfl
  simp only [q4, bindP_some]
  refine stR (c' := (cRow ⟨r.id, ⟨r.e.node, r.e.cls, r.e.key, r.e.level, e.text⟩, min (r.tally + 1) 1099511627776, r.first, max r.last now, r.acked, r.who⟩).toArray) h6 (by rw [List.size_toArray, cRow_len]; omega) rfl fun w7 h7 => ?_
  have c4 : w7.cell? ⟨p, 4, none⟩ = some (.int .i64 r.e.level) := by rw [cell_of h7.cl]; rfl
  have q3 : w7.cell? ⟨q, 3, none⟩ = some (.int .i64 e.level) := by rw [cell_of h7.f2.cl]; rfl
  simp only [c4, q3, bindP_some, bEq_int]
  unfold againP at hK
  by_cases g1 : r.e.level = e.level
  · rw [if_pos g1] at hK
    have d : decide (r.e.level = e.level) = true := by simp [g1]
    simp only [d, ifB_true, ldR h7 (x := ⟨r.id, ⟨r.e.node, r.e.cls, r.e.key, r.e.level, e.text⟩, min (r.tally + 1) 1099511627776, r.first, max r.last now, r.acked, r.who⟩) (p := p) (ty := 33) (by simp), bindP_some]
    refine stRow (x := zeroR) h7.f1 fun w8 h8 => ?_
    rw [ldR h8 (x := ⟨r.id, ⟨r.e.node, r.e.cls, r.e.key, r.e.level, e.text⟩, min (r.tally + 1) 1099511627776, r.first, max r.last now, r.acked, r.who⟩) (p := o) (ty := 33) (by simp)]
    simp only [bindP_some]
    exact hK _ h8.drop.drop.drop
  · rw [if_neg g1] at hK
    have d : decide (r.e.level = e.level) = false := by simp [g1]
    simp only [d, ifB_false, q3, c4, bindP_some, bGt_int]
    by_cases g2 : r.e.level < e.level
    · rw [if_pos g2] at hK
      have d2 : decide (e.level > r.e.level) = true := by simp [g2]
      simp only [d2, ifB_true]
      refine stR (c' := (cRow ⟨r.id, ⟨r.e.node, r.e.cls, r.e.key, r.e.level, e.text⟩, min (r.tally + 1) 1099511627776, r.first, max r.last now, false, r.who⟩).toArray) h7 (by rw [List.size_toArray, cRow_len]; omega) rfl fun w8 h8 => ?_
      rw [nil_b]
      refine stR (c' := (cRow ⟨r.id, ⟨r.e.node, r.e.cls, r.e.key, r.e.level, e.text⟩, min (r.tally + 1) 1099511627776, r.first, max r.last now, false, []⟩).toArray) h8 (by rw [List.size_toArray, cRow_len]; omega) rfl fun w9 h9 => ?_
      exact again2_spec h9 hK
    · rw [if_neg g2] at hK
      have d2 : decide (e.level > r.e.level) = false := by simp; omega
      simp only [d2, ifB_false]
      exact again2_spec h7 hK
end
end Go.Proofs.Gong

/- Bd6 -/
namespace Go.Proofs.Gong
open Go Go.Sx Go.Proofs
set_option maxRecDepth 100000
attribute [local irreducible] fBuild fLook fZero eqv bEqv Cl MapH LsH SlH ld1 ldN st callP eBox eAlloc lenM lenL eMapSet eDelete eAppend eBuildSl eRange eNext
def raiseP (n next : Int) (R : List (Int × Row)) (I : List (Sg × Int)) (e : Evt) (now : Int) : (Row × Int × Int) × Int × List (Int × Row) × List (Sg × Int) :=
  if okE e = false then ((zeroR, 0, 180), next, R, I) else
  if timeP now = false then ((zeroR, 0, 1), next, R, I) else
  match aGet (sgOf e) I with
  | none => if e.level = 0 then ((zeroR, 0, 5), next, R, I) else if n ≤ (R.length : Int) then ((zeroR, 0, 200), next, R, I) else
    ((⟨next, e, 1, now, now, false, []⟩, 1, 0), next + 1, aSet next ⟨next, e, 1, now, now, false, []⟩ R, aSet (sgOf e) next I)
  | some id => if e.level = 0 then (((aGet id R).getD zeroR, 3, 0), next, aDel ((aGet id R).getD zeroR).id R, aDel (sgOf ((aGet id R).getD zeroR).e) I) else
    (((againP ((aGet id R).getD zeroR) e now).1, (againP ((aGet id R).getD zeroR) e now).2, 0), next,
      aSet (againP ((aGet id R).getD zeroR) e now).1.id (againP ((aGet id R).getD zeroR) e now).1 R, aSet (sgOf (againP ((aGet id R).getD zeroR) e now).1.e) (againP ((aGet id R).getD zeroR) e now).1.id I)
theorem elimR (o : Option Row) : o.elim (rowV zeroR) rowV = rowV (o.getD zeroR) := by cases o <;> rfl
section
variable {w0 w : World} {L : List HP} {K : Value → World → Prop} {v : Value} {n next : Int} {R : List (Int × Row)} {I : List (Sg × Int)}
theorem raise2_spec {p : Nat} {r : Row} {what : Int} (h : Sat w0 (Cl p (cRow r).toArray 33 :: BoardI v n next R I :: L) w)
    (hK : ∀ w', Sat w0 (BoardI v n next (aSet r.id r R) (aSet (sgOf r.e) r.id I) :: L) w' → K (.tuple #[rowV r, .int .i64 what, .int .i64 0]) w') :
    F16_2 v (.pointer (some ⟨p, 0, none⟩)) (.int .i64 what) w K := by
  unfold F16_2 F16_2b
  (repeat (first
 | (simp (disch := omega) only [evA, evB, bAdd_i64, bSub_i64, ptr, Nat.zero_add, Bool.not_true, Bool.not_false, Option.isNone_some, Option.isNone_none, Option.isSome_some, Option.isSome_none, decide_true, decide_false, eq_self, true_and, and_assoc])
 | ((with_reducible apply go_ld1 h))
 | ((with_reducible apply go_ldA h); (rfl))
 | ((with_reducible apply go_ldN h))
 | ((with_reducible apply go_st h); intro _ h)
 | ((with_reducible apply go_stA h); (rfl); (rfl); (first | rfl | simp [OneV.o]); intro _ h)
 | ((with_reducible apply go_stN h); (rfl); (first | rfl | simp [OneV.o]); intro _ h)
 | ((with_reducible apply go_box h); rfl; intro _ _ h)
 | ((with_reducible apply go_rd h); (rfl))
 | ((with_reducible apply go_rdN h); (rfl))
 | ((with_reducible apply go_rlen h); (rfl))
 | ((with_reducible apply go_lenL h))
 | ((with_reducible apply go_ix h); (omega))
 | ((with_reducible apply go_elN h); (case hi => omega))
 | ((with_reducible apply go_fa h); (omega); (omega))
 | ((with_reducible apply go_f1 h); (case hi => omega); (case hx => exact inferInstance))
 | ((with_reducible apply go_rf1 h); (case hi => omega); (case hx => exact inferInstance); (case hv => rfl))
 | ((with_reducible apply go_rel h); (case hi => omega); (case hv => rfl))
))
  refine put_bspec (r := r) (h.front (by repeat (first | exact .here | apply Fnt.there))) fun w h => ?_
  (repeat (first
 | (simp (disch := omega) only [evA, evB, bAdd_i64, bSub_i64, ptr, Nat.zero_add, Bool.not_true, Bool.not_false, Option.isNone_some, Option.isNone_none, Option.isSome_some, Option.isSome_none, decide_true, decide_false, eq_self, true_and, and_assoc])
 | ((with_reducible apply go_ld1 h))
 | ((with_reducible apply go_ldA h); (rfl))
 | ((with_reducible apply go_ldN h))
 | ((with_reducible apply go_st h); intro _ h)
 | ((with_reducible apply go_stA h); (rfl); (rfl); (first | rfl | simp [OneV.o]); intro _ h)
 | ((with_reducible apply go_stN h); (rfl); (first | rfl | simp [OneV.o]); intro _ h)
 | ((with_reducible apply go_box h); rfl; intro _ _ h)
 | ((with_reducible apply go_rd h); (rfl))
 | ((with_reducible apply go_rdN h); (rfl))
 | ((with_reducible apply go_rlen h); (rfl))
 | ((with_reducible apply go_lenL h))
 | ((with_reducible apply go_ix h); (omega))
 | ((with_reducible apply go_elN h); (case hi => omega))
 | ((with_reducible apply go_fa h); (omega); (omega))
 | ((with_reducible apply go_f1 h); (case hi => omega); (case hx => exact inferInstance))
 | ((with_reducible apply go_rf1 h); (case hi => omega); (case hx => exact inferInstance); (case hv => rfl))
 | ((with_reducible apply go_rel h); (case hi => omega); (case hv => rfl))
))
  exact hK _ (h.get (by (repeat (first | exact .done | (refine .pick (by repeat (first | exact .here | apply Fnt.there)) ?_) | refine .skip ?_))))
theorem raise_spec {e : Evt} {now : Int} (he : e.fits) (hn : 0 ≤ next ∧ next ≤ 4611686018427387904) (hR : ∀ id r, aGet id R = some r → 0 ≤ r.tally ∧ r.tally ≤ 4611686018427387904) (h : Sat w0 (BoardI v n next R I :: L) w)
    (hK : ∀ w', Sat w0 (BoardI v n (raiseP n next R I e now).2.1 (raiseP n next R I e now).2.2.1 (raiseP n next R I e now).2.2.2 :: L) w' →
      K (.tuple #[rowV (raiseP n next R I e now).1.1, .int .i64 (raiseP n next R I e now).1.2.1, .int .i64 (raiseP n next R I e now).1.2.2]) w') :
    callP G16 [v, evV e, .int .i64 now] w K := by
  refine c16 ?_
  unfold F16 F16_1 F16_1b
  replace h := board_iff.1 h
  obtain ⟨p, mr, mi, rfl, h⟩ := h
  (repeat (first
 | (simp (disch := omega) only [evA, evB, bAdd_i64, bSub_i64, ptr, Nat.zero_add, Bool.not_true, Bool.not_false, Option.isNone_some, Option.isNone_none, Option.isSome_some, Option.isSome_none, decide_true, decide_false, eq_self, true_and, and_assoc])
 | ((with_reducible apply go_ld1 h))
 | ((with_reducible apply go_ldA h); (rfl))
 | ((with_reducible apply go_ldN h))
 | ((with_reducible apply go_st h); intro _ h)
 | ((with_reducible apply go_stA h); (rfl); (rfl); (first | rfl | simp [OneV.o]); intro _ h)
 | ((with_reducible apply go_stN h); (rfl); (first | rfl | simp [OneV.o]); intro _ h)
 | ((with_reducible apply go_box h); rfl; intro _ _ h)
 | ((with_reducible apply go_alloc h); (first | exact z33); rfl; intro _ _ h)
 | ((with_reducible apply go_rd h); (rfl))
 | ((with_reducible apply go_rdN h); (rfl))
 | ((with_reducible apply go_rlen h); (rfl))
 | ((with_reducible apply go_lenL h))
 | ((with_reducible apply go_ix h); (omega))
 | ((with_reducible apply go_elN h); (case hi => omega))
 | ((with_reducible apply go_fa h); (omega); (omega))
 | ((with_reducible apply go_f1 h); (case hi => omega); (case hx => exact inferInstance))
 | ((with_reducible apply go_rf1 h); (case hi => omega); (case hx => exact inferInstance); (case hv => rfl))
 | ((with_reducible apply go_rel h); (case hi => omega); (case hv => rfl))
))
  refine ncheck_spec (e := e) he h fun w h => ?_
  unfold raiseP at hK
  unfold chkE
  have close : ∀ {next : Int} {w : World} {L' : List HP}, Sat w0 L' w → Get L' (Cl p #[.int .i64 n, .int .i64 next, mr, mi] 110 :: MapH kI rowV mr R :: MapH ekS kI mi I :: L) → Sat w0 (BoardI (ptr p) n next R I :: L) w := fun h g => board_iff.2 ⟨p, mr, mi, rfl, h.get g⟩
  by_cases g1 : okE e = true
  · simp only [g1, if_true, Bool.true_eq_false, if_false] at hK ⊢
    (repeat (first
 | (simp (disch := omega) only [evA, evB, bAdd_i64, bSub_i64, ptr, Nat.zero_add, Bool.not_true, Bool.not_false, Option.isNone_some, Option.isNone_none, Option.isSome_some, Option.isSome_none, decide_true, decide_false, eq_self, true_and, and_assoc])
 | (refine go_some (fb33 ..) ?_)
 | ((with_reducible apply go_ld1 h))
 | ((with_reducible apply go_ldA h); (rfl))
 | ((with_reducible apply go_ldN h))
 | ((with_reducible apply go_st h); intro _ h)
 | ((with_reducible apply go_stA h); (rfl); (rfl); (first | rfl | simp [OneV.o]); intro _ h)
 | ((with_reducible apply go_stN h); (rfl); (first | rfl | simp [OneV.o]); intro _ h)
 | ((with_reducible apply go_box h); rfl; intro _ _ h)
 | ((with_reducible apply go_rd h); (rfl))
 | ((with_reducible apply go_rdN h); (rfl))
 | ((with_reducible apply go_rlen h); (rfl))
 | ((with_reducible apply go_lenL h))
 | ((with_reducible apply go_ix h); (omega))
 | ((with_reducible apply go_elN h); (case hi => omega))
 | ((with_reducible apply go_fa h); (omega); (omega))
 | ((with_reducible apply go_f1 h); (case hi => omega); (case hx => exact inferInstance))
 | ((with_reducible apply go_rf1 h); (case hi => omega); (case hx => exact inferInstance); (case hv => rfl))
 | ((with_reducible apply go_rel h); (case hi => omega); (case hv => rfl))
))
    refine bistime_spec ?_
    cases g2 : timeP now
    · simp only [g2, if_true] at hK
      (repeat (first
 | (simp (disch := omega) only [evA, evB, bAdd_i64, bSub_i64, ptr, Nat.zero_add, Bool.not_true, Bool.not_false, Option.isNone_some, Option.isNone_none, Option.isSome_some, Option.isSome_none, decide_true, decide_false, eq_self, true_and, and_assoc])
 | (refine go_some (fb33 ..) ?_)
 | ((with_reducible apply go_ld1 h))
 | ((with_reducible apply go_ldA h); (rfl))
 | ((with_reducible apply go_ldN h))
 | ((with_reducible apply go_st h); intro _ h)
 | ((with_reducible apply go_stA h); (rfl); (rfl); (first | rfl | simp [OneV.o]); intro _ h)
 | ((with_reducible apply go_stN h); (rfl); (first | rfl | simp [OneV.o]); intro _ h)
 | ((with_reducible apply go_box h); rfl; intro _ _ h)
 | ((with_reducible apply go_rd h); (rfl))
 | ((with_reducible apply go_rdN h); (rfl))
 | ((with_reducible apply go_rlen h); (rfl))
 | ((with_reducible apply go_lenL h))
 | ((with_reducible apply go_ix h); (omega))
 | ((with_reducible apply go_elN h); (case hi => omega))
 | ((with_reducible apply go_fa h); (omega); (omega))
 | ((with_reducible apply go_f1 h); (case hi => omega); (case hx => exact inferInstance))
 | ((with_reducible apply go_rf1 h); (case hi => omega); (case hx => exact inferInstance); (case hv => rfl))
 | ((with_reducible apply go_rel h); (case hi => omega); (case hv => rfl))
))
      exact hK _ (close h (by (repeat (first | exact .done | (refine .pick (by repeat (first | exact .here | apply Fnt.there)) ?_) | refine .skip ?_))))
    · simp only [g2, Bool.true_eq_false, if_false] at hK
      (repeat (first
 | (simp (disch := omega) only [evA, evB, bAdd_i64, bSub_i64, ptr, Nat.zero_add, Bool.not_true, Bool.not_false, Option.isNone_some, Option.isNone_none, Option.isSome_some, Option.isSome_none, decide_true, decide_false, eq_self, true_and, and_assoc])
 | ((with_reducible apply go_ld1 h))
 | ((with_reducible apply go_ldA h); (rfl))
 | ((with_reducible apply go_ldN h))
 | ((with_reducible apply go_st h); intro _ h)
 | ((with_reducible apply go_stA h); (rfl); (rfl); (first | rfl | simp [OneV.o]); intro _ h)
 | ((with_reducible apply go_stN h); (rfl); (first | rfl | simp [OneV.o]); intro _ h)
 | ((with_reducible apply go_box h); rfl; intro _ _ h)
 | ((with_reducible apply go_rd h); (rfl))
 | ((with_reducible apply go_rdN h); (rfl))
 | ((with_reducible apply go_rlen h); (rfl))
 | ((with_reducible apply go_lenL h))
 | ((with_reducible apply go_ix h); (omega))
 | ((with_reducible apply go_elN h); (case hi => omega))
 | ((with_reducible apply go_fa h); (omega); (omega))
 | ((with_reducible apply go_f1 h); (case hi => omega); (case hx => exact inferInstance))
 | ((with_reducible apply go_rf1 h); (case hi => omega); (case hx => exact inferInstance); (case hv => rfl))
 | ((with_reducible apply go_rel h); (case hi => omega); (case hv => rfl))
))
      refine of_spec (e := e) h.drew fun w h => ?_
      (repeat (first
 | (simp (disch := omega) only [evA, evB, bAdd_i64, bSub_i64, ptr, Nat.zero_add, Bool.not_true, Bool.not_false, Option.isNone_some, Option.isNone_none, Option.isSome_some, Option.isSome_none, decide_true, decide_false, eq_self, true_and, and_assoc])
 | ((with_reducible apply go_ld1 h))
 | ((with_reducible apply go_ldA h); (rfl))
 | ((with_reducible apply go_ldN h))
 | ((with_reducible apply go_st h); intro _ h)
 | ((with_reducible apply go_stA h); (rfl); (rfl); (first | rfl | simp [OneV.o]); intro _ h)
 | ((with_reducible apply go_stN h); (rfl); (first | rfl | simp [OneV.o]); intro _ h)
 | ((with_reducible apply go_box h); rfl; intro _ _ h)
 | ((with_reducible apply go_rd h); (rfl))
 | ((with_reducible apply go_rdN h); (rfl))
 | ((with_reducible apply go_rlen h); (rfl))
 | ((with_reducible apply go_lenL h))
 | ((with_reducible apply go_ix h); (omega))
 | ((with_reducible apply go_elN h); (case hi => omega))
 | ((with_reducible apply go_fa h); (omega); (omega))
 | ((with_reducible apply go_f1 h); (case hi => omega); (case hx => exact inferInstance))
 | ((with_reducible apply go_rf1 h); (case hi => omega); (case hx => exact inferInstance); (case hv => rfl))
 | ((with_reducible apply go_rel h); (case hi => omega); (case hv => rfl))
))
      refine go_look2 h (by repeat (first | exact .here | apply Fnt.there)) KS um108 z3 (sgOf e) ?_
      (repeat (first
 | (simp (disch := omega) only [evA, evB, bAdd_i64, bSub_i64, ptr, Nat.zero_add, Bool.not_true, Bool.not_false, Option.isNone_some, Option.isNone_none, Option.isSome_some, Option.isSome_none, decide_true, decide_false, eq_self, true_and, and_assoc])
 | ((with_reducible apply go_ld1 h))
 | ((with_reducible apply go_ldA h); (rfl))
 | ((with_reducible apply go_ldN h))
 | ((with_reducible apply go_st h); intro _ h)
 | ((with_reducible apply go_stA h); (rfl); (rfl); (first | rfl | simp [OneV.o]); intro _ h)
 | ((with_reducible apply go_stN h); (rfl); (first | rfl | simp [OneV.o]); intro _ h)
 | ((with_reducible apply go_box h); rfl; intro _ _ h)
 | ((with_reducible apply go_rd h); (rfl))
 | ((with_reducible apply go_rdN h); (rfl))
 | ((with_reducible apply go_rlen h); (rfl))
 | ((with_reducible apply go_lenL h))
 | ((with_reducible apply go_ix h); (omega))
 | ((with_reducible apply go_elN h); (case hi => omega))
 | ((with_reducible apply go_fa h); (omega); (omega))
 | ((with_reducible apply go_f1 h); (case hi => omega); (case hx => exact inferInstance))
 | ((with_reducible apply go_rf1 h); (case hi => omega); (case hx => exact inferInstance); (case hv => rfl))
 | ((with_reducible apply go_rel h); (case hi => omega); (case hv => rfl))
))
      cases g3 : aGet (sgOf e) I
      · simp only [g3] at hK
        simp only [Option.isSome_none, Option.elim]
        by_cases g4 : e.level = 0
        · simp only [g4, if_true] at hK
          (repeat (first
 | (simp (disch := omega) only [evA, evB, bAdd_i64, bSub_i64, ptr, Nat.zero_add, Bool.not_true, Bool.not_false, Option.isNone_some, Option.isNone_none, Option.isSome_some, Option.isSome_none, decide_true, decide_false, eq_self, true_and, and_assoc, g4])
 | (refine go_some (fb33 ..) ?_)
 | ((with_reducible apply go_ld1 h))
 | ((with_reducible apply go_ldA h); (rfl))
 | ((with_reducible apply go_ldN h))
 | ((with_reducible apply go_st h); intro _ h)
 | ((with_reducible apply go_stA h); (rfl); (rfl); (first | rfl | simp [OneV.o]); intro _ h)
 | ((with_reducible apply go_stN h); (rfl); (first | rfl | simp [OneV.o]); intro _ h)
 | ((with_reducible apply go_box h); rfl; intro _ _ h)
 | ((with_reducible apply go_rd h); (rfl))
 | ((with_reducible apply go_rdN h); (rfl))
 | ((with_reducible apply go_rlen h); (rfl))
 | ((with_reducible apply go_lenL h))
 | ((with_reducible apply go_ix h); (omega))
 | ((with_reducible apply go_elN h); (case hi => omega))
 | ((with_reducible apply go_fa h); (omega); (omega))
 | ((with_reducible apply go_f1 h); (case hi => omega); (case hx => exact inferInstance))
 | ((with_reducible apply go_rf1 h); (case hi => omega); (case hx => exact inferInstance); (case hv => rfl))
 | ((with_reducible apply go_rel h); (case hi => omega); (case hv => rfl))
))
          exact hK _ (close h (by (repeat (first | exact .done | (refine .pick (by repeat (first | exact .here | apply Fnt.there)) ?_) | refine .skip ?_))))
        · simp only [g4, if_false] at hK
          (repeat (first
 | (simp (disch := omega) only [evA, evB, bAdd_i64, bSub_i64, ptr, Nat.zero_add, Bool.not_true, Bool.not_false, Option.isNone_some, Option.isNone_none, Option.isSome_some, Option.isSome_none, decide_true, decide_false, eq_self, true_and, and_assoc, g4])
 | ((with_reducible apply go_ld1 h))
 | ((with_reducible apply go_ldA h); (rfl))
 | ((with_reducible apply go_ldN h))
 | ((with_reducible apply go_st h); intro _ h)
 | ((with_reducible apply go_stA h); (rfl); (rfl); (first | rfl | simp [OneV.o]); intro _ h)
 | ((with_reducible apply go_stN h); (rfl); (first | rfl | simp [OneV.o]); intro _ h)
 | ((with_reducible apply go_box h); rfl; intro _ _ h)
 | ((with_reducible apply go_rd h); (rfl))
 | ((with_reducible apply go_rdN h); (rfl))
 | ((with_reducible apply go_rlen h); (rfl))
 | ((with_reducible apply go_lenL h))
 | ((with_reducible apply go_ix h); (omega))
 | ((with_reducible apply go_elN h); (case hi => omega))
 | ((with_reducible apply go_fa h); (omega); (omega))
 | ((with_reducible apply go_f1 h); (case hi => omega); (case hx => exact inferInstance))
 | ((with_reducible apply go_rf1 h); (case hi => omega); (case hx => exact inferInstance); (case hv => rfl))
 | ((with_reducible apply go_rel h); (case hi => omega); (case hv => rfl))
))
          refine go_lenM h (by repeat (first | exact .here | apply Fnt.there)) ?_
          (repeat (first
 | (simp (disch := omega) only [evA, evB, bAdd_i64, bSub_i64, ptr, Nat.zero_add, Bool.not_true, Bool.not_false, Option.isNone_some, Option.isNone_none, Option.isSome_some, Option.isSome_none, decide_true, decide_false, eq_self, true_and, and_assoc])
 | ((with_reducible apply go_ld1 h))
 | ((with_reducible apply go_ldA h); (rfl))
 | ((with_reducible apply go_ldN h))
 | ((with_reducible apply go_st h); intro _ h)
 | ((with_reducible apply go_stA h); (rfl); (rfl); (first | rfl | simp [OneV.o]); intro _ h)
 | ((with_reducible apply go_stN h); (rfl); (first | rfl | simp [OneV.o]); intro _ h)
 | ((with_reducible apply go_box h); rfl; intro _ _ h)
 | ((with_reducible apply go_rd h); (rfl))
 | ((with_reducible apply go_rdN h); (rfl))
 | ((with_reducible apply go_rlen h); (rfl))
 | ((with_reducible apply go_lenL h))
 | ((with_reducible apply go_ix h); (omega))
 | ((with_reducible apply go_elN h); (case hi => omega))
 | ((with_reducible apply go_fa h); (omega); (omega))
 | ((with_reducible apply go_f1 h); (case hi => omega); (case hx => exact inferInstance))
 | ((with_reducible apply go_rf1 h); (case hi => omega); (case hx => exact inferInstance); (case hv => rfl))
 | ((with_reducible apply go_rel h); (case hi => omega); (case hv => rfl))
))
          by_cases g5 : n ≤ (R.length : Int)
          · simp only [g5, if_true] at hK
            have d5 : decide ((R.length : Int) ≥ n) = true := by simp [g5]
            simp only [d5]
            (repeat (first
 | (simp (disch := omega) only [evA, evB, bAdd_i64, bSub_i64, ptr, Nat.zero_add, Bool.not_true, Bool.not_false, Option.isNone_some, Option.isNone_none, Option.isSome_some, Option.isSome_none, decide_true, decide_false, eq_self, true_and, and_assoc])
 | (refine go_some (fb33 ..) ?_)
 | ((with_reducible apply go_ld1 h))
 | ((with_reducible apply go_ldA h); (rfl))
 | ((with_reducible apply go_ldN h))
 | ((with_reducible apply go_st h); intro _ h)
 | ((with_reducible apply go_stA h); (rfl); (rfl); (first | rfl | simp [OneV.o]); intro _ h)
 | ((with_reducible apply go_stN h); (rfl); (first | rfl | simp [OneV.o]); intro _ h)
 | ((with_reducible apply go_box h); rfl; intro _ _ h)
 | ((with_reducible apply go_rd h); (rfl))
 | ((with_reducible apply go_rdN h); (rfl))
 | ((with_reducible apply go_rlen h); (rfl))
 | ((with_reducible apply go_lenL h))
 | ((with_reducible apply go_ix h); (omega))
 | ((with_reducible apply go_elN h); (case hi => omega))
 | ((with_reducible apply go_fa h); (omega); (omega))
 | ((with_reducible apply go_f1 h); (case hi => omega); (case hx => exact inferInstance))
 | ((with_reducible apply go_rf1 h); (case hi => omega); (case hx => exact inferInstance); (case hv => rfl))
 | ((with_reducible apply go_rel h); (case hi => omega); (case hv => rfl))
))
            exact hK _ (close h (by (repeat (first | exact .done | (refine .pick (by repeat (first | exact .here | apply Fnt.there)) ?_) | refine .skip ?_))))
          · simp only [g5, if_false] at hK
            have d5 : decide ((R.length : Int) ≥ n) = false := by simp; omega
            simp only [d5]
            (repeat (first
 | (simp (disch := omega) only [evA, evB, bAdd_i64, bSub_i64, ptr, Nat.zero_add, Bool.not_true, Bool.not_false, Option.isNone_some, Option.isNone_none, Option.isSome_some, Option.isSome_none, decide_true, decide_false, eq_self, true_and, and_assoc])
 | (refine go_some (fb33_0_1_2_3_4 ..) ?_)
 | ((with_reducible apply go_ld1 h))
 | ((with_reducible apply go_ldA h); (rfl))
 | ((with_reducible apply go_ldN h))
 | ((with_reducible apply go_st h); intro _ h)
 | ((with_reducible apply go_stA h); (rfl); (rfl); (first | rfl | simp [OneV.o]); intro _ h)
 | ((with_reducible apply go_stN h); (rfl); (first | rfl | simp [OneV.o]); intro _ h)
 | ((with_reducible apply go_box h); rfl; intro _ _ h)
 | ((with_reducible apply go_rd h); (rfl))
 | ((with_reducible apply go_rdN h); (rfl))
 | ((with_reducible apply go_rlen h); (rfl))
 | ((with_reducible apply go_lenL h))
 | ((with_reducible apply go_ix h); (omega))
 | ((with_reducible apply go_elN h); (case hi => omega))
 | ((with_reducible apply go_fa h); (omega); (omega))
 | ((with_reducible apply go_f1 h); (case hi => omega); (case hx => exact inferInstance))
 | ((with_reducible apply go_rf1 h); (case hi => omega); (case hx => exact inferInstance); (case hv => rfl))
 | ((with_reducible apply go_rel h); (case hi => omega); (case hv => rfl))
))
            refine raise2_spec (r := ⟨next, e, 1, now, now, false, []⟩) (n := n) (next := next + 1) (R := R) (I := I) ?_ fun w h => hK w h
            refine Sat.f1 (board_iff.2 ⟨p, mr, mi, rfl, ?_⟩)
            exact h.get (by (repeat (first | exact .done | (refine .pick (by repeat (first | exact .here | apply Fnt.there)) ?_) | refine .skip ?_)))
      · rename_i id
        simp only [g3] at hK
        simp only [Option.isSome_some, Option.elim]
        by_cases g4 : e.level = 0
        · simp only [g4, if_true] at hK
          (repeat (first
 | (simp (disch := omega) only [evA, evB, bAdd_i64, bSub_i64, ptr, Nat.zero_add, Bool.not_true, Bool.not_false, Option.isNone_some, Option.isNone_none, Option.isSome_some, Option.isSome_none, decide_true, decide_false, eq_self, true_and, and_assoc, g4])
 | ((with_reducible apply go_ld1 h))
 | ((with_reducible apply go_ldA h); (rfl))
 | ((with_reducible apply go_ldN h))
 | ((with_reducible apply go_st h); intro _ h)
 | ((with_reducible apply go_stA h); (rfl); (rfl); (first | rfl | simp [OneV.o]); intro _ h)
 | ((with_reducible apply go_stN h); (rfl); (first | rfl | simp [OneV.o]); intro _ h)
 | ((with_reducible apply go_box h); rfl; intro _ _ h)
 | ((with_reducible apply go_rd h); (rfl))
 | ((with_reducible apply go_rdN h); (rfl))
 | ((with_reducible apply go_rlen h); (rfl))
 | ((with_reducible apply go_lenL h))
 | ((with_reducible apply go_ix h); (omega))
 | ((with_reducible apply go_elN h); (case hi => omega))
 | ((with_reducible apply go_fa h); (omega); (omega))
 | ((with_reducible apply go_f1 h); (case hi => omega); (case hx => exact inferInstance))
 | ((with_reducible apply go_rf1 h); (case hi => omega); (case hx => exact inferInstance); (case hv => rfl))
 | ((with_reducible apply go_rel h); (case hi => omega); (case hv => rfl))
))
          refine go_look1 h (by repeat (first | exact .here | apply Fnt.there)) KIr um107 zR id ?_
          simp only [elimR]
          (repeat (first
 | (simp (disch := omega) only [evA, evB, bAdd_i64, bSub_i64, ptr, Nat.zero_add, Bool.not_true, Bool.not_false, Option.isNone_some, Option.isNone_none, Option.isSome_some, Option.isSome_none, decide_true, decide_false, eq_self, true_and, and_assoc])
 | ((with_reducible apply go_ld1 h))
 | ((with_reducible apply go_ldA h); (rfl))
 | ((with_reducible apply go_ldN h))
 | ((with_reducible apply go_st h); intro _ h)
 | ((with_reducible apply go_stA h); (rfl); (rfl); (first | rfl | simp [OneV.o]); intro _ h)
 | ((with_reducible apply go_stN h); (rfl); (first | rfl | simp [OneV.o]); intro _ h)
 | ((with_reducible apply go_box h); rfl; intro _ _ h)
 | ((with_reducible apply go_rd h); (rfl))
 | ((with_reducible apply go_rdN h); (rfl))
 | ((with_reducible apply go_rlen h); (rfl))
 | ((with_reducible apply go_lenL h))
 | ((with_reducible apply go_ix h); (omega))
 | ((with_reducible apply go_elN h); (case hi => omega))
 | ((with_reducible apply go_fa h); (omega); (omega))
 | ((with_reducible apply go_f1 h); (case hi => omega); (case hx => exact inferInstance))
 | ((with_reducible apply go_rf1 h); (case hi => omega); (case hx => exact inferInstance); (case hv => rfl))
 | ((with_reducible apply go_rel h); (case hi => omega); (case hv => rfl))
))
          refine take_bspec (L := Cl _ (cRow ((aGet id R).getD zeroR)).toArray 33 :: L) (n := n) (next := next) (R := R) (I := I) (r := (aGet id R).getD zeroR) (board_iff.2 ⟨p, mr, mi, rfl, h.get (by (repeat (first | exact .done | (refine .pick (by repeat (first | exact .here | apply Fnt.there)) ?_) | refine .skip ?_)))⟩) fun w h => ?_
          (repeat (first
 | (simp (disch := omega) only [evA, evB, bAdd_i64, bSub_i64, ptr, Nat.zero_add, Bool.not_true, Bool.not_false, Option.isNone_some, Option.isNone_none, Option.isSome_some, Option.isSome_none, decide_true, decide_false, eq_self, true_and, and_assoc])
 | ((with_reducible apply go_ld1 h))
 | ((with_reducible apply go_ldA h); (rfl))
 | ((with_reducible apply go_ldN h))
 | ((with_reducible apply go_st h); intro _ h)
 | ((with_reducible apply go_stA h); (rfl); (rfl); (first | rfl | simp [OneV.o]); intro _ h)
 | ((with_reducible apply go_stN h); (rfl); (first | rfl | simp [OneV.o]); intro _ h)
 | ((with_reducible apply go_box h); rfl; intro _ _ h)
 | ((with_reducible apply go_rd h); (rfl))
 | ((with_reducible apply go_rdN h); (rfl))
 | ((with_reducible apply go_rlen h); (rfl))
 | ((with_reducible apply go_lenL h))
 | ((with_reducible apply go_ix h); (omega))
 | ((with_reducible apply go_elN h); (case hi => omega))
 | ((with_reducible apply go_fa h); (omega); (omega))
 | ((with_reducible apply go_f1 h); (case hi => omega); (case hx => exact inferInstance))
 | ((with_reducible apply go_rf1 h); (case hi => omega); (case hx => exact inferInstance); (case hv => rfl))
 | ((with_reducible apply go_rel h); (case hi => omega); (case hv => rfl))
))
          exact hK _ (h.get (by (repeat (first | exact .done | (refine .pick (by repeat (first | exact .here | apply Fnt.there)) ?_) | refine .skip ?_))))
        · simp only [g4, if_false] at hK
          (repeat (first
 | (simp (disch := omega) only [evA, evB, bAdd_i64, bSub_i64, ptr, Nat.zero_add, Bool.not_true, Bool.not_false, Option.isNone_some, Option.isNone_none, Option.isSome_some, Option.isSome_none, decide_true, decide_false, eq_self, true_and, and_assoc, g4])
 | ((with_reducible apply go_ld1 h))
 | ((with_reducible apply go_ldA h); (rfl))
 | ((with_reducible apply go_ldN h))
 | ((with_reducible apply go_st h); intro _ h)
 | ((with_reducible apply go_stA h); (rfl); (rfl); (first | rfl | simp [OneV.o]); intro _ h)
 | ((with_reducible apply go_stN h); (rfl); (first | rfl | simp [OneV.o]); intro _ h)
 | ((with_reducible apply go_box h); rfl; intro _ _ h)
 | ((with_reducible apply go_rd h); (rfl))
 | ((with_reducible apply go_rdN h); (rfl))
 | ((with_reducible apply go_rlen h); (rfl))
 | ((with_reducible apply go_lenL h))
 | ((with_reducible apply go_ix h); (omega))
 | ((with_reducible apply go_elN h); (case hi => omega))
 | ((with_reducible apply go_fa h); (omega); (omega))
 | ((with_reducible apply go_f1 h); (case hi => omega); (case hx => exact inferInstance))
 | ((with_reducible apply go_rf1 h); (case hi => omega); (case hx => exact inferInstance); (case hv => rfl))
 | ((with_reducible apply go_rel h); (case hi => omega); (case hv => rfl))
))
          refine go_look1 h (by repeat (first | exact .here | apply Fnt.there)) KIr um107 zR id ?_
          simp only [elimR]
          (repeat (first
 | (simp (disch := omega) only [evA, evB, bAdd_i64, bSub_i64, ptr, Nat.zero_add, Bool.not_true, Bool.not_false, Option.isNone_some, Option.isNone_none, Option.isSome_some, Option.isSome_none, decide_true, decide_false, eq_self, true_and, and_assoc])
 | ((with_reducible apply go_ld1 h))
 | ((with_reducible apply go_ldA h); (rfl))
 | ((with_reducible apply go_ldN h))
 | ((with_reducible apply go_st h); intro _ h)
 | ((with_reducible apply go_stA h); (rfl); (rfl); (first | rfl | simp [OneV.o]); intro _ h)
 | ((with_reducible apply go_stN h); (rfl); (first | rfl | simp [OneV.o]); intro _ h)
 | ((with_reducible apply go_box h); rfl; intro _ _ h)
 | ((with_reducible apply go_rd h); (rfl))
 | ((with_reducible apply go_rdN h); (rfl))
 | ((with_reducible apply go_rlen h); (rfl))
 | ((with_reducible apply go_lenL h))
 | ((with_reducible apply go_ix h); (omega))
 | ((with_reducible apply go_elN h); (case hi => omega))
 | ((with_reducible apply go_fa h); (omega); (omega))
 | ((with_reducible apply go_f1 h); (case hi => omega); (case hx => exact inferInstance))
 | ((with_reducible apply go_rf1 h); (case hi => omega); (case hx => exact inferInstance); (case hv => rfl))
 | ((with_reducible apply go_rel h); (case hi => omega); (case hv => rfl))
))
          have hb : 0 ≤ ((aGet id R).getD zeroR).tally ∧ ((aGet id R).getD zeroR).tally ≤ 4611686018427387904 := by
            cases g6 : aGet id R
            · simp [zeroR]
            · simpa using hR _ _ g6
          refine again_spec (r := (aGet id R).getD zeroR) (e := e) hb h.drew fun w h => ?_
          (repeat (first
 | (simp (disch := omega) only [evA, evB, bAdd_i64, bSub_i64, ptr, Nat.zero_add, Bool.not_true, Bool.not_false, Option.isNone_some, Option.isNone_none, Option.isSome_some, Option.isSome_none, decide_true, decide_false, eq_self, true_and, and_assoc])
 | ((with_reducible apply go_ld1 h))
 | ((with_reducible apply go_ldA h); (rfl))
 | ((with_reducible apply go_ldN h))
 | ((with_reducible apply go_st h); intro _ h)
 | ((with_reducible apply go_stA h); (rfl); (rfl); (first | rfl | simp [OneV.o]); intro _ h)
 | ((with_reducible apply go_stN h); (rfl); (first | rfl | simp [OneV.o]); intro _ h)
 | ((with_reducible apply go_box h); rfl; intro _ _ h)
 | ((with_reducible apply go_rd h); (rfl))
 | ((with_reducible apply go_rdN h); (rfl))
 | ((with_reducible apply go_rlen h); (rfl))
 | ((with_reducible apply go_lenL h))
 | ((with_reducible apply go_ix h); (omega))
 | ((with_reducible apply go_elN h); (case hi => omega))
 | ((with_reducible apply go_fa h); (omega); (omega))
 | ((with_reducible apply go_f1 h); (case hi => omega); (case hx => exact inferInstance))
 | ((with_reducible apply go_rf1 h); (case hi => omega); (case hx => exact inferInstance); (case hv => rfl))
 | ((with_reducible apply go_rel h); (case hi => omega); (case hv => rfl))
))
          refine raise2_spec (r := (againP ((aGet id R).getD zeroR) e now).1) (n := n) (next := next) (R := R) (I := I) ?_ fun w h => hK w h
          refine Sat.f1 (board_iff.2 ⟨p, mr, mi, rfl, ?_⟩)
          exact h.get (by (repeat (first | exact .done | (refine .pick (by repeat (first | exact .here | apply Fnt.there)) ?_) | refine .skip ?_)))
  · simp only [g1] at hK ⊢
    simp only [if_false, Bool.false_eq_true, if_true] at hK ⊢
    (repeat (first
 | (simp (disch := omega) only [evA, evB, bAdd_i64, bSub_i64, ptr, Nat.zero_add, Bool.not_true, Bool.not_false, Option.isNone_some, Option.isNone_none, Option.isSome_some, Option.isSome_none, decide_true, decide_false, eq_self, true_and, and_assoc])
 | (refine go_some (fb33 ..) ?_)
 | ((with_reducible apply go_ld1 h))
 | ((with_reducible apply go_ldA h); (rfl))
 | ((with_reducible apply go_ldN h))
 | ((with_reducible apply go_st h); intro _ h)
 | ((with_reducible apply go_stA h); (rfl); (rfl); (first | rfl | simp [OneV.o]); intro _ h)
 | ((with_reducible apply go_stN h); (rfl); (first | rfl | simp [OneV.o]); intro _ h)
 | ((with_reducible apply go_box h); rfl; intro _ _ h)
 | ((with_reducible apply go_rd h); (rfl))
 | ((with_reducible apply go_rdN h); (rfl))
 | ((with_reducible apply go_rlen h); (rfl))
 | ((with_reducible apply go_lenL h))
 | ((with_reducible apply go_ix h); (omega))
 | ((with_reducible apply go_elN h); (case hi => omega))
 | ((with_reducible apply go_fa h); (omega); (omega))
 | ((with_reducible apply go_f1 h); (case hi => omega); (case hx => exact inferInstance))
 | ((with_reducible apply go_rf1 h); (case hi => omega); (case hx => exact inferInstance); (case hv => rfl))
 | ((with_reducible apply go_rel h); (case hi => omega); (case hv => rfl))
))
    exact hK _ (close h (by (repeat (first | exact .done | (refine .pick (by repeat (first | exact .here | apply Fnt.there)) ?_) | refine .skip ?_))))
end
end Go.Proofs.Gong

/- Bd7 -/
namespace Go.Proofs.Gong
open Go Go.Sx Go.Proofs
set_option maxRecDepth 100000
attribute [local irreducible] fBuild fLook fZero eqv bEqv Cl MapH LsH SlH ld1 ldN st callP eBox eAlloc lenM lenL eMapSet eDelete eAppend eBuildSl eRange eNext
section
variable {w0 w : World} {L : List HP} {K : Value → World → Prop}
def evD : Evt := ⟨[110], [108, 105, 110, 107], [], 4, []⟩
def evU : Evt := ⟨[110], [108, 105, 110, 107], [], 0, []⟩
def rowD (n : Int) : Row := ⟨1, evD, n, 1, n, false, []⟩
theorem fitsD : evD.fits := by unfold Evt.fits evD; simp
theorem fitsU : evU.fits := by unfold Evt.fits evU; simp
theorem raise_D1 : raiseP 5 1 [] [] evD 1 = ((rowD 1, 1, 0), 2, [(1, rowD 1)], [(sgOf evD, 1)]) := by kernel_rfl
theorem raise_D2 : raiseP 5 2 [(1, rowD 1)] [(sgOf evD, 1)] evD 2 = ((rowD 2, 0, 0), 2, [(1, rowD 2)], [(sgOf evD, 1)]) := by kernel_rfl
theorem raise_U3 : raiseP 5 2 [(1, rowD 2)] [(sgOf evD, 1)] evU 3 = ((rowD 2, 3, 0), 2, [], []) := by kernel_rfl
theorem tal1 (x : Row) (hx : 0 ≤ x.tally ∧ x.tally ≤ 4611686018427387904) (i : Int) : ∀ id r, aGet id [(i, x)] = some r → 0 ≤ r.tally ∧ r.tally ≤ 4611686018427387904 := by
  intro id r h
  simp only [aGet] at h
  split at h
  · cases h; exact hx
  · cases h
theorem works20_spec (h : Sat w0 L w) (hK : ∀ w', Sat w0 L w' → K (.bool true) w') : callP G14 [] w K := by
  refine c14 ?_
  unfold F14
  refine bnew_spec (n := 5) h (by omega) (by omega) fun p w h => ?_
  (repeat (first
 | (simp (disch := omega) only [evA, evB, bAdd_i64, bSub_i64, ptr, Nat.zero_add, Bool.not_true, Bool.not_false, Option.isNone_some, Option.isNone_none, Option.isSome_some, Option.isSome_none, decide_true, decide_false, eq_self, true_and, and_assoc])
 | (refine go_some (bEq_nilp up23 ..) ?_)
 | (refine go_some (fb31_0_1_3 ..) ?_)
 | (refine go_some (fb31_0_1 ..) ?_)
 | ((with_reducible apply go_ld1 h))
 | ((with_reducible apply go_ldA h); (rfl))
 | ((with_reducible apply go_ldN h))
 | ((with_reducible apply go_st h); intro _ h)
 | ((with_reducible apply go_stA h); (rfl); (rfl); (first | rfl | simp [OneV.o]); intro _ h)
 | ((with_reducible apply go_stN h); (rfl); (first | rfl | simp [OneV.o]); intro _ h)
 | ((with_reducible apply go_box h); rfl; intro _ _ h)
 | ((with_reducible apply go_alloc h); (first | exact z31 | exact z33); rfl; intro _ _ h)
 | ((with_reducible apply go_rd h); (rfl))
 | ((with_reducible apply go_rdN h); (rfl))
 | ((with_reducible apply go_rlen h); (rfl))
 | ((with_reducible apply go_lenL h))
 | ((with_reducible apply go_ix h); (omega))
 | ((with_reducible apply go_elN h); (case hi => omega))
 | ((with_reducible apply go_fa h); (omega); (omega))
 | ((with_reducible apply go_f1 h); (case hi => omega); (case hx => exact inferInstance))
 | ((with_reducible apply go_rf1 h); (case hi => omega); (case hx => exact inferInstance); (case hv => rfl))
 | ((with_reducible apply go_rel h); (case hi => omega); (case hv => rfl))
))
  refine raise_spec (e := evD) (n := 5) (next := 1) (R := []) (I := []) fitsD (by omega) (by simp [aGet]) (h.front (by repeat (first | exact .here | apply Fnt.there))) fun w h => ?_
  rw [raise_D1] at h ⊢
  (repeat (first
 | (simp (disch := omega) only [evA, evB, bAdd_i64, bSub_i64, ptr, Nat.zero_add, Bool.not_true, Bool.not_false, Option.isNone_some, Option.isNone_none, Option.isSome_some, Option.isSome_none, decide_true, decide_false, eq_self, true_and, and_assoc])
 | ((with_reducible apply go_ld1 h))
 | ((with_reducible apply go_ldA h); (rfl))
 | ((with_reducible apply go_ldN h))
 | ((with_reducible apply go_st h); intro _ h)
 | ((with_reducible apply go_stA h); (rfl); (rfl); (first | rfl | simp [OneV.o]); intro _ h)
 | ((with_reducible apply go_stN h); (rfl); (first | rfl | simp [OneV.o]); intro _ h)
 | ((with_reducible apply go_box h); rfl; intro _ _ h)
 | ((with_reducible apply go_alloc h); (first | exact z31 | exact z33); rfl; intro _ _ h)
 | ((with_reducible apply go_rd h); (rfl))
 | ((with_reducible apply go_rdN h); (rfl))
 | ((with_reducible apply go_rlen h); (rfl))
 | ((with_reducible apply go_lenL h))
 | ((with_reducible apply go_ix h); (omega))
 | ((with_reducible apply go_elN h); (case hi => omega))
 | ((with_reducible apply go_fa h); (omega); (omega))
 | ((with_reducible apply go_f1 h); (case hi => omega); (case hx => exact inferInstance))
 | ((with_reducible apply go_rf1 h); (case hi => omega); (case hx => exact inferInstance); (case hv => rfl))
 | ((with_reducible apply go_rel h); (case hi => omega); (case hv => rfl))
))
  refine raise_spec (e := evD) (n := 5) (next := 2) (R := [(1, rowD 1)]) (I := [(sgOf evD, 1)]) fitsD (by omega) (tal1 _ (by decide) _) (h.front (by repeat (first | exact .here | apply Fnt.there))) fun w h => ?_
  rw [raise_D2] at h ⊢
  (repeat (first
 | (simp (disch := omega) only [evA, evB, bAdd_i64, bSub_i64, ptr, Nat.zero_add, Bool.not_true, Bool.not_false, Option.isNone_some, Option.isNone_none, Option.isSome_some, Option.isSome_none, decide_true, decide_false, eq_self, true_and, and_assoc])
 | ((with_reducible apply go_ld1 h))
 | ((with_reducible apply go_ldA h); (rfl))
 | ((with_reducible apply go_ldN h))
 | ((with_reducible apply go_st h); intro _ h)
 | ((with_reducible apply go_stA h); (rfl); (rfl); (first | rfl | simp [OneV.o]); intro _ h)
 | ((with_reducible apply go_stN h); (rfl); (first | rfl | simp [OneV.o]); intro _ h)
 | ((with_reducible apply go_box h); rfl; intro _ _ h)
 | ((with_reducible apply go_alloc h); (first | exact z31 | exact z33); rfl; intro _ _ h)
 | ((with_reducible apply go_rd h); (rfl))
 | ((with_reducible apply go_rdN h); (rfl))
 | ((with_reducible apply go_rlen h); (rfl))
 | ((with_reducible apply go_lenL h))
 | ((with_reducible apply go_ix h); (omega))
 | ((with_reducible apply go_elN h); (case hi => omega))
 | ((with_reducible apply go_fa h); (omega); (omega))
 | ((with_reducible apply go_f1 h); (case hi => omega); (case hx => exact inferInstance))
 | ((with_reducible apply go_rf1 h); (case hi => omega); (case hx => exact inferInstance); (case hv => rfl))
 | ((with_reducible apply go_rel h); (case hi => omega); (case hv => rfl))
))
  refine raise_spec (e := evU) (n := 5) (next := 2) (R := [(1, rowD 2)]) (I := [(sgOf evD, 1)]) fitsU (by omega) (tal1 _ (by decide) _) (h.front (by repeat (first | exact .here | apply Fnt.there))) fun w h => ?_
  rw [raise_U3] at h ⊢
  (repeat (first
 | (simp (disch := omega) only [evA, evB, bAdd_i64, bSub_i64, ptr, Nat.zero_add, Bool.not_true, Bool.not_false, Option.isNone_some, Option.isNone_none, Option.isSome_some, Option.isSome_none, decide_true, decide_false, eq_self, true_and, and_assoc])
 | ((with_reducible apply go_ld1 h))
 | ((with_reducible apply go_ldA h); (rfl))
 | ((with_reducible apply go_ldN h))
 | ((with_reducible apply go_st h); intro _ h)
 | ((with_reducible apply go_stA h); (rfl); (rfl); (first | rfl | simp [OneV.o]); intro _ h)
 | ((with_reducible apply go_stN h); (rfl); (first | rfl | simp [OneV.o]); intro _ h)
 | ((with_reducible apply go_box h); rfl; intro _ _ h)
 | ((with_reducible apply go_alloc h); (first | exact z31 | exact z33); rfl; intro _ _ h)
 | ((with_reducible apply go_rd h); (rfl))
 | ((with_reducible apply go_rdN h); (rfl))
 | ((with_reducible apply go_rlen h); (rfl))
 | ((with_reducible apply go_lenL h))
 | ((with_reducible apply go_ix h); (omega))
 | ((with_reducible apply go_elN h); (case hi => omega))
 | ((with_reducible apply go_fa h); (omega); (omega))
 | ((with_reducible apply go_f1 h); (case hi => omega); (case hx => exact inferInstance))
 | ((with_reducible apply go_rf1 h); (case hi => omega); (case hx => exact inferInstance); (case hv => rfl))
 | ((with_reducible apply go_rel h); (case hi => omega); (case hv => rfl))
))
  refine blen_spec (n := 5) (next := 2) (R := []) (I := []) (h.front (by repeat (first | exact .here | apply Fnt.there))) ?_
  (repeat (first
 | (simp (disch := omega) only [evA, evB, bAdd_i64, bSub_i64, ptr, Nat.zero_add, Bool.not_true, Bool.not_false, Option.isNone_some, Option.isNone_none, Option.isSome_some, Option.isSome_none, decide_true, decide_false, eq_self, true_and, and_assoc])
 | ((with_reducible apply go_ld1 h))
 | ((with_reducible apply go_ldA h); (rfl))
 | ((with_reducible apply go_ldN h))
 | ((with_reducible apply go_st h); intro _ h)
 | ((with_reducible apply go_stA h); (rfl); (rfl); (first | rfl | simp [OneV.o]); intro _ h)
 | ((with_reducible apply go_stN h); (rfl); (first | rfl | simp [OneV.o]); intro _ h)
 | ((with_reducible apply go_box h); rfl; intro _ _ h)
 | ((with_reducible apply go_rd h); (rfl))
 | ((with_reducible apply go_rdN h); (rfl))
 | ((with_reducible apply go_rlen h); (rfl))
 | ((with_reducible apply go_lenL h))
 | ((with_reducible apply go_ix h); (omega))
 | ((with_reducible apply go_elN h); (case hi => omega))
 | ((with_reducible apply go_fa h); (omega); (omega))
 | ((with_reducible apply go_f1 h); (case hi => omega); (case hx => exact inferInstance))
 | ((with_reducible apply go_rf1 h); (case hi => omega); (case hx => exact inferInstance); (case hv => rfl))
 | ((with_reducible apply go_rel h); (case hi => omega); (case hv => rfl))
))
  exact hK _ (h.get (by (repeat (first | exact .done | (refine .pick (by repeat (first | exact .here | apply Fnt.there)) ?_) | refine .skip ?_))))
end
end Go.Proofs.Gong

/- Bd8 -/
namespace Go.Proofs.Gong
open Go Go.Sx Go.Proofs
set_option maxRecDepth 100000
attribute [local irreducible] fBuild fLook fZero eqv bEqv Cl MapH LsH SlH ld1 ldN st callP eBox eAlloc lenM lenL eMapSet eDelete eAppend eBuildSl eRange eNext
section
variable {w0 w : World} {L : List HP} {K : Value → World → Prop}
end
end Go.Proofs.Gong

/- Hold1 -/
namespace Go.Proofs.Gong
open Go Go.Sx Go.Proofs
set_option linter.all false
set_option maxRecDepth 100000
end Go.Proofs.Gong

/- Ho0 -/
namespace Go.Proofs.Gong
open Go Go.Sx Go.Proofs
set_option maxRecDepth 100000
attribute [local irreducible] fBuild fLook fZero eqv bEqv Cl MapH LsH SlH ld1 ldN st callP eBox eAlloc lenM lenL eMapSet eDelete eAppend eBuildSl eRange eNext
instance : CodC cI 1 := ⟨CI⟩
def RdL {α : Type} (w0 : World) (L : List HP) (f : α → List Value) (es : Nat) (v : Value) (l : List α) : Prop := ∀ w, Sat w0 L w → Rd w es v l.length (l.flatMap f)
theorem RdL.get {α : Type} {w0 : World} {L L' : List HP} {f : α → List Value} {es : Nat} {v : Value} {l : List α} (h : RdL w0 L f es v l) (g : Get L' L) : RdL w0 L' f es v l := fun w hs => h w (hs.get g)
theorem RdL.cons {α : Type} {w0 : World} {L : List HP} {X : HP} {f : α → List Value} {es : Nat} {v : Value} {l : List α} (h : RdL w0 L f es v l) : RdL w0 (X :: L) f es v l := h.get (.skip .done)
section
variable {w0 w : World} {L : List HP} {K : Value → World → Prop}
theorem i_at {s : Value} {l : List Int} {i : Nat} (h : Rd w 1 s l.length (l.flatMap cI)) (hi : i < l.length) : pIndexL 1 s (.int .i64 i) = some (elP 1 s i) ∧ ld1 (elP 1 s i) w = some (.int .i64 l[i]) := ⟨ix_el h hi, rd_ld1 h hi⟩
end
end Go.Proofs.Gong

/- Be0 -/
namespace Go.Proofs.Gong
open Go Go.Sx Go.Proofs
set_option maxRecDepth 100000
structure BInv (n next : Int) (R : List (Int × Row)) (I : List (Sg × Int)) (rs : List Row) : Prop where
  pm : (R.map Prod.snd).Perm rs
  key : ∀ x ∈ R, x.1 = x.2.id
  asc : rs.Pairwise fun a b => a.id < b.id
  pI : I.Perm (rs.map fun r => (sgOf r.e, r.id))
  sg : rs.Pairwise fun a b => sgOf a.e ≠ sgOf b.e
  bd : (rs.length : Int) ≤ n ∧ 1 ≤ n ∧ n ≤ 65536
  ok : ∀ r ∈ rs, okR r = true ∧ r.id < next
def replL (r : Row) (rs : List Row) : List Row := rs.map fun d => if d.id = r.id then r else d
def remL (id : Int) (rs : List Row) : List Row := rs.filter fun d => decide (d.id ≠ id)
def insR (r : Row) (rs : List Row) : List Row := rs.takeWhile (fun d => decide (d.id < r.id)) ++ r :: rs.dropWhile (fun d => decide (d.id < r.id))
section
variable {n next : Int} {R : List (Int × Row)} {I : List (Sg × Int)} {rs : List Row} {r d : Row}
theorem rasc_split (h : rs.Pairwise fun a b => a.id < b.id) (hc : r ∈ rs) : ∃ l t, rs = l ++ r :: t ∧ (∀ d ∈ l, d.id ≠ r.id) ∧ (∀ d ∈ t, d.id ≠ r.id) := by
  obtain ⟨l, t, rfl⟩ := List.append_of_mem hc
  rw [List.pairwise_append] at h
  obtain ⟨_, h2, h3⟩ := h
  refine ⟨l, t, rfl, fun d hd e => ?_, fun d hd e => ?_⟩
  · have := h3 d hd r (by simp); omega
  · have := (List.pairwise_cons.1 h2).1 d hd; omega
theorem remL_split {l t : List Row} (h1 : ∀ d ∈ l, d.id ≠ r.id) (h2 : ∀ d ∈ t, d.id ≠ r.id) : remL r.id (l ++ r :: t) = l ++ t := by
  unfold remL
  rw [List.filter_append, List.filter_cons, List.filter_eq_self.2 (fun d hd => by simpa using h1 d hd), List.filter_eq_self.2 (fun d hd => by simpa using h2 d hd)]
  simp
theorem replL_split {l t : List Row} {b : Row} (e : b.id = r.id) (h1 : ∀ d ∈ l, d.id ≠ r.id) (h2 : ∀ d ∈ t, d.id ≠ r.id) : replL b (l ++ r :: t) = l ++ b :: t := by
  unfold replL
  rw [List.map_append, List.map_cons]
  congr 1
  · conv => rhs; rw [← List.map_id l]
    exact List.map_congr_left fun d hd => by rw [if_neg (by rw [e]; exact h1 d hd)]; rfl
  · rw [if_pos e.symm]
    congr 1
    conv => rhs; rw [← List.map_id t]
    exact List.map_congr_left fun d hd => by rw [if_neg (by rw [e]; exact h2 d hd)]; rfl
theorem rasc_eq (h : rs.Pairwise fun a b => a.id < b.id) (hc : r ∈ rs) (hd : d ∈ rs) (e : r.id = d.id) : r = d := by
  obtain ⟨l, t, rfl, h1, h2⟩ := rasc_split h hc
  rcases List.mem_append.1 hd with g | g
  · exact absurd e.symm (h1 d g)
  · rcases List.mem_cons.1 g with rfl | g
    · rfl
    · exact absurd e.symm (h2 d g)
theorem insR_perm (c : Row) (cs : List Row) : (insR c cs).Perm (c :: cs) := by
  unfold insR
  exact List.perm_middle.trans (by rw [List.takeWhile_append_dropWhile])
theorem insR_asc {c : Row} : ∀ {cs : List Row}, (cs.Pairwise fun a b => a.id < b.id) → (∀ d ∈ cs, d.id ≠ c.id) → (insR c cs).Pairwise fun a b => a.id < b.id
  | [], _, _ => by simp [insR]
  | d :: r, h, hn => by
    obtain ⟨h1, h2⟩ := List.pairwise_cons.1 h
    have hd := hn d (by simp)
    by_cases g : d.id < c.id
    · have e : insR c (d :: r) = d :: insR c r := by simp [insR, g]
      rw [e]
      refine List.pairwise_cons.2 ⟨fun x hx => ?_, insR_asc h2 fun x hx => hn x (List.mem_cons_of_mem _ hx)⟩
      rcases List.mem_cons.1 ((insR_perm c r).mem_iff.1 hx) with rfl | hx
      · exact g
      · exact h1 x hx
    · have e : insR c (d :: r) = c :: d :: r := by simp [insR, g]
      rw [e]
      refine List.pairwise_cons.2 ⟨fun x hx => ?_, h⟩
      rcases List.mem_cons.1 hx with rfl | hx
      · omega
      · have := h1 x hx; omega
variable (H : BInv n next R I rs)
include H
theorem BInv.len : R.length = rs.length := by
  have := H.pm.length_eq; simpa using this
theorem BInv.mem {k : Int} (hg : aGet k R = some r) : r ∈ rs ∧ r.id = k := by
  have hm := aGet_mem hg
  exact ⟨H.pm.mem_iff.1 (List.mem_map.2 ⟨_, hm, rfl⟩), (H.key _ hm).symm⟩
theorem BInv.keys : (R.map Prod.fst).Nodup := by
  have e : R.map Prod.fst = (R.map Prod.snd).map (·.id) := by
    rw [List.map_map]
    exact List.map_congr_left fun x hx => H.key x hx
  rw [e]
  refine ((H.pm.map (·.id)).nodup_iff).2 ?_
  exact List.pairwise_map.2 (H.asc.imp fun h e => by omega)
theorem BInv.get (hc : r ∈ rs) : aGet r.id R = some r := by
  obtain ⟨x, hx, rfl⟩ := List.mem_map.1 (H.pm.mem_iff.2 hc)
  refine mem_aGet H.keys ?_
  rw [← H.key x hx]; exact hx
theorem BInv.get_none {k : Int} (h : ∀ c ∈ rs, c.id ≠ k) : aGet k R = none := aGet_none_of fun y hy => by
  have h1 := H.key _ hy
  exact h y (H.pm.mem_iff.1 (List.mem_map.2 ⟨_, hy, rfl⟩)) h1.symm
theorem BInv.sgs : (I.map Prod.fst).Nodup := by
  refine ((H.pI.map Prod.fst).nodup_iff).2 ?_
  rw [List.map_map]
  exact List.pairwise_map.2 (H.sg.imp fun h => h)
theorem BInv.sget (hc : r ∈ rs) : aGet (sgOf r.e) I = some r.id := mem_aGet H.sgs (H.pI.mem_iff.2 (List.mem_map.2 ⟨r, hc, rfl⟩))
theorem BInv.snone {g : Sg} (h : ∀ c ∈ rs, sgOf c.e ≠ g) : aGet g I = none := aGet_none_of fun y hy => by
  obtain ⟨c, hc, e⟩ := List.mem_map.1 (H.pI.mem_iff.1 hy)
  simp only [Prod.mk.injEq] at e
  exact h c hc e.1
theorem BInv.find (g : Sg) : aGet g I = (rs.find? fun d => decide (sgOf d.e = g)).map (·.id) := by
  cases hf : rs.find? fun d => decide (sgOf d.e = g) with
  | none =>
    rw [List.find?_eq_none] at hf
    exact H.snone fun d hd e => by have := hf d hd; simp [e] at this
  | some d =>
    have h1 := List.mem_of_find?_eq_some hf
    have h2 := List.find?_some hf
    simp only [decide_eq_true_eq] at h2
    rw [← h2]; exact H.sget h1
omit H in
theorem BInv.ins (H : BInv n next R I rs) (ho : okR r = true) (hs : ∀ d ∈ rs, sgOf d.e ≠ sgOf r.e) (hnew : ∀ d ∈ rs, d.id ≠ r.id) (hl : (rs.length : Int) < n) (h2 : r.id < next) :
    BInv n next (aSet r.id r R) (aSet (sgOf r.e) r.id I) (insR r rs) := by
  have g1 := H.get_none hnew
  have g2 := H.snone hs
  rw [aSet_new g1, aSet_new g2]
  have hp := insR_perm r rs
  refine ⟨?_, ?_, insR_asc H.asc hnew, ?_, ?_, ?_, ?_⟩
  · rw [List.map_append]
    refine (List.perm_append_comm.trans ?_).trans hp.symm
    exact H.pm.cons _
  · intro x hx
    rcases List.mem_append.1 hx with hx | hx
    · exact H.key x hx
    · simp at hx; subst hx; rfl
  · refine (List.perm_append_comm.trans ?_).trans (hp.map _).symm
    exact H.pI.cons _
  · refine hp.symm.pairwise ?_ (fun h => h.symm)
    exact List.pairwise_cons.2 ⟨fun d hd e => hs d hd e.symm, H.sg⟩
  · have := hp.length_eq; have := H.bd; simp at *; omega
  · intro d hd
    rcases List.mem_cons.1 (hp.mem_iff.1 hd) with rfl | hd
    · exact ⟨ho, h2⟩
    · exact H.ok d hd
omit H in
theorem BInv.repl (H : BInv n next R I rs) (ho : okR r = true) {b : Row} (hb : b ∈ rs) (e : b.id = r.id) (hs : sgOf b.e = sgOf r.e) :
    BInv n next (aSet r.id r R) (aSet (sgOf r.e) r.id I) (replL r rs) := by
  have g1 := H.get hb
  rw [e] at g1
  have g2 := H.sget hb
  rw [hs, e] at g2
  rw [aSet_id g2]
  obtain ⟨l, t, rfl, h1, h2⟩ := rasc_split H.asc hb
  rw [replL_split e.symm h1 h2]
  have hp := aDel_perm g1
  have hpm : ((aDel r.id R).map Prod.snd).Perm (l ++ t) := by
    have := ((hp.map Prod.snd).trans H.pm).trans List.perm_middle
    exact List.Perm.cons_inv this
  refine ⟨?_, ?_, ?_, ?_, ?_, ?_, ?_⟩
  · refine ((aSet_perm g1).map _).trans ?_
    rw [List.map_cons]
    exact (hpm.cons r).trans List.perm_middle.symm
  · intro x hx
    rcases List.mem_cons.1 ((aSet_perm g1).mem_iff.1 hx) with rfl | hx
    · rfl
    · exact H.key x (hp.mem_iff.1 (List.mem_cons_of_mem _ hx))
  · have := H.asc
    rw [List.pairwise_append, List.pairwise_cons] at this ⊢
    refine ⟨this.1, ⟨fun x hx => by rw [← e]; exact this.2.1.1 x hx, this.2.1.2⟩, fun x hx y hy => ?_⟩
    rcases List.mem_cons.1 hy with rfl | hy
    · rw [← e]; exact this.2.2 x hx b (by simp)
    · exact this.2.2 x hx y (by simp [hy])
  · have := H.pI
    rw [List.map_append, List.map_cons] at this ⊢
    rw [hs, e] at this
    exact this
  · have := H.sg
    rw [List.pairwise_append, List.pairwise_cons] at this ⊢
    refine ⟨this.1, ⟨fun x hx => by rw [← hs]; exact this.2.1.1 x hx, this.2.1.2⟩, fun x hx y hy => ?_⟩
    rcases List.mem_cons.1 hy with rfl | hy
    · rw [← hs]; exact this.2.2 x hx b (by simp)
    · exact this.2.2 x hx y (by simp [hy])
  · have := H.bd; simpa using this
  · intro d hd
    rcases List.mem_append.1 hd with hd | hd
    · exact H.ok d (by simp [hd])
    · rcases List.mem_cons.1 hd with rfl | hd
      · have := H.ok b (by simp)
        rw [e] at this
        exact ⟨ho, this.2⟩
      · exact H.ok d (by simp [hd])
omit H in
theorem BInv.rem (H : BInv n next R I rs) (hc : r ∈ rs) : BInv n next (aDel r.id R) (aDel (sgOf r.e) I) (remL r.id rs) := by
  have g1 := H.get hc
  have g2 := H.sget hc
  obtain ⟨l, t, rfl, h1, h2⟩ := rasc_split H.asc hc
  rw [remL_split h1 h2]
  have hp := aDel_perm g1
  have sub : List.Sublist (l ++ t) (l ++ r :: t) := List.Sublist.append_left (List.sublist_cons_self _ _) _
  refine ⟨?_, ?_, H.asc.sublist sub, ?_, H.sg.sublist sub, ?_, ?_⟩
  · have := ((hp.map Prod.snd).trans H.pm).trans List.perm_middle
    exact List.Perm.cons_inv this
  · intro x hx
    exact H.key x (hp.mem_iff.1 (List.mem_cons_of_mem _ hx))
  · have hq := (aDel_perm g2).trans H.pI
    rw [List.map_append, List.map_cons] at hq
    rw [List.map_append]
    exact List.Perm.cons_inv (hq.trans List.perm_middle)
  · have := H.bd; simp at this ⊢; omega
  · exact fun d hd => H.ok d (sub.subset hd)
end
theorem BInv.start {n : Int} (h1 : 1 ≤ n) (h2 : n ≤ 65536) (next : Int) : BInv n next [] [] [] := ⟨.nil, by simp, .nil, .nil, .nil, ⟨by simp; omega, h1, h2⟩, by simp⟩
end Go.Proofs.Gong
