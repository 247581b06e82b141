/- A part of the proofs: what stands below it, told in lemmas. No condition. -/
import Derived.Test.YtpbfmiphjcmjjaaP1
import Derived.Test.YtpbfmiphjcmjjaaP2
set_option linter.all false

/- Board2 -/
namespace Go.Proofs.Gong
open Go Go.Sx Go.Proofs
set_option linter.all false
set_option maxRecDepth 100000
def T39 : List (Nat × FnT) := [(15, G15)]
def F39 (x0 : Value) (w : World) (K : Value → World → Prop) : Prop :=
eAlloc Try.prog 31 w fun v2 w1 =>
callP G15 [x0, (.int .i64 1048576)] w1 fun v4 w3 =>
bindP (bRem v4 (.int .i64 3)) fun v5 =>
bindP (bAdd (.int .i64 97) v5) fun v6 =>
bindP (cInt .u8 v6) fun v7 =>
eBuildSl Try.prog 29 1 [(0, v7)] w3 fun v9 w8 =>
bindP (cBytes v9 w8) fun v10 =>
bindP (bQuo v4 (.int .i64 3)) fun v11 =>
bindP (bRem v11 (.int .i64 2)) fun v12 =>
bindP (bAdd (.int .i64 112) v12) fun v13 =>
bindP (cInt .u8 v13) fun v14 =>
eBuildSl Try.prog 29 1 [(0, v14)] w8 fun v16 w15 =>
bindP (cBytes v16 w15) fun v17 =>
bindP (bQuo v4 (.int .i64 6)) fun v18 =>
bindP (bRem v18 (.int .i64 6)) fun v19 =>
bindP (bQuo v4 (.int .i64 36)) fun v20 =>
bindP (bRem v20 (.int .i64 20)) fun v21 =>
bindP (bAdd (.int .i64 65) v21) fun v22 =>
bindP (cInt .u8 v22) fun v23 =>
eBuildSl Try.prog 29 1 [(0, v23)] w15 fun v25 w24 =>
bindP (cBytes v25 w24) fun v26 =>
bindP (fBuild Try.prog 31 [(0, v10), (1, v17), (3, v19), (4, v26)]) fun v27 =>
bindW (st 5 v2 v27 w24) fun w28 =>
bindP (ldN 5 v2 w28) fun v30 =>
K v30 w28
def G39 : FnT := fun args w K => on1 (fun x0 => F39 x0 w K) args
theorem c39 {x0 : Value} {w : World} {K : Value → World → Prop} (h : F39 x0 w K) : callP G39 [x0] w K := callP_intro (on1_mk (p := fun x0 => F39 x0 w K) h)
theorem ok39 : OkF Try.prog 39 G39 := by
  refine okF_of (tab_ok (l := T39) ⟨ok15, trivial⟩) mixed (n := fuel) Try.func39 Try.call39 fun args w K h => ?_
  obtain ⟨x0, rfl, hh⟩ := of_on1 h
  exact fnD_list (c := bodyOf Try.f39) (by kernel_rfl) (by kernel_rfl) (Eq.mp (by kernel_rfl) hh)
def T40 : List (Nat × FnT) := [(64, G64)]
def F40 (x0 : Value) (x1 : Value) (w : World) (K : Value → World → Prop) : Prop :=
eAlloc Try.prog 33 w fun v2 w1 =>
bindP (pNil x0) fun v3 =>
bindP (pFieldAddr 2 v3) fun v4 =>
bindP (ld1 v4 w1) fun v5 =>
bindP (fLook Try.prog 107 v5 x1 true w1) fun v6 =>
bindP (pTuple v6 0) fun v7 =>
bindP (pTuple v6 1) fun v8 =>
eAlloc Try.prog 33 w1 fun v10 w9 =>
bindW (st 11 v10 v7 w9) fun w11 =>
bindP (uNot v8) fun v13 =>
ifB v13 (
bindP (fBuild Try.prog 33 []) fun v14 =>
bindW (st 11 v2 v14 w11) fun w15 =>
bindP (ldN 11 v2 w15) fun v17 =>
K (.tuple #[v17, (.int .i64 5)]) w15) (
bindP (ldN 11 v10 w11) fun v18 =>
callP G64 [x0, v18] w11 fun _ w19 =>
bindP (ldN 11 v10 w19) fun v21 =>
bindW (st 11 v2 v21 w19) fun w22 =>
bindP (ldN 11 v2 w22) fun v24 =>
K (.tuple #[v24, (.int .i64 0)]) w22)
def G40 : FnT := fun args w K => on2 (fun x0 x1 => F40 x0 x1 w K) args
theorem c40 {x0 x1 : Value} {w : World} {K : Value → World → Prop} (h : F40 x0 x1 w K) : callP G40 [x0, x1] w K := callP_intro (on2_mk (p := fun x0 x1 => F40 x0 x1 w K) h)
theorem ok40 : OkF Try.prog 40 G40 := by
  refine okF_of (tab_ok (l := T40) ⟨ok64, trivial⟩) mixed (n := fuel) Try.func40 Try.call40 fun args w K h => ?_
  obtain ⟨x0, x1, rfl, hh⟩ := of_on2 h
  exact fnD_list (c := bodyOf Try.f40) (by kernel_rfl) (by kernel_rfl) (Eq.mp (by kernel_rfl) hh)
def Lay87_ren : Go.Shelf.Ren := ⟨fun | 6 => 87 | 15 => 115 | 14 => 119 | 28 => 148 | 29 => 149 | 20 => 150 | 21 => 151 | 22 => 152 | 23 => 153 | 24 => 154 | 25 => 155 | 26 => 156 | 27 => 157 | 46 => 169 | 47 => 165 | 48 => 166 | 49 => 170 | 50 => 171 | 57 => 187 | n => n, fun | 22 => 74 | 24 => 33 | 25 => 143 | 3 => 3 | 39 => 171 | 0 => 0 | 53 => 197 | 55 => 199 | 4 => 4 | 46 => 191 | 45 => 190 | 50 => 112 | 5 => 5 | 9 => 9 | 66 => 211 | 70 => 215 | 76 => 228 | 77 => 224 | n => n, fun | n => n⟩
theorem Lay87 : Go.Proofs.SlLaysF0.n6 Try.prog Lay87_ren := {
  mixed := by kernel_rfl
  f6 := ⟨Try.f87.name, by decide, Try.func87.trans (congrArg some (by kernel_rfl))⟩
  f14 := ⟨Try.f119.name, by decide, Try.func119.trans (congrArg some (by kernel_rfl))⟩
  f15 := Try.func115.trans (congrArg some (by kernel_rfl))
  f20 := ⟨Try.f150.name, by decide, Try.func150.trans (congrArg some (by kernel_rfl))⟩
  f21 := ⟨Try.f151.name, by decide, Try.func151.trans (congrArg some (by kernel_rfl))⟩
  f22 := ⟨Try.f152.name, by decide, Try.func152.trans (congrArg some (by kernel_rfl))⟩
  f23 := ⟨Try.f153.name, by decide, Try.func153.trans (congrArg some (by kernel_rfl))⟩
  f24 := ⟨Try.f154.name, by decide, Try.func154.trans (congrArg some (by kernel_rfl))⟩
  f25 := ⟨Try.f155.name, by decide, Try.func155.trans (congrArg some (by kernel_rfl))⟩
  f26 := ⟨Try.f156.name, by decide, Try.func156.trans (congrArg some (by kernel_rfl))⟩
  f27 := ⟨Try.f157.name, by decide, Try.func157.trans (congrArg some (by kernel_rfl))⟩
  f28 := Try.func148.trans (congrArg some (by kernel_rfl))
  f29 := Try.func149.trans (congrArg some (by kernel_rfl))
  f46 := ⟨Try.f169.name, by decide, Try.func169.trans (congrArg some (by kernel_rfl))⟩
  f47 := Try.func165.trans (congrArg some (by kernel_rfl))
  f48 := Try.func166.trans (congrArg some (by kernel_rfl))
  f49 := ⟨Try.f170.name, by decide, Try.func170.trans (congrArg some (by kernel_rfl))⟩
  f50 := ⟨Try.f171.name, by decide, Try.func171.trans (congrArg some (by kernel_rfl))⟩
  f57 := ⟨Try.f187.name, by decide, Try.func187.trans (congrArg some (by kernel_rfl))⟩
  t0 := Try.underlying0
  a0 := Try.isAgg0
  z0 := Try.sizeOf0
  v0 := Try.zeroValue0
  t3 := Try.underlying3
  a3 := Try.isAgg3
  z3 := Try.sizeOf3
  v3 := Try.zeroValue3
  t4 := Try.underlying4
  a4 := Try.isAgg4
  z4 := Try.sizeOf4
  v4 := Try.zeroValue4
  t5 := Try.underlying5
  a5 := Try.isAgg5
  z5 := Try.sizeOf5
  v5 := Try.zeroValue5
  t9 := Try.underlying9
  a9 := Try.isAgg9
  z9 := Try.sizeOf9
  v9 := Try.zeroValue9
  t22 := Try.underlying74
  a22 := Try.isAgg74
  z22 := Try.sizeOf74
  v22 := Try.zeroValue74
  t25 := Try.underlying143
  a25 := Try.isAgg143
  z25 := Try.sizeOf143
  v25 := Try.zeroValue143
  t39 := Try.underlying171
  a39 := Try.isAgg171
  z39 := Try.sizeOf171
  v39 := Try.zeroValue171
  t45 := Try.underlying190
  a45 := Try.isAgg190
  z45 := Try.sizeOf190
  v45 := Try.zeroValue190
  t46 := Try.underlying191
  a46 := Try.isAgg191
  z46 := Try.sizeOf191
  v46 := Try.zeroValue191
  t50 := Try.underlying112
  a50 := Try.isAgg112
  z50 := Try.sizeOf112
  v50 := Try.zeroValue112
  t53 := Try.underlying197
  a53 := Try.isAgg197
  z53 := Try.sizeOf197
  v53 := Try.zeroValue197
  t55 := Try.underlying199
  a55 := Try.isAgg199
  z55 := Try.sizeOf199
  v55 := Try.zeroValue199
  t66 := Try.underlying211
  a66 := Try.isAgg211
  z66 := Try.sizeOf211
  v66 := Try.zeroValue211
  t70 := Try.underlying215
  a70 := Try.isAgg215
  z70 := Try.sizeOf215
  v70 := Try.zeroValue215
  t76 := Try.underlying228
  a76 := Try.isAgg228
  z76 := Try.sizeOf228
  v76 := Try.zeroValue228
  t77 := Try.underlying224
  a77 := Try.isAgg224
  z77 := Try.sizeOf224
  v77 := Try.zeroValue224 }
def G87 : FnT := gSortF Try.prog 11 33
theorem ok87 : OkF Try.prog 87 G87 := okSortF Lay87 (fun w => by kernel_rfl) (fun w => by kernel_rfl) Try.call87
def T41 : List (Nat × FnT) := [(62, G62), (64, G64), (87, G87)]
def F41_5b (s8 : Value) (w : World) (K : Value → World → Prop) : Prop :=
callP G87 [s8, (.func (.func 88) #[] #[])] w fun _ w1 =>
K (.tuple #[s8, (.int .i64 0)]) w1
def F41_5 (s8 : Value) (w : World) (K : Value → World → Prop) : Prop := F41_5b s8 w K
theorem ok41_5 {K : Value → World → Prop} {kn kr : Env → World → Prop} {ke : Nat → Env → World → Prop}
    (hn : ∀ e w, (fun e w => K (.tuple #[(e 6), (e 7)]) w) e w → kn e w) (hr : ∀ e w, endD Try.prog [.tmp 6, .tmp 7] K e w → kr e w) (he : ∀ i e w, noE i e w → ke i e w) :
    ∀ e w, F41_5 (e 8) w K → denL Try.prog (tabOf T41) 56 fuel ((flat (bodyOf Try.f41)).drop 8) e w kn kr ke := by
  intro e w h
  unfold F41_5 at h
  have e1 : ∀ (_ : Unit), F41_5b (e 8) w K = denL Try.prog (tabOf T41) 56 fuel ((flat (bodyOf Try.f41)).drop 8) e w (fun e w => K (.tuple #[(e 6), (e 7)]) w) (endD Try.prog [.tmp 6, .tmp 7] K) noE := by intro _; kernel_rfl
  exact seg_end (Eq.mp (e1 ()) h) hn hr he
def F41_4b (s0 : Value) (s8 : Value) (s43 : Value) (s44 : Value) (s45 : Value) (w : World) (_K : Value → World → Prop) (Y0 : Value → Value → Value → Value → Value → World → Prop) (Y1 : Value → World → Prop) : Prop :=
bindP (bLt s45 s44) fun v3 =>
ifB v3 (
bindP (pIndexL 11 s43 s45) fun v4 =>
bindP (ldN 11 v4 w) fun v5 =>
eAlloc Try.prog 33 w fun v7 w6 =>
bindW (st 11 v7 v5 w6) fun w8 =>
bindP (ldN 11 v7 w8) fun v10 =>
callP G64 [s0, v10] w8 fun _ w11 =>
bindP (bAdd s45 (.int .i64 1)) fun v13 =>
Y0 s0 s8 s43 s44 v13 w11) (
Y1 s8 w)
def F41_4L : Nat → Value → Value → Value → Value → Value → World → (Value → World → Prop) → Prop
  | 0, _, _, _, _, _, _, _ => False
  | n + 1, s0, s8, s43, s44, s45, w, K => F41_4b s0 s8 s43 s44 s45 w K (fun a0 a8 a43 a44 a45 w => F41_4L n a0 a8 a43 a44 a45 w K) (fun a8 w => F41_5 a8 w K)
def F41_4 (s0 : Value) (s8 : Value) (s43 : Value) (s44 : Value) (s45 : Value) (w : World) (K : Value → World → Prop) : Prop := F41_4L fuel s0 s8 s43 s44 s45 w K
theorem ok41_4 {K : Value → World → Prop} {kn kr : Env → World → Prop} {ke : Nat → Env → World → Prop}
    (hn : ∀ e w, (fun e w => K (.tuple #[(e 6), (e 7)]) w) e w → kn e w) (hr : ∀ e w, endD Try.prog [.tmp 6, .tmp 7] K e w → kr e w) (he : ∀ i e w, noE i e w → ke i e w) :
    ∀ e w, F41_4 (e 0) (e 8) (e 43) (e 44) (e 45) w K → denL Try.prog (tabOf T41) 56 fuel ((flat (bodyOf Try.f41)).drop 7) e w kn kr ke := by
  intro e w h
  unfold F41_4 at h
  refine seg_loop (id := 2) (body := (loopB (blkB (nthC (flat (bodyOf Try.f41)) 7)))) (l2 := (flat (bodyOf Try.f41)).drop 8) (by kernel_rfl) ?_
  refine loop_ok (FL := fun m e w => F41_4L m (e 0) (e 8) (e 43) (e 44) (e 45) w K) (fr := endD Try.prog [.tmp 6, .tmp 7] K) (fe := (blkK 2 (fun e w => F41_5 (e 8) w K) noE)) (fun _ _ h => h) ?_ hr (blkK_mono (fun e w h => ok41_5 hn hr he e w h) he) fuel e w h
  intro m e w h
  have h : F41_4L (m + 1) (e 0) (e 8) (e 43) (e 44) (e 45) w K := h
  rw [F41_4L] at h
  have e1 : ∀ (Y0 : Value → Value → Value → Value → Value → World → Prop) (Y1 : Value → World → Prop), F41_4b (e 0) (e 8) (e 43) (e 44) (e 45) w K Y0 Y1 = denL Try.prog (tabOf T41) 56 fuel (flat (loopB (blkB (nthC (flat (bodyOf Try.f41)) 7)))) e w (fun e w => Y0 (e 0) (e 8) (e 43) (e 44) (e 45) w) (endD Try.prog [.tmp 6, .tmp 7] K) (blkK 2 (fun e w => Y1 (e 8) w) noE) := by intro Y0 Y1; kernel_rfl
  exact Eq.mp (e1 (fun a0 a8 a43 a44 a45 w => F41_4L m a0 a8 a43 a44 a45 w K) (fun a8 w => F41_5 a8 w K)) h
def F41_3b (s0 : Value) (s8 : Value) (w : World) (_K : Value → World → Prop) (Y0 : Value → Value → Value → Value → Value → World → Prop) : Prop :=
bindP (lenL s8) fun v14 =>
Y0 s0 s8 s8 v14 (.int .i64 0) w
def F41_3 (s0 : Value) (s8 : Value) (w : World) (K : Value → World → Prop) : Prop := F41_3b s0 s8 w K (fun a0 a8 a43 a44 a45 w => F41_4 a0 a8 a43 a44 a45 w K)
theorem ok41_3 {K : Value → World → Prop} {kn kr : Env → World → Prop} {ke : Nat → Env → World → Prop}
    (hn : ∀ e w, (fun e w => K (.tuple #[(e 6), (e 7)]) w) e w → kn e w) (hr : ∀ e w, endD Try.prog [.tmp 6, .tmp 7] K e w → kr e w) (he : ∀ i e w, noE i e w → ke i e w) :
    ∀ e w, F41_3 (e 0) (e 8) w K → denL Try.prog (tabOf T41) 56 fuel ((flat (bodyOf Try.f41)).drop 6) e w kn kr ke := by
  intro e w h
  unfold F41_3 at h
  have e1 : ∀ (Y0 : Value → Value → Value → Value → Value → World → Prop), F41_3b (e 0) (e 8) w K Y0 = denL Try.prog (tabOf T41) 56 fuel (((flat (bodyOf Try.f41)).drop 6).take 1) e w (fun e w => Y0 (e 0) (e 8) (e 43) (e 44) (e 45) w) (endD Try.prog [.tmp 6, .tmp 7] K) noE := by intro Y0; kernel_rfl
  exact seg 1 (Eq.mp (e1 (fun a0 a8 a43 a44 a45 w => F41_4 a0 a8 a43 a44 a45 w K)) h) (fun e w h => ok41_4 hn hr he e w h) hr he
def F41_2b (s0 : Value) (s1 : Value) (s2 : Value) (s8 : Value) (s28 : Value) (w : World) (_K : Value → World → Prop) (Y0 : Value → Value → Value → Value → Value → World → Prop) (Y1 : Value → Value → World → Prop) : Prop :=
eNext s28 false w fun v16 w15 =>
bindP (pTuple v16 0) fun v17 =>
ifB v17 (
bindP (fEntry s28 w15) fun v18 =>
bindP (pTuple v18 1) fun v19 =>
eAlloc Try.prog 33 w15 fun v21 w20 =>
bindW (st 11 v21 v19 w20) fun w22 =>
bindP (pFieldAddr 8 v21) fun v24 =>
bindP (ld1 v24 w22) fun v25 =>
bindP (bSub s1 s2) fun v26 =>
bindP (bLe v25 v26) fun v27 =>
ifB v27 (
bindP (ldN 11 v21 w22) fun v28 =>
eBuildSl Try.prog 74 1 [(0, v28)] w22 fun v30 w29 =>
eAppend Try.prog 74 74 s8 v30 w29 fun v32 w31 =>
Y0 s0 s1 s2 v32 s28 w31) (
Y0 s0 s1 s2 s8 s28 w22)) (
Y1 s0 s8 w15)
def F41_2L : Nat → Value → Value → Value → Value → Value → World → (Value → World → Prop) → Prop
  | 0, _, _, _, _, _, _, _ => False
  | n + 1, s0, s1, s2, s8, s28, w, K => F41_2b s0 s1 s2 s8 s28 w K (fun a0 a1 a2 a8 a28 w => F41_2L n a0 a1 a2 a8 a28 w K) (fun a0 a8 w => F41_3 a0 a8 w K)
def F41_2 (s0 : Value) (s1 : Value) (s2 : Value) (s8 : Value) (s28 : Value) (w : World) (K : Value → World → Prop) : Prop := F41_2L fuel s0 s1 s2 s8 s28 w K
theorem ok41_2 {K : Value → World → Prop} {kn kr : Env → World → Prop} {ke : Nat → Env → World → Prop}
    (hn : ∀ e w, (fun e w => K (.tuple #[(e 6), (e 7)]) w) e w → kn e w) (hr : ∀ e w, endD Try.prog [.tmp 6, .tmp 7] K e w → kr e w) (he : ∀ i e w, noE i e w → ke i e w) :
    ∀ e w, F41_2 (e 0) (e 1) (e 2) (e 8) (e 28) w K → denL Try.prog (tabOf T41) 56 fuel ((flat (bodyOf Try.f41)).drop 5) e w kn kr ke := by
  intro e w h
  unfold F41_2 at h
  refine seg_loop (id := 0) (body := (loopB (blkB (nthC (flat (bodyOf Try.f41)) 5)))) (l2 := (flat (bodyOf Try.f41)).drop 6) (by kernel_rfl) ?_
  refine loop_ok (FL := fun m e w => F41_2L m (e 0) (e 1) (e 2) (e 8) (e 28) w K) (fr := endD Try.prog [.tmp 6, .tmp 7] K) (fe := (blkK 0 (fun e w => F41_3 (e 0) (e 8) w K) noE)) (fun _ _ h => h) ?_ hr (blkK_mono (fun e w h => ok41_3 hn hr he e w h) he) fuel e w h
  intro m e w h
  have h : F41_2L (m + 1) (e 0) (e 1) (e 2) (e 8) (e 28) w K := h
  rw [F41_2L] at h
  have e1 : ∀ (Y0 : Value → Value → Value → Value → Value → World → Prop) (Y1 : Value → Value → World → Prop), F41_2b (e 0) (e 1) (e 2) (e 8) (e 28) w K Y0 Y1 = denL Try.prog (tabOf T41) 56 fuel (flat (loopB (blkB (nthC (flat (bodyOf Try.f41)) 5)))) e w (fun e w => Y0 (e 0) (e 1) (e 2) (e 8) (e 28) w) (endD Try.prog [.tmp 6, .tmp 7] K) (blkK 0 (fun e w => Y1 (e 0) (e 8) w) noE) := by intro Y0 Y1; kernel_rfl
  exact Eq.mp (e1 (fun a0 a1 a2 a8 a28 w => F41_2L m a0 a1 a2 a8 a28 w K) (fun a0 a8 w => F41_3 a0 a8 w K)) h
def F41_1b (s0 : Value) (s1 : Value) (s2 : Value) (w : World) (K : Value → World → Prop) (Y0 : Value → Value → Value → Value → Value → World → Prop) : Prop :=
callP G62 [s1] w fun v34 w33 =>
bindP (uNot v34) fun v35 =>
stepM (gd false v35) s2 fun v36 =>
Sx.stepG (gd false v35) (bLt v36 (.int .i64 1)) fun v37 =>
bindP (pPick v35 (.bool true) v37) fun v38 =>
stepM (gd false v38) s2 fun v39 =>
Sx.stepG (gd false v38) (bGt v39 (.int .i64 2305843009213693952)) fun v40 =>
bindP (pPick v38 (.bool true) v40) fun v41 =>
ifB v41 (
K (.tuple #[(.slice none 0 0), (.int .i64 1)]) w33) (
bindP (pNil s0) fun v42 =>
bindP (pFieldAddr 2 v42) fun v43 =>
bindP (ld1 v43 w33) fun v44 =>
eRange Try.prog 107 v44 w33 fun v46 w45 =>
Y0 s0 s1 s2 (.slice none 0 0) v46 w45)
def F41_1 (s0 : Value) (s1 : Value) (s2 : Value) (w : World) (K : Value → World → Prop) : Prop := F41_1b s0 s1 s2 w K (fun a0 a1 a2 a8 a28 w => F41_2 a0 a1 a2 a8 a28 w K)
theorem ok41_1 {K : Value → World → Prop} {kn kr : Env → World → Prop} {ke : Nat → Env → World → Prop}
    (hn : ∀ e w, (fun e w => K (.tuple #[(e 6), (e 7)]) w) e w → kn e w) (hr : ∀ e w, endD Try.prog [.tmp 6, .tmp 7] K e w → kr e w) (he : ∀ i e w, noE i e w → ke i e w) :
    ∀ e w, F41_1 (e 0) (e 1) (e 2) w K → denL Try.prog (tabOf T41) 56 fuel ((flat (bodyOf Try.f41)).drop 0) e w kn kr ke := by
  intro e w h
  unfold F41_1 at h
  have e1 : ∀ (Y0 : Value → Value → Value → Value → Value → World → Prop), F41_1b (e 0) (e 1) (e 2) w K Y0 = denL Try.prog (tabOf T41) 56 fuel (((flat (bodyOf Try.f41)).drop 0).take 5) e w (fun e w => Y0 (e 0) (e 1) (e 2) (e 8) (e 28) w) (endD Try.prog [.tmp 6, .tmp 7] K) noE := by intro Y0; kernel_rfl
  exact seg 5 (Eq.mp (e1 (fun a0 a1 a2 a8 a28 w => F41_2 a0 a1 a2 a8 a28 w K)) h) (fun e w h => ok41_2 hn hr he e w h) hr he
def F41 (x0 : Value) (x1 : Value) (x2 : Value) (w : World) (K : Value → World → Prop) : Prop := F41_1 x0 x1 x2 w K
def G41 : FnT := fun args w K => on3 (fun x0 x1 x2 => F41 x0 x1 x2 w K) args
theorem c41 {x0 x1 x2 : Value} {w : World} {K : Value → World → Prop} (h : F41 x0 x1 x2 w K) : callP G41 [x0, x1, x2] w K := callP_intro (on3_mk (p := fun x0 x1 x2 => F41 x0 x1 x2 w K) h)
theorem ok41 : OkF Try.prog 41 G41 := by
  refine okF_of (tab_ok (l := T41) ⟨ok62, ok64, ok87, trivial⟩) mixed (n := fuel) Try.func41 Try.call41 fun args w K h => ?_
  obtain ⟨x0, x1, x2, rfl, hh⟩ := of_on3 h
  unfold F41 at hh
  exact fnD_list (c := bodyOf Try.f41) (by kernel_rfl) (by kernel_rfl) (ok41_1 (fun _ _ h => h) (fun _ _ h => h) (fun _ _ _ h => h) (initE [x0, x1, x2]) w hh)
noncomputable def aB158 := bodyOf Try.f158
noncomputable def aF158 := blkB (sB (sA (sB aB158)))
noncomputable def vB121 := bodyOf Try.f121
noncomputable def vL121 := loopB (blkB (sB vB121))
noncomputable def vM121 := blkB (sB (sB vL121))
def G158 : FnT := gAppS Try.prog 33 121 11 128
theorem ok158 : OkF Try.prog 158 G158 := by
  intro args w K ⟨κ, ν, ek, ev, fv, m, mv, bx, mt, w0, L, ha, C, hev, hfb, hbd, hs, hk⟩
  subst ha
  refine .inl ⟨Try.call158 _ _, ?_⟩
  refine (appendSeq_ok (fnF := Try.f158) (f := 158) (g := 121) (tS := 74) (tV := 33) (i0 := 0) (i1 := 1) (i2 := 2) (i3 := 3) (i4 := 4) (ops0 := opsOf (sA aB158)) (ops1 := opsOf (sA (sA (sB aB158)))) (opsA := opsOf (rfA aF158)) (opsB := opsOf (blkB (rfB aF158))) (ops4 := opsOf (sA (sB (sB aB158)))) C Try.func158 (by kernel_rfl) (by kernel_rfl) (by kernel_rfl) (fun e w k => by kernel_rfl) (fun e w k => by kernel_rfl) (fun e w k => by kernel_rfl) (fun e w k => by kernel_rfl) (fun e w k => by kernel_rfl) u74 sl74 ss74 hbd hfb _ z33 (by kernel_rfl) Try.call121 hev ?_ hs).mono ?_
  · intro l J W L' hY h
    exact values_ok (fn := Try.f121) (f := 121) (es := 11) (tM := 107) (tV := 33) (fv := fv) (i0 := 0) (i1 := 1) (i2 := 2) (i3 := 3) (ops0 := opsOf (sA vB121)) (ops1 := opsOf (sA vL121)) (ops2 := opsOf (sA vM121)) (q1 := opAt (opsOf (sA (sB vM121))) 0) (q2 := opAt (opsOf (sA (sB vM121))) 1) (q3 := opAt (opsOf (sA (sB vM121))) 2) (q4 := opAt (opsOf (sA (sB vM121))) 3) (ats := #[33]) Try.func121 (by kernel_rfl) (by kernel_rfl) (by kernel_rfl) (fun e w k => by kernel_rfl) (fun e w k => by kernel_rfl) (fun e w k => by kernel_rfl) (fun e w k => by kernel_rfl) (fun e w k => by kernel_rfl) (by kernel_rfl) (by kernel_rfl) (by kernel_rfl) um107 (fun x => ⟨hev x, C.len x, C.one x⟩) _ z33 (by kernel_rfl) J hY h
  · rintro e w' ⟨v, rfl, xs, hp, h⟩
    exact ⟨v, rfl, hk xs v w' hp h⟩
def T120 : List (Nat × FnT) := [(158, G158)]
def F120 (x0 : Value) (w : World) (K : Value → World → Prop) : Prop :=
callP G158 [(.slice none 0 0), x0] w fun v2 w1 =>
K v2 w1
def G120 : FnT := fun args w K => on1 (fun x0 => F120 x0 w K) args
theorem c120 {x0 : Value} {w : World} {K : Value → World → Prop} (h : F120 x0 w K) : callP G120 [x0] w K := callP_intro (on1_mk (p := fun x0 => F120 x0 w K) h)
theorem ok120 : OkF Try.prog 120 G120 := by
  refine okF_of (tab_ok (l := T120) ⟨ok158, trivial⟩) mixed (n := fuel) Try.func120 Try.call120 fun args w K h => ?_
  obtain ⟨x0, rfl, hh⟩ := of_on1 h
  exact fnD_list (c := bodyOf Try.f120) (by kernel_rfl) (by kernel_rfl) (Eq.mp (by kernel_rfl) hh)
def T89 : List (Nat × FnT) := [(87, G87), (120, G120)]
def F89 (x0 : Value) (x1 : Value) (w : World) (K : Value → World → Prop) : Prop :=
callP G120 [x0] w fun v2 w1 =>
callP G87 [v2, x1] w1 fun _ w3 =>
K v2 w3
def G89 : FnT := fun args w K => on2 (fun x0 x1 => F89 x0 x1 w K) args
theorem c89 {x0 x1 : Value} {w : World} {K : Value → World → Prop} (h : F89 x0 x1 w K) : callP G89 [x0, x1] w K := callP_intro (on2_mk (p := fun x0 x1 => F89 x0 x1 w K) h)
theorem ok89 : OkF Try.prog 89 G89 := by
  refine okF_of (tab_ok (l := T89) ⟨ok87, ok120, trivial⟩) mixed (n := fuel) Try.func89 Try.call89 fun args w K h => ?_
  obtain ⟨x0, x1, rfl, hh⟩ := of_on2 h
  exact fnD_list (c := bodyOf Try.f89) (by kernel_rfl) (by kernel_rfl) (Eq.mp (by kernel_rfl) hh)
def T90 : List (Nat × FnT) := []
def F90 (x0 : Value) (w : World) (K : Value → World → Prop) : Prop :=
eBox 107 x0 w fun v2 w1 =>
bindP (some (.func (.func 121) #[] #[v2])) fun v3 =>
K v3 w1
def G90 : FnT := fun args w K => on1 (fun x0 => F90 x0 w K) args
theorem c90 {x0 : Value} {w : World} {K : Value → World → Prop} (h : F90 x0 w K) : callP G90 [x0] w K := callP_intro (on1_mk (p := fun x0 => F90 x0 w K) h)
theorem ok90 : OkF Try.prog 90 G90 := by
  refine okF_of (tab_ok (l := T90) trivial) mixed (n := fuel) Try.func90 Try.call90 fun args w K h => ?_
  obtain ⟨x0, rfl, hh⟩ := of_on1 h
  exact fnD_list (c := bodyOf Try.f90) (by kernel_rfl) (by kernel_rfl) (Eq.mp (by kernel_rfl) hh)
def T42 : List (Nat × FnT) := [(89, G89), (90, G90)]
def F42 (x0 : Value) (w : World) (K : Value → World → Prop) : Prop :=
bindP (pNil x0) fun v1 =>
bindP (pFieldAddr 2 v1) fun v2 =>
bindP (ld1 v2 w) fun v3 =>
callP G90 [v3] w fun v5 w4 =>
callP G89 [v5, (.func (.func 91) #[] #[])] w4 fun v7 w6 =>
K v7 w6
def G42 : FnT := fun args w K => on1 (fun x0 => F42 x0 w K) args
theorem c42 {x0 : Value} {w : World} {K : Value → World → Prop} (h : F42 x0 w K) : callP G42 [x0] w K := callP_intro (on1_mk (p := fun x0 => F42 x0 w K) h)
theorem ok42 : OkF Try.prog 42 G42 := by
  refine okF_of (tab_ok (l := T42) ⟨ok89, ok90, trivial⟩) mixed (n := fuel) Try.func42 Try.call42 fun args w K h => ?_
  obtain ⟨x0, rfl, hh⟩ := of_on1 h
  exact fnD_list (c := bodyOf Try.f42) (by kernel_rfl) (by kernel_rfl) (Eq.mp (by kernel_rfl) hh)
def T8 : List (Nat × FnT) := [(13, G13), (14, G14), (15, G15), (16, G16), (17, G17), (18, G18), (39, G39), (40, G40), (41, G41), (42, G42)]
def F8_3b (w : World) (K : Value → World → Prop) : Prop :=
K (.bool true) w
def F8_3 (w : World) (K : Value → World → Prop) : Prop := F8_3b w K
theorem ok8_3 {K : Value → World → Prop} {kn kr : Env → World → Prop} {ke : Nat → Env → World → Prop}
    (hn : ∀ e w, (fun e w => K (e 4) w) e w → kn e w) (hr : ∀ e w, endD Try.prog [.tmp 4] K e w → kr e w) (he : ∀ i e w, noE i e w → ke i e w) :
    ∀ e w, F8_3 w K → denL Try.prog (tabOf T8) 239 fuel ((flat (bodyOf Try.f8)).drop 8) e w kn kr ke := by
  intro e w h
  unfold F8_3 at h
  have e1 : ∀ (_ : Unit), F8_3b w K = denL Try.prog (tabOf T8) 239 fuel ((flat (bodyOf Try.f8)).drop 8) e w (fun e w => K (e 4) w) (endD Try.prog [.tmp 4] K) noE := by intro _; kernel_rfl
  exact seg_end (Eq.mp (e1 ()) h) hn hr he
def F8_6b (s0 : Value) (s1 : Value) (s5 : Value) (s7 : Value) (s8 : Value) (s9 : Value) (w : World) (_K : Value → World → Prop) (R3 : Value → Value → Value → Value → Value → Value → World → Prop) : Prop :=
bindP (bAdd s9 (.int .i64 1)) fun v1 =>
R3 s0 s1 s5 s7 s8 v1 w
def F8_6 (s0 : Value) (s1 : Value) (s5 : Value) (s7 : Value) (s8 : Value) (s9 : Value) (w : World) (K : Value → World → Prop) (R3 : Value → Value → Value → Value → Value → Value → World → Prop) : Prop := F8_6b s0 s1 s5 s7 s8 s9 w K R3
theorem ok8_6 (R3 : Value → Value → Value → Value → Value → Value → World → Prop) {K : Value → World → Prop} {kn kr : Env → World → Prop} {ke : Nat → Env → World → Prop}
    (hn : ∀ e w, (fun e w => R3 (e 0) (e 1) (e 5) (e 7) (e 8) (e 9) w) e w → kn e w) (hr : ∀ e w, endD Try.prog [.tmp 4] K e w → kr e w) (he : ∀ i e w, (blkK 0 (fun e w => F8_3 w K) noE) i e w → ke i e w) :
    ∀ e w, F8_6 (e 0) (e 1) (e 5) (e 7) (e 8) (e 9) w K R3 → denL Try.prog (tabOf T8) 239 fuel ((flat (loopB (blkB (nthC (flat (bodyOf Try.f8)) 7)))).drop 3) e w kn kr ke := by
  intro e w h
  unfold F8_6 at h
  have e1 : ∀ (_ : Unit), F8_6b (e 0) (e 1) (e 5) (e 7) (e 8) (e 9) w K R3 = denL Try.prog (tabOf T8) 239 fuel ((flat (loopB (blkB (nthC (flat (bodyOf Try.f8)) 7)))).drop 3) e w (fun e w => R3 (e 0) (e 1) (e 5) (e 7) (e 8) (e 9) w) (endD Try.prog [.tmp 4] K) (blkK 0 (fun e w => F8_3 w K) noE) := by intro _; kernel_rfl
  exact seg_end (Eq.mp (e1 ()) h) hn hr he
def F8_13b (s0 : Value) (s1 : Value) (s5 : Value) (s7 : Value) (s8 : Value) (s9 : Value) (w : World) (K : Value → World → Prop) (R3 : Value → Value → Value → Value → Value → Value → World → Prop) (Y0 : Value → Value → Value → Value → Value → Value → World → Prop) : Prop :=
callP G17 [s5] w fun v3 w2 =>
bindP (lenM s7 w2) fun v4 =>
bindP (bNe Try.prog 3 (.tmp 235) (.tmp 237) v3 v4) fun v5 =>
ifB v5 (
K (.bool false) w2) (
Y0 s0 s1 s5 s7 s8 s9 w2)
def F8_13 (s0 : Value) (s1 : Value) (s5 : Value) (s7 : Value) (s8 : Value) (s9 : Value) (w : World) (K : Value → World → Prop) (R3 : Value → Value → Value → Value → Value → Value → World → Prop) : Prop := F8_13b s0 s1 s5 s7 s8 s9 w K R3 (fun a0 a1 a5 a7 a8 a9 w => F8_6 a0 a1 a5 a7 a8 a9 w K R3)
theorem ok8_13 (R3 : Value → Value → Value → Value → Value → Value → World → Prop) {K : Value → World → Prop} {kn kr : Env → World → Prop} {ke : Nat → Env → World → Prop}
    (hn : ∀ e w, (fun e w => F8_6 (e 0) (e 1) (e 5) (e 7) (e 8) (e 9) w K R3) e w → kn e w) (hr : ∀ e w, endD Try.prog [.tmp 4] K e w → kr e w) (he : ∀ i e w, (blkK 1 (fun e w => F8_6 (e 0) (e 1) (e 5) (e 7) (e 8) (e 9) w K R3) (blkK 0 (fun e w => F8_3 w K) noE)) i e w → ke i e w) :
    ∀ e w, F8_13 (e 0) (e 1) (e 5) (e 7) (e 8) (e 9) w K R3 → denL Try.prog (tabOf T8) 239 fuel ((flat (blkB (nthC (flat (loopB (blkB (nthC (flat (bodyOf Try.f8)) 7)))) 2))).drop 9) e w kn kr ke := by
  intro e w h
  unfold F8_13 at h
  have e1 : ∀ (Y0 : Value → Value → Value → Value → Value → Value → World → Prop), F8_13b (e 0) (e 1) (e 5) (e 7) (e 8) (e 9) w K R3 Y0 = denL Try.prog (tabOf T8) 239 fuel ((flat (blkB (nthC (flat (loopB (blkB (nthC (flat (bodyOf Try.f8)) 7)))) 2))).drop 9) e w (fun e w => Y0 (e 0) (e 1) (e 5) (e 7) (e 8) (e 9) w) (endD Try.prog [.tmp 4] K) (blkK 1 (fun e w => Y0 (e 0) (e 1) (e 5) (e 7) (e 8) (e 9) w) (blkK 0 (fun e w => F8_3 w K) noE)) := by intro Y0; kernel_rfl
  exact seg_end (Eq.mp (e1 (fun a0 a1 a5 a7 a8 a9 w => F8_6 a0 a1 a5 a7 a8 a9 w K R3)) h) hn hr he
def F8_12b (s0 : Value) (s1 : Value) (s5 : Value) (s7 : Value) (s8 : Value) (s9 : Value) (s20 : Value) (s200 : Value) (s201 : Value) (s202 : Value) (w : World) (K : Value → World → Prop) (R3 : Value → Value → Value → Value → Value → Value → World → Prop) (Y0 : Value → Value → Value → Value → Value → Value → Value → Value → Value → Value → World → Prop) (Y1 : Value → Value → Value → Value → Value → Value → World → Prop) : Prop :=
bindP (bLt s202 s201) fun v6 =>
ifB v6 (
bindP (pIndexL 11 s200 s202) fun v7 =>
bindP (ldN 11 v7 w) fun v8 =>
eAlloc Try.prog 33 w fun v10 w9 =>
bindW (st 11 v10 v8 w9) fun w11 =>
bindP (pFieldAddr 1 v10) fun v13 =>
bindP (pFieldAddr 0 v13) fun v14 =>
bindP (ld1 v14 w11) fun v15 =>
bindP (pFieldAddr 1 v10) fun v16 =>
bindP (pFieldAddr 1 v16) fun v17 =>
bindP (ld1 v17 w11) fun v18 =>
bindP (pFieldAddr 1 v10) fun v19 =>
bindP (pFieldAddr 2 v19) fun v20 =>
bindP (ld1 v20 w11) fun v21 =>
bindP (fBuild Try.prog 79 [(0, v15), (1, v18), (2, v21)]) fun v22 =>
eAlloc Try.prog 79 w11 fun v24 w23 =>
bindW (st 3 v24 v22 w23) fun w25 =>
bindP (ldN 3 v24 w25) fun v27 =>
bindP (fLook Try.prog 77 s20 v27 false w25) fun v28 =>
stepM (gd false v28) s7 fun v29 =>
Sx.stepG (gd false v28) (pFieldAddr 0 v10) fun v30 =>
Sx.stepG (gd false v28) (ld1 v30 w25) fun v31 =>
Sx.stepG (gd false v28) (fLook Try.prog 70 v29 v31 false w25) fun v32 =>
Sx.stepG (gd false v28) (uNot v32) fun v33 =>
bindP (pPick v28 (.bool true) v33) fun v34 =>
Sx.stepG (gd false v34) (ldN 11 v10 w25) fun v35 =>
stepE (gd false v34) (fun k => callP G18 [v35] w25 k) w25 fun v37 w36 =>
Sx.stepG (gd false v34) (bNe Try.prog 24 (.tmp 228) (.const (.int .i64 0)) v37 (.int .i64 0)) fun v38 =>
bindP (pPick v34 (.bool true) v38) fun v39 =>
ifB v39 (
K (.bool false) w36) (
bindP (ldN 3 v24 w36) fun v40 =>
eMapSet Try.prog 77 s20 v40 (.bool true) w36 fun _ w41 =>
bindP (bAdd s202 (.int .i64 1)) fun v43 =>
Y0 s0 s1 s5 s7 s8 s9 s20 s200 s201 v43 w41)) (
Y1 s0 s1 s5 s7 s8 s9 w)
def F8_12L : Nat → Value → Value → Value → Value → Value → Value → Value → Value → Value → Value → World → (Value → World → Prop) → (Value → Value → Value → Value → Value → Value → World → Prop) → Prop
  | 0, _, _, _, _, _, _, _, _, _, _, _, _, _ => False
  | n + 1, s0, s1, s5, s7, s8, s9, s20, s200, s201, s202, w, K, R3 => F8_12b s0 s1 s5 s7 s8 s9 s20 s200 s201 s202 w K R3 (fun a0 a1 a5 a7 a8 a9 a20 a200 a201 a202 w => F8_12L n a0 a1 a5 a7 a8 a9 a20 a200 a201 a202 w K R3) (fun a0 a1 a5 a7 a8 a9 w => F8_13 a0 a1 a5 a7 a8 a9 w K R3)
def F8_12 (s0 : Value) (s1 : Value) (s5 : Value) (s7 : Value) (s8 : Value) (s9 : Value) (s20 : Value) (s200 : Value) (s201 : Value) (s202 : Value) (w : World) (K : Value → World → Prop) (R3 : Value → Value → Value → Value → Value → Value → World → Prop) : Prop := F8_12L fuel s0 s1 s5 s7 s8 s9 s20 s200 s201 s202 w K R3
theorem ok8_12 (R3 : Value → Value → Value → Value → Value → Value → World → Prop) {K : Value → World → Prop} {kn kr : Env → World → Prop} {ke : Nat → Env → World → Prop}
    (hn : ∀ e w, (fun e w => F8_6 (e 0) (e 1) (e 5) (e 7) (e 8) (e 9) w K R3) e w → kn e w) (hr : ∀ e w, endD Try.prog [.tmp 4] K e w → kr e w) (he : ∀ i e w, (blkK 1 (fun e w => F8_6 (e 0) (e 1) (e 5) (e 7) (e 8) (e 9) w K R3) (blkK 0 (fun e w => F8_3 w K) noE)) i e w → ke i e w) :
    ∀ e w, F8_12 (e 0) (e 1) (e 5) (e 7) (e 8) (e 9) (e 20) (e 200) (e 201) (e 202) w K R3 → denL Try.prog (tabOf T8) 239 fuel ((flat (blkB (nthC (flat (loopB (blkB (nthC (flat (bodyOf Try.f8)) 7)))) 2))).drop 8) e w kn kr ke := by
  intro e w h
  unfold F8_12 at h
  refine seg_loop (id := 5) (body := (loopB (blkB (nthC (flat (blkB (nthC (flat (loopB (blkB (nthC (flat (bodyOf Try.f8)) 7)))) 2))) 8)))) (l2 := (flat (blkB (nthC (flat (loopB (blkB (nthC (flat (bodyOf Try.f8)) 7)))) 2))).drop 9) (by kernel_rfl) ?_
  refine loop_ok (FL := fun m e w => F8_12L m (e 0) (e 1) (e 5) (e 7) (e 8) (e 9) (e 20) (e 200) (e 201) (e 202) w K R3) (fr := endD Try.prog [.tmp 4] K) (fe := (blkK 5 (fun e w => F8_13 (e 0) (e 1) (e 5) (e 7) (e 8) (e 9) w K R3) (blkK 1 (fun e w => F8_6 (e 0) (e 1) (e 5) (e 7) (e 8) (e 9) w K R3) (blkK 0 (fun e w => F8_3 w K) noE)))) (fun _ _ h => h) ?_ hr (blkK_mono (fun e w h => ok8_13 R3 hn hr he e w h) he) fuel e w h
  intro m e w h
  have h : F8_12L (m + 1) (e 0) (e 1) (e 5) (e 7) (e 8) (e 9) (e 20) (e 200) (e 201) (e 202) w K R3 := h
  rw [F8_12L] at h
  have e1 : ∀ (Y0 : Value → Value → Value → Value → Value → Value → Value → Value → Value → Value → World → Prop) (Y1 : Value → Value → Value → Value → Value → Value → World → Prop), F8_12b (e 0) (e 1) (e 5) (e 7) (e 8) (e 9) (e 20) (e 200) (e 201) (e 202) w K R3 Y0 Y1 = denL Try.prog (tabOf T8) 239 fuel (flat (loopB (blkB (nthC (flat (blkB (nthC (flat (loopB (blkB (nthC (flat (bodyOf Try.f8)) 7)))) 2))) 8)))) e w (fun e w => Y0 (e 0) (e 1) (e 5) (e 7) (e 8) (e 9) (e 20) (e 200) (e 201) (e 202) w) (endD Try.prog [.tmp 4] K) (blkK 5 (fun e w => Y1 (e 0) (e 1) (e 5) (e 7) (e 8) (e 9) w) (blkK 1 (fun e w => F8_6 (e 0) (e 1) (e 5) (e 7) (e 8) (e 9) w K R3) (blkK 0 (fun e w => F8_3 w K) noE))) := by intro Y0 Y1; kernel_rfl
  exact Eq.mp (e1 (fun a0 a1 a5 a7 a8 a9 a20 a200 a201 a202 w => F8_12L m a0 a1 a5 a7 a8 a9 a20 a200 a201 a202 w K R3) (fun a0 a1 a5 a7 a8 a9 w => F8_13 a0 a1 a5 a7 a8 a9 w K R3)) h
def F8_11b (s0 : Value) (s1 : Value) (s5 : Value) (s7 : Value) (s8 : Value) (s9 : Value) (w : World) (_K : Value → World → Prop) (R3 : Value → Value → Value → Value → Value → Value → World → Prop) (Y0 : Value → Value → Value → Value → Value → Value → Value → Value → Value → Value → World → Prop) : Prop :=
eMakeMap none w fun v45 w44 =>
callP G42 [s5] w44 fun v47 w46 =>
bindP (lenL v47) fun v48 =>
Y0 s0 s1 s5 s7 s8 s9 v45 v47 v48 (.int .i64 0) w46
def F8_11 (s0 : Value) (s1 : Value) (s5 : Value) (s7 : Value) (s8 : Value) (s9 : Value) (w : World) (K : Value → World → Prop) (R3 : Value → Value → Value → Value → Value → Value → World → Prop) : Prop := F8_11b s0 s1 s5 s7 s8 s9 w K R3 (fun a0 a1 a5 a7 a8 a9 a20 a200 a201 a202 w => F8_12 a0 a1 a5 a7 a8 a9 a20 a200 a201 a202 w K R3)
theorem ok8_11 (R3 : Value → Value → Value → Value → Value → Value → World → Prop) {K : Value → World → Prop} {kn kr : Env → World → Prop} {ke : Nat → Env → World → Prop}
    (hn : ∀ e w, (fun e w => F8_6 (e 0) (e 1) (e 5) (e 7) (e 8) (e 9) w K R3) e w → kn e w) (hr : ∀ e w, endD Try.prog [.tmp 4] K e w → kr e w) (he : ∀ i e w, (blkK 1 (fun e w => F8_6 (e 0) (e 1) (e 5) (e 7) (e 8) (e 9) w K R3) (blkK 0 (fun e w => F8_3 w K) noE)) i e w → ke i e w) :
    ∀ e w, F8_11 (e 0) (e 1) (e 5) (e 7) (e 8) (e 9) w K R3 → denL Try.prog (tabOf T8) 239 fuel ((flat (blkB (nthC (flat (loopB (blkB (nthC (flat (bodyOf Try.f8)) 7)))) 2))).drop 6) e w kn kr ke := by
  intro e w h
  unfold F8_11 at h
  have e1 : ∀ (Y0 : Value → Value → Value → Value → Value → Value → Value → Value → Value → Value → World → Prop), F8_11b (e 0) (e 1) (e 5) (e 7) (e 8) (e 9) w K R3 Y0 = denL Try.prog (tabOf T8) 239 fuel (((flat (blkB (nthC (flat (loopB (blkB (nthC (flat (bodyOf Try.f8)) 7)))) 2))).drop 6).take 2) e w (fun e w => Y0 (e 0) (e 1) (e 5) (e 7) (e 8) (e 9) (e 20) (e 200) (e 201) (e 202) w) (endD Try.prog [.tmp 4] K) (blkK 1 (fun e w => F8_6 (e 0) (e 1) (e 5) (e 7) (e 8) (e 9) w K R3) (blkK 0 (fun e w => F8_3 w K) noE)) := by intro Y0; kernel_rfl
  exact seg 2 (Eq.mp (e1 (fun a0 a1 a5 a7 a8 a9 a20 a200 a201 a202 w => F8_12 a0 a1 a5 a7 a8 a9 a20 a200 a201 a202 w K R3)) h) (fun e w h => ok8_12 R3 hn hr he e w h) hr he
def F8_16b (s0 : Value) (s1 : Value) (s5 : Value) (s7 : Value) (s8 : Value) (s9 : Value) (s17 : Value) (w : World) (K : Value → World → Prop) (R3 : Value → Value → Value → Value → Value → Value → World → Prop) (Y0 : Value → Value → Value → Value → Value → Value → World → Prop) : Prop :=
bindP (bNe Try.prog 24 (.tmp 196) (.const (.int .i64 0)) s17 (.int .i64 0)) fun v49 =>
ifB v49 (
K (.bool false) w) (
Y0 s0 s1 s5 s7 s8 s9 w)
def F8_16 (s0 : Value) (s1 : Value) (s5 : Value) (s7 : Value) (s8 : Value) (s9 : Value) (s17 : Value) (w : World) (K : Value → World → Prop) (R3 : Value → Value → Value → Value → Value → Value → World → Prop) : Prop := F8_16b s0 s1 s5 s7 s8 s9 s17 w K R3 (fun a0 a1 a5 a7 a8 a9 w => F8_11 a0 a1 a5 a7 a8 a9 w K R3)
theorem ok8_16 (R3 : Value → Value → Value → Value → Value → Value → World → Prop) {K : Value → World → Prop} {kn kr : Env → World → Prop} {ke : Nat → Env → World → Prop}
    (hn : ∀ e w, (fun e w => F8_11 (e 0) (e 1) (e 5) (e 7) (e 8) (e 9) w K R3) e w → kn e w) (hr : ∀ e w, endD Try.prog [.tmp 4] K e w → kr e w) (he : ∀ i e w, (blkK 1 (fun e w => F8_6 (e 0) (e 1) (e 5) (e 7) (e 8) (e 9) w K R3) (blkK 0 (fun e w => F8_3 w K) noE)) i e w → ke i e w) :
    ∀ e w, F8_16 (e 0) (e 1) (e 5) (e 7) (e 8) (e 9) (e 17) w K R3 → denL Try.prog (tabOf T8) 239 fuel ((flat (thenC (nthC (flat (blkB (nthC (flat (loopB (blkB (nthC (flat (bodyOf Try.f8)) 7)))) 2))) 5))).drop 3) e w kn kr ke := by
  intro e w h
  unfold F8_16 at h
  have e1 : ∀ (Y0 : Value → Value → Value → Value → Value → Value → World → Prop), F8_16b (e 0) (e 1) (e 5) (e 7) (e 8) (e 9) (e 17) w K R3 Y0 = denL Try.prog (tabOf T8) 239 fuel ((flat (thenC (nthC (flat (blkB (nthC (flat (loopB (blkB (nthC (flat (bodyOf Try.f8)) 7)))) 2))) 5))).drop 3) e w (fun e w => Y0 (e 0) (e 1) (e 5) (e 7) (e 8) (e 9) w) (endD Try.prog [.tmp 4] K) (blkK 1 (fun e w => F8_6 (e 0) (e 1) (e 5) (e 7) (e 8) (e 9) w K R3) (blkK 0 (fun e w => F8_3 w K) noE)) := by intro Y0; kernel_rfl
  exact seg_end (Eq.mp (e1 (fun a0 a1 a5 a7 a8 a9 w => F8_11 a0 a1 a5 a7 a8 a9 w K R3)) h) hn hr he
def F8_15b (s0 : Value) (s1 : Value) (s5 : Value) (s7 : Value) (s8 : Value) (s9 : Value) (s17 : Value) (s173 : Value) (s174 : Value) (s175 : Value) (w : World) (K : Value → World → Prop) (R3 : Value → Value → Value → Value → Value → Value → World → Prop) (Y0 : Value → Value → Value → Value → Value → Value → Value → Value → Value → Value → World → Prop) (Y1 : Value → Value → Value → Value → Value → Value → Value → World → Prop) : Prop :=
bindP (bLt s175 s174) fun v50 =>
ifB v50 (
bindP (pIndexL 11 s173 s175) fun v51 =>
bindP (ldN 11 v51 w) fun v52 =>
eAlloc Try.prog 33 w fun v54 w53 =>
bindW (st 11 v54 v52 w53) fun w55 =>
bindP (pFieldAddr 0 v54) fun v57 =>
bindP (ld1 v57 w55) fun v58 =>
bindP (fLook Try.prog 70 s7 v58 false w55) fun v59 =>
bindP (uNot v59) fun v60 =>
Sx.stepG (gd false v60) (pFieldAddr 8 v54) fun v61 =>
Sx.stepG (gd false v60) (ld1 v61 w55) fun v62 =>
stepM (gd false v60) s9 fun v63 =>
Sx.stepG (gd false v60) (bMul v63 (.int .i64 10)) fun v64 =>
Sx.stepG (gd false v60) (bSub v64 (.int .i64 50)) fun v65 =>
Sx.stepG (gd false v60) (bGt v62 v65) fun v66 =>
bindP (pPick v60 (.bool true) v66) fun v67 =>
ifB v67 (
K (.bool false) w55) (
bindP (pFieldAddr 0 v54) fun v68 =>
bindP (ld1 v68 w55) fun v69 =>
eDelete Try.prog 70 s7 v69 w55 fun _ w70 =>
bindP (bAdd s175 (.int .i64 1)) fun v72 =>
Y0 s0 s1 s5 s7 s8 s9 s17 s173 s174 v72 w70)) (
Y1 s0 s1 s5 s7 s8 s9 s17 w)
def F8_15L : Nat → Value → Value → Value → Value → Value → Value → Value → Value → Value → Value → World → (Value → World → Prop) → (Value → Value → Value → Value → Value → Value → World → Prop) → Prop
  | 0, _, _, _, _, _, _, _, _, _, _, _, _, _ => False
  | n + 1, s0, s1, s5, s7, s8, s9, s17, s173, s174, s175, w, K, R3 => F8_15b s0 s1 s5 s7 s8 s9 s17 s173 s174 s175 w K R3 (fun a0 a1 a5 a7 a8 a9 a17 a173 a174 a175 w => F8_15L n a0 a1 a5 a7 a8 a9 a17 a173 a174 a175 w K R3) (fun a0 a1 a5 a7 a8 a9 a17 w => F8_16 a0 a1 a5 a7 a8 a9 a17 w K R3)
def F8_15 (s0 : Value) (s1 : Value) (s5 : Value) (s7 : Value) (s8 : Value) (s9 : Value) (s17 : Value) (s173 : Value) (s174 : Value) (s175 : Value) (w : World) (K : Value → World → Prop) (R3 : Value → Value → Value → Value → Value → Value → World → Prop) : Prop := F8_15L fuel s0 s1 s5 s7 s8 s9 s17 s173 s174 s175 w K R3
theorem ok8_15 (R3 : Value → Value → Value → Value → Value → Value → World → Prop) {K : Value → World → Prop} {kn kr : Env → World → Prop} {ke : Nat → Env → World → Prop}
    (hn : ∀ e w, (fun e w => F8_11 (e 0) (e 1) (e 5) (e 7) (e 8) (e 9) w K R3) e w → kn e w) (hr : ∀ e w, endD Try.prog [.tmp 4] K e w → kr e w) (he : ∀ i e w, (blkK 1 (fun e w => F8_6 (e 0) (e 1) (e 5) (e 7) (e 8) (e 9) w K R3) (blkK 0 (fun e w => F8_3 w K) noE)) i e w → ke i e w) :
    ∀ e w, F8_15 (e 0) (e 1) (e 5) (e 7) (e 8) (e 9) (e 17) (e 173) (e 174) (e 175) w K R3 → denL Try.prog (tabOf T8) 239 fuel ((flat (thenC (nthC (flat (blkB (nthC (flat (loopB (blkB (nthC (flat (bodyOf Try.f8)) 7)))) 2))) 5))).drop 2) e w kn kr ke := by
  intro e w h
  unfold F8_15 at h
  refine seg_loop (id := 3) (body := (loopB (blkB (nthC (flat (thenC (nthC (flat (blkB (nthC (flat (loopB (blkB (nthC (flat (bodyOf Try.f8)) 7)))) 2))) 5))) 2)))) (l2 := (flat (thenC (nthC (flat (blkB (nthC (flat (loopB (blkB (nthC (flat (bodyOf Try.f8)) 7)))) 2))) 5))).drop 3) (by kernel_rfl) ?_
  refine loop_ok (FL := fun m e w => F8_15L m (e 0) (e 1) (e 5) (e 7) (e 8) (e 9) (e 17) (e 173) (e 174) (e 175) w K R3) (fr := endD Try.prog [.tmp 4] K) (fe := (blkK 3 (fun e w => F8_16 (e 0) (e 1) (e 5) (e 7) (e 8) (e 9) (e 17) w K R3) (blkK 1 (fun e w => F8_6 (e 0) (e 1) (e 5) (e 7) (e 8) (e 9) w K R3) (blkK 0 (fun e w => F8_3 w K) noE)))) (fun _ _ h => h) ?_ hr (blkK_mono (fun e w h => ok8_16 R3 hn hr he e w h) he) fuel e w h
  intro m e w h
  have h : F8_15L (m + 1) (e 0) (e 1) (e 5) (e 7) (e 8) (e 9) (e 17) (e 173) (e 174) (e 175) w K R3 := h
  rw [F8_15L] at h
  have e1 : ∀ (Y0 : Value → Value → Value → Value → Value → Value → Value → Value → Value → Value → World → Prop) (Y1 : Value → Value → Value → Value → Value → Value → Value → World → Prop), F8_15b (e 0) (e 1) (e 5) (e 7) (e 8) (e 9) (e 17) (e 173) (e 174) (e 175) w K R3 Y0 Y1 = denL Try.prog (tabOf T8) 239 fuel (flat (loopB (blkB (nthC (flat (thenC (nthC (flat (blkB (nthC (flat (loopB (blkB (nthC (flat (bodyOf Try.f8)) 7)))) 2))) 5))) 2)))) e w (fun e w => Y0 (e 0) (e 1) (e 5) (e 7) (e 8) (e 9) (e 17) (e 173) (e 174) (e 175) w) (endD Try.prog [.tmp 4] K) (blkK 3 (fun e w => Y1 (e 0) (e 1) (e 5) (e 7) (e 8) (e 9) (e 17) w) (blkK 1 (fun e w => F8_6 (e 0) (e 1) (e 5) (e 7) (e 8) (e 9) w K R3) (blkK 0 (fun e w => F8_3 w K) noE))) := by intro Y0 Y1; kernel_rfl
  exact Eq.mp (e1 (fun a0 a1 a5 a7 a8 a9 a17 a173 a174 a175 w => F8_15L m a0 a1 a5 a7 a8 a9 a17 a173 a174 a175 w K R3) (fun a0 a1 a5 a7 a8 a9 a17 w => F8_16 a0 a1 a5 a7 a8 a9 a17 w K R3)) h
def F8_14b (s0 : Value) (s1 : Value) (s5 : Value) (s7 : Value) (s8 : Value) (s9 : Value) (w : World) (_K : Value → World → Prop) (R3 : Value → Value → Value → Value → Value → Value → World → Prop) (Y0 : Value → Value → Value → Value → Value → Value → Value → Value → Value → Value → World → Prop) : Prop :=
bindP (bMul s9 (.int .i64 10)) fun v73 =>
callP G41 [s5, v73, (.int .i64 50)] w fun v75 w74 =>
bindP (pTuple v75 0) fun v76 =>
bindP (pTuple v75 1) fun v77 =>
bindP (lenL v76) fun v78 =>
Y0 s0 s1 s5 s7 s8 s9 v77 v76 v78 (.int .i64 0) w74
def F8_14 (s0 : Value) (s1 : Value) (s5 : Value) (s7 : Value) (s8 : Value) (s9 : Value) (w : World) (K : Value → World → Prop) (R3 : Value → Value → Value → Value → Value → Value → World → Prop) : Prop := F8_14b s0 s1 s5 s7 s8 s9 w K R3 (fun a0 a1 a5 a7 a8 a9 a17 a173 a174 a175 w => F8_15 a0 a1 a5 a7 a8 a9 a17 a173 a174 a175 w K R3)
theorem ok8_14 (R3 : Value → Value → Value → Value → Value → Value → World → Prop) {K : Value → World → Prop} {kn kr : Env → World → Prop} {ke : Nat → Env → World → Prop}
    (hn : ∀ e w, (fun e w => F8_11 (e 0) (e 1) (e 5) (e 7) (e 8) (e 9) w K R3) e w → kn e w) (hr : ∀ e w, endD Try.prog [.tmp 4] K e w → kr e w) (he : ∀ i e w, (blkK 1 (fun e w => F8_6 (e 0) (e 1) (e 5) (e 7) (e 8) (e 9) w K R3) (blkK 0 (fun e w => F8_3 w K) noE)) i e w → ke i e w) :
    ∀ e w, F8_14 (e 0) (e 1) (e 5) (e 7) (e 8) (e 9) w K R3 → denL Try.prog (tabOf T8) 239 fuel ((flat (thenC (nthC (flat (blkB (nthC (flat (loopB (blkB (nthC (flat (bodyOf Try.f8)) 7)))) 2))) 5))).drop 0) e w kn kr ke := by
  intro e w h
  unfold F8_14 at h
  have e1 : ∀ (Y0 : Value → Value → Value → Value → Value → Value → Value → Value → Value → Value → World → Prop), F8_14b (e 0) (e 1) (e 5) (e 7) (e 8) (e 9) w K R3 Y0 = denL Try.prog (tabOf T8) 239 fuel (((flat (thenC (nthC (flat (blkB (nthC (flat (loopB (blkB (nthC (flat (bodyOf Try.f8)) 7)))) 2))) 5))).drop 0).take 2) e w (fun e w => Y0 (e 0) (e 1) (e 5) (e 7) (e 8) (e 9) (e 17) (e 173) (e 174) (e 175) w) (endD Try.prog [.tmp 4] K) (blkK 1 (fun e w => F8_6 (e 0) (e 1) (e 5) (e 7) (e 8) (e 9) w K R3) (blkK 0 (fun e w => F8_3 w K) noE)) := by intro Y0; kernel_rfl
  exact seg 2 (Eq.mp (e1 (fun a0 a1 a5 a7 a8 a9 a17 a173 a174 a175 w => F8_15 a0 a1 a5 a7 a8 a9 a17 a173 a174 a175 w K R3)) h) (fun e w h => ok8_15 R3 hn hr he e w h) hr he
def F8_17b (s0 : Value) (s1 : Value) (s5 : Value) (s7 : Value) (s8 : Value) (s9 : Value) (w : World) (_K : Value → World → Prop) (R3 : Value → Value → Value → Value → Value → Value → World → Prop) (Y0 : Value → Value → Value → Value → Value → Value → World → Prop) : Prop :=
Y0 s0 s1 s5 s7 s8 s9 w
def F8_17 (s0 : Value) (s1 : Value) (s5 : Value) (s7 : Value) (s8 : Value) (s9 : Value) (w : World) (K : Value → World → Prop) (R3 : Value → Value → Value → Value → Value → Value → World → Prop) : Prop := F8_17b s0 s1 s5 s7 s8 s9 w K R3 (fun a0 a1 a5 a7 a8 a9 w => F8_11 a0 a1 a5 a7 a8 a9 w K R3)
theorem ok8_17 (R3 : Value → Value → Value → Value → Value → Value → World → Prop) {K : Value → World → Prop} {kn kr : Env → World → Prop} {ke : Nat → Env → World → Prop}
    (hn : ∀ e w, (fun e w => F8_11 (e 0) (e 1) (e 5) (e 7) (e 8) (e 9) w K R3) e w → kn e w) (hr : ∀ e w, endD Try.prog [.tmp 4] K e w → kr e w) (he : ∀ i e w, (blkK 1 (fun e w => F8_6 (e 0) (e 1) (e 5) (e 7) (e 8) (e 9) w K R3) (blkK 0 (fun e w => F8_3 w K) noE)) i e w → ke i e w) :
    ∀ e w, F8_17 (e 0) (e 1) (e 5) (e 7) (e 8) (e 9) w K R3 → denL Try.prog (tabOf T8) 239 fuel ((flat (elseC (nthC (flat (blkB (nthC (flat (loopB (blkB (nthC (flat (bodyOf Try.f8)) 7)))) 2))) 5))).drop 0) e w kn kr ke := by
  intro e w h
  unfold F8_17 at h
  have e1 : ∀ (Y0 : Value → Value → Value → Value → Value → Value → World → Prop), F8_17b (e 0) (e 1) (e 5) (e 7) (e 8) (e 9) w K R3 Y0 = denL Try.prog (tabOf T8) 239 fuel ((flat (elseC (nthC (flat (blkB (nthC (flat (loopB (blkB (nthC (flat (bodyOf Try.f8)) 7)))) 2))) 5))).drop 0) e w (fun e w => Y0 (e 0) (e 1) (e 5) (e 7) (e 8) (e 9) w) (endD Try.prog [.tmp 4] K) (blkK 1 (fun e w => F8_6 (e 0) (e 1) (e 5) (e 7) (e 8) (e 9) w K R3) (blkK 0 (fun e w => F8_3 w K) noE)) := by intro Y0; kernel_rfl
  exact seg_end (Eq.mp (e1 (fun a0 a1 a5 a7 a8 a9 w => F8_11 a0 a1 a5 a7 a8 a9 w K R3)) h) hn hr he
def F8_10 (s0 : Value) (s1 : Value) (s5 : Value) (s7 : Value) (s8 : Value) (s9 : Value) (s165 : Value) (w : World) (K : Value → World → Prop) (R3 : Value → Value → Value → Value → Value → Value → World → Prop) : Prop := ifB s165 (F8_14 s0 s1 s5 s7 s8 s9 w K R3) (F8_17 s0 s1 s5 s7 s8 s9 w K R3)
theorem ok8_10 (R3 : Value → Value → Value → Value → Value → Value → World → Prop) {K : Value → World → Prop} {kn kr : Env → World → Prop} {ke : Nat → Env → World → Prop}
    (hn : ∀ e w, (fun e w => F8_6 (e 0) (e 1) (e 5) (e 7) (e 8) (e 9) w K R3) e w → kn e w) (hr : ∀ e w, endD Try.prog [.tmp 4] K e w → kr e w) (he : ∀ i e w, (blkK 1 (fun e w => F8_6 (e 0) (e 1) (e 5) (e 7) (e 8) (e 9) w K R3) (blkK 0 (fun e w => F8_3 w K) noE)) i e w → ke i e w) :
    ∀ e w, F8_10 (e 0) (e 1) (e 5) (e 7) (e 8) (e 9) (e 165) w K R3 → denL Try.prog (tabOf T8) 239 fuel ((flat (blkB (nthC (flat (loopB (blkB (nthC (flat (bodyOf Try.f8)) 7)))) 2))).drop 5) e w kn kr ke := by
  intro e w h
  unfold F8_10 at h
  refine seg_cond (c := (.tmp 165)) (a := thenC (nthC (flat (blkB (nthC (flat (loopB (blkB (nthC (flat (bodyOf Try.f8)) 7)))) 2))) 5)) (b := elseC (nthC (flat (blkB (nthC (flat (loopB (blkB (nthC (flat (bodyOf Try.f8)) 7)))) 2))) 5)) (l2 := (flat (blkB (nthC (flat (loopB (blkB (nthC (flat (bodyOf Try.f8)) 7)))) 2))).drop 6) (by kernel_rfl) h (fun h => ?_) (fun h => ?_)
  · exact ok8_14 R3 (fun e w h => ok8_11 R3 hn hr he e w h) hr he e w h
  · exact ok8_17 R3 (fun e w h => ok8_11 R3 hn hr he e w h) hr he e w h
def F8_9b (s0 : Value) (s1 : Value) (s5 : Value) (s7 : Value) (s8 : Value) (s9 : Value) (w : World) (_K : Value → World → Prop) (R3 : Value → Value → Value → Value → Value → Value → World → Prop) (Y0 : Value → Value → Value → Value → Value → Value → Value → World → Prop) : Prop :=
bindP (lenL s1) fun v79 =>
bindP (bLt s9 v79) fun v80 =>
stepM (gd true v80) s1 fun v81 =>
stepM (gd true v80) s9 fun v82 =>
Sx.stepG (gd true v80) (pIndexL 1 v81 v82) fun v83 =>
Sx.stepG (gd true v80) (ld1 v83 w) fun v84 =>
Sx.stepG (gd true v80) (bRem v84 (.int .i64 4)) fun v85 =>
Sx.stepG (gd true v80) (bEq Try.prog 3 (.tmp 163) (.const (.int .i64 1)) v85 (.int .i64 1)) fun v86 =>
bindP (pPick v80 v86 (.bool false)) fun v87 =>
Y0 s0 s1 s5 s7 s8 s9 v87 w
def F8_9 (s0 : Value) (s1 : Value) (s5 : Value) (s7 : Value) (s8 : Value) (s9 : Value) (w : World) (K : Value → World → Prop) (R3 : Value → Value → Value → Value → Value → Value → World → Prop) : Prop := F8_9b s0 s1 s5 s7 s8 s9 w K R3 (fun a0 a1 a5 a7 a8 a9 a165 w => F8_10 a0 a1 a5 a7 a8 a9 a165 w K R3)
theorem ok8_9 (R3 : Value → Value → Value → Value → Value → Value → World → Prop) {K : Value → World → Prop} {kn kr : Env → World → Prop} {ke : Nat → Env → World → Prop}
    (hn : ∀ e w, (fun e w => F8_6 (e 0) (e 1) (e 5) (e 7) (e 8) (e 9) w K R3) e w → kn e w) (hr : ∀ e w, endD Try.prog [.tmp 4] K e w → kr e w) (he : ∀ i e w, (blkK 1 (fun e w => F8_6 (e 0) (e 1) (e 5) (e 7) (e 8) (e 9) w K R3) (blkK 0 (fun e w => F8_3 w K) noE)) i e w → ke i e w) :
    ∀ e w, F8_9 (e 0) (e 1) (e 5) (e 7) (e 8) (e 9) w K R3 → denL Try.prog (tabOf T8) 239 fuel ((flat (blkB (nthC (flat (loopB (blkB (nthC (flat (bodyOf Try.f8)) 7)))) 2))).drop 4) e w kn kr ke := by
  intro e w h
  unfold F8_9 at h
  have e1 : ∀ (Y0 : Value → Value → Value → Value → Value → Value → Value → World → Prop), F8_9b (e 0) (e 1) (e 5) (e 7) (e 8) (e 9) w K R3 Y0 = denL Try.prog (tabOf T8) 239 fuel (((flat (blkB (nthC (flat (loopB (blkB (nthC (flat (bodyOf Try.f8)) 7)))) 2))).drop 4).take 1) e w (fun e w => Y0 (e 0) (e 1) (e 5) (e 7) (e 8) (e 9) (e 165) w) (endD Try.prog [.tmp 4] K) (blkK 1 (fun e w => F8_6 (e 0) (e 1) (e 5) (e 7) (e 8) (e 9) w K R3) (blkK 0 (fun e w => F8_3 w K) noE)) := by intro Y0; kernel_rfl
  exact seg 1 (Eq.mp (e1 (fun a0 a1 a5 a7 a8 a9 a165 w => F8_10 a0 a1 a5 a7 a8 a9 a165 w K R3)) h) (fun e w h => ok8_10 R3 hn hr he e w h) hr he
def F8_8b (s0 : Value) (s1 : Value) (s5 : Value) (s7 : Value) (s8 : Value) (s9 : Value) (w : World) (K : Value → World → Prop) (R3 : Value → Value → Value → Value → Value → Value → World → Prop) (Y0 : Value → Value → Value → Value → Value → Value → World → Prop) : Prop :=
bindP (lenL s1) fun v88 =>
bindP (bLt s9 v88) fun v89 =>
stepM (gd true v89) s1 fun v90 =>
stepM (gd true v89) s9 fun v91 =>
Sx.stepG (gd true v89) (pIndexL 1 v90 v91) fun v92 =>
Sx.stepG (gd true v89) (ld1 v92 w) fun v93 =>
Sx.stepG (gd true v89) (bRem v93 (.int .i64 4)) fun v94 =>
Sx.stepG (gd true v89) (bEq Try.prog 3 (.tmp 130) (.const (.int .i64 0)) v94 (.int .i64 0)) fun v95 =>
bindP (pPick v89 v95 (.bool false)) fun v96 =>
ifB v96 (
bindP (pIndexL 1 s1 s9) fun v97 =>
bindP (ld1 v97 w) fun v98 =>
bindP (bAdd s8 (.int .i64 2)) fun v99 =>
callP G15 [v98, v99] w fun v101 w100 =>
callP G40 [s5, v101] w100 fun v103 w102 =>
bindP (pTuple v103 0) fun v104 =>
bindP (pTuple v103 1) fun v105 =>
eAlloc Try.prog 33 w102 fun v107 w106 =>
bindW (st 11 v107 v104 w106) fun w108 =>
bindP (bEq Try.prog 24 (.tmp 146) (.const (.int .i64 0)) v105 (.int .i64 0)) fun v110 =>
bindP (fLook Try.prog 70 s7 v101 false w108) fun v111 =>
bindP (bNe Try.prog 4 (.tmp 147) (.tmp 150) v110 v111) fun v112 =>
ifB v112 (
K (.bool false) w108) (
eDelete Try.prog 70 s7 v101 w108 fun _ w113 =>
Y0 s0 s1 s5 s7 s8 s9 w113)) (
Y0 s0 s1 s5 s7 s8 s9 w)
def F8_8 (s0 : Value) (s1 : Value) (s5 : Value) (s7 : Value) (s8 : Value) (s9 : Value) (w : World) (K : Value → World → Prop) (R3 : Value → Value → Value → Value → Value → Value → World → Prop) : Prop := F8_8b s0 s1 s5 s7 s8 s9 w K R3 (fun a0 a1 a5 a7 a8 a9 w => F8_9 a0 a1 a5 a7 a8 a9 w K R3)
theorem ok8_8 (R3 : Value → Value → Value → Value → Value → Value → World → Prop) {K : Value → World → Prop} {kn kr : Env → World → Prop} {ke : Nat → Env → World → Prop}
    (hn : ∀ e w, (fun e w => F8_6 (e 0) (e 1) (e 5) (e 7) (e 8) (e 9) w K R3) e w → kn e w) (hr : ∀ e w, endD Try.prog [.tmp 4] K e w → kr e w) (he : ∀ i e w, (blkK 1 (fun e w => F8_6 (e 0) (e 1) (e 5) (e 7) (e 8) (e 9) w K R3) (blkK 0 (fun e w => F8_3 w K) noE)) i e w → ke i e w) :
    ∀ e w, F8_8 (e 0) (e 1) (e 5) (e 7) (e 8) (e 9) w K R3 → denL Try.prog (tabOf T8) 239 fuel ((flat (blkB (nthC (flat (loopB (blkB (nthC (flat (bodyOf Try.f8)) 7)))) 2))).drop 2) e w kn kr ke := by
  intro e w h
  unfold F8_8 at h
  have e1 : ∀ (Y0 : Value → Value → Value → Value → Value → Value → World → Prop), F8_8b (e 0) (e 1) (e 5) (e 7) (e 8) (e 9) w K R3 Y0 = denL Try.prog (tabOf T8) 239 fuel (((flat (blkB (nthC (flat (loopB (blkB (nthC (flat (bodyOf Try.f8)) 7)))) 2))).drop 2).take 2) e w (fun e w => Y0 (e 0) (e 1) (e 5) (e 7) (e 8) (e 9) w) (endD Try.prog [.tmp 4] K) (blkK 1 (fun e w => F8_6 (e 0) (e 1) (e 5) (e 7) (e 8) (e 9) w K R3) (blkK 0 (fun e w => F8_3 w K) noE)) := by intro Y0; kernel_rfl
  exact seg 2 (Eq.mp (e1 (fun a0 a1 a5 a7 a8 a9 w => F8_9 a0 a1 a5 a7 a8 a9 w K R3)) h) (fun e w h => ok8_9 R3 hn hr he e w h) hr he
def F8_7b (s0 : Value) (s1 : Value) (s5 : Value) (s7 : Value) (s8 : Value) (s9 : Value) (w : World) (K : Value → World → Prop) (R3 : Value → Value → Value → Value → Value → Value → World → Prop) (Y0 : Value → Value → Value → Value → Value → Value → World → Prop) : Prop :=
bindP (pIndexL 1 s0 s9) fun v115 =>
bindP (ld1 v115 w) fun v116 =>
callP G39 [v116] w fun v118 w117 =>
bindP (bMul s9 (.int .i64 10)) fun v119 =>
callP G16 [s5, v118, v119] w117 fun v121 w120 =>
bindP (pTuple v121 0) fun v122 =>
bindP (pTuple v121 1) fun v123 =>
bindP (pTuple v121 2) fun v124 =>
eAlloc Try.prog 33 w120 fun v126 w125 =>
bindW (st 11 v126 v122 w125) fun w127 =>
bindP (bEq Try.prog 24 (.tmp 63) (.const (.int .i64 0)) v124 (.int .i64 0)) fun v129 =>
stepM (gd true v129) v123 fun v130 =>
Sx.stepG (gd true v129) (bEq Try.prog 3 (.tmp 66) (.const (.int .i64 1)) v130 (.int .i64 1)) fun v131 =>
bindP (pPick v129 v131 (.bool false)) fun v132 =>
ifB v132 (
bindP (pFieldAddr 0 v126) fun v133 =>
bindP (ld1 v133 w127) fun v134 =>
bindP (bLe v134 s8) fun v135 =>
stepM (gd false v135) s7 fun v136 =>
Sx.stepG (gd false v135) (pFieldAddr 0 v126) fun v137 =>
Sx.stepG (gd false v135) (ld1 v137 w127) fun v138 =>
Sx.stepG (gd false v135) (fLook Try.prog 70 v136 v138 false w127) fun v139 =>
bindP (pPick v135 (.bool true) v139) fun v140 =>
ifB v140 (
K (.bool false) w127) (
bindP (pFieldAddr 0 v126) fun v141 =>
bindP (ld1 v141 w127.drew) fun v142 =>
bindP (pFieldAddr 0 v126) fun v143 =>
bindP (ld1 v143 w127.drew) fun v144 =>
eMapSet Try.prog 70 s7 v142 (.bool true) w127.drew fun _ w145 =>
Y0 s0 s1 s5 s7 v144 s9 w145)) (
bindP (bEq Try.prog 24 (.tmp 85) (.const (.int .i64 0)) v124 (.int .i64 0)) fun v147 =>
stepM (gd true v147) v123 fun v148 =>
Sx.stepG (gd true v147) (bEq Try.prog 3 (.tmp 88) (.const (.int .i64 3)) v148 (.int .i64 3)) fun v149 =>
bindP (pPick v147 v149 (.bool false)) fun v150 =>
ifB v150 (
bindP (pFieldAddr 0 v126) fun v151 =>
bindP (ld1 v151 w127) fun v152 =>
bindP (fLook Try.prog 70 s7 v152 false w127) fun v153 =>
bindP (uNot v153) fun v154 =>
ifB v154 (
K (.bool false) w127) (
bindP (pFieldAddr 0 v126) fun v155 =>
bindP (ld1 v155 w127) fun v156 =>
eDelete Try.prog 70 s7 v156 w127 fun _ w157 =>
Y0 s0 s1 s5 s7 s8 s9 w157)) (
bindP (bEq Try.prog 24 (.tmp 100) (.const (.int .i64 0)) v124 (.int .i64 0)) fun v159 =>
stepM (gd true v159) s7 fun v160 =>
Sx.stepG (gd true v159) (pFieldAddr 0 v126) fun v161 =>
Sx.stepG (gd true v159) (ld1 v161 w127) fun v162 =>
Sx.stepG (gd true v159) (fLook Try.prog 70 v160 v162 false w127) fun v163 =>
Sx.stepG (gd true v159) (uNot v163) fun v164 =>
bindP (pPick v159 v164 (.bool false)) fun v165 =>
stepM (gd false v165) v124 fun v166 =>
Sx.stepG (gd false v165) (bNe Try.prog 24 (.tmp 110) (.const (.int .i64 0)) v166 (.int .i64 0)) fun v167 =>
stepM (gd false v165) v167 fun v168 =>
stepM (gd true v168) v124 fun v169 =>
Sx.stepG (gd true v168) (bNe Try.prog 24 (.tmp 113) (.const (.int .i64 5)) v169 (.int .i64 5)) fun v170 =>
Sx.stepG (gd false v165) (pPick v168 v170 (.bool false)) fun v171 =>
stepM (gd false v165) v171 fun v172 =>
stepM (gd true v172) v124 fun v173 =>
Sx.stepG (gd true v172) (bNe Try.prog 24 (.tmp 117) (.const (.int .i64 200)) v173 (.int .i64 200)) fun v174 =>
Sx.stepG (gd false v165) (pPick v172 v174 (.bool false)) fun v175 =>
bindP (pPick v165 (.bool true) v175) fun v176 =>
ifB v176 (
K (.bool false) w127) (
Y0 s0 s1 s5 s7 s8 s9 w127)))
def F8_7 (s0 : Value) (s1 : Value) (s5 : Value) (s7 : Value) (s8 : Value) (s9 : Value) (w : World) (K : Value → World → Prop) (R3 : Value → Value → Value → Value → Value → Value → World → Prop) : Prop := F8_7b s0 s1 s5 s7 s8 s9 w K R3 (fun a0 a1 a5 a7 a8 a9 w => F8_8 a0 a1 a5 a7 a8 a9 w K R3)
theorem ok8_7 (R3 : Value → Value → Value → Value → Value → Value → World → Prop) {K : Value → World → Prop} {kn kr : Env → World → Prop} {ke : Nat → Env → World → Prop}
    (hn : ∀ e w, (fun e w => F8_6 (e 0) (e 1) (e 5) (e 7) (e 8) (e 9) w K R3) e w → kn e w) (hr : ∀ e w, endD Try.prog [.tmp 4] K e w → kr e w) (he : ∀ i e w, (blkK 1 (fun e w => F8_6 (e 0) (e 1) (e 5) (e 7) (e 8) (e 9) w K R3) (blkK 0 (fun e w => F8_3 w K) noE)) i e w → ke i e w) :
    ∀ e w, F8_7 (e 0) (e 1) (e 5) (e 7) (e 8) (e 9) w K R3 → denL Try.prog (tabOf T8) 239 fuel ((flat (blkB (nthC (flat (loopB (blkB (nthC (flat (bodyOf Try.f8)) 7)))) 2))).drop 0) e w kn kr ke := by
  intro e w h
  unfold F8_7 at h
  have e1 : ∀ (Y0 : Value → Value → Value → Value → Value → Value → World → Prop), F8_7b (e 0) (e 1) (e 5) (e 7) (e 8) (e 9) w K R3 Y0 = denL Try.prog (tabOf T8) 239 fuel (((flat (blkB (nthC (flat (loopB (blkB (nthC (flat (bodyOf Try.f8)) 7)))) 2))).drop 0).take 2) e w (fun e w => Y0 (e 0) (e 1) (e 5) (e 7) (e 8) (e 9) w) (endD Try.prog [.tmp 4] K) (blkK 1 (fun e w => F8_6 (e 0) (e 1) (e 5) (e 7) (e 8) (e 9) w K R3) (blkK 0 (fun e w => F8_3 w K) noE)) := by intro Y0; kernel_rfl
  exact seg 2 (Eq.mp (e1 (fun a0 a1 a5 a7 a8 a9 w => F8_8 a0 a1 a5 a7 a8 a9 w K R3)) h) (fun e w h => ok8_8 R3 hn hr he e w h) hr he
def F8_5 (s0 : Value) (s1 : Value) (s5 : Value) (s7 : Value) (s8 : Value) (s9 : Value) (w : World) (K : Value → World → Prop) (R3 : Value → Value → Value → Value → Value → Value → World → Prop) : Prop := F8_7 s0 s1 s5 s7 s8 s9 w K R3
theorem ok8_5 (R3 : Value → Value → Value → Value → Value → Value → World → Prop) {K : Value → World → Prop} {kn kr : Env → World → Prop} {ke : Nat → Env → World → Prop}
    (hn : ∀ e w, (fun e w => R3 (e 0) (e 1) (e 5) (e 7) (e 8) (e 9) w) e w → kn e w) (hr : ∀ e w, endD Try.prog [.tmp 4] K e w → kr e w) (he : ∀ i e w, (blkK 0 (fun e w => F8_3 w K) noE) i e w → ke i e w) :
    ∀ e w, F8_5 (e 0) (e 1) (e 5) (e 7) (e 8) (e 9) w K R3 → denL Try.prog (tabOf T8) 239 fuel ((flat (loopB (blkB (nthC (flat (bodyOf Try.f8)) 7)))).drop 2) e w kn kr ke := by
  intro e w h
  unfold F8_5 at h
  refine seg_block (id := 1) (body := (blkB (nthC (flat (loopB (blkB (nthC (flat (bodyOf Try.f8)) 7)))) 2))) (l2 := (flat (loopB (blkB (nthC (flat (bodyOf Try.f8)) 7)))).drop 3) (by kernel_rfl) ?_
  exact ok8_7 R3 (fun e w h => ok8_6 R3 hn hr he e w h) hr (blkK_mono (fun e w h => ok8_6 R3 hn hr he e w h) he) e w h
def F8_4b (s0 : Value) (s1 : Value) (s5 : Value) (s7 : Value) (s8 : Value) (s9 : Value) (w : World) (_K : Value → World → Prop) (R3 : Value → Value → Value → Value → Value → Value → World → Prop) (Y0 : Value → Value → Value → Value → Value → Value → World → Prop) (Y1 : World → Prop) : Prop :=
bindP (lenL s0) fun v177 =>
bindP (bLt s9 v177) fun v178 =>
stepM (gd true v178) s9 fun v179 =>
Sx.stepG (gd true v178) (bLt v179 (.int .i64 100)) fun v180 =>
bindP (pPick v178 v180 (.bool false)) fun v181 =>
ifB v181 (
Y0 s0 s1 s5 s7 s8 s9 w) (
Y1 w)
def F8_4 (s0 : Value) (s1 : Value) (s5 : Value) (s7 : Value) (s8 : Value) (s9 : Value) (w : World) (K : Value → World → Prop) (R3 : Value → Value → Value → Value → Value → Value → World → Prop) : Prop := F8_4b s0 s1 s5 s7 s8 s9 w K R3 (fun a0 a1 a5 a7 a8 a9 w => F8_5 a0 a1 a5 a7 a8 a9 w K R3) (fun w => F8_3 w K)
theorem ok8_4 (R3 : Value → Value → Value → Value → Value → Value → World → Prop) {K : Value → World → Prop} {kn kr : Env → World → Prop} {ke : Nat → Env → World → Prop}
    (hn : ∀ e w, (fun e w => R3 (e 0) (e 1) (e 5) (e 7) (e 8) (e 9) w) e w → kn e w) (hr : ∀ e w, endD Try.prog [.tmp 4] K e w → kr e w) (he : ∀ i e w, (blkK 0 (fun e w => F8_3 w K) noE) i e w → ke i e w) :
    ∀ e w, F8_4 (e 0) (e 1) (e 5) (e 7) (e 8) (e 9) w K R3 → denL Try.prog (tabOf T8) 239 fuel ((flat (loopB (blkB (nthC (flat (bodyOf Try.f8)) 7)))).drop 0) e w kn kr ke := by
  intro e w h
  unfold F8_4 at h
  have e1 : ∀ (Y0 : Value → Value → Value → Value → Value → Value → World → Prop) (Y1 : World → Prop), F8_4b (e 0) (e 1) (e 5) (e 7) (e 8) (e 9) w K R3 Y0 Y1 = denL Try.prog (tabOf T8) 239 fuel (((flat (loopB (blkB (nthC (flat (bodyOf Try.f8)) 7)))).drop 0).take 2) e w (fun e w => Y0 (e 0) (e 1) (e 5) (e 7) (e 8) (e 9) w) (endD Try.prog [.tmp 4] K) (blkK 0 (fun e w => Y1 w) noE) := by intro Y0 Y1; kernel_rfl
  exact seg 2 (Eq.mp (e1 (fun a0 a1 a5 a7 a8 a9 w => F8_5 a0 a1 a5 a7 a8 a9 w K R3) (fun w => F8_3 w K)) h) (fun e w h => ok8_5 R3 hn hr he e w h) hr he
def F8_2L : Nat → Value → Value → Value → Value → Value → Value → World → (Value → World → Prop) → Prop
  | 0, _, _, _, _, _, _, _, _ => False
  | n + 1, s0, s1, s5, s7, s8, s9, w, K => F8_4 s0 s1 s5 s7 s8 s9 w K (fun a0 a1 a5 a7 a8 a9 w => F8_2L n a0 a1 a5 a7 a8 a9 w K)
def F8_2 (s0 : Value) (s1 : Value) (s5 : Value) (s7 : Value) (s8 : Value) (s9 : Value) (w : World) (K : Value → World → Prop) : Prop := F8_2L fuel s0 s1 s5 s7 s8 s9 w K
theorem ok8_2 {K : Value → World → Prop} {kn kr : Env → World → Prop} {ke : Nat → Env → World → Prop}
    (hn : ∀ e w, (fun e w => K (e 4) w) e w → kn e w) (hr : ∀ e w, endD Try.prog [.tmp 4] K e w → kr e w) (he : ∀ i e w, noE i e w → ke i e w) :
    ∀ e w, F8_2 (e 0) (e 1) (e 5) (e 7) (e 8) (e 9) w K → denL Try.prog (tabOf T8) 239 fuel ((flat (bodyOf Try.f8)).drop 7) e w kn kr ke := by
  intro e w h
  unfold F8_2 at h
  refine seg_loop (id := 0) (body := (loopB (blkB (nthC (flat (bodyOf Try.f8)) 7)))) (l2 := (flat (bodyOf Try.f8)).drop 8) (by kernel_rfl) ?_
  refine loop_ok (FL := fun m e w => F8_2L m (e 0) (e 1) (e 5) (e 7) (e 8) (e 9) w K) (fr := endD Try.prog [.tmp 4] K) (fe := (blkK 0 (fun e w => F8_3 w K) noE)) (fun _ _ h => h) ?_ hr (blkK_mono (fun e w h => ok8_3 hn hr he e w h) he) fuel e w h
  intro m e w h
  have h : F8_2L (m + 1) (e 0) (e 1) (e 5) (e 7) (e 8) (e 9) w K := h
  rw [F8_2L] at h
  exact ok8_4 (fun a0 a1 a5 a7 a8 a9 w => F8_2L m a0 a1 a5 a7 a8 a9 w K) (fun _ _ h => h) (fun _ _ h => h) (fun _ _ _ h => h) e w h
def F8_1b (s0 : Value) (s1 : Value) (w : World) (K : Value → World → Prop) (Y0 : Value → Value → Value → Value → Value → Value → World → Prop) : Prop :=
callP G13 [(.int .i64 8)] w fun v183 w182 =>
bindP (pTuple v183 0) fun v184 =>
bindP (pTuple v183 1) fun v185 =>
bindP (bEq Try.prog 23 (.tmp 28) (.const (.pointer none)) v184 (.pointer none)) fun v186 =>
stepM (gd false v186) v185 fun v187 =>
Sx.stepG (gd false v186) (bNe Try.prog 24 (.tmp 31) (.const (.int .i64 0)) v187 (.int .i64 0)) fun v188 =>
bindP (pPick v186 (.bool true) v188) fun v189 =>
stepE (gd false v189) (fun k => callP G14 [] w182 k) w182 fun v191 w190 =>
Sx.stepG (gd false v189) (uNot v191) fun v192 =>
bindP (pPick v189 (.bool true) v192) fun v193 =>
ifB v193 (
K (.bool false) w190) (
eMakeMap none w190 fun v195 w194 =>
Y0 s0 s1 v184 v195 (.int .i64 0) (.int .i64 0) w194)
def F8_1 (s0 : Value) (s1 : Value) (w : World) (K : Value → World → Prop) : Prop := F8_1b s0 s1 w K (fun a0 a1 a5 a7 a8 a9 w => F8_2 a0 a1 a5 a7 a8 a9 w K)
theorem ok8_1 {K : Value → World → Prop} {kn kr : Env → World → Prop} {ke : Nat → Env → World → Prop}
    (hn : ∀ e w, (fun e w => K (e 4) w) e w → kn e w) (hr : ∀ e w, endD Try.prog [.tmp 4] K e w → kr e w) (he : ∀ i e w, noE i e w → ke i e w) :
    ∀ e w, F8_1 (e 0) (e 1) w K → denL Try.prog (tabOf T8) 239 fuel ((flat (bodyOf Try.f8)).drop 0) e w kn kr ke := by
  intro e w h
  unfold F8_1 at h
  have e1 : ∀ (Y0 : Value → Value → Value → Value → Value → Value → World → Prop), F8_1b (e 0) (e 1) w K Y0 = denL Try.prog (tabOf T8) 239 fuel (((flat (bodyOf Try.f8)).drop 0).take 7) e w (fun e w => Y0 (e 0) (e 1) (e 5) (e 7) (e 8) (e 9) w) (endD Try.prog [.tmp 4] K) noE := by intro Y0; kernel_rfl
  exact seg 7 (Eq.mp (e1 (fun a0 a1 a5 a7 a8 a9 w => F8_2 a0 a1 a5 a7 a8 a9 w K)) h) (fun e w h => ok8_2 hn hr he e w h) hr he
def F8 (x0 : Value) (x1 : Value) (w : World) (K : Value → World → Prop) : Prop := F8_1 x0 x1 w K
def G8 : FnT := fun args w K => on2 (fun x0 x1 => F8 x0 x1 w K) args
theorem c8 {x0 x1 : Value} {w : World} {K : Value → World → Prop} (h : F8 x0 x1 w K) : callP G8 [x0, x1] w K := callP_intro (on2_mk (p := fun x0 x1 => F8 x0 x1 w K) h)
theorem ok8 : OkF Try.prog 8 G8 := by
  refine okF_of (tab_ok (l := T8) ⟨ok13, ok14, ok15, ok16, ok17, ok18, ok39, ok40, ok41, ok42, trivial⟩) mixed (n := fuel) Try.func8 Try.call8 fun args w K h => ?_
  obtain ⟨x0, x1, rfl, hh⟩ := of_on2 h
  unfold F8 at hh
  exact fnD_list (c := bodyOf Try.f8) (by kernel_rfl) (by kernel_rfl) (ok8_1 (fun _ _ h => h) (fun _ _ h => h) (fun _ _ _ h => h) (initE [x0, x1]) w hh)
def T88 : List (Nat × FnT) := [(116, G116), (117, G117)]
def F88 (x0 : Value) (x1 : Value) (w : World) (K : Value → World → Prop) : Prop :=
eBox 33 x0 w fun v2 w1 =>
eBox 33 x1 w1 fun v4 w3 =>
bindP (pFieldAddr 8 v2) fun v5 =>
bindP (ld1 v5 w3.drew) fun v6 =>
bindP (pFieldAddr 8 v4) fun v7 =>
bindP (ld1 v7 w3.drew) fun v8 =>
bindP (pFieldAddr 0 v2) fun v9 =>
bindP (ld1 v9 w3.drew) fun v10 =>
bindP (pFieldAddr 0 v4) fun v11 =>
bindP (ld1 v11 w3.drew) fun v12 =>
callP G117 [v6, v8] w3.drew fun v14 w13 =>
(fok true (ld1 v9 w13) v10 ∧ fok true (ld1 v11 w13) v12) ∧ (callP G117 [v10, v12] w13 fun v16 w15 =>
eBuildSl Try.prog 22 2 [(0, v14), (1, v16)] w15 fun v18 w17 =>
callP G116 [v18] w17 fun v20 w19 =>
K v20 w19)
def G88 : FnT := fun args w K => on2 (fun x0 x1 => F88 x0 x1 w K) args
theorem c88 {x0 x1 : Value} {w : World} {K : Value → World → Prop} (h : F88 x0 x1 w K) : callP G88 [x0, x1] w K := callP_intro (on2_mk (p := fun x0 x1 => F88 x0 x1 w K) h)
theorem ok88 : OkF Try.prog 88 G88 := by
  refine okF_of (tab_ok (l := T88) ⟨ok116, ok117, trivial⟩) mixed (n := fuel) Try.func88 Try.call88 fun args w K h => ?_
  obtain ⟨x0, x1, rfl, hh⟩ := of_on2 h
  exact fnD_list (c := bodyOf Try.f88) (by kernel_rfl) (by kernel_rfl) (Eq.mp (by kernel_rfl) hh)
def T91 : List (Nat × FnT) := [(117, G117)]
def F91 (x0 : Value) (x1 : Value) (w : World) (K : Value → World → Prop) : Prop :=
eBox 33 x0 w fun v2 w1 =>
eBox 33 x1 w1 fun v4 w3 =>
bindP (pFieldAddr 0 v2) fun v5 =>
bindP (ld1 v5 w3) fun v6 =>
bindP (pFieldAddr 0 v4) fun v7 =>
bindP (ld1 v7 w3) fun v8 =>
callP G117 [v6, v8] w3 fun v10 w9 =>
K v10 w9
def G91 : FnT := fun args w K => on2 (fun x0 x1 => F91 x0 x1 w K) args
theorem c91 {x0 x1 : Value} {w : World} {K : Value → World → Prop} (h : F91 x0 x1 w K) : callP G91 [x0, x1] w K := callP_intro (on2_mk (p := fun x0 x1 => F91 x0 x1 w K) h)
theorem ok91 : OkF Try.prog 91 G91 := by
  refine okF_of (tab_ok (l := T91) ⟨ok117, trivial⟩) mixed (n := fuel) Try.func91 Try.call91 fun args w K h => ?_
  obtain ⟨x0, x1, rfl, hh⟩ := of_on2 h
  exact fnD_list (c := bodyOf Try.f91) (by kernel_rfl) (by kernel_rfl) (Eq.mp (by kernel_rfl) hh)
end Go.Proofs.Gong

/- Be1 -/
namespace Go.Proofs.Gong
open Go Go.Sx Go.Proofs
set_option maxRecDepth 100000
attribute [local irreducible] fBuild fLook fZero eqv bEqv Cl MapH LsH SlH ld1 ldN st callP eBox eAlloc lenM lenL eMapSet eDelete eAppend eBuildSl eRange eNext
theorem CR : Cod cRow 11 := ⟨fun _ => rfl, fun _ => rfl, by omega⟩
instance : CodC cRow 11 := ⟨CR⟩
instance : Inhabited Row := ⟨zeroR⟩
def BoardA (v : Value) (n next : Int) (rs : List Row) : HP := HEx fun R => HEx fun I => HPr (BInv n next R I rs ∧ 1 ≤ next ∧ next ≤ 4611686018427387904) (BoardI v n next R I)
def idV (x y : Row) : Int := if x.id < y.id then -1 else if y.id < x.id then 1 else 0
def idLt (x y : Row) : Bool := decide (x.id < y.id)
theorem idSWO : SWO idLt := by
  constructor <;> intros <;> simp_all [idLt] <;> omega
theorem idV_neg (x y : Row) : idV x y < 0 ↔ idLt x y = true := by unfold idV idLt; split <;> (try split) <;> simp_all
section
variable {w0 w : World} {L : List HP} {K : Value → World → Prop} {v : Value} {n next : Int} {R : List (Int × Row)} {I : List (Sg × Int)} {rs : List Row} {r : Row}
theorem boardA_iff : Sat w0 (BoardA v n next rs :: L) w ↔ ∃ R I, (BInv n next R I rs ∧ 1 ≤ next ∧ next ≤ 4611686018427387904) ∧ Sat w0 (BoardI v n next R I :: L) w := by
  simp only [BoardA, Sat.ex_iff, Sat.pr_iff]
theorem boardA_inv (h : Sat w0 (BoardA v n next rs :: L) w) : ∃ R I, BInv n next R I rs := by
  obtain ⟨R, I, H, _⟩ := boardA_iff.1 h
  exact ⟨R, I, H.1⟩
theorem byid_calls (W : World) (x y : Row) : callP G91 [.agg (cRow x).toArray, .agg (cRow y).toArray] W fun v w' => v = .int .i64 (idV x y) ∧ Gr W w' := by
  refine c91 ?_
  unfold F91
  refine eBox_ex (Sat.start W) (Gr.refl W) fun p w1 h1 g1 => ?_
  refine eBox_ex h1 g1 fun q w2 h2 g2 => ?_
  have hp := h2.f1.cl
  have hq := h2.cl
  simp only [cRow, cells_agg] at hp hq
  simp [ptr, cell_of hp, cell_of hq]
  exact cmp_spec ⟨rfl, g2⟩
theorem balen_spec (h : Sat w0 (BoardA v n next rs :: L) w) (hK : K (.int .i64 rs.length) w) : callP G17 [v] w K := by
  replace h := boardA_iff.1 h
  obtain ⟨R, I, H, h⟩ := h
  refine blen_spec h ?_
  rw [H.1.len]; exact hK
theorem banew_spec (h1 : 1 ≤ n) (h2 : n ≤ 65536) (h : Sat w0 L w) (hK : ∀ p w', Sat w0 (BoardA (ptr p) n 1 [] :: L) w' → K (.tuple #[ptr p, .int .i64 0]) w') : callP G13 [.int .i64 n] w K :=
  bnew_spec h h1 h2 fun p w h => hK p w (boardA_iff.2 ⟨[], [], ⟨.start h1 h2 1, by omega, by omega⟩, h⟩)
theorem fbRow (x : Row) : fBuildSl Try.prog 33 1 [(0, .agg (cRow x).toArray)] = some (cRow x).toArray := by kernel_rfl
theorem baall_spec (h : Sat w0 (BoardA v n next rs :: L) w) (hK : ∀ s w', Sat w0 (LsH cRow 11 33 s rs :: BoardA v n next rs :: L) w' → K s w') : callP G42 [v] w K := by
  refine c42 ?_
  unfold F42
  replace h := boardA_iff.1 h
  obtain ⟨R, I, H, h⟩ := h
  replace h := board_iff.1 h
  obtain ⟨p, mr, mi, rfl, h⟩ := h
  obtain ⟨r1, _, _, ⟨rfl, _⟩, _⟩ := map_iff.1 (h.front (A := MapH kI rowV mr R) (by repeat (first | exact .here | apply Fnt.there)))
  (repeat (first
 | (simp (disch := omega) only [evA, evB, bAdd_i64, bSub_i64, ptr, Nat.zero_add, Bool.not_true, Bool.not_false, Option.isNone_some, Option.isNone_none, Option.isSome_some, Option.isSome_none, decide_true, decide_false, eq_self, true_and, and_assoc])
 | ((with_reducible apply go_ld1 h))
 | ((with_reducible apply go_ldA h); (rfl))
 | ((with_reducible apply go_ldN h))
 | ((with_reducible apply go_st h); intro _ h)
 | ((with_reducible apply go_stA h); (rfl); (rfl); (first | rfl | simp [OneV.o]); intro _ h)
 | ((with_reducible apply go_stN h); (rfl); (first | rfl | simp [OneV.o]); intro _ h)
 | ((with_reducible apply go_box h); rfl; intro _ _ h)
 | ((with_reducible apply go_rd h); (rfl))
 | ((with_reducible apply go_rdN h); (rfl))
 | ((with_reducible apply go_rlen h); (rfl))
 | ((with_reducible apply go_lenL h))
 | ((with_reducible apply go_ix h); (omega))
 | ((with_reducible apply go_elN h); (case hi => omega))
 | ((with_reducible apply go_fa h); (omega); (omega))
 | ((with_reducible apply go_f1 h); (case hi => omega); (case hx => exact inferInstance))
 | ((with_reducible apply go_rf1 h); (case hi => omega); (case hx => exact inferInstance); (case hv => rfl))
 | ((with_reducible apply go_rel h); (case hi => omega); (case hv => rfl))
))
  refine c90 ?_
  unfold F90
  (repeat (first
 | (simp (disch := omega) only [evA, evB, bAdd_i64, bSub_i64, ptr, Nat.zero_add, Bool.not_true, Bool.not_false, Option.isNone_some, Option.isNone_none, Option.isSome_some, Option.isSome_none, decide_true, decide_false, eq_self, true_and, and_assoc])
 | ((with_reducible apply go_ld1 h))
 | ((with_reducible apply go_ldA h); (rfl))
 | ((with_reducible apply go_ldN h))
 | ((with_reducible apply go_st h); intro _ h)
 | ((with_reducible apply go_stA h); (rfl); (rfl); (first | rfl | simp [OneV.o]); intro _ h)
 | ((with_reducible apply go_stN h); (rfl); (first | rfl | simp [OneV.o]); intro _ h)
 | ((with_reducible apply go_box h); rfl; intro _ _ h)
 | ((with_reducible apply go_rd h); (rfl))
 | ((with_reducible apply go_rdN h); (rfl))
 | ((with_reducible apply go_rlen h); (rfl))
 | ((with_reducible apply go_lenL h))
 | ((with_reducible apply go_ix h); (omega))
 | ((with_reducible apply go_elN h); (case hi => omega))
 | ((with_reducible apply go_fa h); (omega); (omega))
 | ((with_reducible apply go_f1 h); (case hi => omega); (case hx => exact inferInstance))
 | ((with_reducible apply go_rf1 h); (case hi => omega); (case hx => exact inferInstance); (case hv => rfl))
 | ((with_reducible apply go_rel h); (case hi => omega); (case hv => rfl))
))
  refine c89 ?_
  unfold F89
  refine c120 ?_
  unfold F120
  have hb := H.1.bd
  refine appS_sat (ek := kI) (ev := rowV) (fv := cRow) (m := R) (L := Cl p #[.int .i64 n, .int .i64 next, .map (some r1), mi] 110 :: MapH ekS kI mi I :: L) CR (fun _ => rfl) fbRow (by rw [H.1.len]; omega) (h.get (by (repeat (first | exact .done | (refine .pick (by repeat (first | exact .here | apply Fnt.there)) ?_) | refine .skip ?_)))) fun l s w hp h => ?_
  have hll : l.length = rs.length := by
    have := hp.length_eq
    rw [List.length_map, H.1.len] at this; exact this
  refine sortF_sat (lt := idLt) (cf := idV) (l := l) h (by omega) CR idSWO idV_neg ok91 Try.call91 byid_calls fun l' w h3 h4 h => ?_
  have el : l' = rs := by
    refine List.Perm.eq_of_pairwise (le := fun a b : Row => idLt b a = false) (fun a b ha hb h1 h2 => ?_) h4 (H.1.asc.imp fun h => by simp [idLt]; omega) ((h3.trans hp).trans H.1.pm)
    have hp2 := (h3.trans hp).trans H.1.pm
    simp [idLt] at h1 h2
    exact rasc_eq H.1.asc (hp2.mem_iff.1 ha) hb (by omega)
  subst el
  exact hK _ _ (Sat.f1 (boardA_iff.2 ⟨R, I, H, board_iff.2 ⟨p, _, mi, rfl, h.get (by (repeat (first | exact .done | (refine .pick (by repeat (first | exact .here | apply Fnt.there)) ?_) | refine .skip ?_)))⟩⟩))
theorem baclose_spec {id : Int} (h : Sat w0 (BoardA v n next rs :: L) w)
    (hK0 : (∀ r ∈ rs, r.id ≠ id) → ∀ w', Sat w0 (BoardA v n next rs :: L) w' → K (.tuple #[rowV zeroR, .int .i64 5]) w')
    (hK1 : ∀ r ∈ rs, r.id = id → ∀ w', Sat w0 (BoardA v n next (remL id rs) :: L) w' → K (.tuple #[rowV r, .int .i64 0]) w') : callP G40 [v, .int .i64 id] w K := by
  refine c40 ?_
  unfold F40
  replace h := boardA_iff.1 h
  obtain ⟨R, I, H, h⟩ := h
  replace h := board_iff.1 h
  obtain ⟨p, mr, mi, rfl, h⟩ := h
  have := map_one (h.front (A := MapH kI rowV mr R) (by repeat (first | exact .here | apply Fnt.there)))
  have := map_one (h.front (A := MapH ekS kI mi I) (by repeat (first | exact .here | apply Fnt.there)))
  refine go_alloc h zR rfl fun _ _ h => ?_
  (repeat (first
 | (simp (disch := omega) only [evA, evB, bAdd_i64, bSub_i64, ptr, Nat.zero_add, Bool.not_true, Bool.not_false, Option.isNone_some, Option.isNone_none, Option.isSome_some, Option.isSome_none, decide_true, decide_false, eq_self, true_and, and_assoc])
 | ((with_reducible apply go_ld1 h))
 | ((with_reducible apply go_ldA h); (rfl))
 | ((with_reducible apply go_ldN h))
 | ((with_reducible apply go_st h); intro _ h)
 | ((with_reducible apply go_stA h); (rfl); (rfl); (first | rfl | simp [OneV.o]); intro _ h)
 | ((with_reducible apply go_stN h); (rfl); (first | rfl | simp [OneV.o]); intro _ h)
 | ((with_reducible apply go_box h); rfl; intro _ _ h)
 | ((with_reducible apply go_rd h); (rfl))
 | ((with_reducible apply go_rdN h); (rfl))
 | ((with_reducible apply go_rlen h); (rfl))
 | ((with_reducible apply go_lenL h))
 | ((with_reducible apply go_ix h); (omega))
 | ((with_reducible apply go_elN h); (case hi => omega))
 | ((with_reducible apply go_fa h); (omega); (omega))
 | ((with_reducible apply go_f1 h); (case hi => omega); (case hx => exact inferInstance))
 | ((with_reducible apply go_rf1 h); (case hi => omega); (case hx => exact inferInstance); (case hv => rfl))
 | ((with_reducible apply go_rel h); (case hi => omega); (case hv => rfl))
))
  refine go_look2 h (by repeat (first | exact .here | apply Fnt.there)) KIr um107 zR id ?_
  rw [elimR]
  (repeat (first
 | (simp (disch := omega) only [evA, evB, bAdd_i64, bSub_i64, ptr, Nat.zero_add, Bool.not_true, Bool.not_false, Option.isNone_some, Option.isNone_none, Option.isSome_some, Option.isSome_none, decide_true, decide_false, eq_self, true_and, and_assoc])
 | ((with_reducible apply go_ld1 h))
 | ((with_reducible apply go_ldA h); (rfl))
 | ((with_reducible apply go_ldN h))
 | ((with_reducible apply go_st h); intro _ h)
 | ((with_reducible apply go_stA h); (rfl); (rfl); (first | rfl | simp [OneV.o]); intro _ h)
 | ((with_reducible apply go_stN h); (rfl); (first | rfl | simp [OneV.o]); intro _ h)
 | ((with_reducible apply go_box h); rfl; intro _ _ h)
 | ((with_reducible apply go_rd h); (rfl))
 | ((with_reducible apply go_rdN h); (rfl))
 | ((with_reducible apply go_rlen h); (rfl))
 | ((with_reducible apply go_lenL h))
 | ((with_reducible apply go_ix h); (omega))
 | ((with_reducible apply go_elN h); (case hi => omega))
 | ((with_reducible apply go_fa h); (omega); (omega))
 | ((with_reducible apply go_f1 h); (case hi => omega); (case hx => exact inferInstance))
 | ((with_reducible apply go_rf1 h); (case hi => omega); (case hx => exact inferInstance); (case hv => rfl))
 | ((with_reducible apply go_rel h); (case hi => omega); (case hv => rfl))
))
  refine go_alloc h zR rfl fun _ _ h => ?_
  cases hg : aGet id R with
  | none =>
    simp only [Option.getD_none, Option.isSome_none]
    (repeat (first
 | (simp (disch := omega) only [evA, evB, bAdd_i64, bSub_i64, ptr, Nat.zero_add, Bool.not_true, Bool.not_false, Option.isNone_some, Option.isNone_none, Option.isSome_some, Option.isSome_none, decide_true, decide_false, eq_self, true_and, and_assoc])
 | (refine go_some (fb33 ..) ?_)
 | ((with_reducible apply go_ld1 h))
 | ((with_reducible apply go_ldA h); (rfl))
 | ((with_reducible apply go_ldN h))
 | ((with_reducible apply go_st h); intro _ h)
 | ((with_reducible apply go_stA h); (rfl); (rfl); (first | rfl | simp [OneV.o]); intro _ h)
 | ((with_reducible apply go_stN h); (rfl); (first | rfl | simp [OneV.o]); intro _ h)
 | ((with_reducible apply go_box h); rfl; intro _ _ h)
 | ((with_reducible apply go_rd h); (rfl))
 | ((with_reducible apply go_rdN h); (rfl))
 | ((with_reducible apply go_rlen h); (rfl))
 | ((with_reducible apply go_lenL h))
 | ((with_reducible apply go_ix h); (omega))
 | ((with_reducible apply go_elN h); (case hi => omega))
 | ((with_reducible apply go_fa h); (omega); (omega))
 | ((with_reducible apply go_f1 h); (case hi => omega); (case hx => exact inferInstance))
 | ((with_reducible apply go_rf1 h); (case hi => omega); (case hx => exact inferInstance); (case hv => rfl))
 | ((with_reducible apply go_rel h); (case hi => omega); (case hv => rfl))
))
    refine hK0 (fun c hc e => ?_) _ (boardA_iff.2 ⟨R, I, H, board_iff.2 ⟨p, mr, mi, rfl, h.get (by (repeat (first | exact .done | (refine .pick (by repeat (first | exact .here | apply Fnt.there)) ?_) | refine .skip ?_)))⟩⟩)
    have h1 := H.1.get hc
    rw [e, hg] at h1; cases h1
  | some x =>
    obtain ⟨hc, hid⟩ := H.1.mem hg
    subst hid
    simp only [Option.getD_some, Option.isSome_some]
    (repeat (first
 | (simp (disch := omega) only [evA, evB, bAdd_i64, bSub_i64, ptr, Nat.zero_add, Bool.not_true, Bool.not_false, Option.isNone_some, Option.isNone_none, Option.isSome_some, Option.isSome_none, decide_true, decide_false, eq_self, true_and, and_assoc])
 | ((with_reducible apply go_ld1 h))
 | ((with_reducible apply go_ldA h); (rfl))
 | ((with_reducible apply go_ldN h))
 | ((with_reducible apply go_st h); intro _ h)
 | ((with_reducible apply go_stA h); (rfl); (rfl); (first | rfl | simp [OneV.o]); intro _ h)
 | ((with_reducible apply go_stN h); (rfl); (first | rfl | simp [OneV.o]); intro _ h)
 | ((with_reducible apply go_box h); rfl; intro _ _ h)
 | ((with_reducible apply go_rd h); (rfl))
 | ((with_reducible apply go_rdN h); (rfl))
 | ((with_reducible apply go_rlen h); (rfl))
 | ((with_reducible apply go_lenL h))
 | ((with_reducible apply go_ix h); (omega))
 | ((with_reducible apply go_elN h); (case hi => omega))
 | ((with_reducible apply go_fa h); (omega); (omega))
 | ((with_reducible apply go_f1 h); (case hi => omega); (case hx => exact inferInstance))
 | ((with_reducible apply go_rf1 h); (case hi => omega); (case hx => exact inferInstance); (case hv => rfl))
 | ((with_reducible apply go_rel h); (case hi => omega); (case hv => rfl))
))
    refine take_bspec (r := x) (v := ptr p) (n := n) (next := next) (R := R) (I := I) (L := _ :: _ :: L) (board_iff.2 ⟨p, mr, mi, rfl, h.get (by (repeat (first | exact .done | (refine .pick (by repeat (first | exact .here | apply Fnt.there)) ?_) | refine .skip ?_)))⟩) fun w h => ?_
    (repeat (first
 | (simp (disch := omega) only [evA, evB, bAdd_i64, bSub_i64, ptr, Nat.zero_add, Bool.not_true, Bool.not_false, Option.isNone_some, Option.isNone_none, Option.isSome_some, Option.isSome_none, decide_true, decide_false, eq_self, true_and, and_assoc])
 | ((with_reducible apply go_ld1 h))
 | ((with_reducible apply go_ldA h); (rfl))
 | ((with_reducible apply go_ldN h))
 | ((with_reducible apply go_st h); intro _ h)
 | ((with_reducible apply go_stA h); (rfl); (rfl); (first | rfl | simp [OneV.o]); intro _ h)
 | ((with_reducible apply go_stN h); (rfl); (first | rfl | simp [OneV.o]); intro _ h)
 | ((with_reducible apply go_box h); rfl; intro _ _ h)
 | ((with_reducible apply go_rd h); (rfl))
 | ((with_reducible apply go_rdN h); (rfl))
 | ((with_reducible apply go_rlen h); (rfl))
 | ((with_reducible apply go_lenL h))
 | ((with_reducible apply go_ix h); (omega))
 | ((with_reducible apply go_elN h); (case hi => omega))
 | ((with_reducible apply go_fa h); (omega); (omega))
 | ((with_reducible apply go_f1 h); (case hi => omega); (case hx => exact inferInstance))
 | ((with_reducible apply go_rf1 h); (case hi => omega); (case hx => exact inferInstance); (case hv => rfl))
 | ((with_reducible apply go_rel h); (case hi => omega); (case hv => rfl))
))
    exact hK1 x hc rfl _ (boardA_iff.2 ⟨_, _, ⟨H.1.rem hc, H.2⟩, h.get (by (repeat (first | exact .done | (refine .pick (by repeat (first | exact .here | apply Fnt.there)) ?_) | refine .skip ?_)))⟩)
end
end Go.Proofs.Gong

/- Be2 -/
namespace Go.Proofs.Gong
open Go Go.Sx Go.Proofs
set_option maxRecDepth 100000
def raiseA (n next : Int) (rs : List Row) (e : Evt) (now : Int) : (Row × Int × Int) × Int × List Row :=
  if okE e = false then ((zeroR, 0, 180), next, rs) else
  if timeP now = false then ((zeroR, 0, 1), next, rs) else
  match rs.find? fun d => decide (sgOf d.e = sgOf e) with
  | none => if e.level = 0 then ((zeroR, 0, 5), next, rs) else if n ≤ (rs.length : Int) then ((zeroR, 0, 200), next, rs) else
    ((⟨next, e, 1, now, now, false, []⟩, 1, 0), next + 1, rs ++ [⟨next, e, 1, now, now, false, []⟩])
  | some r => if e.level = 0 then ((r, 3, 0), next, remL r.id rs) else (((againP r e now).1, (againP r e now).2, 0), next, replL (againP r e now).1 rs)
theorem insR_last {r : Row} {rs : List Row} (h : ∀ d ∈ rs, d.id < r.id) : insR r rs = rs ++ [r] := by
  induction rs with
  | nil => rfl
  | cons d rs ih =>
    have hd := h d (by simp)
    have e : insR r (d :: rs) = d :: insR r rs := by simp [insR, hd]
    rw [e, ih fun x hx => h x (List.mem_cons_of_mem _ hx)]
    rfl
theorem again_e {r : Row} {e : Evt} {now : Int} (h : sgOf r.e = sgOf e) : (againP r e now).1.e = e := by
  unfold sgOf at h
  simp only [Prod.mk.injEq] at h
  obtain ⟨n, c, k, l, t⟩ := e
  unfold againP
  split
  · rename_i g; simp only at h g ⊢; rw [h.1, h.2.1, h.2.2, g]
  · split <;> (simp only at h ⊢; rw [h.1, h.2.1, h.2.2])
theorem again_id {r : Row} {e : Evt} {now : Int} : (againP r e now).1.id = r.id := by unfold againP; split <;> (try split) <;> rfl
theorem okE_level {e : Evt} (h : okE e = true) : 0 ≤ e.level := by
  unfold okE at h
  simp only [Bool.and_eq_true, decide_eq_true_eq] at h
  omega
theorem okR_new {next now : Int} {e : Evt} (h1 : okE e = true) (h2 : timeP now = true) (h3 : e.level ≠ 0) (h4 : 1 ≤ next) : okR ⟨next, e, 1, now, now, false, []⟩ = true := by
  have := okE_level h1
  unfold okR timesR whoR
  simp [h1, h2, h4]
  omega
theorem okR_parts {r : Row} (h : okR r = true) : 1 ≤ r.id ∧ 1 ≤ r.e.level ∧ 1 ≤ r.tally ∧ r.tally ≤ 1099511627776 ∧ timeP r.first = true ∧ timeP r.last = true ∧ r.first ≤ r.last ∧ whoR r = true ∧ okE r.e = true := by
  unfold okR timesR at h
  simp only [Bool.and_eq_true, decide_eq_true_eq] at h
  exact ⟨h.1.1.1.1.1.1, h.1.1.1.1.1.2, h.1.1.1.1.2, h.1.1.1.2, h.1.1.2.1.1, h.1.1.2.1.2, h.1.1.2.2, h.1.2, h.2⟩
theorem okR_again {r : Row} {e : Evt} {now : Int} (h : okR r = true) (he : okE e = true) (ht : timeP now = true) (hl : e.level ≠ 0) (hs : sgOf r.e = sgOf e) : okR (againP r e now).1 = true := by
  obtain ⟨h1, h2, h3, h4, h5, h6, h7, h8, h9⟩ := okR_parts h
  have hle := okE_level he
  have e1 := again_e (now := now) hs
  have e2 : okE (againP r e now).1.e = true := by rw [e1]; exact he
  have e3 : 1 ≤ (againP r e now).1.e.level := by rw [e1]; omega
  have tm : timeP (max r.last now) = true := by
    unfold timeP at h6 ht ⊢
    simp only [Bool.and_eq_true, decide_eq_true_eq] at h6 ht ⊢
    omega
  have e4 : timesR (againP r e now).1 = true := by
    have key : (againP r e now).1.first = r.first ∧ (againP r e now).1.last = max r.last now := by unfold againP; split <;> (try split) <;> exact ⟨rfl, rfl⟩
    unfold timesR
    rw [key.1, key.2, h5, tm]
    simp; omega
  have e5 : whoR (againP r e now).1 = true := by
    unfold againP
    split
    · exact h8
    · split
      · rfl
      · exact h8
  have e6 : (againP r e now).1.tally = min (r.tally + 1) 1099511627776 := by unfold againP; split <;> (try split) <;> rfl
  unfold okR
  rw [e2, e4, e5, again_id, e6]
  simp only [Bool.and_true, Bool.and_eq_true, decide_eq_true_eq]
  omega
attribute [local irreducible] fBuild fLook fZero eqv bEqv Cl MapH LsH SlH ld1 ldN st callP eBox eAlloc lenM lenL eMapSet eDelete eAppend eBuildSl eRange eNext
section
variable {w0 w : World} {L : List HP} {K : Value → World → Prop} {v : Value} {n next : Int} {R : List (Int × Row)} {I : List (Sg × Int)} {rs : List Row} {r : Row}
theorem raiseA_inv {e : Evt} {now : Int} (H : BInv n next R I rs) (hn : 1 ≤ next) : (raiseP n next R I e now).1 = (raiseA n next rs e now).1 ∧ (raiseP n next R I e now).2.1 = (raiseA n next rs e now).2.1 ∧
    BInv n (raiseA n next rs e now).2.1 (raiseP n next R I e now).2.2.1 (raiseP n next R I e now).2.2.2 (raiseA n next rs e now).2.2 ∧ next ≤ (raiseA n next rs e now).2.1 ∧ (raiseA n next rs e now).2.1 ≤ next + 1 := by
  unfold raiseP raiseA
  by_cases g1 : okE e = false
  · simp only [if_pos g1]
    exact ⟨by trivial, by trivial, H, by omega, by omega⟩
  by_cases g2 : timeP now = false
  · simp only [if_neg g1, if_pos g2]
    exact ⟨by trivial, by trivial, H, by omega, by omega⟩
  have g1' : okE e = true := by simpa using g1
  have g2' : timeP now = true := by simpa using g2
  simp only [if_neg g1, if_neg g2]
  rw [H.find]
  cases hf : rs.find? fun d => decide (sgOf d.e = sgOf e) with
  | none =>
    simp only [Option.map_none]
    rw [H.len]
    by_cases g3 : e.level = 0
    · simp only [if_pos g3]; exact ⟨by trivial, by trivial, H, by omega, by omega⟩
    by_cases g4 : n ≤ (rs.length : Int)
    · simp only [if_neg g3, if_pos g4]; exact ⟨by trivial, by trivial, H, by omega, by omega⟩
    simp only [if_neg g3, if_neg g4]
    refine ⟨by trivial, by trivial, ?_, by omega, by omega⟩
    rw [List.find?_eq_none] at hf
    have hlt : ∀ d ∈ rs, d.id < next := fun d hd => (H.ok d hd).2
    have H' : BInv n (next + 1) R I rs := ⟨H.pm, H.key, H.asc, H.pI, H.sg, H.bd, fun d hd => ⟨(H.ok d hd).1, by have := hlt d hd; omega⟩⟩
    have := H'.ins (r := ⟨next, e, 1, now, now, false, []⟩) (okR_new g1' g2' g3 hn) (fun d hd he => by have := hf d hd; simp [he] at this) (fun d hd he => by have := hlt d hd; simp at he; omega) (by omega) (by show next < next + 1; omega)
    rw [insR_last (r := ⟨next, e, 1, now, now, false, []⟩) hlt] at this
    exact this
  | some r =>
    have hr := List.mem_of_find?_eq_some hf
    have hs := List.find?_some hf
    simp only [decide_eq_true_eq] at hs
    simp only [Option.map_some, H.get hr, Option.getD_some]
    by_cases g3 : e.level = 0
    · simp only [if_pos g3]; exact ⟨by trivial, by trivial, H.rem hr, by omega, by omega⟩
    simp only [if_neg g3]
    refine ⟨by trivial, by trivial, H.repl (okR_again (H.ok r hr).1 g1' g2' g3 hs) hr again_id.symm (by rw [again_e hs]; exact hs), by omega, by omega⟩
theorem baraise_spec {e : Evt} {now : Int} (he : e.fits) (hn : next + 1 ≤ 4611686018427387904) (h : Sat w0 (BoardA v n next rs :: L) w)
    (hK : ∀ w', Sat w0 (BoardA v n (raiseA n next rs e now).2.1 (raiseA n next rs e now).2.2 :: L) w' →
      K (.tuple #[rowV (raiseA n next rs e now).1.1, .int .i64 (raiseA n next rs e now).1.2.1, .int .i64 (raiseA n next rs e now).1.2.2]) w') :
    callP G16 [v, evV e, .int .i64 now] w K := by
  replace h := boardA_iff.1 h
  obtain ⟨R, I, ⟨H, hn1, hn2⟩, h⟩ := h
  obtain ⟨e1, e2, H2, e3, e4⟩ := raiseA_inv (e := e) (now := now) H hn1
  refine raise_spec he (by omega) (fun id r hg => ?_) h fun w h => ?_
  · have := okR_parts (H.ok r (H.mem hg).1).1
    omega
  · rw [e1, e2] at *
    exact hK w (boardA_iff.2 ⟨_, _, ⟨H2, by omega, by omega⟩, by rw [e2] at h; exact h⟩)
end
end Go.Proofs.Gong

/- Be3 -/
namespace Go.Proofs.Gong
open Go Go.Sx Go.Proofs
set_option maxRecDepth 100000
def evK (k : Nat) : Evt := ⟨[UInt8.ofNat (97 + k % 3)], [UInt8.ofNat (112 + k / 3 % 2)], [], (k / 6 % 6 : Nat), [UInt8.ofNat (65 + k / 36 % 20)]⟩
def evN (x : Int) : Evt := evK (bel x 1048576).toNat
theorem pl_a : ∀ a < 3, plainP [UInt8.ofNat (97 + a)] 64 = true := by decide +kernel
theorem pl_b : ∀ a < 2, plainP [UInt8.ofNat (112 + a)] 64 = true := by decide +kernel
theorem pl_c : ∀ a < 20, plainP [UInt8.ofNat (65 + a)] 1024 = true := by decide +kernel
theorem pl_e : plainP [] 128 = true := by decide +kernel
theorem evK_ok (k : Nat) : okE (evK k) = true := by
  unfold okE evK
  simp only [pl_a _ (Nat.mod_lt k (by omega : 3 > 0)), pl_b _ (Nat.mod_lt (k / 3) (by omega : 2 > 0)), pl_c _ (Nat.mod_lt (k / 36) (by omega : 20 > 0)), pl_e]
  simp
  omega
theorem evK_fits (k : Nat) : (evK k).fits := by unfold Evt.fits evK; simp
attribute [local irreducible] fBuild fLook fZero eqv bEqv Cl MapH LsH SlH ld1 ldN st callP eBox eAlloc lenM lenL eMapSet eDelete eAppend eBuildSl eRange eNext
section
variable {w0 w : World} {L : List HP} {K : Value → World → Prop} {v : Value} {n next : Int} {R : List (Int × Row)} {I : List (Sg × Int)} {rs : List Row} {r : Row}
theorem CB1 : Cod (fun b : UInt8 => [Value.int .u8 b.toNat]) 1 := ⟨fun _ => rfl, fun _ => rfl, by omega⟩
theorem event_spec {x : Int} (h : Sat w0 L w) (hK : ∀ w', Sat w0 L w' → K (evV (evN x)) w') : callP G39 [.int .i64 x] w K := by
  refine c39 ?_
  unfold F39
  refine go_alloc h z31 rfl fun _ _ h => ?_
  refine Below_spec (by decide) (by decide) fun r h1 h2 hr => ?_
  unfold evN at hK
  rw [← hr] at hK
  obtain ⟨k, rfl⟩ : ∃ k : Nat, r = k := ⟨r.toNat, by omega⟩
  rw [show ((k : Nat) : Int).toNat = k from by omega] at hK
  have e1 : bRem (.int .i64 (k : Int)) (.int .i64 3) = some (.int .i64 ((k % 3 : Nat) : Int)) := by
    rw [bRem_int _ _ _ (by decide), Int.tmod_eq_emod_of_nonneg (by omega)]; congr 2
  have e2 : bQuo (.int .i64 (k : Int)) (.int .i64 3) = some (.int .i64 ((k / 3 : Nat) : Int)) := by
    rw [bQuo_int _ _ _ (by decide), Int.tdiv_eq_ediv_of_nonneg (by omega), wrap_id (by omega)]; congr 2
  have e3 : bRem (.int .i64 ((k / 3 : Nat) : Int)) (.int .i64 2) = some (.int .i64 ((k / 3 % 2 : Nat) : Int)) := by
    rw [bRem_int _ _ _ (by decide), Int.tmod_eq_emod_of_nonneg (by omega)]; congr 2
  have e5 : bQuo (.int .i64 (k : Int)) (.int .i64 6) = some (.int .i64 ((k / 6 : Nat) : Int)) := by
    rw [bQuo_int _ _ _ (by decide), Int.tdiv_eq_ediv_of_nonneg (by omega), wrap_id (by omega)]; congr 2
  have e6 : bRem (.int .i64 ((k / 6 : Nat) : Int)) (.int .i64 6) = some (.int .i64 ((k / 6 % 6 : Nat) : Int)) := by
    rw [bRem_int _ _ _ (by decide), Int.tmod_eq_emod_of_nonneg (by omega)]; congr 2
  have e7 : bQuo (.int .i64 (k : Int)) (.int .i64 36) = some (.int .i64 ((k / 36 : Nat) : Int)) := by
    rw [bQuo_int _ _ _ (by decide), Int.tdiv_eq_ediv_of_nonneg (by omega), wrap_id (by omega)]; congr 2
  have e8 : bRem (.int .i64 ((k / 36 : Nat) : Int)) (.int .i64 20) = some (.int .i64 ((k / 36 % 20 : Nat) : Int)) := by
    rw [bRem_int _ _ _ (by decide), Int.tmod_eq_emod_of_nonneg (by omega)]; congr 2
  have u8 : ∀ (b a : Nat), b + a < 256 → bAdd (.int .i64 (b : Int)) (.int .i64 (a : Int)) = some (.int .i64 ((b + a : Nat) : Int)) ∧ cInt .u8 (.int .i64 ((b + a : Nat) : Int)) = some (.int .u8 ((UInt8.ofNat (b + a)).toNat : Nat)) := by
    intro b a hlt
    refine ⟨?_, ?_⟩
    · rw [bAdd_i64 (by omega)]; rfl
    · simp only [cInt]
      congr 2
  have a1 := u8 97 (k % 3) (by omega)
  have a2 := u8 112 (k / 3 % 2) (by omega)
  have a3 := u8 65 (k / 36 % 20) (by omega)
  refine go_some e1 ?_
  refine go_some a1.1 ?_
  refine go_some a1.2 ?_
  refine go_lit1 (f := fun b : UInt8 => [.int .u8 b.toNat]) (x := UInt8.ofNat (97 + k % 3)) CB1 h u29 (c := #[.int .u8 ((UInt8.ofNat (97 + k % 3)).toNat : Nat)]) (by kernel_rfl) rfl fun s w h => ?_
  refine go_some (cBytes_rd (l := [UInt8.ofNat (97 + k % 3)]) (ls_rd h) (by simp)) ?_
  refine go_some e2 ?_
  refine go_some e3 ?_
  refine go_some a2.1 ?_
  refine go_some a2.2 ?_
  refine go_lit1 (f := fun b : UInt8 => [.int .u8 b.toNat]) (x := UInt8.ofNat (112 + k / 3 % 2)) CB1 h u29 (c := #[.int .u8 ((UInt8.ofNat (112 + k / 3 % 2)).toNat : Nat)]) (by kernel_rfl) rfl fun s w h => ?_
  refine go_some (cBytes_rd (l := [UInt8.ofNat (112 + k / 3 % 2)]) (ls_rd h) (by simp)) ?_
  refine go_some e5 ?_
  refine go_some e6 ?_
  refine go_some e7 ?_
  refine go_some e8 ?_
  refine go_some a3.1 ?_
  refine go_some a3.2 ?_
  refine go_lit1 (f := fun b : UInt8 => [.int .u8 b.toNat]) (x := UInt8.ofNat (65 + k / 36 % 20)) CB1 h u29 (c := #[.int .u8 ((UInt8.ofNat (65 + k / 36 % 20)).toNat : Nat)]) (by kernel_rfl) rfl fun s w h => ?_
  refine go_some (cBytes_rd (l := [UInt8.ofNat (65 + k / 36 % 20)]) (ls_rd h) (by simp)) ?_
  (repeat (first
 | (simp (disch := omega) only [evA, evB, bAdd_i64, bSub_i64, ptr, Nat.zero_add, Bool.not_true, Bool.not_false, Option.isNone_some, Option.isNone_none, Option.isSome_some, Option.isSome_none, decide_true, decide_false, eq_self, true_and, and_assoc])
 | (refine go_some (fb31_0_1_3_4 ..) ?_)
 | ((with_reducible apply go_ld1 h))
 | ((with_reducible apply go_ldA h); (rfl))
 | ((with_reducible apply go_ldN h))
 | ((with_reducible apply go_st h); intro _ h)
 | ((with_reducible apply go_stA h); (rfl); (rfl); (first | rfl | simp [OneV.o]); intro _ h)
 | ((with_reducible apply go_stN h); (rfl); (first | rfl | simp [OneV.o]); intro _ h)
 | ((with_reducible apply go_box h); rfl; intro _ _ h)
 | ((with_reducible apply go_rd h); (rfl))
 | ((with_reducible apply go_rdN h); (rfl))
 | ((with_reducible apply go_rlen h); (rfl))
 | ((with_reducible apply go_lenL h))
 | ((with_reducible apply go_ix h); (omega))
 | ((with_reducible apply go_elN h); (case hi => omega))
 | ((with_reducible apply go_fa h); (omega); (omega))
 | ((with_reducible apply go_f1 h); (case hi => omega); (case hx => exact inferInstance))
 | ((with_reducible apply go_rf1 h); (case hi => omega); (case hx => exact inferInstance); (case hv => rfl))
 | ((with_reducible apply go_rel h); (case hi => omega); (case hv => rfl))
))
  exact hK _ (h.get (by (repeat (first | exact .done | (refine .pick (by repeat (first | exact .here | apply Fnt.there)) ?_) | refine .skip ?_))))
end
end Go.Proofs.Gong

/- Be4 -/
namespace Go.Proofs.Gong
open Go Go.Sx Go.Proofs
set_option maxRecDepth 100000
attribute [local irreducible] fBuild fLook fZero eqv bEqv Cl MapH LsH SlH ld1 ldN st callP eBox eAlloc lenM lenL eMapSet eDelete eAppend eBuildSl eRange eNext
section
variable {w0 w : World} {L : List HP} {K : Value → World → Prop} {v : Value} {n next : Int} {R : List (Int × Row)} {I : List (Sg × Int)} {rs : List Row} {r : Row}
end
end Go.Proofs.Gong

/- Be5 -/
namespace Go.Proofs.Gong
open Go Go.Sx Go.Proofs
set_option maxRecDepth 100000
attribute [local irreducible] fBuild fLook fZero eqv bEqv Cl MapH LsH SlH ld1 ldN st callP eBox eAlloc lenM lenL eMapSet eDelete eAppend eBuildSl eRange eNext
section
variable {w0 w : World} {L : List HP} {K : Value → World → Prop} {v : Value} {n next : Int} {R : List (Int × Row)} {I : List (Sg × Int)} {rs : List Row} {r : Row}
end
end Go.Proofs.Gong

/- Be6 -/
namespace Go.Proofs.Gong
open Go Go.Sx Go.Proofs
set_option maxRecDepth 100000
def FitRs (rs : List Row) : Prop := ∀ r ∈ rs, r.e.fits ∧ r.who.length < 1000000
theorem fit_again {r : Row} {e : Evt} {now : Int} (h : r.e.fits ∧ r.who.length < 1000000) (he : e.fits) : (againP r e now).1.e.fits ∧ (againP r e now).1.who.length < 1000000 := by
  obtain ⟨h1, h2⟩ := h
  unfold Evt.fits at *
  unfold againP
  split
  · exact ⟨⟨h1.1, h1.2.1, h1.2.2.1, he.2.2.2⟩, h2⟩
  · split
    · exact ⟨⟨h1.1, h1.2.1, h1.2.2.1, he.2.2.2⟩, by simp⟩
    · exact ⟨⟨h1.1, h1.2.1, h1.2.2.1, he.2.2.2⟩, h2⟩
theorem fit_repl {rs : List Row} {r : Row} (h : FitRs rs) (hr : r.e.fits ∧ r.who.length < 1000000) : FitRs (replL r rs) := by
  intro d hd
  obtain ⟨x, hx, rfl⟩ := List.mem_map.1 hd
  split
  · exact hr
  · exact h x hx
theorem fit_rem {rs : List Row} {id : Int} (h : FitRs rs) : FitRs (remL id rs) := fun d hd => h d (List.mem_filter.1 hd).1
theorem fit_raise {n next now : Int} {rs : List Row} {e : Evt} (h : FitRs rs) (he : e.fits) : FitRs (raiseA n next rs e now).2.2 := by
  unfold raiseA
  split
  · exact h
  split
  · exact h
  split
  · split
    · exact h
    split
    · exact h
    intro d hd
    rcases List.mem_append.1 hd with hd | hd
    · exact h d hd
    · simp at hd; subst hd; exact ⟨he, by simp⟩
  · rename_i r hf
    split
    · exact fit_rem h
    · exact fit_repl h (fit_again (h r (List.mem_of_find?_eq_some hf)) he)
attribute [local irreducible] fBuild fLook fZero eqv bEqv Cl MapH LsH SlH ld1 ldN st callP eBox eAlloc lenM lenL eMapSet eDelete eAppend eBuildSl eRange eNext
section
variable {w0 w : World} {L : List HP} {K : Value → World → Prop} {ha hb s0 s1 s2 : Value} {n next : Int} {cs : List Row}
end
theorem fit_intB {W : World} {B : Nat} {c : List Value} (h : FitL2 W B [.int .i64] c) : ∃ n : Int, c = cI n ∧ True := by
  obtain ⟨n, vs, rfl, _, h2⟩ := fitL2_int h
  rw [fitL2_nil h2]; exact ⟨n, rfl, trivial⟩
end Go.Proofs.Gong

/- Be7 -/
namespace Go.Proofs.Gong
open Go Go.Sx Go.Proofs
set_option maxRecDepth 100000
attribute [local irreducible] fBuild fLook fZero eqv bEqv Cl MapH LsH SlH ld1 ldN st callP eBox eAlloc lenM lenL eMapSet eDelete eAppend eBuildSl eRange eNext
def laV (x y : Row) : Int := ordV (x.id, x.last) (y.id, y.last)
def laLt (x y : Row) : Bool := itLt (x.id, x.last) (y.id, y.last)
theorem laSWO : SWO laLt := ⟨fun a b h => itSWO.asym _ _ h, fun a b c h1 h2 => itSWO.tr _ _ _ h1 h2⟩
theorem laV_neg (x y : Row) : laV x y < 0 ↔ laLt x y = true := ordV_neg _ _
section
variable {w0 w : World} {L : List HP} {K : Value → World → Prop} {v : Value} {n next : Int} {R : List (Int × Row)} {I : List (Sg × Int)} {rs : List Row} {r : Row}
theorem bylast_calls (W : World) (x y : Row) : callP G88 [.agg (cRow x).toArray, .agg (cRow y).toArray] W fun v w' => v = .int .i64 (laV x y) ∧ Gr W w' := by
  refine c88 ?_
  unfold F88
  refine eBox_ex (Sat.start W) (Gr.refl W) fun p w1 h1 g1 => ?_
  refine eBox_ex h1 g1 fun q w2 h2 g2 => ?_
  have hp := h2.f1.cl
  have hq := h2.cl
  simp only [cRow, cells_agg] at hp hq
  simp [ptr, cell_of hp, cell_of hq]
  refine cmp_spec ?_
  refine ⟨by simp [cell_of hp, cell_of hq], ?_⟩
  refine cmp_spec ?_
  generalize ha : (if x.last < y.last then (-1 : Int) else if y.last < x.last then 1 else 0) = a
  generalize hb : (if x.id < y.id then (-1 : Int) else if y.id < x.id then 1 else 0) = b
  have e : (([a, b] : List Int).find? (fun c => decide (c ≠ 0))).getD 0 = laV x y := by
    rw [← ha, ← hb]; exact ord_find (x.id, x.last) (y.id, y.last)
  refine eBuildSl_ex (f := cI) (es := 1) (m := [a, b]) (c := #[.int .i64 a, .int .i64 b]) CI h2.drew g2.drew u22 (by kernel_rfl) rfl fun s w3 h3 g3 => ?_
  refine or_spec (ls_rd h3) (by simp) ?_
  rw [e]
  exact ⟨rfl, g3⟩
def oldP (t : Int) (r : Row) : Bool := decide (r.last ≤ t)
theorem exp_loop1 {p : Nat} {mr it : Value} {now keep : Int} (hnk : 0 ≤ now ∧ now ≤ 2305843009213693952 ∧ 1 ≤ keep ∧ keep ≤ 2305843009213693952) (hR : R.length ≤ 65536)
    (hK : ∀ s xs w', xs.Perm ((R.map Prod.snd).filter (oldP (now - keep))) → Sat w0 (LsH cRow 11 33 s xs :: MapH kI rowV mr R :: L) w' → F41_3 (ptr p) s w' K) :
    ∀ (d : Nat) (rem : List (Int × Row)) (xs : List Row) (s : Value) (w : World), rem.length < d → xs.length + rem.length ≤ 65536 → (xs ++ (rem.map Prod.snd).filter (oldP (now - keep))).Perm ((R.map Prod.snd).filter (oldP (now - keep))) →
      Sat w0 (ItH kI rowV it mr R rem :: LsH cRow 11 33 s xs :: L) w → F41_2L d (ptr p) (.int .i64 now) (.int .i64 keep) s it w K := by
  intro d
  induction d with
  | zero => intro rem xs s w hd; omega
  | succ d ih =>
    intro rem xs s w hd hxl hp h
    rw [F41_2L]
    unfold F41_2b
    refine eNext_sat2 h (fun hn w h => ?_) (fun x r1 r2 w hs h hen => ?_)
    · have h2 := it_map h
      rw [hn] at hp
      refine go_some (show pTuple over 0 = some (.bool false) from rfl) ?_
      (repeat (first
 | (simp (disch := omega) only [evA, evB, bAdd_i64, bSub_i64, ptr, Nat.zero_add, Bool.not_true, Bool.not_false, Option.isNone_some, Option.isNone_none, Option.isSome_some, Option.isSome_none, decide_true, decide_false, eq_self, true_and, and_assoc])
 | ((with_reducible apply go_ld1 h))
 | ((with_reducible apply go_ldA h); (rfl))
 | ((with_reducible apply go_ldN h))
 | ((with_reducible apply go_st h); intro _ h)
 | ((with_reducible apply go_stA h); (rfl); (rfl); (first | rfl | simp [OneV.o]); intro _ h)
 | ((with_reducible apply go_stN h); (rfl); (first | rfl | simp [OneV.o]); intro _ h)
 | ((with_reducible apply go_box h); rfl; intro _ _ h)
 | ((with_reducible apply go_rd h); (rfl))
 | ((with_reducible apply go_rdN h); (rfl))
 | ((with_reducible apply go_rlen h); (rfl))
 | ((with_reducible apply go_lenL h))
 | ((with_reducible apply go_ix h); (omega))
 | ((with_reducible apply go_elN h); (case hi => omega))
 | ((with_reducible apply go_fa h); (omega); (omega))
 | ((with_reducible apply go_f1 h); (case hi => omega); (case hx => exact inferInstance))
 | ((with_reducible apply go_rf1 h); (case hi => omega); (case hx => exact inferInstance); (case hv => rfl))
 | ((with_reducible apply go_rel h); (case hi => omega); (case hv => rfl))
))
      exact hK s xs w (by simpa using hp) h2.f1
    · have hrm : rem.length = r1.length + r2.length + 1 := by rw [hs]; simp; omega
      refine go_some (show pTuple (.tuple #[.bool true, kI x.1, rowV x.2]) 0 = some (.bool true) from rfl) ?_
      (repeat (first
 | (simp (disch := omega) only [evA, evB, bAdd_i64, bSub_i64, ptr, Nat.zero_add, Bool.not_true, Bool.not_false, Option.isNone_some, Option.isNone_none, Option.isSome_some, Option.isSome_none, decide_true, decide_false, eq_self, true_and, and_assoc])
 | ((with_reducible apply go_ld1 h))
 | ((with_reducible apply go_ldA h); (rfl))
 | ((with_reducible apply go_ldN h))
 | ((with_reducible apply go_st h); intro _ h)
 | ((with_reducible apply go_stA h); (rfl); (rfl); (first | rfl | simp [OneV.o]); intro _ h)
 | ((with_reducible apply go_stN h); (rfl); (first | rfl | simp [OneV.o]); intro _ h)
 | ((with_reducible apply go_box h); rfl; intro _ _ h)
 | ((with_reducible apply go_rd h); (rfl))
 | ((with_reducible apply go_rdN h); (rfl))
 | ((with_reducible apply go_rlen h); (rfl))
 | ((with_reducible apply go_lenL h))
 | ((with_reducible apply go_ix h); (omega))
 | ((with_reducible apply go_elN h); (case hi => omega))
 | ((with_reducible apply go_fa h); (omega); (omega))
 | ((with_reducible apply go_f1 h); (case hi => omega); (case hx => exact inferInstance))
 | ((with_reducible apply go_rf1 h); (case hi => omega); (case hx => exact inferInstance); (case hv => rfl))
 | ((with_reducible apply go_rel h); (case hi => omega); (case hv => rfl))
))
      refine go_some hen ?_
      refine go_some (show pTuple (.tuple #[kI x.1, rowV x.2]) 1 = some (rowV x.2) from rfl) ?_
      refine go_alloc h zR rfl fun _ _ h => ?_
      (repeat (first
 | (simp (disch := omega) only [evA, evB, bAdd_i64, bSub_i64, ptr, Nat.zero_add, Bool.not_true, Bool.not_false, Option.isNone_some, Option.isNone_none, Option.isSome_some, Option.isSome_none, decide_true, decide_false, eq_self, true_and, and_assoc])
 | ((with_reducible apply go_ld1 h))
 | ((with_reducible apply go_ldA h); (rfl))
 | ((with_reducible apply go_ldN h))
 | ((with_reducible apply go_st h); intro _ h)
 | ((with_reducible apply go_stA h); (rfl); (rfl); (first | rfl | simp [OneV.o]); intro _ h)
 | ((with_reducible apply go_stN h); (rfl); (first | rfl | simp [OneV.o]); intro _ h)
 | ((with_reducible apply go_box h); rfl; intro _ _ h)
 | ((with_reducible apply go_rd h); (rfl))
 | ((with_reducible apply go_rdN h); (rfl))
 | ((with_reducible apply go_rlen h); (rfl))
 | ((with_reducible apply go_lenL h))
 | ((with_reducible apply go_ix h); (omega))
 | ((with_reducible apply go_elN h); (case hi => omega))
 | ((with_reducible apply go_fa h); (omega); (omega))
 | ((with_reducible apply go_f1 h); (case hi => omega); (case hx => exact inferInstance))
 | ((with_reducible apply go_rf1 h); (case hi => omega); (case hx => exact inferInstance); (case hv => rfl))
 | ((with_reducible apply go_rel h); (case hi => omega); (case hv => rfl))
))
      have hsub : (xs ++ ((r1 ++ r2).map Prod.snd).filter (oldP (now - keep)) ++ ([x.2].filter (oldP (now - keep)))).Perm ((R.map Prod.snd).filter (oldP (now - keep))) := by
        refine List.Perm.trans ?_ hp
        rw [hs, List.append_assoc]
        refine List.Perm.append_left xs ?_
        rw [← List.filter_append]
        refine List.Perm.filter _ ?_
        simp only [List.map_append, List.map_cons, List.append_assoc]
        refine List.Perm.append_left _ ?_
        exact List.perm_append_comm (l₁ := r2.map Prod.snd) (l₂ := [x.2])
      by_cases g : x.2.last ≤ now - keep
      · have g' : decide (x.2.last ≤ now - keep) = true := by simpa using g
        (repeat (first
 | (simp (disch := omega) only [evA, evB, bAdd_i64, bSub_i64, ptr, Nat.zero_add, Bool.not_true, Bool.not_false, Option.isNone_some, Option.isNone_none, Option.isSome_some, Option.isSome_none, decide_true, decide_false, eq_self, true_and, and_assoc, g'])
 | ((with_reducible apply go_ld1 h))
 | ((with_reducible apply go_ldA h); (rfl))
 | ((with_reducible apply go_ldN h))
 | ((with_reducible apply go_st h); intro _ h)
 | ((with_reducible apply go_stA h); (rfl); (rfl); (first | rfl | simp [OneV.o]); intro _ h)
 | ((with_reducible apply go_stN h); (rfl); (first | rfl | simp [OneV.o]); intro _ h)
 | ((with_reducible apply go_box h); rfl; intro _ _ h)
 | ((with_reducible apply go_rd h); (rfl))
 | ((with_reducible apply go_rdN h); (rfl))
 | ((with_reducible apply go_rlen h); (rfl))
 | ((with_reducible apply go_lenL h))
 | ((with_reducible apply go_ix h); (omega))
 | ((with_reducible apply go_elN h); (case hi => omega))
 | ((with_reducible apply go_fa h); (omega); (omega))
 | ((with_reducible apply go_f1 h); (case hi => omega); (case hx => exact inferInstance))
 | ((with_reducible apply go_rf1 h); (case hi => omega); (case hx => exact inferInstance); (case hv => rfl))
 | ((with_reducible apply go_rel h); (case hi => omega); (case hv => rfl))
))
        refine go_lit1 (x := x.2) CR h u74 (fbRow x.2) rfl fun s1 w h => ?_
        refine ls_app (l := xs) (m := [x.2]) CR (h.front (A := LsH cRow 11 33 s xs) (by repeat (first | exact .here | apply Fnt.there))) sl74 ss74 (ls_rd h) (by simp; omega) fun s2 w h => ?_
        (repeat (first
 | (simp (disch := omega) only [evA, evB, bAdd_i64, bSub_i64, ptr, Nat.zero_add, Bool.not_true, Bool.not_false, Option.isNone_some, Option.isNone_none, Option.isSome_some, Option.isSome_none, decide_true, decide_false, eq_self, true_and, and_assoc])
 | ((with_reducible apply go_ld1 h))
 | ((with_reducible apply go_ldA h); (rfl))
 | ((with_reducible apply go_ldN h))
 | ((with_reducible apply go_st h); intro _ h)
 | ((with_reducible apply go_stA h); (rfl); (rfl); (first | rfl | simp [OneV.o]); intro _ h)
 | ((with_reducible apply go_stN h); (rfl); (first | rfl | simp [OneV.o]); intro _ h)
 | ((with_reducible apply go_box h); rfl; intro _ _ h)
 | ((with_reducible apply go_rd h); (rfl))
 | ((with_reducible apply go_rdN h); (rfl))
 | ((with_reducible apply go_rlen h); (rfl))
 | ((with_reducible apply go_lenL h))
 | ((with_reducible apply go_ix h); (omega))
 | ((with_reducible apply go_elN h); (case hi => omega))
 | ((with_reducible apply go_fa h); (omega); (omega))
 | ((with_reducible apply go_f1 h); (case hi => omega); (case hx => exact inferInstance))
 | ((with_reducible apply go_rf1 h); (case hi => omega); (case hx => exact inferInstance); (case hv => rfl))
 | ((with_reducible apply go_rel h); (case hi => omega); (case hv => rfl))
))
        refine ih (r1 ++ r2) (xs ++ [x.2]) s2 w (by simp; omega) (by simp; omega) ?_ (h.get (by (repeat (first | exact .done | (refine .pick (by repeat (first | exact .here | apply Fnt.there)) ?_) | refine .skip ?_))))
        have : [x.2].filter (oldP (now - keep)) = [x.2] := by simp [oldP, g]
        rw [this] at hsub
        refine List.Perm.trans ?_ hsub
        rw [List.append_assoc, List.append_assoc]
        exact List.Perm.append_left xs List.perm_append_comm
      · have g' : decide (x.2.last ≤ now - keep) = false := by simpa using g
        (repeat (first
 | (simp (disch := omega) only [evA, evB, bAdd_i64, bSub_i64, ptr, Nat.zero_add, Bool.not_true, Bool.not_false, Option.isNone_some, Option.isNone_none, Option.isSome_some, Option.isSome_none, decide_true, decide_false, eq_self, true_and, and_assoc, g'])
 | ((with_reducible apply go_ld1 h))
 | ((with_reducible apply go_ldA h); (rfl))
 | ((with_reducible apply go_ldN h))
 | ((with_reducible apply go_st h); intro _ h)
 | ((with_reducible apply go_stA h); (rfl); (rfl); (first | rfl | simp [OneV.o]); intro _ h)
 | ((with_reducible apply go_stN h); (rfl); (first | rfl | simp [OneV.o]); intro _ h)
 | ((with_reducible apply go_box h); rfl; intro _ _ h)
 | ((with_reducible apply go_rd h); (rfl))
 | ((with_reducible apply go_rdN h); (rfl))
 | ((with_reducible apply go_rlen h); (rfl))
 | ((with_reducible apply go_lenL h))
 | ((with_reducible apply go_ix h); (omega))
 | ((with_reducible apply go_elN h); (case hi => omega))
 | ((with_reducible apply go_fa h); (omega); (omega))
 | ((with_reducible apply go_f1 h); (case hi => omega); (case hx => exact inferInstance))
 | ((with_reducible apply go_rf1 h); (case hi => omega); (case hx => exact inferInstance); (case hv => rfl))
 | ((with_reducible apply go_rel h); (case hi => omega); (case hv => rfl))
))
        refine ih (r1 ++ r2) xs s _ (by simp; omega) (by simp; omega) ?_ (h.get (by (repeat (first | exact .done | (refine .pick (by repeat (first | exact .here | apply Fnt.there)) ?_) | refine .skip ?_))))
        have : [x.2].filter (oldP (now - keep)) = [] := by simp [oldP, g]
        rw [this, List.append_nil] at hsub
        exact hsub
def remAll (xs rs : List Row) : List Row := rs.filter fun d => !(xs.map (·.id)).contains d.id
theorem remAll_snoc (xs rs : List Row) (r : Row) : remL r.id (remAll xs rs) = remAll (xs ++ [r]) rs := by
  unfold remL remAll
  rw [List.filter_filter]
  congr 1; funext d
  rw [Bool.eq_iff_iff]
  simp [and_comm]
theorem exp_loop2 {p : Nat} {sv : Value} {xs : List Row} (hx : ∀ r ∈ xs, r ∈ rs) (hnd : (xs.map (·.id)).Nodup) (hl : xs.length ≤ 65536)
    (hK : ∀ R I w', BInv n next R I (remAll xs rs) → Sat w0 (LsH cRow 11 33 sv xs :: BoardI (ptr p) n next R I :: L) w' → F41_5 sv w' K) :
    ∀ (d i : Nat) (R : List (Int × Row)) (I : List (Sg × Int)) (w : World), xs.length - i < d → i ≤ xs.length → BInv n next R I (remAll (xs.take i) rs) → Sat w0 (LsH cRow 11 33 sv xs :: BoardI (ptr p) n next R I :: L) w →
      F41_4L d (ptr p) sv sv (.int .i64 (xs.length : Nat)) (.int .i64 i) w K := by
  intro d
  induction d with
  | zero => intro i R I w hd; omega
  | succ d ih =>
    intro i R I w hd hi H h
    rw [F41_4L]
    unfold F41_4b
    by_cases g : i < xs.length
    · have g' : decide ((i : Int) < (xs.length : Int)) = true := by simpa using g
      (repeat (first
 | (simp (disch := omega) only [evA, evB, bAdd_i64, bSub_i64, ptr, Nat.zero_add, Bool.not_true, Bool.not_false, Option.isNone_some, Option.isNone_none, Option.isSome_some, Option.isSome_none, decide_true, decide_false, eq_self, true_and, and_assoc, g'])
 | ((with_reducible apply go_ld1 h))
 | ((with_reducible apply go_ldA h); (rfl))
 | ((with_reducible apply go_ldN h))
 | ((with_reducible apply go_st h); intro _ h)
 | ((with_reducible apply go_stA h); (rfl); (rfl); (first | rfl | simp [OneV.o]); intro _ h)
 | ((with_reducible apply go_stN h); (rfl); (first | rfl | simp [OneV.o]); intro _ h)
 | ((with_reducible apply go_box h); rfl; intro _ _ h)
 | ((with_reducible apply go_rd h); (rfl))
 | ((with_reducible apply go_rdN h); (rfl))
 | ((with_reducible apply go_rlen h); (rfl))
 | ((with_reducible apply go_lenL h))
 | ((with_reducible apply go_ix h); (omega))
 | ((with_reducible apply go_elN h); (case hi => omega))
 | ((with_reducible apply go_fa h); (omega); (omega))
 | ((with_reducible apply go_f1 h); (case hi => omega); (case hx => exact inferInstance))
 | ((with_reducible apply go_rf1 h); (case hi => omega); (case hx => exact inferInstance); (case hv => rfl))
 | ((with_reducible apply go_rel h); (case hi => omega); (case hv => rfl))
))
      refine go_alloc h zR rfl fun _ _ h => ?_
      (repeat (first
 | (simp (disch := omega) only [evA, evB, bAdd_i64, bSub_i64, ptr, Nat.zero_add, Bool.not_true, Bool.not_false, Option.isNone_some, Option.isNone_none, Option.isSome_some, Option.isSome_none, decide_true, decide_false, eq_self, true_and, and_assoc])
 | ((with_reducible apply go_ld1 h))
 | ((with_reducible apply go_ldA h); (rfl))
 | ((with_reducible apply go_ldN h))
 | ((with_reducible apply go_st h); intro _ h)
 | ((with_reducible apply go_stA h); (rfl); (rfl); (first | rfl | simp [OneV.o]); intro _ h)
 | ((with_reducible apply go_stN h); (rfl); (first | rfl | simp [OneV.o]); intro _ h)
 | ((with_reducible apply go_box h); rfl; intro _ _ h)
 | ((with_reducible apply go_rd h); (rfl))
 | ((with_reducible apply go_rdN h); (rfl))
 | ((with_reducible apply go_rlen h); (rfl))
 | ((with_reducible apply go_lenL h))
 | ((with_reducible apply go_ix h); (omega))
 | ((with_reducible apply go_elN h); (case hi => omega))
 | ((with_reducible apply go_fa h); (omega); (omega))
 | ((with_reducible apply go_f1 h); (case hi => omega); (case hx => exact inferInstance))
 | ((with_reducible apply go_rf1 h); (case hi => omega); (case hx => exact inferInstance); (case hv => rfl))
 | ((with_reducible apply go_rel h); (case hi => omega); (case hv => rfl))
))
      refine take_bspec (r := xs[i]) (v := ptr p) (n := n) (next := next) (R := R) (I := I) (L := _ :: LsH cRow 11 33 sv xs :: L) (h.get (by (repeat (first | exact .done | (refine .pick (by repeat (first | exact .here | apply Fnt.there)) ?_) | refine .skip ?_)))) fun w h => ?_
      (repeat (first
 | (simp (disch := omega) only [evA, evB, bAdd_i64, bSub_i64, ptr, Nat.zero_add, Bool.not_true, Bool.not_false, Option.isNone_some, Option.isNone_none, Option.isSome_some, Option.isSome_none, decide_true, decide_false, eq_self, true_and, and_assoc])
 | ((with_reducible apply go_ld1 h))
 | ((with_reducible apply go_ldA h); (rfl))
 | ((with_reducible apply go_ldN h))
 | ((with_reducible apply go_st h); intro _ h)
 | ((with_reducible apply go_stA h); (rfl); (rfl); (first | rfl | simp [OneV.o]); intro _ h)
 | ((with_reducible apply go_stN h); (rfl); (first | rfl | simp [OneV.o]); intro _ h)
 | ((with_reducible apply go_box h); rfl; intro _ _ h)
 | ((with_reducible apply go_rd h); (rfl))
 | ((with_reducible apply go_rdN h); (rfl))
 | ((with_reducible apply go_rlen h); (rfl))
 | ((with_reducible apply go_lenL h))
 | ((with_reducible apply go_ix h); (omega))
 | ((with_reducible apply go_elN h); (case hi => omega))
 | ((with_reducible apply go_fa h); (omega); (omega))
 | ((with_reducible apply go_f1 h); (case hi => omega); (case hx => exact inferInstance))
 | ((with_reducible apply go_rf1 h); (case hi => omega); (case hx => exact inferInstance); (case hv => rfl))
 | ((with_reducible apply go_rel h); (case hi => omega); (case hv => rfl))
))
      refine ih (i + 1) _ _ w (by omega) (by omega) ?_ (h.get (by (repeat (first | exact .done | (refine .pick (by repeat (first | exact .here | apply Fnt.there)) ?_) | refine .skip ?_))))
      have hmem : xs[i] ∈ remAll (xs.take i) rs := by
        unfold remAll
        rw [List.mem_filter]
        refine ⟨hx _ (List.getElem_mem _), ?_⟩
        simp only [Bool.not_eq_true', List.contains_eq_mem, decide_eq_false_iff_not]
        intro hm
        have hn2 : ((xs.take i ++ xs[i] :: xs.drop (i + 1)).map (·.id)).Nodup := by
          rw [← List.drop_eq_getElem_cons g, List.take_append_drop]; exact hnd
        rw [List.map_append, List.map_cons, List.nodup_append] at hn2
        exact hn2.2.2 _ hm _ (by simp) rfl
      have := H.rem hmem
      rw [remAll_snoc, ← List.take_succ_eq_append_getElem g] at this
      exact this
    · have g' : decide ((i : Int) < (xs.length : Int)) = false := by simpa using g
      have e : i = xs.length := by omega
      subst e
      (repeat (first
 | (simp (disch := omega) only [evA, evB, bAdd_i64, bSub_i64, ptr, Nat.zero_add, Bool.not_true, Bool.not_false, Option.isNone_some, Option.isNone_none, Option.isSome_some, Option.isSome_none, decide_true, decide_false, eq_self, true_and, and_assoc, g'])
 | ((with_reducible apply go_ld1 h))
 | ((with_reducible apply go_ldA h); (rfl))
 | ((with_reducible apply go_ldN h))
 | ((with_reducible apply go_st h); intro _ h)
 | ((with_reducible apply go_stA h); (rfl); (rfl); (first | rfl | simp [OneV.o]); intro _ h)
 | ((with_reducible apply go_stN h); (rfl); (first | rfl | simp [OneV.o]); intro _ h)
 | ((with_reducible apply go_box h); rfl; intro _ _ h)
 | ((with_reducible apply go_rd h); (rfl))
 | ((with_reducible apply go_rdN h); (rfl))
 | ((with_reducible apply go_rlen h); (rfl))
 | ((with_reducible apply go_lenL h))
 | ((with_reducible apply go_ix h); (omega))
 | ((with_reducible apply go_elN h); (case hi => omega))
 | ((with_reducible apply go_fa h); (omega); (omega))
 | ((with_reducible apply go_f1 h); (case hi => omega); (case hx => exact inferInstance))
 | ((with_reducible apply go_rf1 h); (case hi => omega); (case hx => exact inferInstance); (case hv => rfl))
 | ((with_reducible apply go_rel h); (case hi => omega); (case hv => rfl))
))
      rw [List.take_length] at H
      exact hK R I w H h
theorem remAll_old {xs : List Row} {t : Int} (H : BInv n next R I rs) (hp : xs.Perm (rs.filter (oldP t))) : remAll xs rs = rs.filter fun d => !oldP t d := by
  unfold remAll
  refine List.filter_congr fun d hd => ?_
  congr 1
  rw [Bool.eq_iff_iff]
  simp only [List.contains_eq_mem, decide_eq_true_eq, List.mem_map]
  constructor
  · rintro ⟨y, hy, e⟩
    have hy2 := List.mem_filter.1 (hp.mem_iff.1 hy)
    rw [rasc_eq H.asc hy2.1 hd e] at hy2
    exact hy2.2
  · intro h
    exact ⟨d, hp.mem_iff.2 (List.mem_filter.2 ⟨hd, h⟩), rfl⟩
theorem baexpire_spec {now keep : Int} (h : Sat w0 (BoardA v n next rs :: L) w)
    (hK0 : (timeP now = false ∨ keep < 1 ∨ 2305843009213693952 < keep) → ∀ w', Sat w0 (BoardA v n next rs :: L) w' → K (.tuple #[.slice none 0 0, .int .i64 1]) w')
    (hK1 : timeP now = true → 1 ≤ keep → keep ≤ 2305843009213693952 → ∀ g s w', g.Perm (rs.filter (oldP (now - keep))) → g.Pairwise (fun x y => laLt y x = false) → Sat w0 (LsH cRow 11 33 s g :: BoardA v n next (rs.filter fun d => !oldP (now - keep) d) :: L) w' → K (.tuple #[s, .int .i64 0]) w') :
    callP G41 [v, .int .i64 now, .int .i64 keep] w K := by
  refine c41 ?_
  unfold F41 F41_1 F41_1b F41_2
  refine bistime_spec ?_
  cases g1 : timeP now
  · (repeat (first
 | (simp (disch := omega) only [evA, evB, bAdd_i64, bSub_i64, ptr, Nat.zero_add, Bool.not_true, Bool.not_false, Option.isNone_some, Option.isNone_none, Option.isSome_some, Option.isSome_none, decide_true, decide_false, eq_self, true_and, and_assoc])
 | ((with_reducible apply go_ld1 h))
 | ((with_reducible apply go_ldA h); (rfl))
 | ((with_reducible apply go_ldN h))
 | ((with_reducible apply go_st h); intro _ h)
 | ((with_reducible apply go_stA h); (rfl); (rfl); (first | rfl | simp [OneV.o]); intro _ h)
 | ((with_reducible apply go_stN h); (rfl); (first | rfl | simp [OneV.o]); intro _ h)
 | ((with_reducible apply go_box h); rfl; intro _ _ h)
 | ((with_reducible apply go_rd h); (rfl))
 | ((with_reducible apply go_rdN h); (rfl))
 | ((with_reducible apply go_rlen h); (rfl))
 | ((with_reducible apply go_lenL h))
 | ((with_reducible apply go_ix h); (omega))
 | ((with_reducible apply go_elN h); (case hi => omega))
 | ((with_reducible apply go_fa h); (omega); (omega))
 | ((with_reducible apply go_f1 h); (case hi => omega); (case hx => exact inferInstance))
 | ((with_reducible apply go_rf1 h); (case hi => omega); (case hx => exact inferInstance); (case hv => rfl))
 | ((with_reducible apply go_rel h); (case hi => omega); (case hv => rfl))
))
    exact hK0 (.inl g1) w h
  by_cases g2 : keep < 1
  · have g2' : decide (keep < 1) = true := by simpa using g2
    (repeat (first
 | (simp (disch := omega) only [evA, evB, bAdd_i64, bSub_i64, ptr, Nat.zero_add, Bool.not_true, Bool.not_false, Option.isNone_some, Option.isNone_none, Option.isSome_some, Option.isSome_none, decide_true, decide_false, eq_self, true_and, and_assoc, g2'])
 | ((with_reducible apply go_ld1 h))
 | ((with_reducible apply go_ldA h); (rfl))
 | ((with_reducible apply go_ldN h))
 | ((with_reducible apply go_st h); intro _ h)
 | ((with_reducible apply go_stA h); (rfl); (rfl); (first | rfl | simp [OneV.o]); intro _ h)
 | ((with_reducible apply go_stN h); (rfl); (first | rfl | simp [OneV.o]); intro _ h)
 | ((with_reducible apply go_box h); rfl; intro _ _ h)
 | ((with_reducible apply go_rd h); (rfl))
 | ((with_reducible apply go_rdN h); (rfl))
 | ((with_reducible apply go_rlen h); (rfl))
 | ((with_reducible apply go_lenL h))
 | ((with_reducible apply go_ix h); (omega))
 | ((with_reducible apply go_elN h); (case hi => omega))
 | ((with_reducible apply go_fa h); (omega); (omega))
 | ((with_reducible apply go_f1 h); (case hi => omega); (case hx => exact inferInstance))
 | ((with_reducible apply go_rf1 h); (case hi => omega); (case hx => exact inferInstance); (case hv => rfl))
 | ((with_reducible apply go_rel h); (case hi => omega); (case hv => rfl))
))
    exact hK0 (.inr (.inl g2)) w h
  have g2' : decide (keep < 1) = false := by simpa using g2
  by_cases g3 : keep > 2305843009213693952
  · have g3' : decide (keep > 2305843009213693952) = true := by simpa using g3
    (repeat (first
 | (simp (disch := omega) only [evA, evB, bAdd_i64, bSub_i64, ptr, Nat.zero_add, Bool.not_true, Bool.not_false, Option.isNone_some, Option.isNone_none, Option.isSome_some, Option.isSome_none, decide_true, decide_false, eq_self, true_and, and_assoc, g2', g3'])
 | ((with_reducible apply go_ld1 h))
 | ((with_reducible apply go_ldA h); (rfl))
 | ((with_reducible apply go_ldN h))
 | ((with_reducible apply go_st h); intro _ h)
 | ((with_reducible apply go_stA h); (rfl); (rfl); (first | rfl | simp [OneV.o]); intro _ h)
 | ((with_reducible apply go_stN h); (rfl); (first | rfl | simp [OneV.o]); intro _ h)
 | ((with_reducible apply go_box h); rfl; intro _ _ h)
 | ((with_reducible apply go_rd h); (rfl))
 | ((with_reducible apply go_rdN h); (rfl))
 | ((with_reducible apply go_rlen h); (rfl))
 | ((with_reducible apply go_lenL h))
 | ((with_reducible apply go_ix h); (omega))
 | ((with_reducible apply go_elN h); (case hi => omega))
 | ((with_reducible apply go_fa h); (omega); (omega))
 | ((with_reducible apply go_f1 h); (case hi => omega); (case hx => exact inferInstance))
 | ((with_reducible apply go_rf1 h); (case hi => omega); (case hx => exact inferInstance); (case hv => rfl))
 | ((with_reducible apply go_rel h); (case hi => omega); (case hv => rfl))
))
    exact hK0 (.inr (.inr g3)) w h
  have g3' : decide (keep > 2305843009213693952) = false := by simpa using g3
  have htm : 0 ≤ now ∧ now ≤ 2305843009213693952 := by unfold timeP at g1; simpa using g1
  replace h := boardA_iff.1 h
  obtain ⟨R, I, H, h⟩ := h
  replace h := board_iff.1 h
  obtain ⟨p, mr, mi, rfl, h⟩ := h
  have := map_one (h.front (A := MapH kI rowV mr R) (by repeat (first | exact .here | apply Fnt.there)))
  have hb := H.1.bd
  have hRl := H.1.len
  (repeat (first
 | (simp (disch := omega) only [evA, evB, bAdd_i64, bSub_i64, ptr, Nat.zero_add, Bool.not_true, Bool.not_false, Option.isNone_some, Option.isNone_none, Option.isSome_some, Option.isSome_none, decide_true, decide_false, eq_self, true_and, and_assoc, g2', g3'])
 | ((with_reducible apply go_ld1 h))
 | ((with_reducible apply go_ldA h); (rfl))
 | ((with_reducible apply go_ldN h))
 | ((with_reducible apply go_st h); intro _ h)
 | ((with_reducible apply go_stA h); (rfl); (rfl); (first | rfl | simp [OneV.o]); intro _ h)
 | ((with_reducible apply go_stN h); (rfl); (first | rfl | simp [OneV.o]); intro _ h)
 | ((with_reducible apply go_box h); rfl; intro _ _ h)
 | ((with_reducible apply go_rd h); (rfl))
 | ((with_reducible apply go_rdN h); (rfl))
 | ((with_reducible apply go_rlen h); (rfl))
 | ((with_reducible apply go_lenL h))
 | ((with_reducible apply go_ix h); (omega))
 | ((with_reducible apply go_elN h); (case hi => omega))
 | ((with_reducible apply go_fa h); (omega); (omega))
 | ((with_reducible apply go_f1 h); (case hi => omega); (case hx => exact inferInstance))
 | ((with_reducible apply go_rf1 h); (case hi => omega); (case hx => exact inferInstance); (case hv => rfl))
 | ((with_reducible apply go_rel h); (case hi => omega); (case hv => rfl))
))
  refine eRange_sat (h.front (A := MapH kI rowV mr R) (by repeat (first | exact .here | apply Fnt.there))) um107 fun it w h => ?_
  refine exp_loop1 (R := R) (mr := mr) (L := Cl p #[.int .i64 n, .int .i64 next, mr, mi] 110 :: MapH ekS kI mi I :: L) (by omega) (by omega) (fun s xs w hp h => ?_) fuel R [] (.slice none 0 0) w (by unfold fuel; omega) (by simp; omega) (by simp) (by
    have h2 := ls_nil (f := cRow) (es := 11) (ty := 33) h
    exact h2.get (by (repeat (first | exact .done | (refine .pick (by repeat (first | exact .here | apply Fnt.there)) ?_) | refine .skip ?_))))
  have hp2 : xs.Perm (rs.filter (oldP (now - keep))) := hp.trans (H.1.pm.filter _)
  have hsub : ∀ r ∈ xs, r ∈ rs := fun r hr => (List.mem_filter.1 (hp2.mem_iff.1 hr)).1
  have hlx : xs.length ≤ rs.length := by rw [hp2.length_eq]; exact List.length_filter_le _ _
  have hnd : (xs.map (·.id)).Nodup := by
    refine ((hp2.map (·.id)).nodup_iff).2 ?_
    exact List.pairwise_map.2 ((H.1.asc.filter _).imp fun h e => by omega)
  unfold F41_3 F41_3b
  (repeat (first
 | (simp (disch := omega) only [evA, evB, bAdd_i64, bSub_i64, ptr, Nat.zero_add, Bool.not_true, Bool.not_false, Option.isNone_some, Option.isNone_none, Option.isSome_some, Option.isSome_none, decide_true, decide_false, eq_self, true_and, and_assoc])
 | ((with_reducible apply go_ld1 h))
 | ((with_reducible apply go_ldA h); (rfl))
 | ((with_reducible apply go_ldN h))
 | ((with_reducible apply go_st h); intro _ h)
 | ((with_reducible apply go_stA h); (rfl); (rfl); (first | rfl | simp [OneV.o]); intro _ h)
 | ((with_reducible apply go_stN h); (rfl); (first | rfl | simp [OneV.o]); intro _ h)
 | ((with_reducible apply go_box h); rfl; intro _ _ h)
 | ((with_reducible apply go_rd h); (rfl))
 | ((with_reducible apply go_rdN h); (rfl))
 | ((with_reducible apply go_rlen h); (rfl))
 | ((with_reducible apply go_lenL h))
 | ((with_reducible apply go_ix h); (omega))
 | ((with_reducible apply go_elN h); (case hi => omega))
 | ((with_reducible apply go_fa h); (omega); (omega))
 | ((with_reducible apply go_f1 h); (case hi => omega); (case hx => exact inferInstance))
 | ((with_reducible apply go_rf1 h); (case hi => omega); (case hx => exact inferInstance); (case hv => rfl))
 | ((with_reducible apply go_rel h); (case hi => omega); (case hv => rfl))
))
  unfold F41_4
  refine exp_loop2 (w0 := w0) (L := L) (n := n) (next := next) hsub hnd (by omega) (fun R2 I2 w H2 h => ?_) fuel 0 R I w (by unfold fuel; omega) (by omega) (by
    have : remAll (xs.take 0) rs = rs := by unfold remAll; simp
    rw [this]; exact H.1) ?_
  · unfold F41_5 F41_5b
    refine sortF_sat (lt := laLt) (cf := laV) (l := xs) h (by omega) CR laSWO laV_neg ok88 Try.call88 bylast_calls fun l' w h3 h4 h => ?_
    refine hK1 g1 (by omega) (by omega) l' _ w (h3.trans hp2) h4 ?_
    rw [remAll_old H.1 hp2] at H2
    exact Sat.f1 (boardA_iff.2 ⟨R2, I2, ⟨H2, H.2⟩, h.f1⟩)
  · exact Sat.f1 (board_iff.2 ⟨p, mr, mi, rfl, h.get (by (repeat (first | exact .done | (refine .pick (by repeat (first | exact .here | apply Fnt.there)) ?_) | refine .skip ?_)))⟩)
end
end Go.Proofs.Gong

/- Be8 -/
namespace Go.Proofs.Gong
open Go Go.Sx Go.Proofs
set_option maxRecDepth 100000
theorem eqv3 (a b c d e f : ByteArray) : eqv Try.prog Op.maxDepth 79 (.agg #[.string a, .string b, .string c]) (.agg #[.string d, .string e, .string f]) = andO (some (sEq a d)) (andO (some (sEq b e)) (andO (some (sEq c f)) (some true))) := by kernel_rfl
theorem K3 : KeyT Try.prog 79 ekS where
  u := by kernel_rfl
  ck := fun k => by kernel_rfl
  eq := fun a b => by
    unfold ekS cSg
    rw [eqv3]
    simp only [andO_some, Option.some.injEq]
    rw [Bool.eq_iff_iff]
    obtain ⟨a1, a2, a3⟩ := a
    obtain ⟨b1, b2, b3⟩ := b
    simp [sEq_eq]
  sb := fun a => by
    unfold ekS cSg
    simp [Instr.sameBits]
abbrev bV (b : Bool) : Value := .bool b
attribute [local irreducible] fBuild fLook fZero eqv bEqv Cl MapH LsH SlH ld1 ldN st callP eBox eAlloc lenM lenL eMapSet eDelete eAppend eBuildSl eRange eNext
section
variable {w0 w : World} {L : List HP} {K : Value → World → Prop} {n next : Int} {rs : List Row}
theorem fb3 (s : Sg) : fBuild Try.prog 79 [(0, .string (bs s.1)), (1, .string (bs s.2.1)), (2, .string (bs s.2.2))] = some (ekS s) := by kernel_rfl
theorem sg_loop {s0 s1 b ov lastV iV sgv rv : Value} {op : List (Int × Bool)} {R3 : Value → Value → Value → Value → Value → Value → World → Prop} (hl : rs.length ≤ 1000) (hop : ∀ r ∈ rs, aGet r.id op = some true) (hsg : rs.Pairwise fun a b => sgOf a.e ≠ sgOf b.e) (hok : ∀ r ∈ rs, okR r = true ∧ r.e.fits ∧ r.who.length < 1000000)
    (hE : ∀ w', Sat w0 (MapH kI bV ov op :: L) w' → F8_13 s0 s1 b ov lastV iV w' K R3) :
    ∀ (d i : Nat) (sg : List (Sg × Bool)) (w : World), rs.length - i < d → i ≤ rs.length → (∀ j, (h : j < rs.length) → i ≤ j → aGet (sgOf rs[j].e) sg = none) →
      Sat w0 (MapH ekS bV sgv sg :: LsH cRow 11 33 rv rs :: MapH kI bV ov op :: L) w → F8_12L d s0 s1 b ov lastV iV sgv rv (.int .i64 (rs.length : Nat)) (.int .i64 i) w K R3 := by
  intro d
  induction d with
  | zero => intro i sg w hd; omega
  | succ d ih =>
    intro i sg w hd hi hno h
    rw [F8_12L]
    unfold F8_12b
    by_cases g : i < rs.length
    · have g' : decide ((i : Int) < (rs.length : Int)) = true := by simpa using g
      (repeat (first
 | (simp (disch := omega) only [evA, evB, bAdd_i64, bSub_i64, ptr, Nat.zero_add, Bool.not_true, Bool.not_false, Option.isNone_some, Option.isNone_none, Option.isSome_some, Option.isSome_none, decide_true, decide_false, eq_self, true_and, and_assoc, g'])
 | ((with_reducible apply go_ld1 h))
 | ((with_reducible apply go_ldA h); (rfl))
 | ((with_reducible apply go_ldN h))
 | ((with_reducible apply go_st h); intro _ h)
 | ((with_reducible apply go_stA h); (rfl); (rfl); (first | rfl | simp [OneV.o]); intro _ h)
 | ((with_reducible apply go_stN h); (rfl); (first | rfl | simp [OneV.o]); intro _ h)
 | ((with_reducible apply go_box h); rfl; intro _ _ h)
 | ((with_reducible apply go_rd h); (rfl))
 | ((with_reducible apply go_rdN h); (rfl))
 | ((with_reducible apply go_rlen h); (rfl))
 | ((with_reducible apply go_lenL h))
 | ((with_reducible apply go_ix h); (omega))
 | ((with_reducible apply go_elN h); (case hi => omega))
 | ((with_reducible apply go_fa h); (omega); (omega))
 | ((with_reducible apply go_f1 h); (case hi => omega); (case hx => exact inferInstance))
 | ((with_reducible apply go_rf1 h); (case hi => omega); (case hx => exact inferInstance); (case hv => rfl))
 | ((with_reducible apply go_rel h); (case hi => omega); (case hv => rfl))
))
      refine go_alloc h zR rfl fun _ _ h => ?_
      (repeat (first
 | (simp (disch := omega) only [evA, evB, bAdd_i64, bSub_i64, ptr, Nat.zero_add, Bool.not_true, Bool.not_false, Option.isNone_some, Option.isNone_none, Option.isSome_some, Option.isSome_none, decide_true, decide_false, eq_self, true_and, and_assoc])
 | ((with_reducible apply go_ld1 h))
 | ((with_reducible apply go_ldA h); (rfl))
 | ((with_reducible apply go_ldN h))
 | ((with_reducible apply go_st h); intro _ h)
 | ((with_reducible apply go_stA h); (rfl); (rfl); (first | rfl | simp [OneV.o]); intro _ h)
 | ((with_reducible apply go_stN h); (rfl); (first | rfl | simp [OneV.o]); intro _ h)
 | ((with_reducible apply go_box h); rfl; intro _ _ h)
 | ((with_reducible apply go_rd h); (rfl))
 | ((with_reducible apply go_rdN h); (rfl))
 | ((with_reducible apply go_rlen h); (rfl))
 | ((with_reducible apply go_lenL h))
 | ((with_reducible apply go_ix h); (omega))
 | ((with_reducible apply go_elN h); (case hi => omega))
 | ((with_reducible apply go_fa h); (omega); (omega))
 | ((with_reducible apply go_f1 h); (case hi => omega); (case hx => exact inferInstance))
 | ((with_reducible apply go_rf1 h); (case hi => omega); (case hx => exact inferInstance); (case hv => rfl))
 | ((with_reducible apply go_rel h); (case hi => omega); (case hv => rfl))
))
      refine go_some (fb3 (sgOf rs[i].e)) ?_
      (repeat (first
 | (simp (disch := omega) only [evA, evB, bAdd_i64, bSub_i64, ptr, Nat.zero_add, Bool.not_true, Bool.not_false, Option.isNone_some, Option.isNone_none, Option.isSome_some, Option.isSome_none, decide_true, decide_false, eq_self, true_and, and_assoc])
 | ((with_reducible apply go_ld1 h))
 | ((with_reducible apply go_ldA h); (rfl))
 | ((with_reducible apply go_ldN h))
 | ((with_reducible apply go_st h); intro _ h)
 | ((with_reducible apply go_stA h); (rfl); (rfl); (first | rfl | simp [OneV.o]); intro _ h)
 | ((with_reducible apply go_stN h); (rfl); (first | rfl | simp [OneV.o]); intro _ h)
 | ((with_reducible apply go_box h); rfl; intro _ _ h)
 | ((with_reducible apply go_alloc h); (first | exact z79); rfl; intro _ _ h)
 | ((with_reducible apply go_rd h); (rfl))
 | ((with_reducible apply go_rdN h); (rfl))
 | ((with_reducible apply go_rlen h); (rfl))
 | ((with_reducible apply go_lenL h))
 | ((with_reducible apply go_ix h); (omega))
 | ((with_reducible apply go_elN h); (case hi => omega))
 | ((with_reducible apply go_fa h); (omega); (omega))
 | ((with_reducible apply go_f1 h); (case hi => omega); (case hx => exact inferInstance))
 | ((with_reducible apply go_rf1 h); (case hi => omega); (case hx => exact inferInstance); (case hv => rfl))
 | ((with_reducible apply go_rel h); (case hi => omega); (case hv => rfl))
))
      refine go_look1 h (by repeat (first | exact .here | apply Fnt.there)) K3 um77 z4 (sgOf rs[i].e) ?_
      rw [hno i g (Nat.le_refl _)]
      simp only [Option.elim_none]
      (repeat (first
 | (simp (disch := omega) only [evA, evB, bAdd_i64, bSub_i64, ptr, Nat.zero_add, Bool.not_true, Bool.not_false, Option.isNone_some, Option.isNone_none, Option.isSome_some, Option.isSome_none, decide_true, decide_false, eq_self, true_and, and_assoc])
 | ((with_reducible apply go_ld1 h))
 | ((with_reducible apply go_ldA h); (rfl))
 | ((with_reducible apply go_ldN h))
 | ((with_reducible apply go_st h); intro _ h)
 | ((with_reducible apply go_stA h); (rfl); (rfl); (first | rfl | simp [OneV.o]); intro _ h)
 | ((with_reducible apply go_stN h); (rfl); (first | rfl | simp [OneV.o]); intro _ h)
 | ((with_reducible apply go_box h); rfl; intro _ _ h)
 | ((with_reducible apply go_rd h); (rfl))
 | ((with_reducible apply go_rdN h); (rfl))
 | ((with_reducible apply go_rlen h); (rfl))
 | ((with_reducible apply go_lenL h))
 | ((with_reducible apply go_ix h); (omega))
 | ((with_reducible apply go_elN h); (case hi => omega))
 | ((with_reducible apply go_fa h); (omega); (omega))
 | ((with_reducible apply go_f1 h); (case hi => omega); (case hx => exact inferInstance))
 | ((with_reducible apply go_rf1 h); (case hi => omega); (case hx => exact inferInstance); (case hv => rfl))
 | ((with_reducible apply go_rel h); (case hi => omega); (case hv => rfl))
))
      refine go_look1 h (by repeat (first | exact .here | apply Fnt.there)) KIr um70 z4 rs[i].id ?_
      rw [hop _ (List.getElem_mem g)]
      simp only [Option.elim_some]
      (repeat (first
 | (simp (disch := omega) only [evA, evB, bAdd_i64, bSub_i64, ptr, Nat.zero_add, Bool.not_true, Bool.not_false, Option.isNone_some, Option.isNone_none, Option.isSome_some, Option.isSome_none, decide_true, decide_false, eq_self, true_and, and_assoc])
 | ((with_reducible apply go_ld1 h))
 | ((with_reducible apply go_ldA h); (rfl))
 | ((with_reducible apply go_ldN h))
 | ((with_reducible apply go_st h); intro _ h)
 | ((with_reducible apply go_stA h); (rfl); (rfl); (first | rfl | simp [OneV.o]); intro _ h)
 | ((with_reducible apply go_stN h); (rfl); (first | rfl | simp [OneV.o]); intro _ h)
 | ((with_reducible apply go_box h); rfl; intro _ _ h)
 | ((with_reducible apply go_rd h); (rfl))
 | ((with_reducible apply go_rdN h); (rfl))
 | ((with_reducible apply go_rlen h); (rfl))
 | ((with_reducible apply go_lenL h))
 | ((with_reducible apply go_ix h); (omega))
 | ((with_reducible apply go_elN h); (case hi => omega))
 | ((with_reducible apply go_fa h); (omega); (omega))
 | ((with_reducible apply go_f1 h); (case hi => omega); (case hx => exact inferInstance))
 | ((with_reducible apply go_rf1 h); (case hi => omega); (case hx => exact inferInstance); (case hv => rfl))
 | ((with_reducible apply go_rel h); (case hi => omega); (case hv => rfl))
))
      have hok' := hok _ (List.getElem_mem g)
      refine bcheck_spec (r := rs[i]) hok'.2.1 hok'.2.2 h fun w h => ?_
      unfold chkR
      rw [if_pos hok'.1]
      (repeat (first
 | (simp (disch := omega) only [evA, evB, bAdd_i64, bSub_i64, ptr, Nat.zero_add, Bool.not_true, Bool.not_false, Option.isNone_some, Option.isNone_none, Option.isSome_some, Option.isSome_none, decide_true, decide_false, eq_self, true_and, and_assoc])
 | ((with_reducible apply go_ld1 h))
 | ((with_reducible apply go_ldA h); (rfl))
 | ((with_reducible apply go_ldN h))
 | ((with_reducible apply go_st h); intro _ h)
 | ((with_reducible apply go_stA h); (rfl); (rfl); (first | rfl | simp [OneV.o]); intro _ h)
 | ((with_reducible apply go_stN h); (rfl); (first | rfl | simp [OneV.o]); intro _ h)
 | ((with_reducible apply go_box h); rfl; intro _ _ h)
 | ((with_reducible apply go_rd h); (rfl))
 | ((with_reducible apply go_rdN h); (rfl))
 | ((with_reducible apply go_rlen h); (rfl))
 | ((with_reducible apply go_lenL h))
 | ((with_reducible apply go_ix h); (omega))
 | ((with_reducible apply go_elN h); (case hi => omega))
 | ((with_reducible apply go_fa h); (omega); (omega))
 | ((with_reducible apply go_f1 h); (case hi => omega); (case hx => exact inferInstance))
 | ((with_reducible apply go_rf1 h); (case hi => omega); (case hx => exact inferInstance); (case hv => rfl))
 | ((with_reducible apply go_rel h); (case hi => omega); (case hv => rfl))
))
      refine eMapSet_sat (h.front (A := MapH ekS bV sgv sg) (by repeat (first | exact .here | apply Fnt.there))) K3 um77 (sgOf rs[i].e) true fun w h => ?_
      refine ih (i + 1) _ w (by omega) (by omega) (fun j hj hij => ?_) (h.get (by (repeat (first | exact .done | (refine .pick (by repeat (first | exact .here | apply Fnt.there)) ?_) | refine .skip ?_))))
      rw [aGet_set, if_neg (fun e => (List.pairwise_iff_getElem.1 hsg) i j g hj (by omega) e.symm)]
      exact hno j hj (by omega)
    · have g' : decide ((i : Int) < (rs.length : Int)) = false := by simpa using g
      (repeat (first
 | (simp (disch := omega) only [evA, evB, bAdd_i64, bSub_i64, ptr, Nat.zero_add, Bool.not_true, Bool.not_false, Option.isNone_some, Option.isNone_none, Option.isSome_some, Option.isSome_none, decide_true, decide_false, eq_self, true_and, and_assoc, g'])
 | ((with_reducible apply go_ld1 h))
 | ((with_reducible apply go_ldA h); (rfl))
 | ((with_reducible apply go_ldN h))
 | ((with_reducible apply go_st h); intro _ h)
 | ((with_reducible apply go_stA h); (rfl); (rfl); (first | rfl | simp [OneV.o]); intro _ h)
 | ((with_reducible apply go_stN h); (rfl); (first | rfl | simp [OneV.o]); intro _ h)
 | ((with_reducible apply go_box h); rfl; intro _ _ h)
 | ((with_reducible apply go_rd h); (rfl))
 | ((with_reducible apply go_rdN h); (rfl))
 | ((with_reducible apply go_rlen h); (rfl))
 | ((with_reducible apply go_lenL h))
 | ((with_reducible apply go_ix h); (omega))
 | ((with_reducible apply go_elN h); (case hi => omega))
 | ((with_reducible apply go_fa h); (omega); (omega))
 | ((with_reducible apply go_f1 h); (case hi => omega); (case hx => exact inferInstance))
 | ((with_reducible apply go_rf1 h); (case hi => omega); (case hx => exact inferInstance); (case hv => rfl))
 | ((with_reducible apply go_rel h); (case hi => omega); (case hv => rfl))
))
      exact hE w (h.get (by (repeat (first | exact .done | (refine .pick (by repeat (first | exact .here | apply Fnt.there)) ?_) | refine .skip ?_))))
end
end Go.Proofs.Gong

/- Be9 -/
namespace Go.Proofs.Gong
open Go Go.Sx Go.Proofs
set_option maxRecDepth 100000
attribute [local irreducible] fBuild fLook fZero eqv bEqv Cl MapH LsH SlH ld1 ldN st callP eBox eAlloc lenM lenL eMapSet eDelete eAppend eBuildSl eRange eNext
def OpenI (op : List (Int × Bool)) (rs : List Row) : Prop := ∀ k, aGet k op = if (rs.any fun r => decide (r.id = k)) = true then some true else none
section
variable {w0 w : World} {L : List HP} {K : Value → World → Prop} {n next : Int} {rs : List Row}
theorem gone_loop {op0 : List (Int × Bool)} {s0 s1 b ov lastV c17 gv : Value} {i0 : Nat} {gs : List Row} {R3 : Value → Value → Value → Value → Value → Value → World → Prop} (hi0 : i0 ≤ 1000) (hl : gs.length ≤ 1000) (hold : ∀ r ∈ gs, r.last ≤ (i0 : Int) * 10 - 50) (hnd : (gs.map (·.id)).Nodup)
    (hE : ∀ op w', (∀ k, aGet k op = if (gs.map (·.id)).contains k = true then none else aGet k op0) → (op.map Prod.fst).Nodup → Sat w0 (MapH kI bV ov op :: L) w' → F8_16 s0 s1 b ov lastV (.int .i64 i0) c17 w' K R3) (hin : ∀ r ∈ gs, aGet r.id op0 = some true) :
    ∀ (d i : Nat) (op : List (Int × Bool)) (w : World), gs.length - i < d → i ≤ gs.length → (∀ k, aGet k op = if ((gs.take i).map (·.id)).contains k = true then none else aGet k op0) → Sat w0 (LsH cRow 11 33 gv gs :: MapH kI bV ov op :: L) w →
      F8_15L d s0 s1 b ov lastV (.int .i64 i0) c17 gv (.int .i64 (gs.length : Nat)) (.int .i64 i) w K R3 := by
  intro d
  induction d with
  | zero => intro i op w hd; omega
  | succ d ih =>
    intro i op w hd hi hop h
    rw [F8_15L]
    unfold F8_15b
    by_cases g : i < gs.length
    · have g' : decide ((i : Int) < (gs.length : Int)) = true := by simpa using g
      have hlast := hold _ (List.getElem_mem g)
      have hl2 : decide (gs[i].last > (i0 : Int) * 10 - 50) = false := by simp; omega
      have hnot : ((gs.take i).map (·.id)).contains gs[i].id = false := by
        simp only [List.contains_eq_mem, decide_eq_false_iff_not]
        intro hm
        have hn2 : ((gs.take i ++ gs[i] :: gs.drop (i + 1)).map (·.id)).Nodup := by
          rw [← List.drop_eq_getElem_cons g, List.take_append_drop]; exact hnd
        rw [List.map_append, List.map_cons, List.nodup_append] at hn2
        exact hn2.2.2 _ hm _ (by simp) rfl
      have hg : aGet gs[i].id op = some true := by rw [hop, if_neg (by rw [hnot]; simp), hin _ (List.getElem_mem g)]
      (repeat (first
 | (simp (disch := omega) only [evA, evB, bAdd_i64, bSub_i64, ptr, Nat.zero_add, Bool.not_true, Bool.not_false, Option.isNone_some, Option.isNone_none, Option.isSome_some, Option.isSome_none, decide_true, decide_false, eq_self, true_and, and_assoc, g'])
 | ((with_reducible apply go_ld1 h))
 | ((with_reducible apply go_ldA h); (rfl))
 | ((with_reducible apply go_ldN h))
 | ((with_reducible apply go_st h); intro _ h)
 | ((with_reducible apply go_stA h); (rfl); (rfl); (first | rfl | simp [OneV.o]); intro _ h)
 | ((with_reducible apply go_stN h); (rfl); (first | rfl | simp [OneV.o]); intro _ h)
 | ((with_reducible apply go_box h); rfl; intro _ _ h)
 | ((with_reducible apply go_rd h); (rfl))
 | ((with_reducible apply go_rdN h); (rfl))
 | ((with_reducible apply go_rlen h); (rfl))
 | ((with_reducible apply go_lenL h))
 | ((with_reducible apply go_ix h); (omega))
 | ((with_reducible apply go_elN h); (case hi => omega))
 | ((with_reducible apply go_fa h); (omega); (omega))
 | ((with_reducible apply go_f1 h); (case hi => omega); (case hx => exact inferInstance))
 | ((with_reducible apply go_rf1 h); (case hi => omega); (case hx => exact inferInstance); (case hv => rfl))
 | ((with_reducible apply go_rel h); (case hi => omega); (case hv => rfl))
))
      refine go_alloc h zR rfl fun _ _ h => ?_
      (repeat (first
 | (simp (disch := omega) only [evA, evB, bAdd_i64, bSub_i64, ptr, Nat.zero_add, Bool.not_true, Bool.not_false, Option.isNone_some, Option.isNone_none, Option.isSome_some, Option.isSome_none, decide_true, decide_false, eq_self, true_and, and_assoc])
 | ((with_reducible apply go_ld1 h))
 | ((with_reducible apply go_ldA h); (rfl))
 | ((with_reducible apply go_ldN h))
 | ((with_reducible apply go_st h); intro _ h)
 | ((with_reducible apply go_stA h); (rfl); (rfl); (first | rfl | simp [OneV.o]); intro _ h)
 | ((with_reducible apply go_stN h); (rfl); (first | rfl | simp [OneV.o]); intro _ h)
 | ((with_reducible apply go_box h); rfl; intro _ _ h)
 | ((with_reducible apply go_rd h); (rfl))
 | ((with_reducible apply go_rdN h); (rfl))
 | ((with_reducible apply go_rlen h); (rfl))
 | ((with_reducible apply go_lenL h))
 | ((with_reducible apply go_ix h); (omega))
 | ((with_reducible apply go_elN h); (case hi => omega))
 | ((with_reducible apply go_fa h); (omega); (omega))
 | ((with_reducible apply go_f1 h); (case hi => omega); (case hx => exact inferInstance))
 | ((with_reducible apply go_rf1 h); (case hi => omega); (case hx => exact inferInstance); (case hv => rfl))
 | ((with_reducible apply go_rel h); (case hi => omega); (case hv => rfl))
))
      refine go_look1 h (by repeat (first | exact .here | apply Fnt.there)) KIr um70 z4 gs[i].id ?_
      rw [hg]
      simp only [Option.elim_some]
      have hm : bMul (.int .i64 (i0 : Int)) (.int .i64 10) = some (.int .i64 ((i0 : Int) * 10)) := by
        have hw : IntKind.i64.wrap ((i0 : Int) * 10) = (i0 : Int) * 10 := wrap_id (by omega)
        simp [bMul, hw]
      (repeat (first
 | (simp (disch := omega) only [evA, evB, bAdd_i64, bSub_i64, ptr, Nat.zero_add, Bool.not_true, Bool.not_false, Option.isNone_some, Option.isNone_none, Option.isSome_some, Option.isSome_none, decide_true, decide_false, eq_self, true_and, and_assoc, hm, hl2])
 | ((with_reducible apply go_ld1 h))
 | ((with_reducible apply go_ldA h); (rfl))
 | ((with_reducible apply go_ldN h))
 | ((with_reducible apply go_st h); intro _ h)
 | ((with_reducible apply go_stA h); (rfl); (rfl); (first | rfl | simp [OneV.o]); intro _ h)
 | ((with_reducible apply go_stN h); (rfl); (first | rfl | simp [OneV.o]); intro _ h)
 | ((with_reducible apply go_box h); rfl; intro _ _ h)
 | ((with_reducible apply go_rd h); (rfl))
 | ((with_reducible apply go_rdN h); (rfl))
 | ((with_reducible apply go_rlen h); (rfl))
 | ((with_reducible apply go_lenL h))
 | ((with_reducible apply go_ix h); (omega))
 | ((with_reducible apply go_elN h); (case hi => omega))
 | ((with_reducible apply go_fa h); (omega); (omega))
 | ((with_reducible apply go_f1 h); (case hi => omega); (case hx => exact inferInstance))
 | ((with_reducible apply go_rf1 h); (case hi => omega); (case hx => exact inferInstance); (case hv => rfl))
 | ((with_reducible apply go_rel h); (case hi => omega); (case hv => rfl))
))
      refine eDelete_sat (h.front (A := MapH kI bV ov op) (by repeat (first | exact .here | apply Fnt.there))) KIr um70 gs[i].id fun w h2 => ?_
      have hkeys := map_nd (h.front (A := MapH kI bV ov op) (by repeat (first | exact .here | apply Fnt.there)))
      (repeat (first
 | (simp (disch := omega) only [evA, evB, bAdd_i64, bSub_i64, ptr, Nat.zero_add, Bool.not_true, Bool.not_false, Option.isNone_some, Option.isNone_none, Option.isSome_some, Option.isSome_none, decide_true, decide_false, eq_self, true_and, and_assoc])
 | ((with_reducible apply go_ld1 h))
 | ((with_reducible apply go_ldA h); (rfl))
 | ((with_reducible apply go_ldN h))
 | ((with_reducible apply go_st h); intro _ h)
 | ((with_reducible apply go_stA h); (rfl); (rfl); (first | rfl | simp [OneV.o]); intro _ h)
 | ((with_reducible apply go_stN h); (rfl); (first | rfl | simp [OneV.o]); intro _ h)
 | ((with_reducible apply go_box h); rfl; intro _ _ h)
 | ((with_reducible apply go_rd h); (rfl))
 | ((with_reducible apply go_rdN h); (rfl))
 | ((with_reducible apply go_rlen h); (rfl))
 | ((with_reducible apply go_lenL h))
 | ((with_reducible apply go_ix h); (omega))
 | ((with_reducible apply go_elN h); (case hi => omega))
 | ((with_reducible apply go_fa h); (omega); (omega))
 | ((with_reducible apply go_f1 h); (case hi => omega); (case hx => exact inferInstance))
 | ((with_reducible apply go_rf1 h); (case hi => omega); (case hx => exact inferInstance); (case hv => rfl))
 | ((with_reducible apply go_rel h); (case hi => omega); (case hv => rfl))
))
      refine ih (i + 1) _ w (by omega) (by omega) (fun k => ?_) (h2.get (by (repeat (first | exact .done | (refine .pick (by repeat (first | exact .here | apply Fnt.there)) ?_) | refine .skip ?_))))
      rw [aGet_del _ _ hkeys, List.take_succ_eq_append_getElem g, List.map_append, hop]
      by_cases e : k = gs[i].id
      · subst e; simp
      · rw [if_neg e]; simp [e]
    · have g' : decide ((i : Int) < (gs.length : Int)) = false := by simpa using g
      have e : i = gs.length := by omega
      subst e
      (repeat (first
 | (simp (disch := omega) only [evA, evB, bAdd_i64, bSub_i64, ptr, Nat.zero_add, Bool.not_true, Bool.not_false, Option.isNone_some, Option.isNone_none, Option.isSome_some, Option.isSome_none, decide_true, decide_false, eq_self, true_and, and_assoc, g'])
 | ((with_reducible apply go_ld1 h))
 | ((with_reducible apply go_ldA h); (rfl))
 | ((with_reducible apply go_ldN h))
 | ((with_reducible apply go_st h); intro _ h)
 | ((with_reducible apply go_stA h); (rfl); (rfl); (first | rfl | simp [OneV.o]); intro _ h)
 | ((with_reducible apply go_stN h); (rfl); (first | rfl | simp [OneV.o]); intro _ h)
 | ((with_reducible apply go_box h); rfl; intro _ _ h)
 | ((with_reducible apply go_rd h); (rfl))
 | ((with_reducible apply go_rdN h); (rfl))
 | ((with_reducible apply go_rlen h); (rfl))
 | ((with_reducible apply go_lenL h))
 | ((with_reducible apply go_ix h); (omega))
 | ((with_reducible apply go_elN h); (case hi => omega))
 | ((with_reducible apply go_fa h); (omega); (omega))
 | ((with_reducible apply go_f1 h); (case hi => omega); (case hx => exact inferInstance))
 | ((with_reducible apply go_rf1 h); (case hi => omega); (case hx => exact inferInstance); (case hv => rfl))
 | ((with_reducible apply go_rel h); (case hi => omega); (case hv => rfl))
))
      rw [List.take_length] at hop
      have h2 := h.drop
      exact hE op w hop (map_nd h2) h2
theorem openI_keys {op : List (Int × Bool)} (ho : OpenI op rs) (hn : (op.map Prod.fst).Nodup) (ha : rs.Pairwise fun a b => a.id < b.id) : (op.map Prod.fst).Perm (rs.map (·.id)) := by
  refine (List.perm_ext_iff_of_nodup hn (List.pairwise_map.2 (ha.imp fun h e => by omega))).2 fun k => ?_
  have hk := ho k
  constructor
  · intro hm
    obtain ⟨x, hx, rfl⟩ := List.mem_map.1 hm
    rw [mem_aGet hn hx] at hk
    split at hk
    · rename_i h
      rw [List.any_eq_true] at h
      obtain ⟨r, hr, e⟩ := h
      exact List.mem_map.2 ⟨r, hr, by simpa using e⟩
    · cases hk
  · intro hm
    obtain ⟨r, hr, e⟩ := List.mem_map.1 hm
    have : (rs.any fun r => decide (r.id = k)) = true := List.any_eq_true.2 ⟨r, hr, by simpa using e⟩
    rw [if_pos this] at hk
    exact List.mem_map.2 ⟨_, aGet_mem hk, rfl⟩
theorem openI_len {op : List (Int × Bool)} (ho : OpenI op rs) (hn : (op.map Prod.fst).Nodup) (ha : rs.Pairwise fun a b => a.id < b.id) : op.length = rs.length := by
  have := (openI_keys ho hn ha).length_eq
  simpa using this
theorem openI_get {op : List (Int × Bool)} (ho : OpenI op rs) {r : Row} (hr : r ∈ rs) : aGet r.id op = some true := by
  rw [ho, if_pos (List.any_eq_true.2 ⟨r, hr, by simp⟩)]
theorem openI_rem {op : List (Int × Bool)} {id : Int} (ho : OpenI op rs) (hn : (op.map Prod.fst).Nodup) : OpenI (aDel id op) (remL id rs) := by
  intro k
  rw [aGet_del _ _ hn, ho]
  have e : ((remL id rs).any fun r => decide (r.id = k)) = (decide (k ≠ id) && rs.any fun r => decide (r.id = k)) := by
    unfold remL
    rw [List.any_filter, Bool.eq_iff_iff]
    simp only [List.any_eq_true, Bool.and_eq_true, decide_eq_true_eq]
    constructor
    · rintro ⟨r, hr, h1, h2⟩; exact ⟨by rw [← h2]; exact h1, r, hr, h2⟩
    · rintro ⟨h1, r, hr, h2⟩; exact ⟨r, hr, by rw [h2]; exact h1, h2⟩
  rw [e]
  by_cases g : k = id
  · simp [g]
  · simp [g]
theorem len_piece {s0 s1 b ov lastV iV : Value} {op : List (Int × Bool)} {R3 : Value → Value → Value → Value → Value → Value → World → Prop} (ho : OpenI op rs) (h : Sat w0 (MapH kI bV ov op :: BoardA b 8 next rs :: L) w)
    (hE : ∀ w', Sat w0 (MapH kI bV ov op :: BoardA b 8 next rs :: L) w' → F8_6 s0 s1 b ov lastV iV w' K R3) : F8_13 s0 s1 b ov lastV iV w K R3 := by
  unfold F8_13 F8_13b
  obtain ⟨R, I, H⟩ := boardA_inv h.f1
  have hlen := openI_len ho (map_nd h) H.asc
  refine balen_spec (rs := rs) (n := 8) (next := next) h.f1 ?_
  refine go_lenM h (by repeat (first | exact .here | apply Fnt.there)) ?_
  rw [hlen]
  (repeat (first
 | (simp (disch := omega) only [evA, evB, bAdd_i64, bSub_i64, ptr, Nat.zero_add, Bool.not_true, Bool.not_false, Option.isNone_some, Option.isNone_none, Option.isSome_some, Option.isSome_none, decide_true, decide_false, eq_self, true_and, and_assoc])
 | ((with_reducible apply go_ld1 h))
 | ((with_reducible apply go_ldA h); (rfl))
 | ((with_reducible apply go_ldN h))
 | ((with_reducible apply go_st h); intro _ h)
 | ((with_reducible apply go_stA h); (rfl); (rfl); (first | rfl | simp [OneV.o]); intro _ h)
 | ((with_reducible apply go_stN h); (rfl); (first | rfl | simp [OneV.o]); intro _ h)
 | ((with_reducible apply go_box h); rfl; intro _ _ h)
 | ((with_reducible apply go_rd h); (rfl))
 | ((with_reducible apply go_rdN h); (rfl))
 | ((with_reducible apply go_rlen h); (rfl))
 | ((with_reducible apply go_lenL h))
 | ((with_reducible apply go_ix h); (omega))
 | ((with_reducible apply go_elN h); (case hi => omega))
 | ((with_reducible apply go_fa h); (omega); (omega))
 | ((with_reducible apply go_f1 h); (case hi => omega); (case hx => exact inferInstance))
 | ((with_reducible apply go_rf1 h); (case hi => omega); (case hx => exact inferInstance); (case hv => rfl))
 | ((with_reducible apply go_rel h); (case hi => omega); (case hv => rfl))
))
  exact hE w h
theorem signs_piece {s0 s1 b ov lastV iV : Value} {op : List (Int × Bool)} {R3 : Value → Value → Value → Value → Value → Value → World → Prop} (ho : OpenI op rs) (hf : FitRs rs) (h : Sat w0 (MapH kI bV ov op :: BoardA b 8 next rs :: L) w)
    (hE : ∀ w', Sat w0 (MapH kI bV ov op :: BoardA b 8 next rs :: L) w' → F8_6 s0 s1 b ov lastV iV w' K R3) : F8_11 s0 s1 b ov lastV iV w K R3 := by
  unfold F8_11 F8_11b
  obtain ⟨R, I, H⟩ := boardA_inv h.f1
  have hbd := H.bd
  refine eMakeMap_sat ekS bV h fun sgv w h => ?_
  refine baall_spec (v := b) (rs := rs) (n := 8) (next := next) (h.front (by repeat (first | exact .here | apply Fnt.there))) fun rv w h => ?_
  (repeat (first
 | (simp (disch := omega) only [evA, evB, bAdd_i64, bSub_i64, ptr, Nat.zero_add, Bool.not_true, Bool.not_false, Option.isNone_some, Option.isNone_none, Option.isSome_some, Option.isSome_none, decide_true, decide_false, eq_self, true_and, and_assoc])
 | ((with_reducible apply go_ld1 h))
 | ((with_reducible apply go_ldA h); (rfl))
 | ((with_reducible apply go_ldN h))
 | ((with_reducible apply go_st h); intro _ h)
 | ((with_reducible apply go_stA h); (rfl); (rfl); (first | rfl | simp [OneV.o]); intro _ h)
 | ((with_reducible apply go_stN h); (rfl); (first | rfl | simp [OneV.o]); intro _ h)
 | ((with_reducible apply go_box h); rfl; intro _ _ h)
 | ((with_reducible apply go_rd h); (rfl))
 | ((with_reducible apply go_rdN h); (rfl))
 | ((with_reducible apply go_rlen h); (rfl))
 | ((with_reducible apply go_lenL h))
 | ((with_reducible apply go_ix h); (omega))
 | ((with_reducible apply go_elN h); (case hi => omega))
 | ((with_reducible apply go_fa h); (omega); (omega))
 | ((with_reducible apply go_f1 h); (case hi => omega); (case hx => exact inferInstance))
 | ((with_reducible apply go_rf1 h); (case hi => omega); (case hx => exact inferInstance); (case hv => rfl))
 | ((with_reducible apply go_rel h); (case hi => omega); (case hv => rfl))
))
  unfold F8_12
  refine sg_loop (rs := rs) (op := op) (L := BoardA b 8 next rs :: L) (by omega) (fun r hr => openI_get ho hr) H.sg (fun r hr => ⟨(H.ok r hr).1, hf r hr⟩) (fun w h => len_piece ho h hE) fuel 0 [] w (by unfold fuel; omega) (by omega) (fun _ _ _ => rfl) (h.get (by (repeat (first | exact .done | (refine .pick (by repeat (first | exact .here | apply Fnt.there)) ?_) | refine .skip ?_))))
theorem openI_gone {op op' : List (Int × Bool)} {gs : List Row} {t : Int} (ho : OpenI op rs) (ha : rs.Pairwise fun a b => a.id < b.id) (hp : gs.Perm (rs.filter (oldP t))) (he : ∀ k, aGet k op' = if (gs.map (·.id)).contains k = true then none else aGet k op) : OpenI op' (rs.filter fun d => !oldP t d) := by
  intro k
  rw [he, ho]
  have e1 : (gs.map (·.id)).contains k = rs.any fun r => decide (r.id = k) && oldP t r := by
    rw [Bool.eq_iff_iff]
    simp only [List.contains_eq_mem, decide_eq_true_eq, List.mem_map, List.any_eq_true, Bool.and_eq_true]
    constructor
    · rintro ⟨r, hr, e⟩
      have := List.mem_filter.1 (hp.mem_iff.1 hr)
      exact ⟨r, this.1, e, this.2⟩
    · rintro ⟨r, hr, e, h⟩
      exact ⟨r, hp.mem_iff.2 (List.mem_filter.2 ⟨hr, h⟩), e⟩
  have e2 : ((rs.filter fun d => !oldP t d).any fun r => decide (r.id = k)) = ((rs.any fun r => decide (r.id = k)) && !(rs.any fun r => decide (r.id = k) && oldP t r)) := by
    rw [List.any_filter, Bool.eq_iff_iff]
    simp only [List.any_eq_true, Bool.and_eq_true, decide_eq_true_eq, Bool.not_eq_true', List.any_eq_false]
    constructor
    · rintro ⟨r, hr, h1, h2⟩
      refine ⟨⟨r, hr, h2⟩, fun x hx => ?_⟩
      rintro ⟨h3, h4⟩
      rw [rasc_eq ha hx hr (h3.trans h2.symm)] at h4
      rw [h4] at h1; cases h1
    · rintro ⟨⟨r, hr, h2⟩, h⟩
      refine ⟨r, hr, ?_, h2⟩
      have := h r hr
      simpa [h2] using this
  rw [e1, e2]
  cases (rs.any fun r => decide (r.id = k) && oldP t r) <;> cases (rs.any fun r => decide (r.id = k)) <;> simp
theorem expire_piece {s0 s1 b ov lastV : Value} {i0 : Nat} {op : List (Int × Bool)} {R3 : Value → Value → Value → Value → Value → Value → World → Prop} (hi0 : i0 ≤ 100) (ho : OpenI op rs) (hf : FitRs rs) (h : Sat w0 (MapH kI bV ov op :: BoardA b 8 next rs :: L) w)
    (hE : ∀ rs' op' w', OpenI op' rs' → FitRs rs' → Sat w0 (MapH kI bV ov op' :: BoardA b 8 next rs' :: L) w' → F8_6 s0 s1 b ov lastV (.int .i64 i0) w' K R3) : F8_14 s0 s1 b ov lastV (.int .i64 i0) w K R3 := by
  unfold F8_14 F8_14b
  obtain ⟨R, I, H⟩ := boardA_inv h.f1
  have hbd := H.bd
  have hm : bMul (.int .i64 (i0 : Int)) (.int .i64 10) = some (.int .i64 ((i0 : Int) * 10)) := by
    have hw : IntKind.i64.wrap ((i0 : Int) * 10) = (i0 : Int) * 10 := wrap_id (by omega)
    simp [bMul, hw]
  have ht : timeP ((i0 : Int) * 10) = true := by unfold timeP; simp; omega
  refine go_some hm ?_
  refine baexpire_spec (v := b) (rs := rs) (n := 8) (next := next) h.f1 (fun hb _ _ => ?_) fun _ _ _ g s w hp _ h => ?_
  · rcases hb with hb | hb | hb
    · rw [ht] at hb; cases hb
    · omega
    · omega
  have hgl : g.length ≤ rs.length := by rw [hp.length_eq]; exact List.length_filter_le _ _
  have hgr : ∀ r ∈ g, r ∈ rs ∧ oldP ((i0 : Int) * 10 - 50) r = true := fun r hr => List.mem_filter.1 (hp.mem_iff.1 hr)
  (repeat (first
 | (simp (disch := omega) only [evA, evB, bAdd_i64, bSub_i64, ptr, Nat.zero_add, Bool.not_true, Bool.not_false, Option.isNone_some, Option.isNone_none, Option.isSome_some, Option.isSome_none, decide_true, decide_false, eq_self, true_and, and_assoc])
 | ((with_reducible apply go_ld1 h))
 | ((with_reducible apply go_ldA h); (rfl))
 | ((with_reducible apply go_ldN h))
 | ((with_reducible apply go_st h); intro _ h)
 | ((with_reducible apply go_stA h); (rfl); (rfl); (first | rfl | simp [OneV.o]); intro _ h)
 | ((with_reducible apply go_stN h); (rfl); (first | rfl | simp [OneV.o]); intro _ h)
 | ((with_reducible apply go_box h); rfl; intro _ _ h)
 | ((with_reducible apply go_rd h); (rfl))
 | ((with_reducible apply go_rdN h); (rfl))
 | ((with_reducible apply go_rlen h); (rfl))
 | ((with_reducible apply go_lenL h))
 | ((with_reducible apply go_ix h); (omega))
 | ((with_reducible apply go_elN h); (case hi => omega))
 | ((with_reducible apply go_fa h); (omega); (omega))
 | ((with_reducible apply go_f1 h); (case hi => omega); (case hx => exact inferInstance))
 | ((with_reducible apply go_rf1 h); (case hi => omega); (case hx => exact inferInstance); (case hv => rfl))
 | ((with_reducible apply go_rel h); (case hi => omega); (case hv => rfl))
))
  unfold F8_15
  refine gone_loop (op0 := op) (gs := g) (L := BoardA b 8 next (rs.filter fun d => !oldP ((i0 : Int) * 10 - 50) d) :: L) (by omega) (by omega) (fun r hr => by have := (hgr r hr).2; simpa [oldP] using this) (((hp.map (·.id)).nodup_iff).2 (List.pairwise_map.2 ((H.asc.filter _).imp fun h e => by omega))) (fun op' w he hn h => ?_) (fun r hr => openI_get ho (hgr r hr).1) fuel 0 op w (by unfold fuel; omega) (by omega) (by simp) (h.get (by (repeat (first | exact .done | (refine .pick (by repeat (first | exact .here | apply Fnt.there)) ?_) | refine .skip ?_))))
  unfold F8_16 F8_16b
  (repeat (first
 | (simp (disch := omega) only [evA, evB, bAdd_i64, bSub_i64, ptr, Nat.zero_add, Bool.not_true, Bool.not_false, Option.isNone_some, Option.isNone_none, Option.isSome_some, Option.isSome_none, decide_true, decide_false, eq_self, true_and, and_assoc])
 | ((with_reducible apply go_ld1 h))
 | ((with_reducible apply go_ldA h); (rfl))
 | ((with_reducible apply go_ldN h))
 | ((with_reducible apply go_st h); intro _ h)
 | ((with_reducible apply go_stA h); (rfl); (rfl); (first | rfl | simp [OneV.o]); intro _ h)
 | ((with_reducible apply go_stN h); (rfl); (first | rfl | simp [OneV.o]); intro _ h)
 | ((with_reducible apply go_box h); rfl; intro _ _ h)
 | ((with_reducible apply go_rd h); (rfl))
 | ((with_reducible apply go_rdN h); (rfl))
 | ((with_reducible apply go_rlen h); (rfl))
 | ((with_reducible apply go_lenL h))
 | ((with_reducible apply go_ix h); (omega))
 | ((with_reducible apply go_elN h); (case hi => omega))
 | ((with_reducible apply go_fa h); (omega); (omega))
 | ((with_reducible apply go_f1 h); (case hi => omega); (case hx => exact inferInstance))
 | ((with_reducible apply go_rf1 h); (case hi => omega); (case hx => exact inferInstance); (case hv => rfl))
 | ((with_reducible apply go_rel h); (case hi => omega); (case hv => rfl))
))
  have ho2 := openI_gone ho H.asc hp he
  have hf2 : FitRs (rs.filter fun d => !oldP ((i0 : Int) * 10 - 50) d) := fun r hr => hf r (List.mem_filter.1 hr).1
  exact signs_piece ho2 hf2 h fun w h => hE _ _ w ho2 hf2 h
end
end Go.Proofs.Gong

/- Bf0 -/
namespace Go.Proofs.Gong
open Go Go.Sx Go.Proofs
set_option maxRecDepth 100000
theorem raise_cases {n next now : Int} {rs : List Row} {e : Evt} (he : okE e = true) (ht : timeP now = true) :
    (∃ c, (c = 5 ∨ c = 200) ∧ raiseA n next rs e now = ((zeroR, 0, c), next, rs)) ∨ (∃ r, r.id = next ∧ raiseA n next rs e now = ((r, 1, 0), next + 1, rs ++ [r])) ∨
    (∃ r ∈ rs, raiseA n next rs e now = ((r, 3, 0), next, remL r.id rs)) ∨ (∃ r ∈ rs, ∃ r' x, r'.id = r.id ∧ x ≠ 1 ∧ x ≠ 3 ∧ raiseA n next rs e now = ((r', x, 0), next, replL r' rs)) := by
  unfold raiseA
  rw [if_neg (by rw [he]; simp), if_neg (by rw [ht]; simp)]
  cases hf : rs.find? fun d => decide (sgOf d.e = sgOf e) with
  | none =>
    simp only
    by_cases h1 : e.level = 0
    · rw [if_pos h1]; exact .inl ⟨5, .inl rfl, rfl⟩
    rw [if_neg h1]
    by_cases h2 : n ≤ (rs.length : Int)
    · rw [if_pos h2]; exact .inl ⟨200, .inr rfl, rfl⟩
    rw [if_neg h2]
    exact .inr (.inl ⟨_, rfl, rfl⟩)
  | some r =>
    have hr := List.mem_of_find?_eq_some hf
    simp only
    by_cases h1 : e.level = 0
    · rw [if_pos h1]; exact .inr (.inr (.inl ⟨r, hr, rfl⟩))
    rw [if_neg h1]
    refine .inr (.inr (.inr ⟨r, hr, _, _, again_id, ?_, ?_, rfl⟩)) <;> (unfold againP; split <;> (try split) <;> simp)
section
variable {n next : Int} {rs : List Row} {op : List (Int × Bool)}
theorem openI_new {r : Row} (ho : OpenI op rs) (hr : ∀ d ∈ rs, d.id ≠ r.id) : aGet r.id op = none ∧ OpenI (aSet r.id true op) (rs ++ [r]) := by
  constructor
  · rw [ho, if_neg]
    intro h
    rw [List.any_eq_true] at h
    obtain ⟨d, hd, e⟩ := h
    exact hr d hd (by simpa using e)
  · intro k
    rw [aGet_set, ho]
    by_cases g : k = r.id
    · subst g; simp
    · rw [if_neg g]
      have : decide (r.id = k) = false := by simp; exact fun e => g e.symm
      simp [List.any_append, this]
theorem openI_repl {r : Row} (ho : OpenI op rs) : OpenI op (replL r rs) := by
  intro k
  rw [ho]
  have : ((replL r rs).any fun d => decide (d.id = k)) = rs.any fun d => decide (d.id = k) := by
    unfold replL
    rw [List.any_map]
    congr 1
    funext d
    simp only [Function.comp_apply]
    by_cases g : d.id = r.id
    · rw [if_pos g, g]
    · rw [if_neg g]
  rw [this]
end
attribute [local irreducible] fBuild fLook fZero eqv bEqv Cl MapH LsH SlH ld1 ldN st callP eBox eAlloc lenM lenL eMapSet eDelete eAppend eBuildSl eRange eNext
section
variable {w0 w : World} {L : List HP} {K : Value → World → Prop} {n next last : Int} {rs : List Row} {s0 s1 b ov : Value} {op : List (Int × Bool)} {i0 : Nat} {l cl : List Int} {R3 : Value → Value → Value → Value → Value → Value → World → Prop}
theorem mul10 (h : i0 ≤ 100) : bMul (.int .i64 (i0 : Int)) (.int .i64 10) = some (.int .i64 ((i0 : Int) * 10)) := by
  have hw : IntKind.i64.wrap ((i0 : Int) * 10) = (i0 : Int) * 10 := wrap_id (by omega)
  simp [bMul, hw]
theorem which_piece (hi0 : i0 ≤ 100) (hcl : cl.length ≤ 140737488351232) (hrc : Rd w0 1 s1 cl.length (cl.flatMap cI)) (ho : OpenI op rs) (hf : FitRs rs) (h : Sat w0 (MapH kI bV ov op :: BoardA b 8 next rs :: L) w)
    (hE : ∀ rs' op' w', OpenI op' rs' → FitRs rs' → Sat w0 (MapH kI bV ov op' :: BoardA b 8 next rs' :: L) w' → F8_6 s0 s1 b ov (.int .i64 last) (.int .i64 i0) w' K R3) : F8_9 s0 s1 b ov (.int .i64 last) (.int .i64 i0) w K R3 := by
  have fin : F8_10 s0 s1 b ov (.int .i64 last) (.int .i64 i0) (.bool false) w K R3 := by
    unfold F8_10
    (repeat (first
 | (simp (disch := omega) only [evA, evB, bAdd_i64, bSub_i64, ptr, Nat.zero_add, Bool.not_true, Bool.not_false, Option.isNone_some, Option.isNone_none, Option.isSome_some, Option.isSome_none, decide_true, decide_false, eq_self, true_and, and_assoc])
 | ((with_reducible apply go_ld1 h))
 | ((with_reducible apply go_ldA h); (rfl))
 | ((with_reducible apply go_ldN h))
 | ((with_reducible apply go_st h); intro _ h)
 | ((with_reducible apply go_stA h); (rfl); (rfl); (first | rfl | simp [OneV.o]); intro _ h)
 | ((with_reducible apply go_stN h); (rfl); (first | rfl | simp [OneV.o]); intro _ h)
 | ((with_reducible apply go_box h); rfl; intro _ _ h)
 | ((with_reducible apply go_rd h); (rfl))
 | ((with_reducible apply go_rdN h); (rfl))
 | ((with_reducible apply go_rlen h); (rfl))
 | ((with_reducible apply go_lenL h))
 | ((with_reducible apply go_ix h); (omega))
 | ((with_reducible apply go_elN h); (case hi => omega))
 | ((with_reducible apply go_fa h); (omega); (omega))
 | ((with_reducible apply go_f1 h); (case hi => omega); (case hx => exact inferInstance))
 | ((with_reducible apply go_rf1 h); (case hi => omega); (case hx => exact inferInstance); (case hv => rfl))
 | ((with_reducible apply go_rel h); (case hi => omega); (case hv => rfl))
))
    unfold F8_17 F8_17b
    exact signs_piece ho hf h fun w h => hE _ _ w ho hf h
  unfold F8_9 F8_9b
  have hlen := hrc.len
  by_cases g : i0 < cl.length
  · have g' : decide ((i0 : Int) < (cl.length : Int)) = true := by simpa using g
    (repeat (first
 | (simp (disch := omega) only [evA, evB, bAdd_i64, bSub_i64, ptr, Nat.zero_add, Bool.not_true, Bool.not_false, Option.isNone_some, Option.isNone_none, Option.isSome_some, Option.isSome_none, decide_true, decide_false, eq_self, true_and, and_assoc, hlen, g'])
 | ((with_reducible apply go_ld1 h))
 | ((with_reducible apply go_ldA h); (rfl))
 | ((with_reducible apply go_ldN h))
 | ((with_reducible apply go_st h); intro _ h)
 | ((with_reducible apply go_stA h); (rfl); (rfl); (first | rfl | simp [OneV.o]); intro _ h)
 | ((with_reducible apply go_stN h); (rfl); (first | rfl | simp [OneV.o]); intro _ h)
 | ((with_reducible apply go_box h); rfl; intro _ _ h)
 | ((with_reducible apply go_rd h); (rfl))
 | ((with_reducible apply go_rdN h); (rfl))
 | ((with_reducible apply go_rlen h); (rfl))
 | ((with_reducible apply go_lenL h))
 | ((with_reducible apply go_ix h); (omega))
 | ((with_reducible apply go_elN h); (case hi => omega))
 | ((with_reducible apply go_fa h); (omega); (omega))
 | ((with_reducible apply go_f1 h); (case hi => omega); (case hx => exact inferInstance))
 | ((with_reducible apply go_rf1 h); (case hi => omega); (case hx => exact inferInstance); (case hv => rfl))
 | ((with_reducible apply go_rel h); (case hi => omega); (case hv => rfl))
))
    refine go_some (ix_el (hrc.sat h) g) ?_
    refine go_some (i_at (hrc.sat h) g).2 ?_
    refine go_some (bRem_int _ _ _ (by decide)) ?_
    cases g5 : decide (cl[i0].tmod 4 = 1)
    · (repeat (first
 | (simp (disch := omega) only [evA, evB, bAdd_i64, bSub_i64, ptr, Nat.zero_add, Bool.not_true, Bool.not_false, Option.isNone_some, Option.isNone_none, Option.isSome_some, Option.isSome_none, decide_true, decide_false, eq_self, true_and, and_assoc, g5])
 | ((with_reducible apply go_ld1 h))
 | ((with_reducible apply go_ldA h); (rfl))
 | ((with_reducible apply go_ldN h))
 | ((with_reducible apply go_st h); intro _ h)
 | ((with_reducible apply go_stA h); (rfl); (rfl); (first | rfl | simp [OneV.o]); intro _ h)
 | ((with_reducible apply go_stN h); (rfl); (first | rfl | simp [OneV.o]); intro _ h)
 | ((with_reducible apply go_box h); rfl; intro _ _ h)
 | ((with_reducible apply go_rd h); (rfl))
 | ((with_reducible apply go_rdN h); (rfl))
 | ((with_reducible apply go_rlen h); (rfl))
 | ((with_reducible apply go_lenL h))
 | ((with_reducible apply go_ix h); (omega))
 | ((with_reducible apply go_elN h); (case hi => omega))
 | ((with_reducible apply go_fa h); (omega); (omega))
 | ((with_reducible apply go_f1 h); (case hi => omega); (case hx => exact inferInstance))
 | ((with_reducible apply go_rf1 h); (case hi => omega); (case hx => exact inferInstance); (case hv => rfl))
 | ((with_reducible apply go_rel h); (case hi => omega); (case hv => rfl))
))
      exact fin
    · (repeat (first
 | (simp (disch := omega) only [evA, evB, bAdd_i64, bSub_i64, ptr, Nat.zero_add, Bool.not_true, Bool.not_false, Option.isNone_some, Option.isNone_none, Option.isSome_some, Option.isSome_none, decide_true, decide_false, eq_self, true_and, and_assoc, g5])
 | ((with_reducible apply go_ld1 h))
 | ((with_reducible apply go_ldA h); (rfl))
 | ((with_reducible apply go_ldN h))
 | ((with_reducible apply go_st h); intro _ h)
 | ((with_reducible apply go_stA h); (rfl); (rfl); (first | rfl | simp [OneV.o]); intro _ h)
 | ((with_reducible apply go_stN h); (rfl); (first | rfl | simp [OneV.o]); intro _ h)
 | ((with_reducible apply go_box h); rfl; intro _ _ h)
 | ((with_reducible apply go_rd h); (rfl))
 | ((with_reducible apply go_rdN h); (rfl))
 | ((with_reducible apply go_rlen h); (rfl))
 | ((with_reducible apply go_lenL h))
 | ((with_reducible apply go_ix h); (omega))
 | ((with_reducible apply go_elN h); (case hi => omega))
 | ((with_reducible apply go_fa h); (omega); (omega))
 | ((with_reducible apply go_f1 h); (case hi => omega); (case hx => exact inferInstance))
 | ((with_reducible apply go_rf1 h); (case hi => omega); (case hx => exact inferInstance); (case hv => rfl))
 | ((with_reducible apply go_rel h); (case hi => omega); (case hv => rfl))
))
      unfold F8_10
      (repeat (first
 | (simp (disch := omega) only [evA, evB, bAdd_i64, bSub_i64, ptr, Nat.zero_add, Bool.not_true, Bool.not_false, Option.isNone_some, Option.isNone_none, Option.isSome_some, Option.isSome_none, decide_true, decide_false, eq_self, true_and, and_assoc])
 | ((with_reducible apply go_ld1 h))
 | ((with_reducible apply go_ldA h); (rfl))
 | ((with_reducible apply go_ldN h))
 | ((with_reducible apply go_st h); intro _ h)
 | ((with_reducible apply go_stA h); (rfl); (rfl); (first | rfl | simp [OneV.o]); intro _ h)
 | ((with_reducible apply go_stN h); (rfl); (first | rfl | simp [OneV.o]); intro _ h)
 | ((with_reducible apply go_box h); rfl; intro _ _ h)
 | ((with_reducible apply go_rd h); (rfl))
 | ((with_reducible apply go_rdN h); (rfl))
 | ((with_reducible apply go_rlen h); (rfl))
 | ((with_reducible apply go_lenL h))
 | ((with_reducible apply go_ix h); (omega))
 | ((with_reducible apply go_elN h); (case hi => omega))
 | ((with_reducible apply go_fa h); (omega); (omega))
 | ((with_reducible apply go_f1 h); (case hi => omega); (case hx => exact inferInstance))
 | ((with_reducible apply go_rf1 h); (case hi => omega); (case hx => exact inferInstance); (case hv => rfl))
 | ((with_reducible apply go_rel h); (case hi => omega); (case hv => rfl))
))
      exact expire_piece hi0 ho hf h hE
  · have g' : decide ((i0 : Int) < (cl.length : Int)) = false := by simpa using g
    (repeat (first
 | (simp (disch := omega) only [evA, evB, bAdd_i64, bSub_i64, ptr, Nat.zero_add, Bool.not_true, Bool.not_false, Option.isNone_some, Option.isNone_none, Option.isSome_some, Option.isSome_none, decide_true, decide_false, eq_self, true_and, and_assoc, hlen, g'])
 | ((with_reducible apply go_ld1 h))
 | ((with_reducible apply go_ldA h); (rfl))
 | ((with_reducible apply go_ldN h))
 | ((with_reducible apply go_st h); intro _ h)
 | ((with_reducible apply go_stA h); (rfl); (rfl); (first | rfl | simp [OneV.o]); intro _ h)
 | ((with_reducible apply go_stN h); (rfl); (first | rfl | simp [OneV.o]); intro _ h)
 | ((with_reducible apply go_box h); rfl; intro _ _ h)
 | ((with_reducible apply go_rd h); (rfl))
 | ((with_reducible apply go_rdN h); (rfl))
 | ((with_reducible apply go_rlen h); (rfl))
 | ((with_reducible apply go_lenL h))
 | ((with_reducible apply go_ix h); (omega))
 | ((with_reducible apply go_elN h); (case hi => omega))
 | ((with_reducible apply go_fa h); (omega); (omega))
 | ((with_reducible apply go_f1 h); (case hi => omega); (case hx => exact inferInstance))
 | ((with_reducible apply go_rf1 h); (case hi => omega); (case hx => exact inferInstance); (case hv => rfl))
 | ((with_reducible apply go_rel h); (case hi => omega); (case hv => rfl))
))
    exact fin
theorem bNe_bb (x y : Operand) (a c : Bool) : bNe Try.prog 4 x y (.bool a) (.bool c) = some (.bool (!(a == c))) := bNe_bool (by kernel_rfl) a c
theorem close_piece (hi0 : i0 ≤ 100) (hlast : 0 ≤ last ∧ last < next) (hnx : next ≤ 1000) (hcl : cl.length ≤ 140737488351232) (hrc : Rd w0 1 s1 cl.length (cl.flatMap cI)) (ho : OpenI op rs) (hf : FitRs rs) (h : Sat w0 (MapH kI bV ov op :: BoardA b 8 next rs :: L) w)
    (hE : ∀ rs' op' w', OpenI op' rs' → FitRs rs' → Sat w0 (MapH kI bV ov op' :: BoardA b 8 next rs' :: L) w' → F8_6 s0 s1 b ov (.int .i64 last) (.int .i64 i0) w' K R3) : F8_8 s0 s1 b ov (.int .i64 last) (.int .i64 i0) w K R3 := by
  have fin : F8_9 s0 s1 b ov (.int .i64 last) (.int .i64 i0) w K R3 := which_piece hi0 hcl hrc ho hf h hE
  unfold F8_8 F8_8b
  have hlen := hrc.len
  by_cases g : i0 < cl.length
  · have g' : decide ((i0 : Int) < (cl.length : Int)) = true := by simpa using g
    (repeat (first
 | (simp (disch := omega) only [evA, evB, bAdd_i64, bSub_i64, ptr, Nat.zero_add, Bool.not_true, Bool.not_false, Option.isNone_some, Option.isNone_none, Option.isSome_some, Option.isSome_none, decide_true, decide_false, eq_self, true_and, and_assoc, hlen, g'])
 | ((with_reducible apply go_ld1 h))
 | ((with_reducible apply go_ldA h); (rfl))
 | ((with_reducible apply go_ldN h))
 | ((with_reducible apply go_st h); intro _ h)
 | ((with_reducible apply go_stA h); (rfl); (rfl); (first | rfl | simp [OneV.o]); intro _ h)
 | ((with_reducible apply go_stN h); (rfl); (first | rfl | simp [OneV.o]); intro _ h)
 | ((with_reducible apply go_box h); rfl; intro _ _ h)
 | ((with_reducible apply go_rd h); (rfl))
 | ((with_reducible apply go_rdN h); (rfl))
 | ((with_reducible apply go_rlen h); (rfl))
 | ((with_reducible apply go_lenL h))
 | ((with_reducible apply go_ix h); (omega))
 | ((with_reducible apply go_elN h); (case hi => omega))
 | ((with_reducible apply go_fa h); (omega); (omega))
 | ((with_reducible apply go_f1 h); (case hi => omega); (case hx => exact inferInstance))
 | ((with_reducible apply go_rf1 h); (case hi => omega); (case hx => exact inferInstance); (case hv => rfl))
 | ((with_reducible apply go_rel h); (case hi => omega); (case hv => rfl))
))
    refine go_some (ix_el (hrc.sat h) g) ?_
    refine go_some (i_at (hrc.sat h) g).2 ?_
    refine go_some (bRem_int _ _ _ (by decide)) ?_
    cases g5 : decide (cl[i0].tmod 4 = 0)
    · (repeat (first
 | (simp (disch := omega) only [evA, evB, bAdd_i64, bSub_i64, ptr, Nat.zero_add, Bool.not_true, Bool.not_false, Option.isNone_some, Option.isNone_none, Option.isSome_some, Option.isSome_none, decide_true, decide_false, eq_self, true_and, and_assoc, g5])
 | ((with_reducible apply go_ld1 h))
 | ((with_reducible apply go_ldA h); (rfl))
 | ((with_reducible apply go_ldN h))
 | ((with_reducible apply go_st h); intro _ h)
 | ((with_reducible apply go_stA h); (rfl); (rfl); (first | rfl | simp [OneV.o]); intro _ h)
 | ((with_reducible apply go_stN h); (rfl); (first | rfl | simp [OneV.o]); intro _ h)
 | ((with_reducible apply go_box h); rfl; intro _ _ h)
 | ((with_reducible apply go_rd h); (rfl))
 | ((with_reducible apply go_rdN h); (rfl))
 | ((with_reducible apply go_rlen h); (rfl))
 | ((with_reducible apply go_lenL h))
 | ((with_reducible apply go_ix h); (omega))
 | ((with_reducible apply go_elN h); (case hi => omega))
 | ((with_reducible apply go_fa h); (omega); (omega))
 | ((with_reducible apply go_f1 h); (case hi => omega); (case hx => exact inferInstance))
 | ((with_reducible apply go_rf1 h); (case hi => omega); (case hx => exact inferInstance); (case hv => rfl))
 | ((with_reducible apply go_rel h); (case hi => omega); (case hv => rfl))
))
      exact fin
    · (repeat (first
 | (simp (disch := omega) only [evA, evB, bAdd_i64, bSub_i64, ptr, Nat.zero_add, Bool.not_true, Bool.not_false, Option.isNone_some, Option.isNone_none, Option.isSome_some, Option.isSome_none, decide_true, decide_false, eq_self, true_and, and_assoc, g5])
 | ((with_reducible apply go_ld1 h))
 | ((with_reducible apply go_ldA h); (rfl))
 | ((with_reducible apply go_ldN h))
 | ((with_reducible apply go_st h); intro _ h)
 | ((with_reducible apply go_stA h); (rfl); (rfl); (first | rfl | simp [OneV.o]); intro _ h)
 | ((with_reducible apply go_stN h); (rfl); (first | rfl | simp [OneV.o]); intro _ h)
 | ((with_reducible apply go_box h); rfl; intro _ _ h)
 | ((with_reducible apply go_rd h); (rfl))
 | ((with_reducible apply go_rdN h); (rfl))
 | ((with_reducible apply go_rlen h); (rfl))
 | ((with_reducible apply go_lenL h))
 | ((with_reducible apply go_ix h); (omega))
 | ((with_reducible apply go_elN h); (case hi => omega))
 | ((with_reducible apply go_fa h); (omega); (omega))
 | ((with_reducible apply go_f1 h); (case hi => omega); (case hx => exact inferInstance))
 | ((with_reducible apply go_rf1 h); (case hi => omega); (case hx => exact inferInstance); (case hv => rfl))
 | ((with_reducible apply go_rel h); (case hi => omega); (case hv => rfl))
))
      refine go_some (ix_el (hrc.sat h) g) ?_
      refine go_some (i_at (hrc.sat h) g).2 ?_
      (repeat (first
 | (simp (disch := omega) only [evA, evB, bAdd_i64, bSub_i64, ptr, Nat.zero_add, Bool.not_true, Bool.not_false, Option.isNone_some, Option.isNone_none, Option.isSome_some, Option.isSome_none, decide_true, decide_false, eq_self, true_and, and_assoc])
 | ((with_reducible apply go_ld1 h))
 | ((with_reducible apply go_ldA h); (rfl))
 | ((with_reducible apply go_ldN h))
 | ((with_reducible apply go_st h); intro _ h)
 | ((with_reducible apply go_stA h); (rfl); (rfl); (first | rfl | simp [OneV.o]); intro _ h)
 | ((with_reducible apply go_stN h); (rfl); (first | rfl | simp [OneV.o]); intro _ h)
 | ((with_reducible apply go_box h); rfl; intro _ _ h)
 | ((with_reducible apply go_rd h); (rfl))
 | ((with_reducible apply go_rdN h); (rfl))
 | ((with_reducible apply go_rlen h); (rfl))
 | ((with_reducible apply go_lenL h))
 | ((with_reducible apply go_ix h); (omega))
 | ((with_reducible apply go_elN h); (case hi => omega))
 | ((with_reducible apply go_fa h); (omega); (omega))
 | ((with_reducible apply go_f1 h); (case hi => omega); (case hx => exact inferInstance))
 | ((with_reducible apply go_rf1 h); (case hi => omega); (case hx => exact inferInstance); (case hv => rfl))
 | ((with_reducible apply go_rel h); (case hi => omega); (case hv => rfl))
))
      refine Below_spec (by omega) (by omega) fun id _ _ _ => ?_
      refine baclose_spec (id := id) (v := b) (rs := rs) (n := 8) (next := next) h.f1 (fun hno w h => ?_) (fun r hr e w h => ?_)
      · (repeat (first
 | (simp (disch := omega) only [evA, evB, bAdd_i64, bSub_i64, ptr, Nat.zero_add, Bool.not_true, Bool.not_false, Option.isNone_some, Option.isNone_none, Option.isSome_some, Option.isSome_none, decide_true, decide_false, eq_self, true_and, and_assoc])
 | ((with_reducible apply go_ld1 h))
 | ((with_reducible apply go_ldA h); (rfl))
 | ((with_reducible apply go_ldN h))
 | ((with_reducible apply go_st h); intro _ h)
 | ((with_reducible apply go_stA h); (rfl); (rfl); (first | rfl | simp [OneV.o]); intro _ h)
 | ((with_reducible apply go_stN h); (rfl); (first | rfl | simp [OneV.o]); intro _ h)
 | ((with_reducible apply go_box h); rfl; intro _ _ h)
 | ((with_reducible apply go_rd h); (rfl))
 | ((with_reducible apply go_rdN h); (rfl))
 | ((with_reducible apply go_rlen h); (rfl))
 | ((with_reducible apply go_lenL h))
 | ((with_reducible apply go_ix h); (omega))
 | ((with_reducible apply go_elN h); (case hi => omega))
 | ((with_reducible apply go_fa h); (omega); (omega))
 | ((with_reducible apply go_f1 h); (case hi => omega); (case hx => exact inferInstance))
 | ((with_reducible apply go_rf1 h); (case hi => omega); (case hx => exact inferInstance); (case hv => rfl))
 | ((with_reducible apply go_rel h); (case hi => omega); (case hv => rfl))
))
        refine go_alloc h zR rfl fun _ _ h => ?_
        have hg : aGet id op = none := by
          rw [ho, if_neg]
          intro hh
          rw [List.any_eq_true] at hh
          obtain ⟨d, hd, e⟩ := hh
          exact hno d hd (by simpa using e)
        have d5 : decide ((5 : Int) = 0) = false := by decide
        (repeat (first
 | (simp (disch := omega) only [evA, evB, bAdd_i64, bSub_i64, ptr, Nat.zero_add, Bool.not_true, Bool.not_false, Option.isNone_some, Option.isNone_none, Option.isSome_some, Option.isSome_none, decide_true, decide_false, eq_self, true_and, and_assoc, d5])
 | ((with_reducible apply go_ld1 h))
 | ((with_reducible apply go_ldA h); (rfl))
 | ((with_reducible apply go_ldN h))
 | ((with_reducible apply go_st h); intro _ h)
 | ((with_reducible apply go_stA h); (rfl); (rfl); (first | rfl | simp [OneV.o]); intro _ h)
 | ((with_reducible apply go_stN h); (rfl); (first | rfl | simp [OneV.o]); intro _ h)
 | ((with_reducible apply go_box h); rfl; intro _ _ h)
 | ((with_reducible apply go_rd h); (rfl))
 | ((with_reducible apply go_rdN h); (rfl))
 | ((with_reducible apply go_rlen h); (rfl))
 | ((with_reducible apply go_lenL h))
 | ((with_reducible apply go_ix h); (omega))
 | ((with_reducible apply go_elN h); (case hi => omega))
 | ((with_reducible apply go_fa h); (omega); (omega))
 | ((with_reducible apply go_f1 h); (case hi => omega); (case hx => exact inferInstance))
 | ((with_reducible apply go_rf1 h); (case hi => omega); (case hx => exact inferInstance); (case hv => rfl))
 | ((with_reducible apply go_rel h); (case hi => omega); (case hv => rfl))
))
        refine go_look1 h (by repeat (first | exact .here | apply Fnt.there)) KIr um70 z4 id ?_
        rw [hg]
        refine go_some (bNe_bb _ _ _ _) ?_
        (repeat (first
 | (simp (disch := omega) only [evA, evB, bAdd_i64, bSub_i64, ptr, Nat.zero_add, Bool.not_true, Bool.not_false, Option.isNone_some, Option.isNone_none, Option.isSome_some, Option.isSome_none, decide_true, decide_false, eq_self, true_and, and_assoc, beq_self_eq_true])
 | ((with_reducible apply go_ld1 h))
 | ((with_reducible apply go_ldA h); (rfl))
 | ((with_reducible apply go_ldN h))
 | ((with_reducible apply go_st h); intro _ h)
 | ((with_reducible apply go_stA h); (rfl); (rfl); (first | rfl | simp [OneV.o]); intro _ h)
 | ((with_reducible apply go_stN h); (rfl); (first | rfl | simp [OneV.o]); intro _ h)
 | ((with_reducible apply go_box h); rfl; intro _ _ h)
 | ((with_reducible apply go_rd h); (rfl))
 | ((with_reducible apply go_rdN h); (rfl))
 | ((with_reducible apply go_rlen h); (rfl))
 | ((with_reducible apply go_lenL h))
 | ((with_reducible apply go_ix h); (omega))
 | ((with_reducible apply go_elN h); (case hi => omega))
 | ((with_reducible apply go_fa h); (omega); (omega))
 | ((with_reducible apply go_f1 h); (case hi => omega); (case hx => exact inferInstance))
 | ((with_reducible apply go_rf1 h); (case hi => omega); (case hx => exact inferInstance); (case hv => rfl))
 | ((with_reducible apply go_rel h); (case hi => omega); (case hv => rfl))
))
        refine eDelete_sat (h.front (A := MapH kI bV ov op) (by repeat (first | exact .here | apply Fnt.there))) KIr um70 id fun w h2 => ?_
        rw [aDel_no hg] at h2
        exact which_piece hi0 hcl hrc ho hf (h2.get (by (repeat (first | exact .done | (refine .pick (by repeat (first | exact .here | apply Fnt.there)) ?_) | refine .skip ?_)))) hE
      · subst e
        (repeat (first
 | (simp (disch := omega) only [evA, evB, bAdd_i64, bSub_i64, ptr, Nat.zero_add, Bool.not_true, Bool.not_false, Option.isNone_some, Option.isNone_none, Option.isSome_some, Option.isSome_none, decide_true, decide_false, eq_self, true_and, and_assoc])
 | ((with_reducible apply go_ld1 h))
 | ((with_reducible apply go_ldA h); (rfl))
 | ((with_reducible apply go_ldN h))
 | ((with_reducible apply go_st h); intro _ h)
 | ((with_reducible apply go_stA h); (rfl); (rfl); (first | rfl | simp [OneV.o]); intro _ h)
 | ((with_reducible apply go_stN h); (rfl); (first | rfl | simp [OneV.o]); intro _ h)
 | ((with_reducible apply go_box h); rfl; intro _ _ h)
 | ((with_reducible apply go_rd h); (rfl))
 | ((with_reducible apply go_rdN h); (rfl))
 | ((with_reducible apply go_rlen h); (rfl))
 | ((with_reducible apply go_lenL h))
 | ((with_reducible apply go_ix h); (omega))
 | ((with_reducible apply go_elN h); (case hi => omega))
 | ((with_reducible apply go_fa h); (omega); (omega))
 | ((with_reducible apply go_f1 h); (case hi => omega); (case hx => exact inferInstance))
 | ((with_reducible apply go_rf1 h); (case hi => omega); (case hx => exact inferInstance); (case hv => rfl))
 | ((with_reducible apply go_rel h); (case hi => omega); (case hv => rfl))
))
        refine go_alloc h zR rfl fun _ _ h => ?_
        have hn := map_nd (h.front (A := MapH kI bV ov op) (by repeat (first | exact .here | apply Fnt.there)))
        (repeat (first
 | (simp (disch := omega) only [evA, evB, bAdd_i64, bSub_i64, ptr, Nat.zero_add, Bool.not_true, Bool.not_false, Option.isNone_some, Option.isNone_none, Option.isSome_some, Option.isSome_none, decide_true, decide_false, eq_self, true_and, and_assoc])
 | ((with_reducible apply go_ld1 h))
 | ((with_reducible apply go_ldA h); (rfl))
 | ((with_reducible apply go_ldN h))
 | ((with_reducible apply go_st h); intro _ h)
 | ((with_reducible apply go_stA h); (rfl); (rfl); (first | rfl | simp [OneV.o]); intro _ h)
 | ((with_reducible apply go_stN h); (rfl); (first | rfl | simp [OneV.o]); intro _ h)
 | ((with_reducible apply go_box h); rfl; intro _ _ h)
 | ((with_reducible apply go_rd h); (rfl))
 | ((with_reducible apply go_rdN h); (rfl))
 | ((with_reducible apply go_rlen h); (rfl))
 | ((with_reducible apply go_lenL h))
 | ((with_reducible apply go_ix h); (omega))
 | ((with_reducible apply go_elN h); (case hi => omega))
 | ((with_reducible apply go_fa h); (omega); (omega))
 | ((with_reducible apply go_f1 h); (case hi => omega); (case hx => exact inferInstance))
 | ((with_reducible apply go_rf1 h); (case hi => omega); (case hx => exact inferInstance); (case hv => rfl))
 | ((with_reducible apply go_rel h); (case hi => omega); (case hv => rfl))
))
        refine go_look1 h (by repeat (first | exact .here | apply Fnt.there)) KIr um70 z4 r.id ?_
        rw [openI_get ho hr]
        simp only [Option.elim_some]
        refine go_some (bNe_bb _ _ _ _) ?_
        (repeat (first
 | (simp (disch := omega) only [evA, evB, bAdd_i64, bSub_i64, ptr, Nat.zero_add, Bool.not_true, Bool.not_false, Option.isNone_some, Option.isNone_none, Option.isSome_some, Option.isSome_none, decide_true, decide_false, eq_self, true_and, and_assoc, beq_self_eq_true])
 | ((with_reducible apply go_ld1 h))
 | ((with_reducible apply go_ldA h); (rfl))
 | ((with_reducible apply go_ldN h))
 | ((with_reducible apply go_st h); intro _ h)
 | ((with_reducible apply go_stA h); (rfl); (rfl); (first | rfl | simp [OneV.o]); intro _ h)
 | ((with_reducible apply go_stN h); (rfl); (first | rfl | simp [OneV.o]); intro _ h)
 | ((with_reducible apply go_box h); rfl; intro _ _ h)
 | ((with_reducible apply go_rd h); (rfl))
 | ((with_reducible apply go_rdN h); (rfl))
 | ((with_reducible apply go_rlen h); (rfl))
 | ((with_reducible apply go_lenL h))
 | ((with_reducible apply go_ix h); (omega))
 | ((with_reducible apply go_elN h); (case hi => omega))
 | ((with_reducible apply go_fa h); (omega); (omega))
 | ((with_reducible apply go_f1 h); (case hi => omega); (case hx => exact inferInstance))
 | ((with_reducible apply go_rf1 h); (case hi => omega); (case hx => exact inferInstance); (case hv => rfl))
 | ((with_reducible apply go_rel h); (case hi => omega); (case hv => rfl))
))
        refine eDelete_sat (h.front (A := MapH kI bV ov op) (by repeat (first | exact .here | apply Fnt.there))) KIr um70 r.id fun w h2 => ?_
        exact which_piece hi0 hcl hrc (openI_rem ho hn) (fit_rem hf) (h2.get (by (repeat (first | exact .done | (refine .pick (by repeat (first | exact .here | apply Fnt.there)) ?_) | refine .skip ?_)))) hE
  · have g' : decide ((i0 : Int) < (cl.length : Int)) = false := by simpa using g
    (repeat (first
 | (simp (disch := omega) only [evA, evB, bAdd_i64, bSub_i64, ptr, Nat.zero_add, Bool.not_true, Bool.not_false, Option.isNone_some, Option.isNone_none, Option.isSome_some, Option.isSome_none, decide_true, decide_false, eq_self, true_and, and_assoc, hlen, g'])
 | ((with_reducible apply go_ld1 h))
 | ((with_reducible apply go_ldA h); (rfl))
 | ((with_reducible apply go_ldN h))
 | ((with_reducible apply go_st h); intro _ h)
 | ((with_reducible apply go_stA h); (rfl); (rfl); (first | rfl | simp [OneV.o]); intro _ h)
 | ((with_reducible apply go_stN h); (rfl); (first | rfl | simp [OneV.o]); intro _ h)
 | ((with_reducible apply go_box h); rfl; intro _ _ h)
 | ((with_reducible apply go_rd h); (rfl))
 | ((with_reducible apply go_rdN h); (rfl))
 | ((with_reducible apply go_rlen h); (rfl))
 | ((with_reducible apply go_lenL h))
 | ((with_reducible apply go_ix h); (omega))
 | ((with_reducible apply go_elN h); (case hi => omega))
 | ((with_reducible apply go_fa h); (omega); (omega))
 | ((with_reducible apply go_f1 h); (case hi => omega); (case hx => exact inferInstance))
 | ((with_reducible apply go_rf1 h); (case hi => omega); (case hx => exact inferInstance); (case hv => rfl))
 | ((with_reducible apply go_rel h); (case hi => omega); (case hv => rfl))
))
    exact fin
end
end Go.Proofs.Gong

/- Bf1 -/
namespace Go.Proofs.Gong
open Go Go.Sx Go.Proofs
set_option maxRecDepth 100000
attribute [local irreducible] fBuild fLook fZero eqv bEqv Cl MapH LsH SlH ld1 ldN st callP eBox eAlloc lenM lenL eMapSet eDelete eAppend eBuildSl eRange eNext
section
variable {w0 w : World} {L : List HP} {K : Value → World → Prop} {n next last : Int} {rs : List Row} {s0 s1 b ov : Value} {op : List (Int × Bool)} {i0 : Nat} {l cl : List Int} {R3 : Value → Value → Value → Value → Value → Value → World → Prop}
theorem raise_piece (hi0 : i0 < 100) (hi : i0 < l.length) (hrd : Rd w0 1 s0 l.length (l.flatMap cI)) (hcl : cl.length ≤ 140737488351232) (hrc : Rd w0 1 s1 cl.length (cl.flatMap cI)) (hlast : 0 ≤ last ∧ last < next) (hnx : next ≤ i0 + 1) (ho : OpenI op rs) (hf : FitRs rs)
    (h : Sat w0 (MapH kI bV ov op :: BoardA b 8 next rs :: L) w)
    (hE : ∀ last' next' rs' op' w', 0 ≤ last' ∧ last' < next' → next' ≤ (i0 : Int) + 2 → OpenI op' rs' → FitRs rs' → Sat w0 (MapH kI bV ov op' :: BoardA b 8 next' rs' :: L) w' → F8_6 s0 s1 b ov (.int .i64 last') (.int .i64 i0) w' K R3) :
    F8_7 s0 s1 b ov (.int .i64 last) (.int .i64 i0) w K R3 := by
  unfold F8_7 F8_7b
  refine go_some (ix_el (hrd.sat h) hi) ?_
  refine go_some (i_at (hrd.sat h) hi).2 ?_
  refine event_spec h fun w h => ?_
  refine go_some (mul10 (by omega)) ?_
  have ht : timeP ((i0 : Int) * 10) = true := by unfold timeP; simp; omega
  have hfit : (evN l[i0]).fits := evK_fits _
  have hcs := raise_cases (n := 8) (next := next) (rs := rs) (e := evN l[i0]) (evK_ok _) ht
  have hf2 := fit_raise (n := 8) (next := next) (now := (i0 : Int) * 10) hf hfit
  obtain ⟨R0, I0, H0⟩ := boardA_inv h.f1
  refine baraise_spec (v := b) (n := 8) (next := next) (rs := rs) (e := evN l[i0]) (now := (i0 : Int) * 10) hfit (by omega) h.f1 fun w h => ?_
  generalize raiseA 8 next rs (evN l[i0]) ((i0 : Int) * 10) = ra at h hcs hf2 ⊢
  (repeat (first
 | (simp (disch := omega) only [evA, evB, bAdd_i64, bSub_i64, ptr, Nat.zero_add, Bool.not_true, Bool.not_false, Option.isNone_some, Option.isNone_none, Option.isSome_some, Option.isSome_none, decide_true, decide_false, eq_self, true_and, and_assoc])
 | ((with_reducible apply go_ld1 h))
 | ((with_reducible apply go_ldA h); (rfl))
 | ((with_reducible apply go_ldN h))
 | ((with_reducible apply go_st h); intro _ h)
 | ((with_reducible apply go_stA h); (rfl); (rfl); (first | rfl | simp [OneV.o]); intro _ h)
 | ((with_reducible apply go_stN h); (rfl); (first | rfl | simp [OneV.o]); intro _ h)
 | ((with_reducible apply go_box h); rfl; intro _ _ h)
 | ((with_reducible apply go_rd h); (rfl))
 | ((with_reducible apply go_rdN h); (rfl))
 | ((with_reducible apply go_rlen h); (rfl))
 | ((with_reducible apply go_lenL h))
 | ((with_reducible apply go_ix h); (omega))
 | ((with_reducible apply go_elN h); (case hi => omega))
 | ((with_reducible apply go_fa h); (omega); (omega))
 | ((with_reducible apply go_f1 h); (case hi => omega); (case hx => exact inferInstance))
 | ((with_reducible apply go_rf1 h); (case hi => omega); (case hx => exact inferInstance); (case hv => rfl))
 | ((with_reducible apply go_rel h); (case hi => omega); (case hv => rfl))
))
  refine go_alloc h zR rfl fun _ _ h => ?_
  have d1 : decide ((5 : Int) = 0) = false := by decide
  have d2 : decide ((200 : Int) = 0) = false := by decide
  have d3 : decide ((200 : Int) = 5) = false := by decide
  have d4 : decide ((3 : Int) = 1) = false := by decide
  have hn := map_nd (h.front (A := MapH kI bV ov op) (by repeat (first | exact .here | apply Fnt.there)))
  rcases hcs with ⟨c, hc, rfl⟩ | ⟨r, e, rfl⟩ | ⟨r, hr, rfl⟩ | ⟨r, hr, r', x, e, h1, h3, rfl⟩
  · rcases hc with rfl | rfl
    · (repeat (first
 | (simp (disch := omega) only [evA, evB, bAdd_i64, bSub_i64, ptr, Nat.zero_add, Bool.not_true, Bool.not_false, Option.isNone_some, Option.isNone_none, Option.isSome_some, Option.isSome_none, decide_true, decide_false, eq_self, true_and, and_assoc, d1])
 | ((with_reducible apply go_ld1 h))
 | ((with_reducible apply go_ldA h); (rfl))
 | ((with_reducible apply go_ldN h))
 | ((with_reducible apply go_st h); intro _ h)
 | ((with_reducible apply go_stA h); (rfl); (rfl); (first | rfl | simp [OneV.o]); intro _ h)
 | ((with_reducible apply go_stN h); (rfl); (first | rfl | simp [OneV.o]); intro _ h)
 | ((with_reducible apply go_box h); rfl; intro _ _ h)
 | ((with_reducible apply go_rd h); (rfl))
 | ((with_reducible apply go_rdN h); (rfl))
 | ((with_reducible apply go_rlen h); (rfl))
 | ((with_reducible apply go_lenL h))
 | ((with_reducible apply go_ix h); (omega))
 | ((with_reducible apply go_elN h); (case hi => omega))
 | ((with_reducible apply go_fa h); (omega); (omega))
 | ((with_reducible apply go_f1 h); (case hi => omega); (case hx => exact inferInstance))
 | ((with_reducible apply go_rf1 h); (case hi => omega); (case hx => exact inferInstance); (case hv => rfl))
 | ((with_reducible apply go_rel h); (case hi => omega); (case hv => rfl))
))
      exact close_piece (by omega) (by omega) (by omega) hcl hrc ho hf (h.get (by (repeat (first | exact .done | (refine .pick (by repeat (first | exact .here | apply Fnt.there)) ?_) | refine .skip ?_)))) fun rs' op' w' h1 h2 h3 => hE last next rs' op' w' (by omega) (by omega) h1 h2 h3
    · (repeat (first
 | (simp (disch := omega) only [evA, evB, bAdd_i64, bSub_i64, ptr, Nat.zero_add, Bool.not_true, Bool.not_false, Option.isNone_some, Option.isNone_none, Option.isSome_some, Option.isSome_none, decide_true, decide_false, eq_self, true_and, and_assoc, d2, d3])
 | ((with_reducible apply go_ld1 h))
 | ((with_reducible apply go_ldA h); (rfl))
 | ((with_reducible apply go_ldN h))
 | ((with_reducible apply go_st h); intro _ h)
 | ((with_reducible apply go_stA h); (rfl); (rfl); (first | rfl | simp [OneV.o]); intro _ h)
 | ((with_reducible apply go_stN h); (rfl); (first | rfl | simp [OneV.o]); intro _ h)
 | ((with_reducible apply go_box h); rfl; intro _ _ h)
 | ((with_reducible apply go_rd h); (rfl))
 | ((with_reducible apply go_rdN h); (rfl))
 | ((with_reducible apply go_rlen h); (rfl))
 | ((with_reducible apply go_lenL h))
 | ((with_reducible apply go_ix h); (omega))
 | ((with_reducible apply go_elN h); (case hi => omega))
 | ((with_reducible apply go_fa h); (omega); (omega))
 | ((with_reducible apply go_f1 h); (case hi => omega); (case hx => exact inferInstance))
 | ((with_reducible apply go_rf1 h); (case hi => omega); (case hx => exact inferInstance); (case hv => rfl))
 | ((with_reducible apply go_rel h); (case hi => omega); (case hv => rfl))
))
      exact close_piece (by omega) (by omega) (by omega) hcl hrc ho hf (h.get (by (repeat (first | exact .done | (refine .pick (by repeat (first | exact .here | apply Fnt.there)) ?_) | refine .skip ?_)))) fun rs' op' w' h1 h2 h3 => hE last next rs' op' w' (by omega) (by omega) h1 h2 h3
  · have e1 : decide (r.id ≤ last) = false := by simp; omega
    obtain ⟨g1, g2⟩ := openI_new (r := r) ho (fun d hd => by have := (H0.ok d hd).2; omega)
    (repeat (first
 | (simp (disch := omega) only [evA, evB, bAdd_i64, bSub_i64, ptr, Nat.zero_add, Bool.not_true, Bool.not_false, Option.isNone_some, Option.isNone_none, Option.isSome_some, Option.isSome_none, decide_true, decide_false, eq_self, true_and, and_assoc, e1])
 | ((with_reducible apply go_ld1 h))
 | ((with_reducible apply go_ldA h); (rfl))
 | ((with_reducible apply go_ldN h))
 | ((with_reducible apply go_st h); intro _ h)
 | ((with_reducible apply go_stA h); (rfl); (rfl); (first | rfl | simp [OneV.o]); intro _ h)
 | ((with_reducible apply go_stN h); (rfl); (first | rfl | simp [OneV.o]); intro _ h)
 | ((with_reducible apply go_box h); rfl; intro _ _ h)
 | ((with_reducible apply go_rd h); (rfl))
 | ((with_reducible apply go_rdN h); (rfl))
 | ((with_reducible apply go_rlen h); (rfl))
 | ((with_reducible apply go_lenL h))
 | ((with_reducible apply go_ix h); (omega))
 | ((with_reducible apply go_elN h); (case hi => omega))
 | ((with_reducible apply go_fa h); (omega); (omega))
 | ((with_reducible apply go_f1 h); (case hi => omega); (case hx => exact inferInstance))
 | ((with_reducible apply go_rf1 h); (case hi => omega); (case hx => exact inferInstance); (case hv => rfl))
 | ((with_reducible apply go_rel h); (case hi => omega); (case hv => rfl))
))
    refine go_look1 h (by repeat (first | exact .here | apply Fnt.there)) KIr um70 z4 r.id ?_
    rw [g1]
    (repeat (first
 | (simp (disch := omega) only [evA, evB, bAdd_i64, bSub_i64, ptr, Nat.zero_add, Bool.not_true, Bool.not_false, Option.isNone_some, Option.isNone_none, Option.isSome_some, Option.isSome_none, decide_true, decide_false, eq_self, true_and, and_assoc, Option.elim_none])
 | ((with_reducible apply go_ld1 h))
 | ((with_reducible apply go_ldA h); (rfl))
 | ((with_reducible apply go_ldN h))
 | ((with_reducible apply go_st h); intro _ h)
 | ((with_reducible apply go_stA h); (rfl); (rfl); (first | rfl | simp [OneV.o]); intro _ h)
 | ((with_reducible apply go_stN h); (rfl); (first | rfl | simp [OneV.o]); intro _ h)
 | ((with_reducible apply go_box h); rfl; intro _ _ h)
 | ((with_reducible apply go_rd h); (rfl))
 | ((with_reducible apply go_rdN h); (rfl))
 | ((with_reducible apply go_rlen h); (rfl))
 | ((with_reducible apply go_lenL h))
 | ((with_reducible apply go_ix h); (omega))
 | ((with_reducible apply go_elN h); (case hi => omega))
 | ((with_reducible apply go_fa h); (omega); (omega))
 | ((with_reducible apply go_f1 h); (case hi => omega); (case hx => exact inferInstance))
 | ((with_reducible apply go_rf1 h); (case hi => omega); (case hx => exact inferInstance); (case hv => rfl))
 | ((with_reducible apply go_rel h); (case hi => omega); (case hv => rfl))
))
    refine eMapSet_sat ((h.drew).front (A := MapH kI bV ov op) (by repeat (first | exact .here | apply Fnt.there))) KIr um70 r.id true fun w h2 => ?_
    subst e
    exact close_piece (last := r.id) (next := r.id + 1) (by omega) (by omega) (by omega) hcl hrc g2 hf2 (h2.get (by (repeat (first | exact .done | (refine .pick (by repeat (first | exact .here | apply Fnt.there)) ?_) | refine .skip ?_)))) fun rs' op' w' h1 h2 h3 => hE r.id (r.id + 1) rs' op' w' (by omega) (by omega) h1 h2 h3
  · (repeat (first
 | (simp (disch := omega) only [evA, evB, bAdd_i64, bSub_i64, ptr, Nat.zero_add, Bool.not_true, Bool.not_false, Option.isNone_some, Option.isNone_none, Option.isSome_some, Option.isSome_none, decide_true, decide_false, eq_self, true_and, and_assoc, d4])
 | ((with_reducible apply go_ld1 h))
 | ((with_reducible apply go_ldA h); (rfl))
 | ((with_reducible apply go_ldN h))
 | ((with_reducible apply go_st h); intro _ h)
 | ((with_reducible apply go_stA h); (rfl); (rfl); (first | rfl | simp [OneV.o]); intro _ h)
 | ((with_reducible apply go_stN h); (rfl); (first | rfl | simp [OneV.o]); intro _ h)
 | ((with_reducible apply go_box h); rfl; intro _ _ h)
 | ((with_reducible apply go_rd h); (rfl))
 | ((with_reducible apply go_rdN h); (rfl))
 | ((with_reducible apply go_rlen h); (rfl))
 | ((with_reducible apply go_lenL h))
 | ((with_reducible apply go_ix h); (omega))
 | ((with_reducible apply go_elN h); (case hi => omega))
 | ((with_reducible apply go_fa h); (omega); (omega))
 | ((with_reducible apply go_f1 h); (case hi => omega); (case hx => exact inferInstance))
 | ((with_reducible apply go_rf1 h); (case hi => omega); (case hx => exact inferInstance); (case hv => rfl))
 | ((with_reducible apply go_rel h); (case hi => omega); (case hv => rfl))
))
    refine go_look1 h (by repeat (first | exact .here | apply Fnt.there)) KIr um70 z4 r.id ?_
    rw [openI_get ho hr]
    (repeat (first
 | (simp (disch := omega) only [evA, evB, bAdd_i64, bSub_i64, ptr, Nat.zero_add, Bool.not_true, Bool.not_false, Option.isNone_some, Option.isNone_none, Option.isSome_some, Option.isSome_none, decide_true, decide_false, eq_self, true_and, and_assoc, Option.elim_some])
 | ((with_reducible apply go_ld1 h))
 | ((with_reducible apply go_ldA h); (rfl))
 | ((with_reducible apply go_ldN h))
 | ((with_reducible apply go_st h); intro _ h)
 | ((with_reducible apply go_stA h); (rfl); (rfl); (first | rfl | simp [OneV.o]); intro _ h)
 | ((with_reducible apply go_stN h); (rfl); (first | rfl | simp [OneV.o]); intro _ h)
 | ((with_reducible apply go_box h); rfl; intro _ _ h)
 | ((with_reducible apply go_rd h); (rfl))
 | ((with_reducible apply go_rdN h); (rfl))
 | ((with_reducible apply go_rlen h); (rfl))
 | ((with_reducible apply go_lenL h))
 | ((with_reducible apply go_ix h); (omega))
 | ((with_reducible apply go_elN h); (case hi => omega))
 | ((with_reducible apply go_fa h); (omega); (omega))
 | ((with_reducible apply go_f1 h); (case hi => omega); (case hx => exact inferInstance))
 | ((with_reducible apply go_rf1 h); (case hi => omega); (case hx => exact inferInstance); (case hv => rfl))
 | ((with_reducible apply go_rel h); (case hi => omega); (case hv => rfl))
))
    refine eDelete_sat (h.front (A := MapH kI bV ov op) (by repeat (first | exact .here | apply Fnt.there))) KIr um70 r.id fun w h2 => ?_
    exact close_piece (by omega) (by omega) (by omega) hcl hrc (openI_rem ho hn) hf2 (h2.get (by (repeat (first | exact .done | (refine .pick (by repeat (first | exact .here | apply Fnt.there)) ?_) | refine .skip ?_)))) fun rs' op' w' h1 h2 h3 => hE last next rs' op' w' (by omega) (by omega) h1 h2 h3
  · have e1 : decide (x = 1) = false := by simpa using h1
    have e3 : decide (x = 3) = false := by simpa using h3
    (repeat (first
 | (simp (disch := omega) only [evA, evB, bAdd_i64, bSub_i64, ptr, Nat.zero_add, Bool.not_true, Bool.not_false, Option.isNone_some, Option.isNone_none, Option.isSome_some, Option.isSome_none, decide_true, decide_false, eq_self, true_and, and_assoc, e1, e3])
 | ((with_reducible apply go_ld1 h))
 | ((with_reducible apply go_ldA h); (rfl))
 | ((with_reducible apply go_ldN h))
 | ((with_reducible apply go_st h); intro _ h)
 | ((with_reducible apply go_stA h); (rfl); (rfl); (first | rfl | simp [OneV.o]); intro _ h)
 | ((with_reducible apply go_stN h); (rfl); (first | rfl | simp [OneV.o]); intro _ h)
 | ((with_reducible apply go_box h); rfl; intro _ _ h)
 | ((with_reducible apply go_rd h); (rfl))
 | ((with_reducible apply go_rdN h); (rfl))
 | ((with_reducible apply go_rlen h); (rfl))
 | ((with_reducible apply go_lenL h))
 | ((with_reducible apply go_ix h); (omega))
 | ((with_reducible apply go_elN h); (case hi => omega))
 | ((with_reducible apply go_fa h); (omega); (omega))
 | ((with_reducible apply go_f1 h); (case hi => omega); (case hx => exact inferInstance))
 | ((with_reducible apply go_rf1 h); (case hi => omega); (case hx => exact inferInstance); (case hv => rfl))
 | ((with_reducible apply go_rel h); (case hi => omega); (case hv => rfl))
))
    refine go_look1 h (by repeat (first | exact .here | apply Fnt.there)) KIr um70 z4 r'.id ?_
    rw [e, openI_get ho hr]
    (repeat (first
 | (simp (disch := omega) only [evA, evB, bAdd_i64, bSub_i64, ptr, Nat.zero_add, Bool.not_true, Bool.not_false, Option.isNone_some, Option.isNone_none, Option.isSome_some, Option.isSome_none, decide_true, decide_false, eq_self, true_and, and_assoc, Option.elim_some])
 | ((with_reducible apply go_ld1 h))
 | ((with_reducible apply go_ldA h); (rfl))
 | ((with_reducible apply go_ldN h))
 | ((with_reducible apply go_st h); intro _ h)
 | ((with_reducible apply go_stA h); (rfl); (rfl); (first | rfl | simp [OneV.o]); intro _ h)
 | ((with_reducible apply go_stN h); (rfl); (first | rfl | simp [OneV.o]); intro _ h)
 | ((with_reducible apply go_box h); rfl; intro _ _ h)
 | ((with_reducible apply go_rd h); (rfl))
 | ((with_reducible apply go_rdN h); (rfl))
 | ((with_reducible apply go_rlen h); (rfl))
 | ((with_reducible apply go_lenL h))
 | ((with_reducible apply go_ix h); (omega))
 | ((with_reducible apply go_elN h); (case hi => omega))
 | ((with_reducible apply go_fa h); (omega); (omega))
 | ((with_reducible apply go_f1 h); (case hi => omega); (case hx => exact inferInstance))
 | ((with_reducible apply go_rf1 h); (case hi => omega); (case hx => exact inferInstance); (case hv => rfl))
 | ((with_reducible apply go_rel h); (case hi => omega); (case hv => rfl))
))
    exact close_piece (by omega) (by omega) (by omega) hcl hrc (openI_repl ho) hf2 (h.get (by (repeat (first | exact .done | (refine .pick (by repeat (first | exact .here | apply Fnt.there)) ?_) | refine .skip ?_)))) fun rs' op' w' h1 h2 h3 => hE last next rs' op' w' (by omega) (by omega) h1 h2 h3
theorem bo_loop (hl : l.length ≤ 140737488351232) (hrd : Rd w0 1 s0 l.length (l.flatMap cI)) (hcl : cl.length ≤ 140737488351232) (hrc : Rd w0 1 s1 cl.length (cl.flatMap cI)) (hK : ∀ w', Sat w0 L w' → K (.bool true) w') :
    ∀ (d i : Nat) (last next : Int) (rs : List Row) (op : List (Int × Bool)) (w : World), l.length - i < d → i ≤ 100 → i ≤ l.length → 0 ≤ last ∧ last < next → next ≤ (i : Int) + 1 → OpenI op rs → FitRs rs →
      Sat w0 (MapH kI bV ov op :: BoardA b 8 next rs :: L) w → F8_2L d s0 s1 b ov (.int .i64 last) (.int .i64 i) w K := by
  intro d
  induction d with
  | zero => intro i _ _ _ _ _ hd; omega
  | succ d ih =>
    intro i last next rs op w hd hi hil hlast hnx ho hf h
    rw [F8_2L]
    unfold F8_4 F8_4b
    have hlen := hrd.len
    have fin : F8_3 w K := by
      unfold F8_3 F8_3b
      exact hK _ (h.get (by (repeat (first | exact .done | (refine .pick (by repeat (first | exact .here | apply Fnt.there)) ?_) | refine .skip ?_))))
    by_cases g : i < l.length
    · have g' : decide ((i : Int) < (l.length : Int)) = true := by simpa using g
      by_cases g2 : i < 100
      · have g2' : decide ((i : Int) < 100) = true := by simp; omega
        (repeat (first
 | (simp (disch := omega) only [evA, evB, bAdd_i64, bSub_i64, ptr, Nat.zero_add, Bool.not_true, Bool.not_false, Option.isNone_some, Option.isNone_none, Option.isSome_some, Option.isSome_none, decide_true, decide_false, eq_self, true_and, and_assoc, hlen, g', g2'])
 | ((with_reducible apply go_ld1 h))
 | ((with_reducible apply go_ldA h); (rfl))
 | ((with_reducible apply go_ldN h))
 | ((with_reducible apply go_st h); intro _ h)
 | ((with_reducible apply go_stA h); (rfl); (rfl); (first | rfl | simp [OneV.o]); intro _ h)
 | ((with_reducible apply go_stN h); (rfl); (first | rfl | simp [OneV.o]); intro _ h)
 | ((with_reducible apply go_box h); rfl; intro _ _ h)
 | ((with_reducible apply go_rd h); (rfl))
 | ((with_reducible apply go_rdN h); (rfl))
 | ((with_reducible apply go_rlen h); (rfl))
 | ((with_reducible apply go_lenL h))
 | ((with_reducible apply go_ix h); (omega))
 | ((with_reducible apply go_elN h); (case hi => omega))
 | ((with_reducible apply go_fa h); (omega); (omega))
 | ((with_reducible apply go_f1 h); (case hi => omega); (case hx => exact inferInstance))
 | ((with_reducible apply go_rf1 h); (case hi => omega); (case hx => exact inferInstance); (case hv => rfl))
 | ((with_reducible apply go_rel h); (case hi => omega); (case hv => rfl))
))
        unfold F8_5
        refine raise_piece g2 g hrd hcl hrc hlast hnx ho hf h fun last' next' rs' op' w' h1 h2 h3 h4 h5 => ?_
        unfold F8_6 F8_6b
        (repeat (first
 | (simp (disch := omega) only [evA, evB, bAdd_i64, bSub_i64, ptr, Nat.zero_add, Bool.not_true, Bool.not_false, Option.isNone_some, Option.isNone_none, Option.isSome_some, Option.isSome_none, decide_true, decide_false, eq_self, true_and, and_assoc])
 | ((with_reducible apply go_ld1 h))
 | ((with_reducible apply go_ldA h); (rfl))
 | ((with_reducible apply go_ldN h))
 | ((with_reducible apply go_st h); intro _ h)
 | ((with_reducible apply go_stA h); (rfl); (rfl); (first | rfl | simp [OneV.o]); intro _ h)
 | ((with_reducible apply go_stN h); (rfl); (first | rfl | simp [OneV.o]); intro _ h)
 | ((with_reducible apply go_box h); rfl; intro _ _ h)
 | ((with_reducible apply go_rd h); (rfl))
 | ((with_reducible apply go_rdN h); (rfl))
 | ((with_reducible apply go_rlen h); (rfl))
 | ((with_reducible apply go_lenL h))
 | ((with_reducible apply go_ix h); (omega))
 | ((with_reducible apply go_elN h); (case hi => omega))
 | ((with_reducible apply go_fa h); (omega); (omega))
 | ((with_reducible apply go_f1 h); (case hi => omega); (case hx => exact inferInstance))
 | ((with_reducible apply go_rf1 h); (case hi => omega); (case hx => exact inferInstance); (case hv => rfl))
 | ((with_reducible apply go_rel h); (case hi => omega); (case hv => rfl))
))
        exact ih (i + 1) last' next' rs' op' w' (by omega) (by omega) (by omega) h1 (by omega) h3 h4 h5
      · have g2' : decide ((i : Int) < 100) = false := by simp; omega
        (repeat (first
 | (simp (disch := omega) only [evA, evB, bAdd_i64, bSub_i64, ptr, Nat.zero_add, Bool.not_true, Bool.not_false, Option.isNone_some, Option.isNone_none, Option.isSome_some, Option.isSome_none, decide_true, decide_false, eq_self, true_and, and_assoc, hlen, g', g2'])
 | ((with_reducible apply go_ld1 h))
 | ((with_reducible apply go_ldA h); (rfl))
 | ((with_reducible apply go_ldN h))
 | ((with_reducible apply go_st h); intro _ h)
 | ((with_reducible apply go_stA h); (rfl); (rfl); (first | rfl | simp [OneV.o]); intro _ h)
 | ((with_reducible apply go_stN h); (rfl); (first | rfl | simp [OneV.o]); intro _ h)
 | ((with_reducible apply go_box h); rfl; intro _ _ h)
 | ((with_reducible apply go_rd h); (rfl))
 | ((with_reducible apply go_rdN h); (rfl))
 | ((with_reducible apply go_rlen h); (rfl))
 | ((with_reducible apply go_lenL h))
 | ((with_reducible apply go_ix h); (omega))
 | ((with_reducible apply go_elN h); (case hi => omega))
 | ((with_reducible apply go_fa h); (omega); (omega))
 | ((with_reducible apply go_f1 h); (case hi => omega); (case hx => exact inferInstance))
 | ((with_reducible apply go_rf1 h); (case hi => omega); (case hx => exact inferInstance); (case hv => rfl))
 | ((with_reducible apply go_rel h); (case hi => omega); (case hv => rfl))
))
        exact fin
    · have g' : decide ((i : Int) < (l.length : Int)) = false := by simpa using g
      (repeat (first
 | (simp (disch := omega) only [evA, evB, bAdd_i64, bSub_i64, ptr, Nat.zero_add, Bool.not_true, Bool.not_false, Option.isNone_some, Option.isNone_none, Option.isSome_some, Option.isSome_none, decide_true, decide_false, eq_self, true_and, and_assoc, hlen, g'])
 | ((with_reducible apply go_ld1 h))
 | ((with_reducible apply go_ldA h); (rfl))
 | ((with_reducible apply go_ldN h))
 | ((with_reducible apply go_st h); intro _ h)
 | ((with_reducible apply go_stA h); (rfl); (rfl); (first | rfl | simp [OneV.o]); intro _ h)
 | ((with_reducible apply go_stN h); (rfl); (first | rfl | simp [OneV.o]); intro _ h)
 | ((with_reducible apply go_box h); rfl; intro _ _ h)
 | ((with_reducible apply go_rd h); (rfl))
 | ((with_reducible apply go_rdN h); (rfl))
 | ((with_reducible apply go_rlen h); (rfl))
 | ((with_reducible apply go_lenL h))
 | ((with_reducible apply go_ix h); (omega))
 | ((with_reducible apply go_elN h); (case hi => omega))
 | ((with_reducible apply go_fa h); (omega); (omega))
 | ((with_reducible apply go_f1 h); (case hi => omega); (case hx => exact inferInstance))
 | ((with_reducible apply go_rf1 h); (case hi => omega); (case hx => exact inferInstance); (case hv => rfl))
 | ((with_reducible apply go_rel h); (case hi => omega); (case hv => rfl))
))
      exact fin
theorem boardOnce_spec (hrd : Rd w0 1 s0 l.length (l.flatMap cI)) (hrt : Rd w0 1 s1 cl.length (cl.flatMap cI)) (hl : l.length ≤ 140737488351232) (ht : cl.length ≤ 140737488351232) (h : Sat w0 L w) (hK : ∀ w', Sat w0 L w' → K (.bool true) w') : callP G8 [s0, s1] w K := by
  refine c8 ?_
  unfold F8 F8_1 F8_1b
  refine banew_spec (n := 8) (by omega) (by omega) h fun p w h => ?_
  (repeat (first
 | (simp (disch := omega) only [evA, evB, bAdd_i64, bSub_i64, ptr, Nat.zero_add, Bool.not_true, Bool.not_false, Option.isNone_some, Option.isNone_none, Option.isSome_some, Option.isSome_none, decide_true, decide_false, eq_self, true_and, and_assoc])
 | (refine go_some (bEq_nilp up23 ..) ?_)
 | ((with_reducible apply go_ld1 h))
 | ((with_reducible apply go_ldA h); (rfl))
 | ((with_reducible apply go_ldN h))
 | ((with_reducible apply go_st h); intro _ h)
 | ((with_reducible apply go_stA h); (rfl); (rfl); (first | rfl | simp [OneV.o]); intro _ h)
 | ((with_reducible apply go_stN h); (rfl); (first | rfl | simp [OneV.o]); intro _ h)
 | ((with_reducible apply go_box h); rfl; intro _ _ h)
 | ((with_reducible apply go_rd h); (rfl))
 | ((with_reducible apply go_rdN h); (rfl))
 | ((with_reducible apply go_rlen h); (rfl))
 | ((with_reducible apply go_lenL h))
 | ((with_reducible apply go_ix h); (omega))
 | ((with_reducible apply go_elN h); (case hi => omega))
 | ((with_reducible apply go_fa h); (omega); (omega))
 | ((with_reducible apply go_f1 h); (case hi => omega); (case hx => exact inferInstance))
 | ((with_reducible apply go_rf1 h); (case hi => omega); (case hx => exact inferInstance); (case hv => rfl))
 | ((with_reducible apply go_rel h); (case hi => omega); (case hv => rfl))
))
  refine works20_spec h fun w h => ?_
  (repeat (first
 | (simp (disch := omega) only [evA, evB, bAdd_i64, bSub_i64, ptr, Nat.zero_add, Bool.not_true, Bool.not_false, Option.isNone_some, Option.isNone_none, Option.isSome_some, Option.isSome_none, decide_true, decide_false, eq_self, true_and, and_assoc])
 | ((with_reducible apply go_ld1 h))
 | ((with_reducible apply go_ldA h); (rfl))
 | ((with_reducible apply go_ldN h))
 | ((with_reducible apply go_st h); intro _ h)
 | ((with_reducible apply go_stA h); (rfl); (rfl); (first | rfl | simp [OneV.o]); intro _ h)
 | ((with_reducible apply go_stN h); (rfl); (first | rfl | simp [OneV.o]); intro _ h)
 | ((with_reducible apply go_box h); rfl; intro _ _ h)
 | ((with_reducible apply go_rd h); (rfl))
 | ((with_reducible apply go_rdN h); (rfl))
 | ((with_reducible apply go_rlen h); (rfl))
 | ((with_reducible apply go_lenL h))
 | ((with_reducible apply go_ix h); (omega))
 | ((with_reducible apply go_elN h); (case hi => omega))
 | ((with_reducible apply go_fa h); (omega); (omega))
 | ((with_reducible apply go_f1 h); (case hi => omega); (case hx => exact inferInstance))
 | ((with_reducible apply go_rf1 h); (case hi => omega); (case hx => exact inferInstance); (case hv => rfl))
 | ((with_reducible apply go_rel h); (case hi => omega); (case hv => rfl))
))
  refine eMakeMap_sat kI bV h fun ov w h => ?_
  unfold F8_2
  refine bo_loop (L := L) hl hrd ht hrt hK fuel 0 0 1 [] [] w (by unfold fuel; omega) (by omega) (by omega) (by omega) (by omega) ?_ (by intro r hr; simp at hr) h
  intro k
  simp [aGet]
end
theorem lawBoardOnce {W : World} {v : Value} {n : Nat} {cs : List Value} (rd : Rd W 1 v n cs) (hn : n ≤ 140737488351232) (ft : ∀ i, i < n → FitL2 W 140737488351232 [.int .i64] ((cs.drop (i * 1)).take 1))
    {v' : Value} {n' : Nat} {cs' : List Value} (rd' : Rd W 1 v' n' cs') (hn' : n' ≤ 140737488351232) (ft' : ∀ i, i < n' → FitL2 W 140737488351232 [.int .i64] ((cs'.drop (i * 1)).take 1)) :
    callP G8 [v, v'] W fun v w' => v = .bool true ∧ Sat W [] w' := by
  obtain ⟨l, rfl, rfl, _⟩ := fit_list2 (fun c h => fit_intB h) n cs rd.length ft
  obtain ⟨l', rfl, rfl, _⟩ := fit_list2 (fun c h => fit_intB h) n' cs' rd'.length ft'
  exact boardOnce_spec rd rd' hn hn' (Sat.start W) fun w' h => ⟨rfl, h⟩
end Go.Proofs.Gong
