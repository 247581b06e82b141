/- A part of the proofs: what stands below it, told in lemmas. No condition. -/
import Derived.Test.YtpbfmiphjcmjjaaP1
import Derived.Test.YtpbfmiphjcmjjaaP2
set_option linter.all false

/- Board2 -/
namespace Go.Proofs.Gong
open Go Go.Sx Go.Proofs
set_option linter.all false
set_option maxRecDepth 100000
def T39 : List (Nat × FnT) := [(15, G15)]
def F39 (x0 : Value) (w : World) (K : Value → World → Prop) : Prop :=
eAlloc Try.prog 31 w fun v2 w1 =>
callP G15 [x0, (.int .i64 1048576)] w1 fun v4 w3 =>
bindP (bRem v4 (.int .i64 3)) fun v5 =>
bindP (bAdd (.int .i64 97) v5) fun v6 =>
bindP (cInt .u8 v6) fun v7 =>
eBuildSl Try.prog 29 1 [(0, v7)] w3 fun v9 w8 =>
bindP (cBytes v9 w8) fun v10 =>
bindP (bQuo v4 (.int .i64 3)) fun v11 =>
bindP (bRem v11 (.int .i64 2)) fun v12 =>
bindP (bAdd (.int .i64 112) v12) fun v13 =>
bindP (cInt .u8 v13) fun v14 =>
eBuildSl Try.prog 29 1 [(0, v14)] w8 fun v16 w15 =>
bindP (cBytes v16 w15) fun v17 =>
bindP (bQuo v4 (.int .i64 6)) fun v18 =>
bindP (bRem v18 (.int .i64 6)) fun v19 =>
bindP (bQuo v4 (.int .i64 36)) fun v20 =>
bindP (bRem v20 (.int .i64 20)) fun v21 =>
bindP (bAdd (.int .i64 65) v21) fun v22 =>
bindP (cInt .u8 v22) fun v23 =>
eBuildSl Try.prog 29 1 [(0, v23)] w15 fun v25 w24 =>
bindP (cBytes v25 w24) fun v26 =>
bindP (fBuild Try.prog 31 [(0, v10), (1, v17), (3, v19), (4, v26)]) fun v27 =>
bindW (st 5 v2 v27 w24) fun w28 =>
bindP (ldN 5 v2 w28) fun v30 =>
K v30 w28
def G39 : FnT := fun args w K => on1 (fun x0 => F39 x0 w K) args
theorem c39 {x0 : Value} {w : World} {K : Value → World → Prop} (h : F39 x0 w K) : callP G39 [x0] w K := callP_intro (on1_mk (p := fun x0 => F39 x0 w K) h)
theorem ok39 : OkF Try.prog 39 G39 := by
  refine okF_of (tab_ok (l := T39) ⟨ok15, trivial⟩) mixed (n := fuel) Try.func39 Try.call39 fun args w K h => ?_
  obtain ⟨x0, rfl, hh⟩ := of_on1 h
  exact fnD_list (c := bodyOf Try.f39) (by kernel_rfl) (by kernel_rfl) (Eq.mp (by kernel_rfl) hh)
def F40 (x0 : Value) (x1 : Value) (w : World) (K : Value → World → Prop) : Prop :=
eAlloc Try.prog 33 w fun v2 w1 =>
bindP (pNil x0) fun v3 =>
bindP (pFieldAddr 2 v3) fun v4 =>
bindP (ld1 v4 w1) fun v5 =>
bindP (fLook Try.prog 107 v5 x1 true w1) fun v6 =>
bindP (pTuple v6 0) fun v7 =>
bindP (pTuple v6 1) fun v8 =>
eAlloc Try.prog 33 w1 fun v10 w9 =>
bindW (st 11 v10 v7 w9) fun w11 =>
bindP (uNot v8) fun v13 =>
ifB v13 (
bindP (fBuild Try.prog 33 []) fun v14 =>
bindW (st 11 v2 v14 w11) fun w15 =>
bindP (ldN 11 v2 w15) fun v17 =>
K (.tuple #[v17, (.int .i64 5)]) w15) (
bindP (ldN 11 v10 w11) fun v18 =>
callP G64 [x0, v18] w11 fun _ w19 =>
bindP (ldN 11 v10 w19) fun v21 =>
bindW (st 11 v2 v21 w19) fun w22 =>
bindP (ldN 11 v2 w22) fun v24 =>
K (.tuple #[v24, (.int .i64 0)]) w22)
def G40 : FnT := fun args w K => on2 (fun x0 x1 => F40 x0 x1 w K) args
def Lay87_ren : Go.Shelf.Ren := ⟨fun | 6 => 87 | 15 => 115 | 14 => 119 | 28 => 148 | 29 => 149 | 20 => 150 | 21 => 151 | 22 => 152 | 23 => 153 | 24 => 154 | 25 => 155 | 26 => 156 | 27 => 157 | 46 => 169 | 47 => 165 | 48 => 166 | 49 => 170 | 50 => 171 | 57 => 187 | n => n, fun | 22 => 74 | 24 => 33 | 25 => 143 | 3 => 3 | 39 => 171 | 0 => 0 | 53 => 197 | 55 => 199 | 4 => 4 | 46 => 191 | 45 => 190 | 50 => 112 | 5 => 5 | 9 => 9 | 66 => 211 | 70 => 215 | 76 => 228 | 77 => 224 | n => n, fun | n => n⟩
theorem Lay87 : Go.Proofs.SlLaysF0.n6 Try.prog Lay87_ren := {
  mixed := by kernel_rfl
  f6 := ⟨Try.f87.name, by decide, Try.func87.trans (congrArg some (by kernel_rfl))⟩
  f14 := ⟨Try.f119.name, by decide, Try.func119.trans (congrArg some (by kernel_rfl))⟩
  f15 := Try.func115.trans (congrArg some (by kernel_rfl))
  f20 := ⟨Try.f150.name, by decide, Try.func150.trans (congrArg some (by kernel_rfl))⟩
  f21 := ⟨Try.f151.name, by decide, Try.func151.trans (congrArg some (by kernel_rfl))⟩
  f22 := ⟨Try.f152.name, by decide, Try.func152.trans (congrArg some (by kernel_rfl))⟩
  f23 := ⟨Try.f153.name, by decide, Try.func153.trans (congrArg some (by kernel_rfl))⟩
  f24 := ⟨Try.f154.name, by decide, Try.func154.trans (congrArg some (by kernel_rfl))⟩
  f25 := ⟨Try.f155.name, by decide, Try.func155.trans (congrArg some (by kernel_rfl))⟩
  f26 := ⟨Try.f156.name, by decide, Try.func156.trans (congrArg some (by kernel_rfl))⟩
  f27 := ⟨Try.f157.name, by decide, Try.func157.trans (congrArg some (by kernel_rfl))⟩
  f28 := Try.func148.trans (congrArg some (by kernel_rfl))
  f29 := Try.func149.trans (congrArg some (by kernel_rfl))
  f46 := ⟨Try.f169.name, by decide, Try.func169.trans (congrArg some (by kernel_rfl))⟩
  f47 := Try.func165.trans (congrArg some (by kernel_rfl))
  f48 := Try.func166.trans (congrArg some (by kernel_rfl))
  f49 := ⟨Try.f170.name, by decide, Try.func170.trans (congrArg some (by kernel_rfl))⟩
  f50 := ⟨Try.f171.name, by decide, Try.func171.trans (congrArg some (by kernel_rfl))⟩
  f57 := ⟨Try.f187.name, by decide, Try.func187.trans (congrArg some (by kernel_rfl))⟩
  t0 := Try.underlying0
  a0 := Try.isAgg0
  z0 := Try.sizeOf0
  v0 := Try.zeroValue0
  t3 := Try.underlying3
  a3 := Try.isAgg3
  z3 := Try.sizeOf3
  v3 := Try.zeroValue3
  t4 := Try.underlying4
  a4 := Try.isAgg4
  z4 := Try.sizeOf4
  v4 := Try.zeroValue4
  t5 := Try.underlying5
  a5 := Try.isAgg5
  z5 := Try.sizeOf5
  v5 := Try.zeroValue5
  t9 := Try.underlying9
  a9 := Try.isAgg9
  z9 := Try.sizeOf9
  v9 := Try.zeroValue9
  t22 := Try.underlying74
  a22 := Try.isAgg74
  z22 := Try.sizeOf74
  v22 := Try.zeroValue74
  t25 := Try.underlying143
  a25 := Try.isAgg143
  z25 := Try.sizeOf143
  v25 := Try.zeroValue143
  t39 := Try.underlying171
  a39 := Try.isAgg171
  z39 := Try.sizeOf171
  v39 := Try.zeroValue171
  t45 := Try.underlying190
  a45 := Try.isAgg190
  z45 := Try.sizeOf190
  v45 := Try.zeroValue190
  t46 := Try.underlying191
  a46 := Try.isAgg191
  z46 := Try.sizeOf191
  v46 := Try.zeroValue191
  t50 := Try.underlying112
  a50 := Try.isAgg112
  z50 := Try.sizeOf112
  v50 := Try.zeroValue112
  t53 := Try.underlying197
  a53 := Try.isAgg197
  z53 := Try.sizeOf197
  v53 := Try.zeroValue197
  t55 := Try.underlying199
  a55 := Try.isAgg199
  z55 := Try.sizeOf199
  v55 := Try.zeroValue199
  t66 := Try.underlying211
  a66 := Try.isAgg211
  z66 := Try.sizeOf211
  v66 := Try.zeroValue211
  t70 := Try.underlying215
  a70 := Try.isAgg215
  z70 := Try.sizeOf215
  v70 := Try.zeroValue215
  t76 := Try.underlying228
  a76 := Try.isAgg228
  z76 := Try.sizeOf228
  v76 := Try.zeroValue228
  t77 := Try.underlying224
  a77 := Try.isAgg224
  z77 := Try.sizeOf224
  v77 := Try.zeroValue224 }
def G87 : FnT := gSortF Try.prog 11 33
theorem ok87 : OkF Try.prog 87 G87 := okSortF Lay87 (fun w => by kernel_rfl) (fun w => by kernel_rfl) Try.call87
def F41_5b (s8 : Value) (w : World) (K : Value → World → Prop) : Prop :=
callP G87 [s8, (.func (.func 88) #[] #[])] w fun _ w1 =>
K (.tuple #[s8, (.int .i64 0)]) w1
def F41_5 (s8 : Value) (w : World) (K : Value → World → Prop) : Prop := F41_5b s8 w K
def F41_4b (s0 : Value) (s8 : Value) (s43 : Value) (s44 : Value) (s45 : Value) (w : World) (_K : Value → World → Prop) (Y0 : Value → Value → Value → Value → Value → World → Prop) (Y1 : Value → World → Prop) : Prop :=
bindP (bLt s45 s44) fun v3 =>
ifB v3 (
bindP (pIndexL 11 s43 s45) fun v4 =>
bindP (ldN 11 v4 w) fun v5 =>
eAlloc Try.prog 33 w fun v7 w6 =>
bindW (st 11 v7 v5 w6) fun w8 =>
bindP (ldN 11 v7 w8) fun v10 =>
callP G64 [s0, v10] w8 fun _ w11 =>
bindP (bAdd s45 (.int .i64 1)) fun v13 =>
Y0 s0 s8 s43 s44 v13 w11) (
Y1 s8 w)
def F41_4L : Nat → Value → Value → Value → Value → Value → World → (Value → World → Prop) → Prop
  | 0, _, _, _, _, _, _, _ => False
  | n + 1, s0, s8, s43, s44, s45, w, K => F41_4b s0 s8 s43 s44 s45 w K (fun a0 a8 a43 a44 a45 w => F41_4L n a0 a8 a43 a44 a45 w K) (fun a8 w => F41_5 a8 w K)
def F41_4 (s0 : Value) (s8 : Value) (s43 : Value) (s44 : Value) (s45 : Value) (w : World) (K : Value → World → Prop) : Prop := F41_4L fuel s0 s8 s43 s44 s45 w K
def F41_3b (s0 : Value) (s8 : Value) (w : World) (_K : Value → World → Prop) (Y0 : Value → Value → Value → Value → Value → World → Prop) : Prop :=
bindP (lenL s8) fun v14 =>
Y0 s0 s8 s8 v14 (.int .i64 0) w
def F41_3 (s0 : Value) (s8 : Value) (w : World) (K : Value → World → Prop) : Prop := F41_3b s0 s8 w K (fun a0 a8 a43 a44 a45 w => F41_4 a0 a8 a43 a44 a45 w K)
def F41_2b (s0 : Value) (s1 : Value) (s2 : Value) (s8 : Value) (s28 : Value) (w : World) (_K : Value → World → Prop) (Y0 : Value → Value → Value → Value → Value → World → Prop) (Y1 : Value → Value → World → Prop) : Prop :=
eNext s28 false w fun v16 w15 =>
bindP (pTuple v16 0) fun v17 =>
ifB v17 (
bindP (fEntry s28 w15) fun v18 =>
bindP (pTuple v18 1) fun v19 =>
eAlloc Try.prog 33 w15 fun v21 w20 =>
bindW (st 11 v21 v19 w20) fun w22 =>
bindP (pFieldAddr 8 v21) fun v24 =>
bindP (ld1 v24 w22) fun v25 =>
bindP (bSub s1 s2) fun v26 =>
bindP (bLe v25 v26) fun v27 =>
ifB v27 (
bindP (ldN 11 v21 w22) fun v28 =>
eBuildSl Try.prog 74 1 [(0, v28)] w22 fun v30 w29 =>
eAppend Try.prog 74 74 s8 v30 w29 fun v32 w31 =>
Y0 s0 s1 s2 v32 s28 w31) (
Y0 s0 s1 s2 s8 s28 w22)) (
Y1 s0 s8 w15)
def F41_2L : Nat → Value → Value → Value → Value → Value → World → (Value → World → Prop) → Prop
  | 0, _, _, _, _, _, _, _ => False
  | n + 1, s0, s1, s2, s8, s28, w, K => F41_2b s0 s1 s2 s8 s28 w K (fun a0 a1 a2 a8 a28 w => F41_2L n a0 a1 a2 a8 a28 w K) (fun a0 a8 w => F41_3 a0 a8 w K)
def F41_2 (s0 : Value) (s1 : Value) (s2 : Value) (s8 : Value) (s28 : Value) (w : World) (K : Value → World → Prop) : Prop := F41_2L fuel s0 s1 s2 s8 s28 w K
def F41_1b (s0 : Value) (s1 : Value) (s2 : Value) (w : World) (K : Value → World → Prop) (Y0 : Value → Value → Value → Value → Value → World → Prop) : Prop :=
callP G62 [s1] w fun v34 w33 =>
bindP (uNot v34) fun v35 =>
stepM (gd false v35) s2 fun v36 =>
Sx.stepG (gd false v35) (bLt v36 (.int .i64 1)) fun v37 =>
bindP (pPick v35 (.bool true) v37) fun v38 =>
stepM (gd false v38) s2 fun v39 =>
Sx.stepG (gd false v38) (bGt v39 (.int .i64 2305843009213693952)) fun v40 =>
bindP (pPick v38 (.bool true) v40) fun v41 =>
ifB v41 (
K (.tuple #[(.slice none 0 0), (.int .i64 1)]) w33) (
bindP (pNil s0) fun v42 =>
bindP (pFieldAddr 2 v42) fun v43 =>
bindP (ld1 v43 w33) fun v44 =>
eRange Try.prog 107 v44 w33 fun v46 w45 =>
Y0 s0 s1 s2 (.slice none 0 0) v46 w45)
def F41_1 (s0 : Value) (s1 : Value) (s2 : Value) (w : World) (K : Value → World → Prop) : Prop := F41_1b s0 s1 s2 w K (fun a0 a1 a2 a8 a28 w => F41_2 a0 a1 a2 a8 a28 w K)
def F41 (x0 : Value) (x1 : Value) (x2 : Value) (w : World) (K : Value → World → Prop) : Prop := F41_1 x0 x1 x2 w K
def G41 : FnT := fun args w K => on3 (fun x0 x1 x2 => F41 x0 x1 x2 w K) args
noncomputable def aB158 := bodyOf Try.f158
noncomputable def aF158 := blkB (sB (sA (sB aB158)))
noncomputable def vB121 := bodyOf Try.f121
noncomputable def vL121 := loopB (blkB (sB vB121))
noncomputable def vM121 := blkB (sB (sB vL121))
def G158 : FnT := gAppS Try.prog 33 121 11 128
theorem ok158 : OkF Try.prog 158 G158 := by
  intro args w K ⟨κ, ν, ek, ev, fv, m, mv, bx, mt, w0, L, ha, C, hev, hfb, hbd, hs, hk⟩
  subst ha
  refine .inl ⟨Try.call158 _ _, ?_⟩
  refine (appendSeq_ok (fnF := Try.f158) (f := 158) (g := 121) (tS := 74) (tV := 33) (i0 := 0) (i1 := 1) (i2 := 2) (i3 := 3) (i4 := 4) (ops0 := opsOf (sA aB158)) (ops1 := opsOf (sA (sA (sB aB158)))) (opsA := opsOf (rfA aF158)) (opsB := opsOf (blkB (rfB aF158))) (ops4 := opsOf (sA (sB (sB aB158)))) C Try.func158 (by kernel_rfl) (by kernel_rfl) (by kernel_rfl) (fun e w k => by kernel_rfl) (fun e w k => by kernel_rfl) (fun e w k => by kernel_rfl) (fun e w k => by kernel_rfl) (fun e w k => by kernel_rfl) u74 sl74 ss74 hbd hfb _ z33 (by kernel_rfl) Try.call121 hev ?_ hs).mono ?_
  · intro l J W L' hY h
    exact values_ok (fn := Try.f121) (f := 121) (es := 11) (tM := 107) (tV := 33) (fv := fv) (i0 := 0) (i1 := 1) (i2 := 2) (i3 := 3) (ops0 := opsOf (sA vB121)) (ops1 := opsOf (sA vL121)) (ops2 := opsOf (sA vM121)) (q1 := opAt (opsOf (sA (sB vM121))) 0) (q2 := opAt (opsOf (sA (sB vM121))) 1) (q3 := opAt (opsOf (sA (sB vM121))) 2) (q4 := opAt (opsOf (sA (sB vM121))) 3) (ats := #[33]) Try.func121 (by kernel_rfl) (by kernel_rfl) (by kernel_rfl) (fun e w k => by kernel_rfl) (fun e w k => by kernel_rfl) (fun e w k => by kernel_rfl) (fun e w k => by kernel_rfl) (fun e w k => by kernel_rfl) (by kernel_rfl) (by kernel_rfl) (by kernel_rfl) um107 (fun x => ⟨hev x, C.len x, C.one x⟩) _ z33 (by kernel_rfl) J hY h
  · rintro e w' ⟨v, rfl, xs, hp, h⟩
    exact ⟨v, rfl, hk xs v w' hp h⟩
def T120 : List (Nat × FnT) := [(158, G158)]
def F120 (x0 : Value) (w : World) (K : Value → World → Prop) : Prop :=
callP G158 [(.slice none 0 0), x0] w fun v2 w1 =>
K v2 w1
def G120 : FnT := fun args w K => on1 (fun x0 => F120 x0 w K) args
theorem c120 {x0 : Value} {w : World} {K : Value → World → Prop} (h : F120 x0 w K) : callP G120 [x0] w K := callP_intro (on1_mk (p := fun x0 => F120 x0 w K) h)
theorem ok120 : OkF Try.prog 120 G120 := by
  refine okF_of (tab_ok (l := T120) ⟨ok158, trivial⟩) mixed (n := fuel) Try.func120 Try.call120 fun args w K h => ?_
  obtain ⟨x0, rfl, hh⟩ := of_on1 h
  exact fnD_list (c := bodyOf Try.f120) (by kernel_rfl) (by kernel_rfl) (Eq.mp (by kernel_rfl) hh)
def T89 : List (Nat × FnT) := [(87, G87), (120, G120)]
def F89 (x0 : Value) (x1 : Value) (w : World) (K : Value → World → Prop) : Prop :=
callP G120 [x0] w fun v2 w1 =>
callP G87 [v2, x1] w1 fun _ w3 =>
K v2 w3
def G89 : FnT := fun args w K => on2 (fun x0 x1 => F89 x0 x1 w K) args
theorem c89 {x0 x1 : Value} {w : World} {K : Value → World → Prop} (h : F89 x0 x1 w K) : callP G89 [x0, x1] w K := callP_intro (on2_mk (p := fun x0 x1 => F89 x0 x1 w K) h)
theorem ok89 : OkF Try.prog 89 G89 := by
  refine okF_of (tab_ok (l := T89) ⟨ok87, ok120, trivial⟩) mixed (n := fuel) Try.func89 Try.call89 fun args w K h => ?_
  obtain ⟨x0, x1, rfl, hh⟩ := of_on2 h
  exact fnD_list (c := bodyOf Try.f89) (by kernel_rfl) (by kernel_rfl) (Eq.mp (by kernel_rfl) hh)
def T90 : List (Nat × FnT) := []
def F90 (x0 : Value) (w : World) (K : Value → World → Prop) : Prop :=
eBox 107 x0 w fun v2 w1 =>
bindP (some (.func (.func 121) #[] #[v2])) fun v3 =>
K v3 w1
def G90 : FnT := fun args w K => on1 (fun x0 => F90 x0 w K) args
theorem c90 {x0 : Value} {w : World} {K : Value → World → Prop} (h : F90 x0 w K) : callP G90 [x0] w K := callP_intro (on1_mk (p := fun x0 => F90 x0 w K) h)
theorem ok90 : OkF Try.prog 90 G90 := by
  refine okF_of (tab_ok (l := T90) trivial) mixed (n := fuel) Try.func90 Try.call90 fun args w K h => ?_
  obtain ⟨x0, rfl, hh⟩ := of_on1 h
  exact fnD_list (c := bodyOf Try.f90) (by kernel_rfl) (by kernel_rfl) (Eq.mp (by kernel_rfl) hh)
def T42 : List (Nat × FnT) := [(89, G89), (90, G90)]
def F42 (x0 : Value) (w : World) (K : Value → World → Prop) : Prop :=
bindP (pNil x0) fun v1 =>
bindP (pFieldAddr 2 v1) fun v2 =>
bindP (ld1 v2 w) fun v3 =>
callP G90 [v3] w fun v5 w4 =>
callP G89 [v5, (.func (.func 91) #[] #[])] w4 fun v7 w6 =>
K v7 w6
def G42 : FnT := fun args w K => on1 (fun x0 => F42 x0 w K) args
theorem c42 {x0 : Value} {w : World} {K : Value → World → Prop} (h : F42 x0 w K) : callP G42 [x0] w K := callP_intro (on1_mk (p := fun x0 => F42 x0 w K) h)
theorem ok42 : OkF Try.prog 42 G42 := by
  refine okF_of (tab_ok (l := T42) ⟨ok89, ok90, trivial⟩) mixed (n := fuel) Try.func42 Try.call42 fun args w K h => ?_
  obtain ⟨x0, rfl, hh⟩ := of_on1 h
  exact fnD_list (c := bodyOf Try.f42) (by kernel_rfl) (by kernel_rfl) (Eq.mp (by kernel_rfl) hh)
def F8_3b (w : World) (K : Value → World → Prop) : Prop :=
K (.bool true) w
def F8_3 (w : World) (K : Value → World → Prop) : Prop := F8_3b w K
def F8_6b (s0 : Value) (s1 : Value) (s5 : Value) (s7 : Value) (s8 : Value) (s9 : Value) (w : World) (_K : Value → World → Prop) (R3 : Value → Value → Value → Value → Value → Value → World → Prop) : Prop :=
bindP (bAdd s9 (.int .i64 1)) fun v1 =>
R3 s0 s1 s5 s7 s8 v1 w
def F8_6 (s0 : Value) (s1 : Value) (s5 : Value) (s7 : Value) (s8 : Value) (s9 : Value) (w : World) (K : Value → World → Prop) (R3 : Value → Value → Value → Value → Value → Value → World → Prop) : Prop := F8_6b s0 s1 s5 s7 s8 s9 w K R3
def F8_13b (s0 : Value) (s1 : Value) (s5 : Value) (s7 : Value) (s8 : Value) (s9 : Value) (w : World) (K : Value → World → Prop) (R3 : Value → Value → Value → Value → Value → Value → World → Prop) (Y0 : Value → Value → Value → Value → Value → Value → World → Prop) : Prop :=
callP G17 [s5] w fun v3 w2 =>
bindP (lenM s7 w2) fun v4 =>
bindP (bNe Try.prog 3 (.tmp 235) (.tmp 237) v3 v4) fun v5 =>
ifB v5 (
K (.bool false) w2) (
Y0 s0 s1 s5 s7 s8 s9 w2)
def F8_13 (s0 : Value) (s1 : Value) (s5 : Value) (s7 : Value) (s8 : Value) (s9 : Value) (w : World) (K : Value → World → Prop) (R3 : Value → Value → Value → Value → Value → Value → World → Prop) : Prop := F8_13b s0 s1 s5 s7 s8 s9 w K R3 (fun a0 a1 a5 a7 a8 a9 w => F8_6 a0 a1 a5 a7 a8 a9 w K R3)
def F8_12b (s0 : Value) (s1 : Value) (s5 : Value) (s7 : Value) (s8 : Value) (s9 : Value) (s20 : Value) (s200 : Value) (s201 : Value) (s202 : Value) (w : World) (K : Value → World → Prop) (R3 : Value → Value → Value → Value → Value → Value → World → Prop) (Y0 : Value → Value → Value → Value → Value → Value → Value → Value → Value → Value → World → Prop) (Y1 : Value → Value → Value → Value → Value → Value → World → Prop) : Prop :=
bindP (bLt s202 s201) fun v6 =>
ifB v6 (
bindP (pIndexL 11 s200 s202) fun v7 =>
bindP (ldN 11 v7 w) fun v8 =>
eAlloc Try.prog 33 w fun v10 w9 =>
bindW (st 11 v10 v8 w9) fun w11 =>
bindP (pFieldAddr 1 v10) fun v13 =>
bindP (pFieldAddr 0 v13) fun v14 =>
bindP (ld1 v14 w11) fun v15 =>
bindP (pFieldAddr 1 v10) fun v16 =>
bindP (pFieldAddr 1 v16) fun v17 =>
bindP (ld1 v17 w11) fun v18 =>
bindP (pFieldAddr 1 v10) fun v19 =>
bindP (pFieldAddr 2 v19) fun v20 =>
bindP (ld1 v20 w11) fun v21 =>
bindP (fBuild Try.prog 79 [(0, v15), (1, v18), (2, v21)]) fun v22 =>
eAlloc Try.prog 79 w11 fun v24 w23 =>
bindW (st 3 v24 v22 w23) fun w25 =>
bindP (ldN 3 v24 w25) fun v27 =>
bindP (fLook Try.prog 77 s20 v27 false w25) fun v28 =>
stepM (gd false v28) s7 fun v29 =>
Sx.stepG (gd false v28) (pFieldAddr 0 v10) fun v30 =>
Sx.stepG (gd false v28) (ld1 v30 w25) fun v31 =>
Sx.stepG (gd false v28) (fLook Try.prog 70 v29 v31 false w25) fun v32 =>
Sx.stepG (gd false v28) (uNot v32) fun v33 =>
bindP (pPick v28 (.bool true) v33) fun v34 =>
Sx.stepG (gd false v34) (ldN 11 v10 w25) fun v35 =>
stepE (gd false v34) (fun k => callP G18 [v35] w25 k) w25 fun v37 w36 =>
Sx.stepG (gd false v34) (bNe Try.prog 24 (.tmp 228) (.const (.int .i64 0)) v37 (.int .i64 0)) fun v38 =>
bindP (pPick v34 (.bool true) v38) fun v39 =>
ifB v39 (
K (.bool false) w36) (
bindP (ldN 3 v24 w36) fun v40 =>
eMapSet Try.prog 77 s20 v40 (.bool true) w36 fun _ w41 =>
bindP (bAdd s202 (.int .i64 1)) fun v43 =>
Y0 s0 s1 s5 s7 s8 s9 s20 s200 s201 v43 w41)) (
Y1 s0 s1 s5 s7 s8 s9 w)
def F8_12L : Nat → Value → Value → Value → Value → Value → Value → Value → Value → Value → Value → World → (Value → World → Prop) → (Value → Value → Value → Value → Value → Value → World → Prop) → Prop
  | 0, _, _, _, _, _, _, _, _, _, _, _, _, _ => False
  | n + 1, s0, s1, s5, s7, s8, s9, s20, s200, s201, s202, w, K, R3 => F8_12b s0 s1 s5 s7 s8 s9 s20 s200 s201 s202 w K R3 (fun a0 a1 a5 a7 a8 a9 a20 a200 a201 a202 w => F8_12L n a0 a1 a5 a7 a8 a9 a20 a200 a201 a202 w K R3) (fun a0 a1 a5 a7 a8 a9 w => F8_13 a0 a1 a5 a7 a8 a9 w K R3)
def F8_12 (s0 : Value) (s1 : Value) (s5 : Value) (s7 : Value) (s8 : Value) (s9 : Value) (s20 : Value) (s200 : Value) (s201 : Value) (s202 : Value) (w : World) (K : Value → World → Prop) (R3 : Value → Value → Value → Value → Value → Value → World → Prop) : Prop := F8_12L fuel s0 s1 s5 s7 s8 s9 s20 s200 s201 s202 w K R3
def F8_11b (s0 : Value) (s1 : Value) (s5 : Value) (s7 : Value) (s8 : Value) (s9 : Value) (w : World) (_K : Value → World → Prop) (R3 : Value → Value → Value → Value → Value → Value → World → Prop) (Y0 : Value → Value → Value → Value → Value → Value → Value → Value → Value → Value → World → Prop) : Prop :=
eMakeMap none w fun v45 w44 =>
callP G42 [s5] w44 fun v47 w46 =>
bindP (lenL v47) fun v48 =>
Y0 s0 s1 s5 s7 s8 s9 v45 v47 v48 (.int .i64 0) w46
def F8_11 (s0 : Value) (s1 : Value) (s5 : Value) (s7 : Value) (s8 : Value) (s9 : Value) (w : World) (K : Value → World → Prop) (R3 : Value → Value → Value → Value → Value → Value → World → Prop) : Prop := F8_11b s0 s1 s5 s7 s8 s9 w K R3 (fun a0 a1 a5 a7 a8 a9 a20 a200 a201 a202 w => F8_12 a0 a1 a5 a7 a8 a9 a20 a200 a201 a202 w K R3)
def F8_16b (s0 : Value) (s1 : Value) (s5 : Value) (s7 : Value) (s8 : Value) (s9 : Value) (s17 : Value) (w : World) (K : Value → World → Prop) (R3 : Value → Value → Value → Value → Value → Value → World → Prop) (Y0 : Value → Value → Value → Value → Value → Value → World → Prop) : Prop :=
bindP (bNe Try.prog 24 (.tmp 196) (.const (.int .i64 0)) s17 (.int .i64 0)) fun v49 =>
ifB v49 (
K (.bool false) w) (
Y0 s0 s1 s5 s7 s8 s9 w)
def F8_16 (s0 : Value) (s1 : Value) (s5 : Value) (s7 : Value) (s8 : Value) (s9 : Value) (s17 : Value) (w : World) (K : Value → World → Prop) (R3 : Value → Value → Value → Value → Value → Value → World → Prop) : Prop := F8_16b s0 s1 s5 s7 s8 s9 s17 w K R3 (fun a0 a1 a5 a7 a8 a9 w => F8_11 a0 a1 a5 a7 a8 a9 w K R3)
def F8_15b (s0 : Value) (s1 : Value) (s5 : Value) (s7 : Value) (s8 : Value) (s9 : Value) (s17 : Value) (s173 : Value) (s174 : Value) (s175 : Value) (w : World) (K : Value → World → Prop) (R3 : Value → Value → Value → Value → Value → Value → World → Prop) (Y0 : Value → Value → Value → Value → Value → Value → Value → Value → Value → Value → World → Prop) (Y1 : Value → Value → Value → Value → Value → Value → Value → World → Prop) : Prop :=
bindP (bLt s175 s174) fun v50 =>
ifB v50 (
bindP (pIndexL 11 s173 s175) fun v51 =>
bindP (ldN 11 v51 w) fun v52 =>
eAlloc Try.prog 33 w fun v54 w53 =>
bindW (st 11 v54 v52 w53) fun w55 =>
bindP (pFieldAddr 0 v54) fun v57 =>
bindP (ld1 v57 w55) fun v58 =>
bindP (fLook Try.prog 70 s7 v58 false w55) fun v59 =>
bindP (uNot v59) fun v60 =>
Sx.stepG (gd false v60) (pFieldAddr 8 v54) fun v61 =>
Sx.stepG (gd false v60) (ld1 v61 w55) fun v62 =>
stepM (gd false v60) s9 fun v63 =>
Sx.stepG (gd false v60) (bMul v63 (.int .i64 10)) fun v64 =>
Sx.stepG (gd false v60) (bSub v64 (.int .i64 50)) fun v65 =>
Sx.stepG (gd false v60) (bGt v62 v65) fun v66 =>
bindP (pPick v60 (.bool true) v66) fun v67 =>
ifB v67 (
K (.bool false) w55) (
bindP (pFieldAddr 0 v54) fun v68 =>
bindP (ld1 v68 w55) fun v69 =>
eDelete Try.prog 70 s7 v69 w55 fun _ w70 =>
bindP (bAdd s175 (.int .i64 1)) fun v72 =>
Y0 s0 s1 s5 s7 s8 s9 s17 s173 s174 v72 w70)) (
Y1 s0 s1 s5 s7 s8 s9 s17 w)
def F8_15L : Nat → Value → Value → Value → Value → Value → Value → Value → Value → Value → Value → World → (Value → World → Prop) → (Value → Value → Value → Value → Value → Value → World → Prop) → Prop
  | 0, _, _, _, _, _, _, _, _, _, _, _, _, _ => False
  | n + 1, s0, s1, s5, s7, s8, s9, s17, s173, s174, s175, w, K, R3 => F8_15b s0 s1 s5 s7 s8 s9 s17 s173 s174 s175 w K R3 (fun a0 a1 a5 a7 a8 a9 a17 a173 a174 a175 w => F8_15L n a0 a1 a5 a7 a8 a9 a17 a173 a174 a175 w K R3) (fun a0 a1 a5 a7 a8 a9 a17 w => F8_16 a0 a1 a5 a7 a8 a9 a17 w K R3)
def F8_15 (s0 : Value) (s1 : Value) (s5 : Value) (s7 : Value) (s8 : Value) (s9 : Value) (s17 : Value) (s173 : Value) (s174 : Value) (s175 : Value) (w : World) (K : Value → World → Prop) (R3 : Value → Value → Value → Value → Value → Value → World → Prop) : Prop := F8_15L fuel s0 s1 s5 s7 s8 s9 s17 s173 s174 s175 w K R3
def F8_14b (s0 : Value) (s1 : Value) (s5 : Value) (s7 : Value) (s8 : Value) (s9 : Value) (w : World) (_K : Value → World → Prop) (R3 : Value → Value → Value → Value → Value → Value → World → Prop) (Y0 : Value → Value → Value → Value → Value → Value → Value → Value → Value → Value → World → Prop) : Prop :=
bindP (bMul s9 (.int .i64 10)) fun v73 =>
callP G41 [s5, v73, (.int .i64 50)] w fun v75 w74 =>
bindP (pTuple v75 0) fun v76 =>
bindP (pTuple v75 1) fun v77 =>
bindP (lenL v76) fun v78 =>
Y0 s0 s1 s5 s7 s8 s9 v77 v76 v78 (.int .i64 0) w74
def F8_14 (s0 : Value) (s1 : Value) (s5 : Value) (s7 : Value) (s8 : Value) (s9 : Value) (w : World) (K : Value → World → Prop) (R3 : Value → Value → Value → Value → Value → Value → World → Prop) : Prop := F8_14b s0 s1 s5 s7 s8 s9 w K R3 (fun a0 a1 a5 a7 a8 a9 a17 a173 a174 a175 w => F8_15 a0 a1 a5 a7 a8 a9 a17 a173 a174 a175 w K R3)
def F8_17b (s0 : Value) (s1 : Value) (s5 : Value) (s7 : Value) (s8 : Value) (s9 : Value) (w : World) (_K : Value → World → Prop) (R3 : Value → Value → Value → Value → Value → Value → World → Prop) (Y0 : Value → Value → Value → Value → Value → Value → World → Prop) : Prop :=
Y0 s0 s1 s5 s7 s8 s9 w
def F8_17 (s0 : Value) (s1 : Value) (s5 : Value) (s7 : Value) (s8 : Value) (s9 : Value) (w : World) (K : Value → World → Prop) (R3 : Value → Value → Value → Value → Value → Value → World → Prop) : Prop := F8_17b s0 s1 s5 s7 s8 s9 w K R3 (fun a0 a1 a5 a7 a8 a9 w => F8_11 a0 a1 a5 a7 a8 a9 w K R3)
def F8_10 (s0 : Value) (s1 : Value) (s5 : Value) (s7 : Value) (s8 : Value) (s9 : Value) (s165 : Value) (w : World) (K : Value → World → Prop) (R3 : Value → Value → Value → Value → Value → Value → World → Prop) : Prop := ifB s165 (F8_14 s0 s1 s5 s7 s8 s9 w K R3) (F8_17 s0 s1 s5 s7 s8 s9 w K R3)
def F8_9b (s0 : Value) (s1 : Value) (s5 : Value) (s7 : Value) (s8 : Value) (s9 : Value) (w : World) (_K : Value → World → Prop) (R3 : Value → Value → Value → Value → Value → Value → World → Prop) (Y0 : Value → Value → Value → Value → Value → Value → Value → World → Prop) : Prop :=
bindP (lenL s1) fun v79 =>
bindP (bLt s9 v79) fun v80 =>
stepM (gd true v80) s1 fun v81 =>
stepM (gd true v80) s9 fun v82 =>
Sx.stepG (gd true v80) (pIndexL 1 v81 v82) fun v83 =>
Sx.stepG (gd true v80) (ld1 v83 w) fun v84 =>
Sx.stepG (gd true v80) (bRem v84 (.int .i64 4)) fun v85 =>
Sx.stepG (gd true v80) (bEq Try.prog 3 (.tmp 163) (.const (.int .i64 1)) v85 (.int .i64 1)) fun v86 =>
bindP (pPick v80 v86 (.bool false)) fun v87 =>
Y0 s0 s1 s5 s7 s8 s9 v87 w
def F8_9 (s0 : Value) (s1 : Value) (s5 : Value) (s7 : Value) (s8 : Value) (s9 : Value) (w : World) (K : Value → World → Prop) (R3 : Value → Value → Value → Value → Value → Value → World → Prop) : Prop := F8_9b s0 s1 s5 s7 s8 s9 w K R3 (fun a0 a1 a5 a7 a8 a9 a165 w => F8_10 a0 a1 a5 a7 a8 a9 a165 w K R3)
def F8_8b (s0 : Value) (s1 : Value) (s5 : Value) (s7 : Value) (s8 : Value) (s9 : Value) (w : World) (K : Value → World → Prop) (R3 : Value → Value → Value → Value → Value → Value → World → Prop) (Y0 : Value → Value → Value → Value → Value → Value → World → Prop) : Prop :=
bindP (lenL s1) fun v88 =>
bindP (bLt s9 v88) fun v89 =>
stepM (gd true v89) s1 fun v90 =>
stepM (gd true v89) s9 fun v91 =>
Sx.stepG (gd true v89) (pIndexL 1 v90 v91) fun v92 =>
Sx.stepG (gd true v89) (ld1 v92 w) fun v93 =>
Sx.stepG (gd true v89) (bRem v93 (.int .i64 4)) fun v94 =>
Sx.stepG (gd true v89) (bEq Try.prog 3 (.tmp 130) (.const (.int .i64 0)) v94 (.int .i64 0)) fun v95 =>
bindP (pPick v89 v95 (.bool false)) fun v96 =>
ifB v96 (
bindP (pIndexL 1 s1 s9) fun v97 =>
bindP (ld1 v97 w) fun v98 =>
bindP (bAdd s8 (.int .i64 2)) fun v99 =>
callP G15 [v98, v99] w fun v101 w100 =>
callP G40 [s5, v101] w100 fun v103 w102 =>
bindP (pTuple v103 0) fun v104 =>
bindP (pTuple v103 1) fun v105 =>
eAlloc Try.prog 33 w102 fun v107 w106 =>
bindW (st 11 v107 v104 w106) fun w108 =>
bindP (bEq Try.prog 24 (.tmp 146) (.const (.int .i64 0)) v105 (.int .i64 0)) fun v110 =>
bindP (fLook Try.prog 70 s7 v101 false w108) fun v111 =>
bindP (bNe Try.prog 4 (.tmp 147) (.tmp 150) v110 v111) fun v112 =>
ifB v112 (
K (.bool false) w108) (
eDelete Try.prog 70 s7 v101 w108 fun _ w113 =>
Y0 s0 s1 s5 s7 s8 s9 w113)) (
Y0 s0 s1 s5 s7 s8 s9 w)
def F8_8 (s0 : Value) (s1 : Value) (s5 : Value) (s7 : Value) (s8 : Value) (s9 : Value) (w : World) (K : Value → World → Prop) (R3 : Value → Value → Value → Value → Value → Value → World → Prop) : Prop := F8_8b s0 s1 s5 s7 s8 s9 w K R3 (fun a0 a1 a5 a7 a8 a9 w => F8_9 a0 a1 a5 a7 a8 a9 w K R3)
def F8_7b (s0 : Value) (s1 : Value) (s5 : Value) (s7 : Value) (s8 : Value) (s9 : Value) (w : World) (K : Value → World → Prop) (R3 : Value → Value → Value → Value → Value → Value → World → Prop) (Y0 : Value → Value → Value → Value → Value → Value → World → Prop) : Prop :=
bindP (pIndexL 1 s0 s9) fun v115 =>
bindP (ld1 v115 w) fun v116 =>
callP G39 [v116] w fun v118 w117 =>
bindP (bMul s9 (.int .i64 10)) fun v119 =>
callP G16 [s5, v118, v119] w117 fun v121 w120 =>
bindP (pTuple v121 0) fun v122 =>
bindP (pTuple v121 1) fun v123 =>
bindP (pTuple v121 2) fun v124 =>
eAlloc Try.prog 33 w120 fun v126 w125 =>
bindW (st 11 v126 v122 w125) fun w127 =>
bindP (bEq Try.prog 24 (.tmp 63) (.const (.int .i64 0)) v124 (.int .i64 0)) fun v129 =>
stepM (gd true v129) v123 fun v130 =>
Sx.stepG (gd true v129) (bEq Try.prog 3 (.tmp 66) (.const (.int .i64 1)) v130 (.int .i64 1)) fun v131 =>
bindP (pPick v129 v131 (.bool false)) fun v132 =>
ifB v132 (
bindP (pFieldAddr 0 v126) fun v133 =>
bindP (ld1 v133 w127) fun v134 =>
bindP (bLe v134 s8) fun v135 =>
stepM (gd false v135) s7 fun v136 =>
Sx.stepG (gd false v135) (pFieldAddr 0 v126) fun v137 =>
Sx.stepG (gd false v135) (ld1 v137 w127) fun v138 =>
Sx.stepG (gd false v135) (fLook Try.prog 70 v136 v138 false w127) fun v139 =>
bindP (pPick v135 (.bool true) v139) fun v140 =>
ifB v140 (
K (.bool false) w127) (
bindP (pFieldAddr 0 v126) fun v141 =>
bindP (ld1 v141 w127.drew) fun v142 =>
bindP (pFieldAddr 0 v126) fun v143 =>
bindP (ld1 v143 w127.drew) fun v144 =>
eMapSet Try.prog 70 s7 v142 (.bool true) w127.drew fun _ w145 =>
Y0 s0 s1 s5 s7 v144 s9 w145)) (
bindP (bEq Try.prog 24 (.tmp 85) (.const (.int .i64 0)) v124 (.int .i64 0)) fun v147 =>
stepM (gd true v147) v123 fun v148 =>
Sx.stepG (gd true v147) (bEq Try.prog 3 (.tmp 88) (.const (.int .i64 3)) v148 (.int .i64 3)) fun v149 =>
bindP (pPick v147 v149 (.bool false)) fun v150 =>
ifB v150 (
bindP (pFieldAddr 0 v126) fun v151 =>
bindP (ld1 v151 w127) fun v152 =>
bindP (fLook Try.prog 70 s7 v152 false w127) fun v153 =>
bindP (uNot v153) fun v154 =>
ifB v154 (
K (.bool false) w127) (
bindP (pFieldAddr 0 v126) fun v155 =>
bindP (ld1 v155 w127) fun v156 =>
eDelete Try.prog 70 s7 v156 w127 fun _ w157 =>
Y0 s0 s1 s5 s7 s8 s9 w157)) (
bindP (bEq Try.prog 24 (.tmp 100) (.const (.int .i64 0)) v124 (.int .i64 0)) fun v159 =>
stepM (gd true v159) s7 fun v160 =>
Sx.stepG (gd true v159) (pFieldAddr 0 v126) fun v161 =>
Sx.stepG (gd true v159) (ld1 v161 w127) fun v162 =>
Sx.stepG (gd true v159) (fLook Try.prog 70 v160 v162 false w127) fun v163 =>
Sx.stepG (gd true v159) (uNot v163) fun v164 =>
bindP (pPick v159 v164 (.bool false)) fun v165 =>
stepM (gd false v165) v124 fun v166 =>
Sx.stepG (gd false v165) (bNe Try.prog 24 (.tmp 110) (.const (.int .i64 0)) v166 (.int .i64 0)) fun v167 =>
stepM (gd false v165) v167 fun v168 =>
stepM (gd true v168) v124 fun v169 =>
Sx.stepG (gd true v168) (bNe Try.prog 24 (.tmp 113) (.const (.int .i64 5)) v169 (.int .i64 5)) fun v170 =>
Sx.stepG (gd false v165) (pPick v168 v170 (.bool false)) fun v171 =>
stepM (gd false v165) v171 fun v172 =>
stepM (gd true v172) v124 fun v173 =>
Sx.stepG (gd true v172) (bNe Try.prog 24 (.tmp 117) (.const (.int .i64 200)) v173 (.int .i64 200)) fun v174 =>
Sx.stepG (gd false v165) (pPick v172 v174 (.bool false)) fun v175 =>
bindP (pPick v165 (.bool true) v175) fun v176 =>
ifB v176 (
K (.bool false) w127) (
Y0 s0 s1 s5 s7 s8 s9 w127)))
def F8_7 (s0 : Value) (s1 : Value) (s5 : Value) (s7 : Value) (s8 : Value) (s9 : Value) (w : World) (K : Value → World → Prop) (R3 : Value → Value → Value → Value → Value → Value → World → Prop) : Prop := F8_7b s0 s1 s5 s7 s8 s9 w K R3 (fun a0 a1 a5 a7 a8 a9 w => F8_8 a0 a1 a5 a7 a8 a9 w K R3)
def F8_5 (s0 : Value) (s1 : Value) (s5 : Value) (s7 : Value) (s8 : Value) (s9 : Value) (w : World) (K : Value → World → Prop) (R3 : Value → Value → Value → Value → Value → Value → World → Prop) : Prop := F8_7 s0 s1 s5 s7 s8 s9 w K R3
def F8_4b (s0 : Value) (s1 : Value) (s5 : Value) (s7 : Value) (s8 : Value) (s9 : Value) (w : World) (_K : Value → World → Prop) (R3 : Value → Value → Value → Value → Value → Value → World → Prop) (Y0 : Value → Value → Value → Value → Value → Value → World → Prop) (Y1 : World → Prop) : Prop :=
bindP (lenL s0) fun v177 =>
bindP (bLt s9 v177) fun v178 =>
stepM (gd true v178) s9 fun v179 =>
Sx.stepG (gd true v178) (bLt v179 (.int .i64 100)) fun v180 =>
bindP (pPick v178 v180 (.bool false)) fun v181 =>
ifB v181 (
Y0 s0 s1 s5 s7 s8 s9 w) (
Y1 w)
def F8_4 (s0 : Value) (s1 : Value) (s5 : Value) (s7 : Value) (s8 : Value) (s9 : Value) (w : World) (K : Value → World → Prop) (R3 : Value → Value → Value → Value → Value → Value → World → Prop) : Prop := F8_4b s0 s1 s5 s7 s8 s9 w K R3 (fun a0 a1 a5 a7 a8 a9 w => F8_5 a0 a1 a5 a7 a8 a9 w K R3) (fun w => F8_3 w K)
def F8_2L : Nat → Value → Value → Value → Value → Value → Value → World → (Value → World → Prop) → Prop
  | 0, _, _, _, _, _, _, _, _ => False
  | n + 1, s0, s1, s5, s7, s8, s9, w, K => F8_4 s0 s1 s5 s7 s8 s9 w K (fun a0 a1 a5 a7 a8 a9 w => F8_2L n a0 a1 a5 a7 a8 a9 w K)
def F8_2 (s0 : Value) (s1 : Value) (s5 : Value) (s7 : Value) (s8 : Value) (s9 : Value) (w : World) (K : Value → World → Prop) : Prop := F8_2L fuel s0 s1 s5 s7 s8 s9 w K
def F8_1b (s0 : Value) (s1 : Value) (w : World) (K : Value → World → Prop) (Y0 : Value → Value → Value → Value → Value → Value → World → Prop) : Prop :=
callP G13 [(.int .i64 8)] w fun v183 w182 =>
bindP (pTuple v183 0) fun v184 =>
bindP (pTuple v183 1) fun v185 =>
bindP (bEq Try.prog 23 (.tmp 28) (.const (.pointer none)) v184 (.pointer none)) fun v186 =>
stepM (gd false v186) v185 fun v187 =>
Sx.stepG (gd false v186) (bNe Try.prog 24 (.tmp 31) (.const (.int .i64 0)) v187 (.int .i64 0)) fun v188 =>
bindP (pPick v186 (.bool true) v188) fun v189 =>
stepE (gd false v189) (fun k => callP G14 [] w182 k) w182 fun v191 w190 =>
Sx.stepG (gd false v189) (uNot v191) fun v192 =>
bindP (pPick v189 (.bool true) v192) fun v193 =>
ifB v193 (
K (.bool false) w190) (
eMakeMap none w190 fun v195 w194 =>
Y0 s0 s1 v184 v195 (.int .i64 0) (.int .i64 0) w194)
def F8_1 (s0 : Value) (s1 : Value) (w : World) (K : Value → World → Prop) : Prop := F8_1b s0 s1 w K (fun a0 a1 a5 a7 a8 a9 w => F8_2 a0 a1 a5 a7 a8 a9 w K)
def F8 (x0 : Value) (x1 : Value) (w : World) (K : Value → World → Prop) : Prop := F8_1 x0 x1 w K
def G8 : FnT := fun args w K => on2 (fun x0 x1 => F8 x0 x1 w K) args
theorem c8 {x0 x1 : Value} {w : World} {K : Value → World → Prop} (h : F8 x0 x1 w K) : callP G8 [x0, x1] w K := callP_intro (on2_mk (p := fun x0 x1 => F8 x0 x1 w K) h)
def T43 : List (Nat × FnT) := [(66, G66), (67, G67)]
def F43 (x0 : Value) (x1 : Value) (x2 : Value) (w : World) (K : Value → World → Prop) : Prop :=
eAlloc Try.prog 33 w fun v2 w1 =>
bindP (pNil x0) fun v3 =>
bindP (pFieldAddr 2 v3) fun v4 =>
bindP (ld1 v4 w1) fun v5 =>
bindP (fLook Try.prog 107 v5 x1 true w1) fun v6 =>
bindP (pTuple v6 0) fun v7 =>
bindP (pTuple v6 1) fun v8 =>
eAlloc Try.prog 33 w1 fun v10 w9 =>
bindW (st 11 v10 v7 w9) fun w11 =>
bindP (uNot v8) fun v13 =>
ifB v13 (
bindP (fBuild Try.prog 33 []) fun v14 =>
bindW (st 11 v2 v14 w11) fun w15 =>
bindP (ldN 11 v2 w15) fun v17 =>
K (.tuple #[v17, (.int .i64 5)]) w15) (
callP G67 [x2] w11 fun v19 w18 =>
bindP (uNot v19) fun v20 =>
ifB v20 (
bindP (fBuild Try.prog 33 []) fun v21 =>
bindW (st 11 v2 v21 w18) fun w22 =>
bindP (ldN 11 v2 w22) fun v24 =>
K (.tuple #[v24, (.int .i64 1)]) w22) (
bindP (pFieldAddr 9 v10) fun v25 =>
bindP (ld1 v25 w18) fun v26 =>
ifB v26 (
bindP (fBuild Try.prog 33 []) fun v27 =>
bindW (st 11 v2 v27 w18) fun w28 =>
bindP (ldN 11 v2 w28) fun v30 =>
K (.tuple #[v30, (.int .i64 6)]) w28) (
bindP (pFieldAddr 9 v10) fun v31 =>
bindW (st 1 v31 (.bool true) w18) fun w32 =>
bindP (pFieldAddr 10 v10) fun v34 =>
bindW (st 1 v34 x2 w32) fun w35 =>
bindP (ldN 11 v10 w35) fun v37 =>
callP G66 [x0, v37] w35 fun _ w38 =>
bindP (ldN 11 v10 w38) fun v40 =>
bindW (st 11 v2 v40 w38) fun w41 =>
bindP (ldN 11 v2 w41) fun v43 =>
K (.tuple #[v43, (.int .i64 0)]) w41)))
def G43 : FnT := fun args w K => on3 (fun x0 x1 x2 => F43 x0 x1 x2 w K) args
theorem c43 {x0 x1 x2 : Value} {w : World} {K : Value → World → Prop} (h : F43 x0 x1 x2 w K) : callP G43 [x0, x1, x2] w K := callP_intro (on3_mk (p := fun x0 x1 x2 => F43 x0 x1 x2 w K) h)
theorem ok43 : OkF Try.prog 43 G43 := by
  refine okF_of (tab_ok (l := T43) ⟨ok66, ok67, trivial⟩) mixed (n := fuel) Try.func43 Try.call43 fun args w K h => ?_
  obtain ⟨x0, x1, x2, rfl, hh⟩ := of_on3 h
  exact fnD_list (c := bodyOf Try.f43) (by kernel_rfl) (by kernel_rfl) (Eq.mp (by kernel_rfl) hh)
def T44 : List (Nat × FnT) := [(18, G18), (63, G63), (66, G66)]
def F44_5b (s0 : Value) (s2 : Value) (w : World) (K : Value → World → Prop) : Prop :=
bindP (pNil s0) fun v1 =>
bindP (pFieldAddr 1 v1) fun v2 =>
bindW (st 1 v2 s2 w) fun w3 =>
K (.int .i64 0) w3
def F44_5 (s0 : Value) (s2 : Value) (w : World) (K : Value → World → Prop) : Prop := F44_5b s0 s2 w K
theorem ok44_5 {K : Value → World → Prop} {kn kr : Env → World → Prop} {ke : Nat → Env → World → Prop}
    (hn : ∀ e w, (fun e w => K (e 6) w) e w → kn e w) (hr : ∀ e w, endD Try.prog [.tmp 6] K e w → kr e w) (he : ∀ i e w, noE i e w → ke i e w) :
    ∀ e w, F44_5 (e 0) (e 2) w K → denL Try.prog (tabOf T44) 106 fuel ((flat (bodyOf Try.f44)).drop 12) e w kn kr ke := by
  intro e w h
  unfold F44_5 at h
  have e1 : ∀ (_ : Unit), F44_5b (e 0) (e 2) w K = denL Try.prog (tabOf T44) 106 fuel ((flat (bodyOf Try.f44)).drop 12) e w (fun e w => K (e 6) w) (endD Try.prog [.tmp 6] K) noE := by intro _; kernel_rfl
  exact seg_end (Eq.mp (e1 ()) h) hn hr he
def F44_4b (s0 : Value) (s2 : Value) (s92 : Value) (s93 : Value) (s94 : Value) (w : World) (_K : Value → World → Prop) (Y0 : Value → Value → Value → Value → Value → World → Prop) (Y1 : Value → Value → World → Prop) : Prop :=
bindP (bLt s94 s93) fun v5 =>
ifB v5 (
bindP (pIndexL 11 s92 s94) fun v6 =>
bindP (ldN 11 v6 w) fun v7 =>
eAlloc Try.prog 33 w fun v9 w8 =>
bindW (st 11 v9 v7 w8) fun w10 =>
bindP (ldN 11 v9 w10) fun v12 =>
callP G66 [s0, v12] w10 fun _ w13 =>
bindP (bAdd s94 (.int .i64 1)) fun v15 =>
Y0 s0 s2 s92 s93 v15 w13) (
Y1 s0 s2 w)
def F44_4L : Nat → Value → Value → Value → Value → Value → World → (Value → World → Prop) → Prop
  | 0, _, _, _, _, _, _, _ => False
  | n + 1, s0, s2, s92, s93, s94, w, K => F44_4b s0 s2 s92 s93 s94 w K (fun a0 a2 a92 a93 a94 w => F44_4L n a0 a2 a92 a93 a94 w K) (fun a0 a2 w => F44_5 a0 a2 w K)
def F44_4 (s0 : Value) (s2 : Value) (s92 : Value) (s93 : Value) (s94 : Value) (w : World) (K : Value → World → Prop) : Prop := F44_4L fuel s0 s2 s92 s93 s94 w K
theorem ok44_4 {K : Value → World → Prop} {kn kr : Env → World → Prop} {ke : Nat → Env → World → Prop}
    (hn : ∀ e w, (fun e w => K (e 6) w) e w → kn e w) (hr : ∀ e w, endD Try.prog [.tmp 6] K e w → kr e w) (he : ∀ i e w, noE i e w → ke i e w) :
    ∀ e w, F44_4 (e 0) (e 2) (e 92) (e 93) (e 94) w K → denL Try.prog (tabOf T44) 106 fuel ((flat (bodyOf Try.f44)).drop 11) e w kn kr ke := by
  intro e w h
  unfold F44_4 at h
  refine seg_loop (id := 2) (body := (loopB (blkB (nthC (flat (bodyOf Try.f44)) 11)))) (l2 := (flat (bodyOf Try.f44)).drop 12) (by kernel_rfl) ?_
  refine loop_ok (FL := fun m e w => F44_4L m (e 0) (e 2) (e 92) (e 93) (e 94) w K) (fr := endD Try.prog [.tmp 6] K) (fe := (blkK 2 (fun e w => F44_5 (e 0) (e 2) w K) noE)) (fun _ _ h => h) ?_ hr (blkK_mono (fun e w h => ok44_5 hn hr he e w h) he) fuel e w h
  intro m e w h
  have h : F44_4L (m + 1) (e 0) (e 2) (e 92) (e 93) (e 94) w K := h
  rw [F44_4L] at h
  have e1 : ∀ (Y0 : Value → Value → Value → Value → Value → World → Prop) (Y1 : Value → Value → World → Prop), F44_4b (e 0) (e 2) (e 92) (e 93) (e 94) w K Y0 Y1 = denL Try.prog (tabOf T44) 106 fuel (flat (loopB (blkB (nthC (flat (bodyOf Try.f44)) 11)))) e w (fun e w => Y0 (e 0) (e 2) (e 92) (e 93) (e 94) w) (endD Try.prog [.tmp 6] K) (blkK 2 (fun e w => Y1 (e 0) (e 2) w) noE) := by intro Y0 Y1; kernel_rfl
  exact Eq.mp (e1 (fun a0 a2 a92 a93 a94 w => F44_4L m a0 a2 a92 a93 a94 w K) (fun a0 a2 w => F44_5 a0 a2 w K)) h
def F44_3b (s0 : Value) (s1 : Value) (s2 : Value) (w : World) (K : Value → World → Prop) (Y0 : Value → Value → Value → Value → Value → World → Prop) : Prop :=
bindP (lenL s1) fun v16 =>
bindP (pNil s0) fun v17 =>
bindP (pFieldAddr 0 v17) fun v18 =>
bindP (ld1 v18 w) fun v19 =>
bindP (bGt v16 v19) fun v20 =>
ifB v20 (
K (.int .i64 200) w) (
bindP (pNil s0) fun v21 =>
bindP (pFieldAddr 2 v21) fun v22 =>
bindP (ld1 v22 w) fun v23 =>
eClear Try.prog 107 v23 w fun _ w24 =>
bindP (pNil s0) fun v26 =>
bindP (pFieldAddr 3 v26) fun v27 =>
bindP (ld1 v27 w24) fun v28 =>
eClear Try.prog 108 v28 w24 fun _ w29 =>
bindP (lenL s1) fun v31 =>
Y0 s0 s2 s1 v31 (.int .i64 0) w29)
def F44_3 (s0 : Value) (s1 : Value) (s2 : Value) (w : World) (K : Value → World → Prop) : Prop := F44_3b s0 s1 s2 w K (fun a0 a2 a92 a93 a94 w => F44_4 a0 a2 a92 a93 a94 w K)
theorem ok44_3 {K : Value → World → Prop} {kn kr : Env → World → Prop} {ke : Nat → Env → World → Prop}
    (hn : ∀ e w, (fun e w => K (e 6) w) e w → kn e w) (hr : ∀ e w, endD Try.prog [.tmp 6] K e w → kr e w) (he : ∀ i e w, noE i e w → ke i e w) :
    ∀ e w, F44_3 (e 0) (e 1) (e 2) w K → denL Try.prog (tabOf T44) 106 fuel ((flat (bodyOf Try.f44)).drop 6) e w kn kr ke := by
  intro e w h
  unfold F44_3 at h
  have e1 : ∀ (Y0 : Value → Value → Value → Value → Value → World → Prop), F44_3b (e 0) (e 1) (e 2) w K Y0 = denL Try.prog (tabOf T44) 106 fuel (((flat (bodyOf Try.f44)).drop 6).take 5) e w (fun e w => Y0 (e 0) (e 2) (e 92) (e 93) (e 94) w) (endD Try.prog [.tmp 6] K) noE := by intro Y0; kernel_rfl
  exact seg 5 (Eq.mp (e1 (fun a0 a2 a92 a93 a94 w => F44_4 a0 a2 a92 a93 a94 w K)) h) (fun e w h => ok44_4 hn hr he e w h) hr he
def F44_2b (s0 : Value) (s1 : Value) (s2 : Value) (s7 : Value) (s31 : Value) (s32 : Value) (s33 : Value) (w : World) (K : Value → World → Prop) (Y0 : Value → Value → Value → Value → Value → Value → Value → World → Prop) (Y1 : Value → Value → Value → World → Prop) : Prop :=
bindP (bLt s33 s32) fun v32 =>
ifB v32 (
bindP (pIndexL 11 s31 s33) fun v33 =>
bindP (ldN 11 v33 w) fun v34 =>
eAlloc Try.prog 33 w fun v36 w35 =>
bindW (st 11 v36 v34 w35) fun w37 =>
bindP (pNil s7) fun v39 =>
bindP (pFieldAddr 2 v39) fun v40 =>
bindP (ld1 v40 w37.drew) fun v41 =>
bindP (pFieldAddr 0 v36) fun v42 =>
bindP (ld1 v42 w37.drew) fun v43 =>
bindP (fLook Try.prog 107 v41 v43 true w37.drew) fun v44 =>
bindP (pTuple v44 0) fun v45 =>
bindP (pTuple v44 1) fun v46 =>
eAlloc Try.prog 33 w37.drew fun v48 w47 =>
(fok true (ld1 v40 w47) v41 ∧ fok true (ld1 v42 w47) v43 ∧ fok true (fLook Try.prog 107 v41 v43 true w47) v44) ∧ (bindW (st 11 v48 v45 w47) fun w49 =>
bindP (pNil s7) fun v51 =>
bindP (pFieldAddr 3 v51) fun v52 =>
bindP (ld1 v52 w49.drew) fun v53 =>
bindP (pFieldAddr 1 v36) fun v54 =>
bindP (ldN 5 v54 w49.drew) fun v55 =>
callP G63 [v55] w49.drew fun v57 w56 =>
fok true (ld1 v52 w56) v53 ∧ (bindP (fLook Try.prog 108 v53 v57 true w56) fun v58 =>
bindP (pTuple v58 0) fun _ =>
bindP (pTuple v58 1) fun v60 =>
bindP (ldN 11 v36 w56) fun v61 =>
callP G18 [v61] w56 fun v63 w62 =>
bindP (bNe Try.prog 24 (.tmp 59) (.const (.int .i64 0)) v63 (.int .i64 0)) fun v64 =>
Sx.stepG (gd false v64) (pFieldAddr 0 v36) fun v65 =>
Sx.stepG (gd false v64) (ld1 v65 w62) fun v66 =>
stepM (gd false v64) s2 fun v67 =>
Sx.stepG (gd false v64) (bGe v66 v67) fun v68 =>
bindP (pPick v64 (.bool true) v68) fun v69 =>
stepM (gd false v69) v46 fun v70 =>
bindP (pPick v69 (.bool true) v70) fun v71 =>
stepM (gd false v71) v60 fun v72 =>
bindP (pPick v71 (.bool true) v72) fun v73 =>
ifB v73 (
K (.int .i64 4) w62) (
bindP (ldN 11 v36 w62) fun v74 =>
callP G66 [s7, v74] w62 fun _ w75 =>
bindP (bAdd s33 (.int .i64 1)) fun v77 =>
Y0 s0 s1 s2 s7 s31 s32 v77 w75)))) (
Y1 s0 s1 s2 w)
def F44_2L : Nat → Value → Value → Value → Value → Value → Value → Value → World → (Value → World → Prop) → Prop
  | 0, _, _, _, _, _, _, _, _, _ => False
  | n + 1, s0, s1, s2, s7, s31, s32, s33, w, K => F44_2b s0 s1 s2 s7 s31 s32 s33 w K (fun a0 a1 a2 a7 a31 a32 a33 w => F44_2L n a0 a1 a2 a7 a31 a32 a33 w K) (fun a0 a1 a2 w => F44_3 a0 a1 a2 w K)
def F44_2 (s0 : Value) (s1 : Value) (s2 : Value) (s7 : Value) (s31 : Value) (s32 : Value) (s33 : Value) (w : World) (K : Value → World → Prop) : Prop := F44_2L fuel s0 s1 s2 s7 s31 s32 s33 w K
theorem ok44_2 {K : Value → World → Prop} {kn kr : Env → World → Prop} {ke : Nat → Env → World → Prop}
    (hn : ∀ e w, (fun e w => K (e 6) w) e w → kn e w) (hr : ∀ e w, endD Try.prog [.tmp 6] K e w → kr e w) (he : ∀ i e w, noE i e w → ke i e w) :
    ∀ e w, F44_2 (e 0) (e 1) (e 2) (e 7) (e 31) (e 32) (e 33) w K → denL Try.prog (tabOf T44) 106 fuel ((flat (bodyOf Try.f44)).drop 5) e w kn kr ke := by
  intro e w h
  unfold F44_2 at h
  refine seg_loop (id := 0) (body := (loopB (blkB (nthC (flat (bodyOf Try.f44)) 5)))) (l2 := (flat (bodyOf Try.f44)).drop 6) (by kernel_rfl) ?_
  refine loop_ok (FL := fun m e w => F44_2L m (e 0) (e 1) (e 2) (e 7) (e 31) (e 32) (e 33) w K) (fr := endD Try.prog [.tmp 6] K) (fe := (blkK 0 (fun e w => F44_3 (e 0) (e 1) (e 2) w K) noE)) (fun _ _ h => h) ?_ hr (blkK_mono (fun e w h => ok44_3 hn hr he e w h) he) fuel e w h
  intro m e w h
  have h : F44_2L (m + 1) (e 0) (e 1) (e 2) (e 7) (e 31) (e 32) (e 33) w K := h
  rw [F44_2L] at h
  have e1 : ∀ (Y0 : Value → Value → Value → Value → Value → Value → Value → World → Prop) (Y1 : Value → Value → Value → World → Prop), F44_2b (e 0) (e 1) (e 2) (e 7) (e 31) (e 32) (e 33) w K Y0 Y1 = denL Try.prog (tabOf T44) 106 fuel (flat (loopB (blkB (nthC (flat (bodyOf Try.f44)) 5)))) e w (fun e w => Y0 (e 0) (e 1) (e 2) (e 7) (e 31) (e 32) (e 33) w) (endD Try.prog [.tmp 6] K) (blkK 0 (fun e w => Y1 (e 0) (e 1) (e 2) w) noE) := by intro Y0 Y1; kernel_rfl
  exact Eq.mp (e1 (fun a0 a1 a2 a7 a31 a32 a33 w => F44_2L m a0 a1 a2 a7 a31 a32 a33 w K) (fun a0 a1 a2 w => F44_3 a0 a1 a2 w K)) h
def F44_1b (s0 : Value) (s1 : Value) (s2 : Value) (w : World) (K : Value → World → Prop) (Y0 : Value → Value → Value → Value → Value → Value → Value → World → Prop) : Prop :=
bindP (bLt s2 (.int .i64 1)) fun v78 =>
stepM (gd false v78) s2 fun v79 =>
Sx.stepG (gd false v78) (bGt v79 (.int .i64 1152921504606846976)) fun v80 =>
bindP (pPick v78 (.bool true) v80) fun v81 =>
ifB v81 (
K (.int .i64 4) w) (
bindP (pNil s0) fun v82 =>
bindP (pFieldAddr 0 v82) fun v83 =>
bindP (ld1 v83 w) fun v84 =>
eMakeMap none w fun v86 w85 =>
eMakeMap none w85 fun v88 w87 =>
bindP (fBuild Try.prog 110 [(0, v84), (1, s2), (2, v86), (3, v88)]) fun v89 =>
eBox 110 v89 w87 fun v91 w90 =>
bindP (lenL s1) fun v92 =>
Y0 s0 s1 s2 v91 s1 v92 (.int .i64 0) w90)
def F44_1 (s0 : Value) (s1 : Value) (s2 : Value) (w : World) (K : Value → World → Prop) : Prop := F44_1b s0 s1 s2 w K (fun a0 a1 a2 a7 a31 a32 a33 w => F44_2 a0 a1 a2 a7 a31 a32 a33 w K)
theorem ok44_1 {K : Value → World → Prop} {kn kr : Env → World → Prop} {ke : Nat → Env → World → Prop}
    (hn : ∀ e w, (fun e w => K (e 6) w) e w → kn e w) (hr : ∀ e w, endD Try.prog [.tmp 6] K e w → kr e w) (he : ∀ i e w, noE i e w → ke i e w) :
    ∀ e w, F44_1 (e 0) (e 1) (e 2) w K → denL Try.prog (tabOf T44) 106 fuel ((flat (bodyOf Try.f44)).drop 0) e w kn kr ke := by
  intro e w h
  unfold F44_1 at h
  have e1 : ∀ (Y0 : Value → Value → Value → Value → Value → Value → Value → World → Prop), F44_1b (e 0) (e 1) (e 2) w K Y0 = denL Try.prog (tabOf T44) 106 fuel (((flat (bodyOf Try.f44)).drop 0).take 5) e w (fun e w => Y0 (e 0) (e 1) (e 2) (e 7) (e 31) (e 32) (e 33) w) (endD Try.prog [.tmp 6] K) noE := by intro Y0; kernel_rfl
  exact seg 5 (Eq.mp (e1 (fun a0 a1 a2 a7 a31 a32 a33 w => F44_2 a0 a1 a2 a7 a31 a32 a33 w K)) h) (fun e w h => ok44_2 hn hr he e w h) hr he
def F44 (x0 : Value) (x1 : Value) (x2 : Value) (w : World) (K : Value → World → Prop) : Prop := F44_1 x0 x1 x2 w K
def G44 : FnT := fun args w K => on3 (fun x0 x1 x2 => F44 x0 x1 x2 w K) args
theorem c44 {x0 x1 x2 : Value} {w : World} {K : Value → World → Prop} (h : F44 x0 x1 x2 w K) : callP G44 [x0, x1, x2] w K := callP_intro (on3_mk (p := fun x0 x1 x2 => F44 x0 x1 x2 w K) h)
theorem ok44 : OkF Try.prog 44 G44 := by
  refine okF_of (tab_ok (l := T44) ⟨ok18, ok63, ok66, trivial⟩) mixed (n := fuel) Try.func44 Try.call44 fun args w K h => ?_
  obtain ⟨x0, x1, x2, rfl, hh⟩ := of_on3 h
  unfold F44 at hh
  exact fnD_list (c := bodyOf Try.f44) (by kernel_rfl) (by kernel_rfl) (ok44_1 (fun _ _ h => h) (fun _ _ h => h) (fun _ _ _ h => h) (initE [x0, x1, x2]) w hh)
def T45 : List (Nat × FnT) := []
def F45 (x0 : Value) (w : World) (K : Value → World → Prop) : Prop :=
bindP (pNil x0) fun v1 =>
bindP (pFieldAddr 1 v1) fun v2 =>
bindP (ld1 v2 w) fun v3 =>
K v3 w
def G45 : FnT := fun args w K => on1 (fun x0 => F45 x0 w K) args
theorem c45 {x0 : Value} {w : World} {K : Value → World → Prop} (h : F45 x0 w K) : callP G45 [x0] w K := callP_intro (on1_mk (p := fun x0 => F45 x0 w K) h)
theorem ok45 : OkF Try.prog 45 G45 := by
  refine okF_of (tab_ok (l := T45) trivial) mixed (n := fuel) Try.func45 Try.call45 fun args w K h => ?_
  obtain ⟨x0, rfl, hh⟩ := of_on1 h
  exact fnD_list (c := bodyOf Try.f45) (by kernel_rfl) (by kernel_rfl) (Eq.mp (by kernel_rfl) hh)
def T46 : List (Nat × FnT) := []
def F46_3b (w : World) (K : Value → World → Prop) : Prop :=
K (.bool true) w
def F46_3 (w : World) (K : Value → World → Prop) : Prop := F46_3b w K
theorem ok46_3 {K : Value → World → Prop} {kn kr : Env → World → Prop} {ke : Nat → Env → World → Prop}
    (hn : ∀ e w, (fun e w => K (e 4) w) e w → kn e w) (hr : ∀ e w, endD Try.prog [.tmp 4] K e w → kr e w) (he : ∀ i e w, noE i e w → ke i e w) :
    ∀ e w, F46_3 w K → denL Try.prog (tabOf T46) 26 fuel ((flat (bodyOf Try.f46)).drop 5) e w kn kr ke := by
  intro e w h
  unfold F46_3 at h
  have e1 : ∀ (_ : Unit), F46_3b w K = denL Try.prog (tabOf T46) 26 fuel ((flat (bodyOf Try.f46)).drop 5) e w (fun e w => K (e 4) w) (endD Try.prog [.tmp 4] K) noE := by intro _; kernel_rfl
  exact seg_end (Eq.mp (e1 ()) h) hn hr he
def F46_2b (s0 : Value) (s1 : Value) (s5 : Value) (w : World) (K : Value → World → Prop) (Y0 : Value → Value → Value → World → Prop) (Y1 : World → Prop) : Prop :=
bindP (lenL s0) fun v1 =>
bindP (bLt s5 v1) fun v2 =>
ifB v2 (
bindP (pIndexL 11 s0 s5) fun v3 =>
bindP (ldN 11 v3 w.drew) fun v4 =>
bindP (pIndexL 11 s1 s5) fun v5 =>
bindP (ldN 11 v5 w.drew) fun v6 =>
bindP (bNe Try.prog 33 (.tmp 20) (.tmp 24) v4 v6) fun v7 =>
ifB v7 (
K (.bool false) w.drew) (
bindP (bAdd s5 (.int .i64 1)) fun v8 =>
Y0 s0 s1 v8 w.drew)) (
Y1 w)
def F46_2L : Nat → Value → Value → Value → World → (Value → World → Prop) → Prop
  | 0, _, _, _, _, _ => False
  | n + 1, s0, s1, s5, w, K => F46_2b s0 s1 s5 w K (fun a0 a1 a5 w => F46_2L n a0 a1 a5 w K) (fun w => F46_3 w K)
def F46_2 (s0 : Value) (s1 : Value) (s5 : Value) (w : World) (K : Value → World → Prop) : Prop := F46_2L fuel s0 s1 s5 w K
theorem ok46_2 {K : Value → World → Prop} {kn kr : Env → World → Prop} {ke : Nat → Env → World → Prop}
    (hn : ∀ e w, (fun e w => K (e 4) w) e w → kn e w) (hr : ∀ e w, endD Try.prog [.tmp 4] K e w → kr e w) (he : ∀ i e w, noE i e w → ke i e w) :
    ∀ e w, F46_2 (e 0) (e 1) (e 5) w K → denL Try.prog (tabOf T46) 26 fuel ((flat (bodyOf Try.f46)).drop 4) e w kn kr ke := by
  intro e w h
  unfold F46_2 at h
  refine seg_loop (id := 0) (body := (loopB (blkB (nthC (flat (bodyOf Try.f46)) 4)))) (l2 := (flat (bodyOf Try.f46)).drop 5) (by kernel_rfl) ?_
  refine loop_ok (FL := fun m e w => F46_2L m (e 0) (e 1) (e 5) w K) (fr := endD Try.prog [.tmp 4] K) (fe := (blkK 0 (fun e w => F46_3 w K) noE)) (fun _ _ h => h) ?_ hr (blkK_mono (fun e w h => ok46_3 hn hr he e w h) he) fuel e w h
  intro m e w h
  have h : F46_2L (m + 1) (e 0) (e 1) (e 5) w K := h
  rw [F46_2L] at h
  have e1 : ∀ (Y0 : Value → Value → Value → World → Prop) (Y1 : World → Prop), F46_2b (e 0) (e 1) (e 5) w K Y0 Y1 = denL Try.prog (tabOf T46) 26 fuel (flat (loopB (blkB (nthC (flat (bodyOf Try.f46)) 4)))) e w (fun e w => Y0 (e 0) (e 1) (e 5) w) (endD Try.prog [.tmp 4] K) (blkK 0 (fun e w => Y1 w) noE) := by intro Y0 Y1; kernel_rfl
  exact Eq.mp (e1 (fun a0 a1 a5 w => F46_2L m a0 a1 a5 w K) (fun w => F46_3 w K)) h
def F46_1b (s0 : Value) (s1 : Value) (w : World) (K : Value → World → Prop) (Y0 : Value → Value → Value → World → Prop) : Prop :=
bindP (lenL s0) fun v9 =>
bindP (lenL s1) fun v10 =>
bindP (bNe Try.prog 3 (.tmp 7) (.tmp 9) v9 v10) fun v11 =>
ifB v11 (
K (.bool false) w) (
Y0 s0 s1 (.int .i64 0) w)
def F46_1 (s0 : Value) (s1 : Value) (w : World) (K : Value → World → Prop) : Prop := F46_1b s0 s1 w K (fun a0 a1 a5 w => F46_2 a0 a1 a5 w K)
theorem ok46_1 {K : Value → World → Prop} {kn kr : Env → World → Prop} {ke : Nat → Env → World → Prop}
    (hn : ∀ e w, (fun e w => K (e 4) w) e w → kn e w) (hr : ∀ e w, endD Try.prog [.tmp 4] K e w → kr e w) (he : ∀ i e w, noE i e w → ke i e w) :
    ∀ e w, F46_1 (e 0) (e 1) w K → denL Try.prog (tabOf T46) 26 fuel ((flat (bodyOf Try.f46)).drop 0) e w kn kr ke := by
  intro e w h
  unfold F46_1 at h
  have e1 : ∀ (Y0 : Value → Value → Value → World → Prop), F46_1b (e 0) (e 1) w K Y0 = denL Try.prog (tabOf T46) 26 fuel (((flat (bodyOf Try.f46)).drop 0).take 4) e w (fun e w => Y0 (e 0) (e 1) (e 5) w) (endD Try.prog [.tmp 4] K) noE := by intro Y0; kernel_rfl
  exact seg 4 (Eq.mp (e1 (fun a0 a1 a5 w => F46_2 a0 a1 a5 w K)) h) (fun e w h => ok46_2 hn hr he e w h) hr he
def F46 (x0 : Value) (x1 : Value) (w : World) (K : Value → World → Prop) : Prop := F46_1 x0 x1 w K
def G46 : FnT := fun args w K => on2 (fun x0 x1 => F46 x0 x1 w K) args
theorem c46 {x0 x1 : Value} {w : World} {K : Value → World → Prop} (h : F46 x0 x1 w K) : callP G46 [x0, x1] w K := callP_intro (on2_mk (p := fun x0 x1 => F46 x0 x1 w K) h)
theorem ok46 : OkF Try.prog 46 G46 := by
  refine okF_of (tab_ok (l := T46) trivial) mixed (n := fuel) Try.func46 Try.call46 fun args w K h => ?_
  obtain ⟨x0, x1, rfl, hh⟩ := of_on2 h
  unfold F46 at hh
  exact fnD_list (c := bodyOf Try.f46) (by kernel_rfl) (by kernel_rfl) (ok46_1 (fun _ _ h => h) (fun _ _ h => h) (fun _ _ _ h => h) (initE [x0, x1]) w hh)
def T9 : List (Nat × FnT) := [(13, G13), (14, G14), (15, G15), (16, G16), (39, G39), (42, G42), (43, G43), (44, G44), (45, G45), (46, G46)]
def F9_5b (s7 : Value) (s9 : Value) (w : World) (K : Value → World → Prop) : Prop :=
callP G42 [s7] w fun v2 w1 =>
callP G42 [s9] w1 fun v4 w3 =>
callP G46 [v2, v4] w3 fun v6 w5 =>
stepM (gd true v6) s7 fun v7 =>
stepE (gd true v6) (fun k => callP G45 [v7] w5 k) w5 fun v9 w8 =>
stepM (gd true v6) s9 fun v10 =>
stepE (gd true v6) (fun k => callP G45 [v10] w8 k) w8 fun v12 w11 =>
Sx.stepG (gd true v6) (bEq Try.prog 3 (.tmp 151) (.tmp 153) v9 v12) fun v13 =>
bindP (pPick v6 v13 (.bool false)) fun v14 =>
K v14 w11
def F9_5 (s7 : Value) (s9 : Value) (w : World) (K : Value → World → Prop) : Prop := F9_5b s7 s9 w K
theorem ok9_5 {K : Value → World → Prop} {kn kr : Env → World → Prop} {ke : Nat → Env → World → Prop}
    (hn : ∀ e w, (fun e w => K (e 6) w) e w → kn e w) (hr : ∀ e w, endD Try.prog [.tmp 6] K e w → kr e w) (he : ∀ i e w, noE i e w → ke i e w) :
    ∀ e w, F9_5 (e 7) (e 9) w K → denL Try.prog (tabOf T9) 156 fuel ((flat (bodyOf Try.f9)).drop 13) e w kn kr ke := by
  intro e w h
  unfold F9_5 at h
  have e1 : ∀ (_ : Unit), F9_5b (e 7) (e 9) w K = denL Try.prog (tabOf T9) 156 fuel ((flat (bodyOf Try.f9)).drop 13) e w (fun e w => K (e 6) w) (endD Try.prog [.tmp 6] K) noE := by intro _; kernel_rfl
  exact seg_end (Eq.mp (e1 ()) h) hn hr he
def F9_4b (s1 : Value) (s7 : Value) (s9 : Value) (s14 : Value) (w : World) (K : Value → World → Prop) (Y0 : Value → Value → Value → Value → World → Prop) (Y1 : Value → Value → World → Prop) : Prop :=
bindP (lenL s1) fun v15 =>
bindP (bLt s14 v15) fun v16 =>
stepM (gd true v16) s14 fun v17 =>
Sx.stepG (gd true v16) (bLt v17 (.int .i64 60)) fun v18 =>
bindP (pPick v16 v18 (.bool false)) fun v19 =>
ifB v19 (
bindP (pIndexL 1 s1 s14) fun v20 =>
bindP (ld1 v20 w) fun v21 =>
callP G39 [v21] w fun v23 w22 =>
bindP (bAdd (.int .i64 100) s14) fun v24 =>
callP G16 [s7, v23, v24] w22 fun v26 w25 =>
bindP (pTuple v26 0) fun v27 =>
bindP (pTuple v26 1) fun v28 =>
bindP (pTuple v26 2) fun v29 =>
eAlloc Try.prog 33 w25 fun v31 w30 =>
bindW (st 11 v31 v27 w30) fun w32 =>
bindP (pIndexL 1 s1 s14) fun v34 =>
bindP (ld1 v34 w32) fun v35 =>
callP G39 [v35] w32 fun v37 w36 =>
bindP (bAdd (.int .i64 100) s14) fun v38 =>
callP G16 [s9, v37, v38] w36 fun v40 w39 =>
bindP (pTuple v40 0) fun v41 =>
bindP (pTuple v40 1) fun v42 =>
bindP (pTuple v40 2) fun v43 =>
eAlloc Try.prog 33 w39 fun v45 w44 =>
bindW (st 11 v45 v41 w44) fun w46 =>
bindP (ldN 11 v31 w46) fun v48 =>
bindP (ldN 11 v45 w46) fun v49 =>
bindP (bNe Try.prog 33 (.tmp 131) (.tmp 132) v48 v49) fun v50 =>
stepM (gd false v50) v28 fun v51 =>
stepM (gd false v50) v42 fun v52 =>
Sx.stepG (gd false v50) (bNe Try.prog 3 (.tmp 135) (.tmp 136) v51 v52) fun v53 =>
bindP (pPick v50 (.bool true) v53) fun v54 =>
stepM (gd false v54) v29 fun v55 =>
stepM (gd false v54) v43 fun v56 =>
Sx.stepG (gd false v54) (bNe Try.prog 24 (.tmp 140) (.tmp 141) v55 v56) fun v57 =>
bindP (pPick v54 (.bool true) v57) fun v58 =>
ifB v58 (
K (.bool false) w46) (
bindP (bAdd s14 (.int .i64 1)) fun v59 =>
Y0 s1 s7 s9 v59 w46)) (
Y1 s7 s9 w)
def F9_4L : Nat → Value → Value → Value → Value → World → (Value → World → Prop) → Prop
  | 0, _, _, _, _, _, _ => False
  | n + 1, s1, s7, s9, s14, w, K => F9_4b s1 s7 s9 s14 w K (fun a1 a7 a9 a14 w => F9_4L n a1 a7 a9 a14 w K) (fun a7 a9 w => F9_5 a7 a9 w K)
def F9_4 (s1 : Value) (s7 : Value) (s9 : Value) (s14 : Value) (w : World) (K : Value → World → Prop) : Prop := F9_4L fuel s1 s7 s9 s14 w K
theorem ok9_4 {K : Value → World → Prop} {kn kr : Env → World → Prop} {ke : Nat → Env → World → Prop}
    (hn : ∀ e w, (fun e w => K (e 6) w) e w → kn e w) (hr : ∀ e w, endD Try.prog [.tmp 6] K e w → kr e w) (he : ∀ i e w, noE i e w → ke i e w) :
    ∀ e w, F9_4 (e 1) (e 7) (e 9) (e 14) w K → denL Try.prog (tabOf T9) 156 fuel ((flat (bodyOf Try.f9)).drop 12) e w kn kr ke := by
  intro e w h
  unfold F9_4 at h
  refine seg_loop (id := 2) (body := (loopB (blkB (nthC (flat (bodyOf Try.f9)) 12)))) (l2 := (flat (bodyOf Try.f9)).drop 13) (by kernel_rfl) ?_
  refine loop_ok (FL := fun m e w => F9_4L m (e 1) (e 7) (e 9) (e 14) w K) (fr := endD Try.prog [.tmp 6] K) (fe := (blkK 2 (fun e w => F9_5 (e 7) (e 9) w K) noE)) (fun _ _ h => h) ?_ hr (blkK_mono (fun e w h => ok9_5 hn hr he e w h) he) fuel e w h
  intro m e w h
  have h : F9_4L (m + 1) (e 1) (e 7) (e 9) (e 14) w K := h
  rw [F9_4L] at h
  have e1 : ∀ (Y0 : Value → Value → Value → Value → World → Prop) (Y1 : Value → Value → World → Prop), F9_4b (e 1) (e 7) (e 9) (e 14) w K Y0 Y1 = denL Try.prog (tabOf T9) 156 fuel (flat (loopB (blkB (nthC (flat (bodyOf Try.f9)) 12)))) e w (fun e w => Y0 (e 1) (e 7) (e 9) (e 14) w) (endD Try.prog [.tmp 6] K) (blkK 2 (fun e w => Y1 (e 7) (e 9) w) noE) := by intro Y0 Y1; kernel_rfl
  exact Eq.mp (e1 (fun a1 a7 a9 a14 w => F9_4L m a1 a7 a9 a14 w K) (fun a7 a9 w => F9_5 a7 a9 w K)) h
def F9_3b (s1 : Value) (s2 : Value) (s7 : Value) (s9 : Value) (w : World) (K : Value → World → Prop) (Y0 : Value → Value → Value → Value → World → Prop) : Prop :=
callP G42 [s7] w fun v61 w60 =>
bindP (lenL v61) fun v62 =>
bindP (bAdd v62 (.int .i64 1)) fun v63 =>
callP G15 [s2, v63] w60 fun v65 w64 =>
bindP (pSliceL 11 v61 (some v65) none none) fun v66 =>
bindP (pSliceL 11 v61 none (some v65) none) fun v67 =>
eBuildSl Try.prog 74 0 [] w64.drew fun v69 w68 =>
eAppend Try.prog 74 74 v69 v66 w68 fun v71 w70 =>
eAppend Try.prog 74 74 v71 v67 w70 fun v73 w72 =>
callP G45 [s7] w72 fun v75 w74 =>
callP G44 [s9, v73, v75] w74 fun v77 w76 =>
bindP (bNe Try.prog 24 (.tmp 93) (.const (.int .i64 0)) v77 (.int .i64 0)) fun v78 =>
ifB v78 (
K (.bool false) w76) (
Y0 s1 s7 s9 (.int .i64 0) w76)
def F9_3 (s1 : Value) (s2 : Value) (s7 : Value) (s9 : Value) (w : World) (K : Value → World → Prop) : Prop := F9_3b s1 s2 s7 s9 w K (fun a1 a7 a9 a14 w => F9_4 a1 a7 a9 a14 w K)
theorem ok9_3 {K : Value → World → Prop} {kn kr : Env → World → Prop} {ke : Nat → Env → World → Prop}
    (hn : ∀ e w, (fun e w => K (e 6) w) e w → kn e w) (hr : ∀ e w, endD Try.prog [.tmp 6] K e w → kr e w) (he : ∀ i e w, noE i e w → ke i e w) :
    ∀ e w, F9_3 (e 1) (e 2) (e 7) (e 9) w K → denL Try.prog (tabOf T9) 156 fuel ((flat (bodyOf Try.f9)).drop 7) e w kn kr ke := by
  intro e w h
  unfold F9_3 at h
  have e1 : ∀ (Y0 : Value → Value → Value → Value → World → Prop), F9_3b (e 1) (e 2) (e 7) (e 9) w K Y0 = denL Try.prog (tabOf T9) 156 fuel (((flat (bodyOf Try.f9)).drop 7).take 5) e w (fun e w => Y0 (e 1) (e 7) (e 9) (e 14) w) (endD Try.prog [.tmp 6] K) noE := by intro Y0; kernel_rfl
  exact seg 5 (Eq.mp (e1 (fun a1 a7 a9 a14 w => F9_4 a1 a7 a9 a14 w K)) h) (fun e w h => ok9_4 hn hr he e w h) hr he
def F9_7b (s0 : Value) (s1 : Value) (s2 : Value) (s7 : Value) (s9 : Value) (s11 : Value) (w : World) (_K : Value → World → Prop) (R5 : Value → Value → Value → Value → Value → Value → World → Prop) : Prop :=
bindP (bAdd s11 (.int .i64 1)) fun v79 =>
R5 s0 s1 s2 s7 s9 v79 w
def F9_7 (s0 : Value) (s1 : Value) (s2 : Value) (s7 : Value) (s9 : Value) (s11 : Value) (w : World) (K : Value → World → Prop) (R5 : Value → Value → Value → Value → Value → Value → World → Prop) : Prop := F9_7b s0 s1 s2 s7 s9 s11 w K R5
theorem ok9_7 (R5 : Value → Value → Value → Value → Value → Value → World → Prop) {K : Value → World → Prop} {kn kr : Env → World → Prop} {ke : Nat → Env → World → Prop}
    (hn : ∀ e w, (fun e w => R5 (e 0) (e 1) (e 2) (e 7) (e 9) (e 11) w) e w → kn e w) (hr : ∀ e w, endD Try.prog [.tmp 6] K e w → kr e w) (he : ∀ i e w, (blkK 0 (fun e w => F9_3 (e 1) (e 2) (e 7) (e 9) w K) noE) i e w → ke i e w) :
    ∀ e w, F9_7 (e 0) (e 1) (e 2) (e 7) (e 9) (e 11) w K R5 → denL Try.prog (tabOf T9) 156 fuel ((flat (loopB (blkB (nthC (flat (bodyOf Try.f9)) 6)))).drop 3) e w kn kr ke := by
  intro e w h
  unfold F9_7 at h
  have e1 : ∀ (_ : Unit), F9_7b (e 0) (e 1) (e 2) (e 7) (e 9) (e 11) w K R5 = denL Try.prog (tabOf T9) 156 fuel ((flat (loopB (blkB (nthC (flat (bodyOf Try.f9)) 6)))).drop 3) e w (fun e w => R5 (e 0) (e 1) (e 2) (e 7) (e 9) (e 11) w) (endD Try.prog [.tmp 6] K) (blkK 0 (fun e w => F9_3 (e 1) (e 2) (e 7) (e 9) w K) noE) := by intro _; kernel_rfl
  exact seg_end (Eq.mp (e1 ()) h) hn hr he
def F9_6b (s0 : Value) (s1 : Value) (s2 : Value) (s7 : Value) (s9 : Value) (s11 : Value) (w : World) (_K : Value → World → Prop) (R5 : Value → Value → Value → Value → Value → Value → World → Prop) (Y0 : Value → Value → Value → Value → Value → Value → World → Prop) (Y1 : Value → Value → Value → Value → World → Prop) : Prop :=
bindP (lenL s0) fun v80 =>
bindP (bLt s11 v80) fun v81 =>
stepM (gd true v81) s11 fun v82 =>
Sx.stepG (gd true v81) (bLt v82 (.int .i64 60)) fun v83 =>
bindP (pPick v81 v83 (.bool false)) fun v84 =>
ifB v84 (
bindP (pIndexL 1 s0 s11) fun v85 =>
bindP (ld1 v85 w) fun v86 =>
callP G39 [v86] w fun v88 w87 =>
callP G16 [s7, v88, s11] w87 fun _ w89 =>
bindP (pIndexL 1 s0 s11) fun v91 =>
bindP (ld1 v91 w89) fun v92 =>
bindP (bRem v92 (.int .i64 7)) fun v93 =>
bindP (bEq Try.prog 3 (.tmp 69) (.const (.int .i64 0)) v93 (.int .i64 0)) fun v94 =>
ifB v94 (
callP G43 [s7, s11, (.string ⟨#[97, 110, 110]⟩)] w89 fun _ w95 =>
Y0 s0 s1 s2 s7 s9 s11 w95) (
Y0 s0 s1 s2 s7 s9 s11 w89)) (
Y1 s1 s2 s7 s9 w)
def F9_6 (s0 : Value) (s1 : Value) (s2 : Value) (s7 : Value) (s9 : Value) (s11 : Value) (w : World) (K : Value → World → Prop) (R5 : Value → Value → Value → Value → Value → Value → World → Prop) : Prop := F9_6b s0 s1 s2 s7 s9 s11 w K R5 (fun a0 a1 a2 a7 a9 a11 w => F9_7 a0 a1 a2 a7 a9 a11 w K R5) (fun a1 a2 a7 a9 w => F9_3 a1 a2 a7 a9 w K)
theorem ok9_6 (R5 : Value → Value → Value → Value → Value → Value → World → Prop) {K : Value → World → Prop} {kn kr : Env → World → Prop} {ke : Nat → Env → World → Prop}
    (hn : ∀ e w, (fun e w => R5 (e 0) (e 1) (e 2) (e 7) (e 9) (e 11) w) e w → kn e w) (hr : ∀ e w, endD Try.prog [.tmp 6] K e w → kr e w) (he : ∀ i e w, (blkK 0 (fun e w => F9_3 (e 1) (e 2) (e 7) (e 9) w K) noE) i e w → ke i e w) :
    ∀ e w, F9_6 (e 0) (e 1) (e 2) (e 7) (e 9) (e 11) w K R5 → denL Try.prog (tabOf T9) 156 fuel ((flat (loopB (blkB (nthC (flat (bodyOf Try.f9)) 6)))).drop 0) e w kn kr ke := by
  intro e w h
  unfold F9_6 at h
  have e1 : ∀ (Y0 : Value → Value → Value → Value → Value → Value → World → Prop) (Y1 : Value → Value → Value → Value → World → Prop), F9_6b (e 0) (e 1) (e 2) (e 7) (e 9) (e 11) w K R5 Y0 Y1 = denL Try.prog (tabOf T9) 156 fuel (((flat (loopB (blkB (nthC (flat (bodyOf Try.f9)) 6)))).drop 0).take 3) e w (fun e w => Y0 (e 0) (e 1) (e 2) (e 7) (e 9) (e 11) w) (endD Try.prog [.tmp 6] K) (blkK 0 (fun e w => Y1 (e 1) (e 2) (e 7) (e 9) w) noE) := by intro Y0 Y1; kernel_rfl
  exact seg 3 (Eq.mp (e1 (fun a0 a1 a2 a7 a9 a11 w => F9_7 a0 a1 a2 a7 a9 a11 w K R5) (fun a1 a2 a7 a9 w => F9_3 a1 a2 a7 a9 w K)) h) (fun e w h => ok9_7 R5 hn hr he e w h) hr he
def F9_2L : Nat → Value → Value → Value → Value → Value → Value → World → (Value → World → Prop) → Prop
  | 0, _, _, _, _, _, _, _, _ => False
  | n + 1, s0, s1, s2, s7, s9, s11, w, K => F9_6 s0 s1 s2 s7 s9 s11 w K (fun a0 a1 a2 a7 a9 a11 w => F9_2L n a0 a1 a2 a7 a9 a11 w K)
def F9_2 (s0 : Value) (s1 : Value) (s2 : Value) (s7 : Value) (s9 : Value) (s11 : Value) (w : World) (K : Value → World → Prop) : Prop := F9_2L fuel s0 s1 s2 s7 s9 s11 w K
theorem ok9_2 {K : Value → World → Prop} {kn kr : Env → World → Prop} {ke : Nat → Env → World → Prop}
    (hn : ∀ e w, (fun e w => K (e 6) w) e w → kn e w) (hr : ∀ e w, endD Try.prog [.tmp 6] K e w → kr e w) (he : ∀ i e w, noE i e w → ke i e w) :
    ∀ e w, F9_2 (e 0) (e 1) (e 2) (e 7) (e 9) (e 11) w K → denL Try.prog (tabOf T9) 156 fuel ((flat (bodyOf Try.f9)).drop 6) e w kn kr ke := by
  intro e w h
  unfold F9_2 at h
  refine seg_loop (id := 0) (body := (loopB (blkB (nthC (flat (bodyOf Try.f9)) 6)))) (l2 := (flat (bodyOf Try.f9)).drop 7) (by kernel_rfl) ?_
  refine loop_ok (FL := fun m e w => F9_2L m (e 0) (e 1) (e 2) (e 7) (e 9) (e 11) w K) (fr := endD Try.prog [.tmp 6] K) (fe := (blkK 0 (fun e w => F9_3 (e 1) (e 2) (e 7) (e 9) w K) noE)) (fun _ _ h => h) ?_ hr (blkK_mono (fun e w h => ok9_3 hn hr he e w h) he) fuel e w h
  intro m e w h
  have h : F9_2L (m + 1) (e 0) (e 1) (e 2) (e 7) (e 9) (e 11) w K := h
  rw [F9_2L] at h
  exact ok9_6 (fun a0 a1 a2 a7 a9 a11 w => F9_2L m a0 a1 a2 a7 a9 a11 w K) (fun _ _ h => h) (fun _ _ h => h) (fun _ _ _ h => h) e w h
def F9_1b (s0 : Value) (s1 : Value) (s2 : Value) (w : World) (K : Value → World → Prop) (Y0 : Value → Value → Value → Value → Value → Value → World → Prop) : Prop :=
callP G13 [(.int .i64 20)] w fun v98 w97 =>
bindP (pTuple v98 0) fun v99 =>
bindP (pTuple v98 1) fun v100 =>
callP G13 [(.int .i64 20)] w97 fun v102 w101 =>
bindP (pTuple v102 0) fun v103 =>
bindP (pTuple v102 1) fun v104 =>
bindP (bEq Try.prog 23 (.tmp 29) (.const (.pointer none)) v99 (.pointer none)) fun v105 =>
stepM (gd false v105) v103 fun v106 =>
Sx.stepG (gd false v105) (bEq Try.prog 23 (.tmp 32) (.const (.pointer none)) v106 (.pointer none)) fun v107 =>
bindP (pPick v105 (.bool true) v107) fun v108 =>
stepM (gd false v108) v100 fun v109 =>
Sx.stepG (gd false v108) (bNe Try.prog 24 (.tmp 36) (.const (.int .i64 0)) v109 (.int .i64 0)) fun v110 =>
bindP (pPick v108 (.bool true) v110) fun v111 =>
stepM (gd false v111) v104 fun v112 =>
Sx.stepG (gd false v111) (bNe Try.prog 24 (.tmp 40) (.const (.int .i64 0)) v112 (.int .i64 0)) fun v113 =>
bindP (pPick v111 (.bool true) v113) fun v114 =>
stepE (gd false v114) (fun k => callP G14 [] w101 k) w101 fun v116 w115 =>
Sx.stepG (gd false v114) (uNot v116) fun v117 =>
bindP (pPick v114 (.bool true) v117) fun v118 =>
ifB v118 (
K (.bool false) w115) (
Y0 s0 s1 s2 v99 v103 (.int .i64 0) w115)
def F9_1 (s0 : Value) (s1 : Value) (s2 : Value) (w : World) (K : Value → World → Prop) : Prop := F9_1b s0 s1 s2 w K (fun a0 a1 a2 a7 a9 a11 w => F9_2 a0 a1 a2 a7 a9 a11 w K)
theorem ok9_1 {K : Value → World → Prop} {kn kr : Env → World → Prop} {ke : Nat → Env → World → Prop}
    (hn : ∀ e w, (fun e w => K (e 6) w) e w → kn e w) (hr : ∀ e w, endD Try.prog [.tmp 6] K e w → kr e w) (he : ∀ i e w, noE i e w → ke i e w) :
    ∀ e w, F9_1 (e 0) (e 1) (e 2) w K → denL Try.prog (tabOf T9) 156 fuel ((flat (bodyOf Try.f9)).drop 0) e w kn kr ke := by
  intro e w h
  unfold F9_1 at h
  have e1 : ∀ (Y0 : Value → Value → Value → Value → Value → Value → World → Prop), F9_1b (e 0) (e 1) (e 2) w K Y0 = denL Try.prog (tabOf T9) 156 fuel (((flat (bodyOf Try.f9)).drop 0).take 6) e w (fun e w => Y0 (e 0) (e 1) (e 2) (e 7) (e 9) (e 11) w) (endD Try.prog [.tmp 6] K) noE := by intro Y0; kernel_rfl
  exact seg 6 (Eq.mp (e1 (fun a0 a1 a2 a7 a9 a11 w => F9_2 a0 a1 a2 a7 a9 a11 w K)) h) (fun e w h => ok9_2 hn hr he e w h) hr he
def F9 (x0 : Value) (x1 : Value) (x2 : Value) (w : World) (K : Value → World → Prop) : Prop := F9_1 x0 x1 x2 w K
def G9 : FnT := fun args w K => on3 (fun x0 x1 x2 => F9 x0 x1 x2 w K) args
theorem c9 {x0 x1 x2 : Value} {w : World} {K : Value → World → Prop} (h : F9 x0 x1 x2 w K) : callP G9 [x0, x1, x2] w K := callP_intro (on3_mk (p := fun x0 x1 x2 => F9 x0 x1 x2 w K) h)
theorem ok9 : OkF Try.prog 9 G9 := by
  refine okF_of (tab_ok (l := T9) ⟨ok13, ok14, ok15, ok16, ok39, ok42, ok43, ok44, ok45, ok46, trivial⟩) mixed (n := fuel) Try.func9 Try.call9 fun args w K h => ?_
  obtain ⟨x0, x1, x2, rfl, hh⟩ := of_on3 h
  unfold F9 at hh
  exact fnD_list (c := bodyOf Try.f9) (by kernel_rfl) (by kernel_rfl) (ok9_1 (fun _ _ h => h) (fun _ _ h => h) (fun _ _ _ h => h) (initE [x0, x1, x2]) w hh)
def T91 : List (Nat × FnT) := [(117, G117)]
def F91 (x0 : Value) (x1 : Value) (w : World) (K : Value → World → Prop) : Prop :=
eBox 33 x0 w fun v2 w1 =>
eBox 33 x1 w1 fun v4 w3 =>
bindP (pFieldAddr 0 v2) fun v5 =>
bindP (ld1 v5 w3) fun v6 =>
bindP (pFieldAddr 0 v4) fun v7 =>
bindP (ld1 v7 w3) fun v8 =>
callP G117 [v6, v8] w3 fun v10 w9 =>
K v10 w9
def G91 : FnT := fun args w K => on2 (fun x0 x1 => F91 x0 x1 w K) args
theorem c91 {x0 x1 : Value} {w : World} {K : Value → World → Prop} (h : F91 x0 x1 w K) : callP G91 [x0, x1] w K := callP_intro (on2_mk (p := fun x0 x1 => F91 x0 x1 w K) h)
theorem ok91 : OkF Try.prog 91 G91 := by
  refine okF_of (tab_ok (l := T91) ⟨ok117, trivial⟩) mixed (n := fuel) Try.func91 Try.call91 fun args w K h => ?_
  obtain ⟨x0, x1, rfl, hh⟩ := of_on2 h
  exact fnD_list (c := bodyOf Try.f91) (by kernel_rfl) (by kernel_rfl) (Eq.mp (by kernel_rfl) hh)
end Go.Proofs.Gong

/- Be1 -/
namespace Go.Proofs.Gong
open Go Go.Sx Go.Proofs
set_option maxRecDepth 100000
attribute [local irreducible] fBuild fLook fZero eqv bEqv Cl MapH LsH SlH ld1 ldN st callP eBox eAlloc lenM lenL eMapSet eDelete eAppend eBuildSl eRange eNext
theorem CR : Cod cRow 11 := ⟨fun _ => rfl, fun _ => rfl, by omega⟩
instance : CodC cRow 11 := ⟨CR⟩
instance : Inhabited Row := ⟨zeroR⟩
def BoardA (v : Value) (n next : Int) (rs : List Row) : HP := HEx fun R => HEx fun I => HPr (BInv n next R I rs ∧ 1 ≤ next ∧ next ≤ 4611686018427387904) (BoardI v n next R I)
def idV (x y : Row) : Int := if x.id < y.id then -1 else if y.id < x.id then 1 else 0
def idLt (x y : Row) : Bool := decide (x.id < y.id)
theorem idSWO : SWO idLt := by
  constructor <;> intros <;> simp_all [idLt] <;> omega
theorem idV_neg (x y : Row) : idV x y < 0 ↔ idLt x y = true := by unfold idV idLt; split <;> (try split) <;> simp_all
section
variable {w0 w : World} {L : List HP} {K : Value → World → Prop} {v : Value} {n next : Int} {R : List (Int × Row)} {I : List (Sg × Int)} {rs : List Row} {r : Row}
theorem boardA_iff : Sat w0 (BoardA v n next rs :: L) w ↔ ∃ R I, (BInv n next R I rs ∧ 1 ≤ next ∧ next ≤ 4611686018427387904) ∧ Sat w0 (BoardI v n next R I :: L) w := by
  simp only [BoardA, Sat.ex_iff, Sat.pr_iff]
theorem boardA_inv (h : Sat w0 (BoardA v n next rs :: L) w) : ∃ R I, BInv n next R I rs := by
  obtain ⟨R, I, H, _⟩ := boardA_iff.1 h
  exact ⟨R, I, H.1⟩
theorem byid_calls (W : World) (x y : Row) : callP G91 [.agg (cRow x).toArray, .agg (cRow y).toArray] W fun v w' => v = .int .i64 (idV x y) ∧ Gr W w' := by
  refine c91 ?_
  unfold F91
  refine eBox_ex (Sat.start W) (Gr.refl W) fun p w1 h1 g1 => ?_
  refine eBox_ex h1 g1 fun q w2 h2 g2 => ?_
  have hp := h2.f1.cl
  have hq := h2.cl
  simp only [cRow, cells_agg] at hp hq
  simp [ptr, cell_of hp, cell_of hq]
  exact cmp_spec ⟨rfl, g2⟩
theorem bnext_spec (h : Sat w0 (BoardA v n next rs :: L) w) (hK : K (.int .i64 next) w) : callP G45 [v] w K := by
  refine c45 ?_
  unfold F45
  replace h := boardA_iff.1 h
  obtain ⟨R, I, H, h⟩ := h
  replace h := board_iff.1 h
  obtain ⟨p, mr, mi, rfl, h⟩ := h
  have h2 : Nth [Value.int .i64 n, .int .i64 next, mr, mi] 1 (.int .i64 next) := inferInstance
  (repeat (first
 | (simp (disch := omega) only [evA, evB, bAdd_i64, bSub_i64, ptr, Nat.zero_add, Bool.not_true, Bool.not_false, Option.isNone_some, Option.isNone_none, Option.isSome_some, Option.isSome_none, decide_true, decide_false, eq_self, true_and, and_assoc])
 | ((with_reducible apply go_ld1 h))
 | ((with_reducible apply go_ldA h); (rfl))
 | ((with_reducible apply go_ldN h))
 | ((with_reducible apply go_st h); intro _ h)
 | ((with_reducible apply go_stA h); (rfl); (rfl); (first | rfl | simp [OneV.o]); intro _ h)
 | ((with_reducible apply go_stN h); (rfl); (first | rfl | simp [OneV.o]); intro _ h)
 | ((with_reducible apply go_box h); rfl; intro _ _ h)
 | ((with_reducible apply go_rd h); (rfl))
 | ((with_reducible apply go_rdN h); (rfl))
 | ((with_reducible apply go_rlen h); (rfl))
 | ((with_reducible apply go_lenL h))
 | ((with_reducible apply go_ix h); (omega))
 | ((with_reducible apply go_elN h); (case hi => omega))
 | ((with_reducible apply go_fa h); (omega); (omega))
 | ((with_reducible apply go_f1 h); (case hi => omega); (case hx => exact inferInstance))
 | ((with_reducible apply go_rf1 h); (case hi => omega); (case hx => exact inferInstance); (case hv => rfl))
 | ((with_reducible apply go_rel h); (case hi => omega); (case hv => rfl))
))
  exact hK
theorem banew_spec (h1 : 1 ≤ n) (h2 : n ≤ 65536) (h : Sat w0 L w) (hK : ∀ p w', Sat w0 (BoardA (ptr p) n 1 [] :: L) w' → K (.tuple #[ptr p, .int .i64 0]) w') : callP G13 [.int .i64 n] w K :=
  bnew_spec h h1 h2 fun p w h => hK p w (boardA_iff.2 ⟨[], [], ⟨.start h1 h2 1, by omega, by omega⟩, h⟩)
theorem fbRow (x : Row) : fBuildSl Try.prog 33 1 [(0, .agg (cRow x).toArray)] = some (cRow x).toArray := by kernel_rfl
theorem baall_spec (h : Sat w0 (BoardA v n next rs :: L) w) (hK : ∀ s w', Sat w0 (LsH cRow 11 33 s rs :: BoardA v n next rs :: L) w' → K s w') : callP G42 [v] w K := by
  refine c42 ?_
  unfold F42
  replace h := boardA_iff.1 h
  obtain ⟨R, I, H, h⟩ := h
  replace h := board_iff.1 h
  obtain ⟨p, mr, mi, rfl, h⟩ := h
  obtain ⟨r1, _, _, ⟨rfl, _⟩, _⟩ := map_iff.1 (h.front (A := MapH kI rowV mr R) (by repeat (first | exact .here | apply Fnt.there)))
  (repeat (first
 | (simp (disch := omega) only [evA, evB, bAdd_i64, bSub_i64, ptr, Nat.zero_add, Bool.not_true, Bool.not_false, Option.isNone_some, Option.isNone_none, Option.isSome_some, Option.isSome_none, decide_true, decide_false, eq_self, true_and, and_assoc])
 | ((with_reducible apply go_ld1 h))
 | ((with_reducible apply go_ldA h); (rfl))
 | ((with_reducible apply go_ldN h))
 | ((with_reducible apply go_st h); intro _ h)
 | ((with_reducible apply go_stA h); (rfl); (rfl); (first | rfl | simp [OneV.o]); intro _ h)
 | ((with_reducible apply go_stN h); (rfl); (first | rfl | simp [OneV.o]); intro _ h)
 | ((with_reducible apply go_box h); rfl; intro _ _ h)
 | ((with_reducible apply go_rd h); (rfl))
 | ((with_reducible apply go_rdN h); (rfl))
 | ((with_reducible apply go_rlen h); (rfl))
 | ((with_reducible apply go_lenL h))
 | ((with_reducible apply go_ix h); (omega))
 | ((with_reducible apply go_elN h); (case hi => omega))
 | ((with_reducible apply go_fa h); (omega); (omega))
 | ((with_reducible apply go_f1 h); (case hi => omega); (case hx => exact inferInstance))
 | ((with_reducible apply go_rf1 h); (case hi => omega); (case hx => exact inferInstance); (case hv => rfl))
 | ((with_reducible apply go_rel h); (case hi => omega); (case hv => rfl))
))
  refine c90 ?_
  unfold F90
  (repeat (first
 | (simp (disch := omega) only [evA, evB, bAdd_i64, bSub_i64, ptr, Nat.zero_add, Bool.not_true, Bool.not_false, Option.isNone_some, Option.isNone_none, Option.isSome_some, Option.isSome_none, decide_true, decide_false, eq_self, true_and, and_assoc])
 | ((with_reducible apply go_ld1 h))
 | ((with_reducible apply go_ldA h); (rfl))
 | ((with_reducible apply go_ldN h))
 | ((with_reducible apply go_st h); intro _ h)
 | ((with_reducible apply go_stA h); (rfl); (rfl); (first | rfl | simp [OneV.o]); intro _ h)
 | ((with_reducible apply go_stN h); (rfl); (first | rfl | simp [OneV.o]); intro _ h)
 | ((with_reducible apply go_box h); rfl; intro _ _ h)
 | ((with_reducible apply go_rd h); (rfl))
 | ((with_reducible apply go_rdN h); (rfl))
 | ((with_reducible apply go_rlen h); (rfl))
 | ((with_reducible apply go_lenL h))
 | ((with_reducible apply go_ix h); (omega))
 | ((with_reducible apply go_elN h); (case hi => omega))
 | ((with_reducible apply go_fa h); (omega); (omega))
 | ((with_reducible apply go_f1 h); (case hi => omega); (case hx => exact inferInstance))
 | ((with_reducible apply go_rf1 h); (case hi => omega); (case hx => exact inferInstance); (case hv => rfl))
 | ((with_reducible apply go_rel h); (case hi => omega); (case hv => rfl))
))
  refine c89 ?_
  unfold F89
  refine c120 ?_
  unfold F120
  have hb := H.1.bd
  refine appS_sat (ek := kI) (ev := rowV) (fv := cRow) (m := R) (L := Cl p #[.int .i64 n, .int .i64 next, .map (some r1), mi] 110 :: MapH ekS kI mi I :: L) CR (fun _ => rfl) fbRow (by rw [H.1.len]; omega) (h.get (by (repeat (first | exact .done | (refine .pick (by repeat (first | exact .here | apply Fnt.there)) ?_) | refine .skip ?_)))) fun l s w hp h => ?_
  have hll : l.length = rs.length := by
    have := hp.length_eq
    rw [List.length_map, H.1.len] at this; exact this
  refine sortF_sat (lt := idLt) (cf := idV) (l := l) h (by omega) CR idSWO idV_neg ok91 Try.call91 byid_calls fun l' w h3 h4 h => ?_
  have el : l' = rs := by
    refine List.Perm.eq_of_pairwise (le := fun a b : Row => idLt b a = false) (fun a b ha hb h1 h2 => ?_) h4 (H.1.asc.imp fun h => by simp [idLt]; omega) ((h3.trans hp).trans H.1.pm)
    have hp2 := (h3.trans hp).trans H.1.pm
    simp [idLt] at h1 h2
    exact rasc_eq H.1.asc (hp2.mem_iff.1 ha) hb (by omega)
  subst el
  exact hK _ _ (Sat.f1 (boardA_iff.2 ⟨R, I, H, board_iff.2 ⟨p, _, mi, rfl, h.get (by (repeat (first | exact .done | (refine .pick (by repeat (first | exact .here | apply Fnt.there)) ?_) | refine .skip ?_)))⟩⟩))
end
end Go.Proofs.Gong

/- Be2 -/
namespace Go.Proofs.Gong
open Go Go.Sx Go.Proofs
set_option maxRecDepth 100000
def raiseA (n next : Int) (rs : List Row) (e : Evt) (now : Int) : (Row × Int × Int) × Int × List Row :=
  if okE e = false then ((zeroR, 0, 180), next, rs) else
  if timeP now = false then ((zeroR, 0, 1), next, rs) else
  match rs.find? fun d => decide (sgOf d.e = sgOf e) with
  | none => if e.level = 0 then ((zeroR, 0, 5), next, rs) else if n ≤ (rs.length : Int) then ((zeroR, 0, 200), next, rs) else
    ((⟨next, e, 1, now, now, false, []⟩, 1, 0), next + 1, rs ++ [⟨next, e, 1, now, now, false, []⟩])
  | some r => if e.level = 0 then ((r, 3, 0), next, remL r.id rs) else (((againP r e now).1, (againP r e now).2, 0), next, replL (againP r e now).1 rs)
theorem insR_last {r : Row} {rs : List Row} (h : ∀ d ∈ rs, d.id < r.id) : insR r rs = rs ++ [r] := by
  induction rs with
  | nil => rfl
  | cons d rs ih =>
    have hd := h d (by simp)
    have e : insR r (d :: rs) = d :: insR r rs := by simp [insR, hd]
    rw [e, ih fun x hx => h x (List.mem_cons_of_mem _ hx)]
    rfl
theorem again_e {r : Row} {e : Evt} {now : Int} (h : sgOf r.e = sgOf e) : (againP r e now).1.e = e := by
  unfold sgOf at h
  simp only [Prod.mk.injEq] at h
  obtain ⟨n, c, k, l, t⟩ := e
  unfold againP
  split
  · rename_i g; simp only at h g ⊢; rw [h.1, h.2.1, h.2.2, g]
  · split <;> (simp only at h ⊢; rw [h.1, h.2.1, h.2.2])
theorem again_id {r : Row} {e : Evt} {now : Int} : (againP r e now).1.id = r.id := by unfold againP; split <;> (try split) <;> rfl
theorem okE_level {e : Evt} (h : okE e = true) : 0 ≤ e.level := by
  unfold okE at h
  simp only [Bool.and_eq_true, decide_eq_true_eq] at h
  omega
theorem okR_new {next now : Int} {e : Evt} (h1 : okE e = true) (h2 : timeP now = true) (h3 : e.level ≠ 0) (h4 : 1 ≤ next) : okR ⟨next, e, 1, now, now, false, []⟩ = true := by
  have := okE_level h1
  unfold okR timesR whoR
  simp [h1, h2, h4]
  omega
theorem okR_parts {r : Row} (h : okR r = true) : 1 ≤ r.id ∧ 1 ≤ r.e.level ∧ 1 ≤ r.tally ∧ r.tally ≤ 1099511627776 ∧ timeP r.first = true ∧ timeP r.last = true ∧ r.first ≤ r.last ∧ whoR r = true ∧ okE r.e = true := by
  unfold okR timesR at h
  simp only [Bool.and_eq_true, decide_eq_true_eq] at h
  exact ⟨h.1.1.1.1.1.1, h.1.1.1.1.1.2, h.1.1.1.1.2, h.1.1.1.2, h.1.1.2.1.1, h.1.1.2.1.2, h.1.1.2.2, h.1.2, h.2⟩
theorem okR_again {r : Row} {e : Evt} {now : Int} (h : okR r = true) (he : okE e = true) (ht : timeP now = true) (hl : e.level ≠ 0) (hs : sgOf r.e = sgOf e) : okR (againP r e now).1 = true := by
  obtain ⟨h1, h2, h3, h4, h5, h6, h7, h8, h9⟩ := okR_parts h
  have hle := okE_level he
  have e1 := again_e (now := now) hs
  have e2 : okE (againP r e now).1.e = true := by rw [e1]; exact he
  have e3 : 1 ≤ (againP r e now).1.e.level := by rw [e1]; omega
  have tm : timeP (max r.last now) = true := by
    unfold timeP at h6 ht ⊢
    simp only [Bool.and_eq_true, decide_eq_true_eq] at h6 ht ⊢
    omega
  have e4 : timesR (againP r e now).1 = true := by
    have key : (againP r e now).1.first = r.first ∧ (againP r e now).1.last = max r.last now := by unfold againP; split <;> (try split) <;> exact ⟨rfl, rfl⟩
    unfold timesR
    rw [key.1, key.2, h5, tm]
    simp; omega
  have e5 : whoR (againP r e now).1 = true := by
    unfold againP
    split
    · exact h8
    · split
      · rfl
      · exact h8
  have e6 : (againP r e now).1.tally = min (r.tally + 1) 1099511627776 := by unfold againP; split <;> (try split) <;> rfl
  unfold okR
  rw [e2, e4, e5, again_id, e6]
  simp only [Bool.and_true, Bool.and_eq_true, decide_eq_true_eq]
  omega
attribute [local irreducible] fBuild fLook fZero eqv bEqv Cl MapH LsH SlH ld1 ldN st callP eBox eAlloc lenM lenL eMapSet eDelete eAppend eBuildSl eRange eNext
section
variable {w0 w : World} {L : List HP} {K : Value → World → Prop} {v : Value} {n next : Int} {R : List (Int × Row)} {I : List (Sg × Int)} {rs : List Row} {r : Row}
theorem raiseA_inv {e : Evt} {now : Int} (H : BInv n next R I rs) (hn : 1 ≤ next) : (raiseP n next R I e now).1 = (raiseA n next rs e now).1 ∧ (raiseP n next R I e now).2.1 = (raiseA n next rs e now).2.1 ∧
    BInv n (raiseA n next rs e now).2.1 (raiseP n next R I e now).2.2.1 (raiseP n next R I e now).2.2.2 (raiseA n next rs e now).2.2 ∧ next ≤ (raiseA n next rs e now).2.1 ∧ (raiseA n next rs e now).2.1 ≤ next + 1 := by
  unfold raiseP raiseA
  by_cases g1 : okE e = false
  · simp only [if_pos g1]
    exact ⟨by trivial, by trivial, H, by omega, by omega⟩
  by_cases g2 : timeP now = false
  · simp only [if_neg g1, if_pos g2]
    exact ⟨by trivial, by trivial, H, by omega, by omega⟩
  have g1' : okE e = true := by simpa using g1
  have g2' : timeP now = true := by simpa using g2
  simp only [if_neg g1, if_neg g2]
  rw [H.find]
  cases hf : rs.find? fun d => decide (sgOf d.e = sgOf e) with
  | none =>
    simp only [Option.map_none]
    rw [H.len]
    by_cases g3 : e.level = 0
    · simp only [if_pos g3]; exact ⟨by trivial, by trivial, H, by omega, by omega⟩
    by_cases g4 : n ≤ (rs.length : Int)
    · simp only [if_neg g3, if_pos g4]; exact ⟨by trivial, by trivial, H, by omega, by omega⟩
    simp only [if_neg g3, if_neg g4]
    refine ⟨by trivial, by trivial, ?_, by omega, by omega⟩
    rw [List.find?_eq_none] at hf
    have hlt : ∀ d ∈ rs, d.id < next := fun d hd => (H.ok d hd).2
    have H' : BInv n (next + 1) R I rs := ⟨H.pm, H.key, H.asc, H.pI, H.sg, H.bd, fun d hd => ⟨(H.ok d hd).1, by have := hlt d hd; omega⟩⟩
    have := H'.ins (r := ⟨next, e, 1, now, now, false, []⟩) (okR_new g1' g2' g3 hn) (fun d hd he => by have := hf d hd; simp [he] at this) (fun d hd he => by have := hlt d hd; simp at he; omega) (by omega) (by show next < next + 1; omega)
    rw [insR_last (r := ⟨next, e, 1, now, now, false, []⟩) hlt] at this
    exact this
  | some r =>
    have hr := List.mem_of_find?_eq_some hf
    have hs := List.find?_some hf
    simp only [decide_eq_true_eq] at hs
    simp only [Option.map_some, H.get hr, Option.getD_some]
    by_cases g3 : e.level = 0
    · simp only [if_pos g3]; exact ⟨by trivial, by trivial, H.rem hr, by omega, by omega⟩
    simp only [if_neg g3]
    refine ⟨by trivial, by trivial, H.repl (okR_again (H.ok r hr).1 g1' g2' g3 hs) hr again_id.symm (by rw [again_e hs]; exact hs), by omega, by omega⟩
theorem baraise_spec {e : Evt} {now : Int} (he : e.fits) (hn : next + 1 ≤ 4611686018427387904) (h : Sat w0 (BoardA v n next rs :: L) w)
    (hK : ∀ w', Sat w0 (BoardA v n (raiseA n next rs e now).2.1 (raiseA n next rs e now).2.2 :: L) w' →
      K (.tuple #[rowV (raiseA n next rs e now).1.1, .int .i64 (raiseA n next rs e now).1.2.1, .int .i64 (raiseA n next rs e now).1.2.2]) w') :
    callP G16 [v, evV e, .int .i64 now] w K := by
  replace h := boardA_iff.1 h
  obtain ⟨R, I, ⟨H, hn1, hn2⟩, h⟩ := h
  obtain ⟨e1, e2, H2, e3, e4⟩ := raiseA_inv (e := e) (now := now) H hn1
  refine raise_spec he (by omega) (fun id r hg => ?_) h fun w h => ?_
  · have := okR_parts (H.ok r (H.mem hg).1).1
    omega
  · rw [e1, e2] at *
    exact hK w (boardA_iff.2 ⟨_, _, ⟨H2, by omega, by omega⟩, by rw [e2] at h; exact h⟩)
end
end Go.Proofs.Gong

/- Be3 -/
namespace Go.Proofs.Gong
open Go Go.Sx Go.Proofs
set_option maxRecDepth 100000
def evK (k : Nat) : Evt := ⟨[UInt8.ofNat (97 + k % 3)], [UInt8.ofNat (112 + k / 3 % 2)], [], (k / 6 % 6 : Nat), [UInt8.ofNat (65 + k / 36 % 20)]⟩
def evN (x : Int) : Evt := evK (bel x 1048576).toNat
theorem evK_fits (k : Nat) : (evK k).fits := by unfold Evt.fits evK; simp
attribute [local irreducible] fBuild fLook fZero eqv bEqv Cl MapH LsH SlH ld1 ldN st callP eBox eAlloc lenM lenL eMapSet eDelete eAppend eBuildSl eRange eNext
section
variable {w0 w : World} {L : List HP} {K : Value → World → Prop} {v : Value} {n next : Int} {R : List (Int × Row)} {I : List (Sg × Int)} {rs : List Row} {r : Row}
theorem CB1 : Cod (fun b : UInt8 => [Value.int .u8 b.toNat]) 1 := ⟨fun _ => rfl, fun _ => rfl, by omega⟩
theorem event_spec {x : Int} (h : Sat w0 L w) (hK : ∀ w', Sat w0 L w' → K (evV (evN x)) w') : callP G39 [.int .i64 x] w K := by
  refine c39 ?_
  unfold F39
  refine go_alloc h z31 rfl fun _ _ h => ?_
  refine Below_spec (by decide) (by decide) fun r h1 h2 hr => ?_
  unfold evN at hK
  rw [← hr] at hK
  obtain ⟨k, rfl⟩ : ∃ k : Nat, r = k := ⟨r.toNat, by omega⟩
  rw [show ((k : Nat) : Int).toNat = k from by omega] at hK
  have e1 : bRem (.int .i64 (k : Int)) (.int .i64 3) = some (.int .i64 ((k % 3 : Nat) : Int)) := by
    rw [bRem_int _ _ _ (by decide), Int.tmod_eq_emod_of_nonneg (by omega)]; congr 2
  have e2 : bQuo (.int .i64 (k : Int)) (.int .i64 3) = some (.int .i64 ((k / 3 : Nat) : Int)) := by
    rw [bQuo_int _ _ _ (by decide), Int.tdiv_eq_ediv_of_nonneg (by omega), wrap_id (by omega)]; congr 2
  have e3 : bRem (.int .i64 ((k / 3 : Nat) : Int)) (.int .i64 2) = some (.int .i64 ((k / 3 % 2 : Nat) : Int)) := by
    rw [bRem_int _ _ _ (by decide), Int.tmod_eq_emod_of_nonneg (by omega)]; congr 2
  have e5 : bQuo (.int .i64 (k : Int)) (.int .i64 6) = some (.int .i64 ((k / 6 : Nat) : Int)) := by
    rw [bQuo_int _ _ _ (by decide), Int.tdiv_eq_ediv_of_nonneg (by omega), wrap_id (by omega)]; congr 2
  have e6 : bRem (.int .i64 ((k / 6 : Nat) : Int)) (.int .i64 6) = some (.int .i64 ((k / 6 % 6 : Nat) : Int)) := by
    rw [bRem_int _ _ _ (by decide), Int.tmod_eq_emod_of_nonneg (by omega)]; congr 2
  have e7 : bQuo (.int .i64 (k : Int)) (.int .i64 36) = some (.int .i64 ((k / 36 : Nat) : Int)) := by
    rw [bQuo_int _ _ _ (by decide), Int.tdiv_eq_ediv_of_nonneg (by omega), wrap_id (by omega)]; congr 2
  have e8 : bRem (.int .i64 ((k / 36 : Nat) : Int)) (.int .i64 20) = some (.int .i64 ((k / 36 % 20 : Nat) : Int)) := by
    rw [bRem_int _ _ _ (by decide), Int.tmod_eq_emod_of_nonneg (by omega)]; congr 2
  have u8 : ∀ (b a : Nat), b + a < 256 → bAdd (.int .i64 (b : Int)) (.int .i64 (a : Int)) = some (.int .i64 ((b + a : Nat) : Int)) ∧ cInt .u8 (.int .i64 ((b + a : Nat) : Int)) = some (.int .u8 ((UInt8.ofNat (b + a)).toNat : Nat)) := by
    intro b a hlt
    refine ⟨?_, ?_⟩
    · rw [bAdd_i64 (by omega)]; rfl
    · simp only [cInt]
      congr 2
  have a1 := u8 97 (k % 3) (by omega)
  have a2 := u8 112 (k / 3 % 2) (by omega)
  have a3 := u8 65 (k / 36 % 20) (by omega)
  refine go_some e1 ?_
  refine go_some a1.1 ?_
  refine go_some a1.2 ?_
  refine go_lit1 (f := fun b : UInt8 => [.int .u8 b.toNat]) (x := UInt8.ofNat (97 + k % 3)) CB1 h u29 (c := #[.int .u8 ((UInt8.ofNat (97 + k % 3)).toNat : Nat)]) (by kernel_rfl) rfl fun s w h => ?_
  refine go_some (cBytes_rd (l := [UInt8.ofNat (97 + k % 3)]) (ls_rd h) (by simp)) ?_
  refine go_some e2 ?_
  refine go_some e3 ?_
  refine go_some a2.1 ?_
  refine go_some a2.2 ?_
  refine go_lit1 (f := fun b : UInt8 => [.int .u8 b.toNat]) (x := UInt8.ofNat (112 + k / 3 % 2)) CB1 h u29 (c := #[.int .u8 ((UInt8.ofNat (112 + k / 3 % 2)).toNat : Nat)]) (by kernel_rfl) rfl fun s w h => ?_
  refine go_some (cBytes_rd (l := [UInt8.ofNat (112 + k / 3 % 2)]) (ls_rd h) (by simp)) ?_
  refine go_some e5 ?_
  refine go_some e6 ?_
  refine go_some e7 ?_
  refine go_some e8 ?_
  refine go_some a3.1 ?_
  refine go_some a3.2 ?_
  refine go_lit1 (f := fun b : UInt8 => [.int .u8 b.toNat]) (x := UInt8.ofNat (65 + k / 36 % 20)) CB1 h u29 (c := #[.int .u8 ((UInt8.ofNat (65 + k / 36 % 20)).toNat : Nat)]) (by kernel_rfl) rfl fun s w h => ?_
  refine go_some (cBytes_rd (l := [UInt8.ofNat (65 + k / 36 % 20)]) (ls_rd h) (by simp)) ?_
  (repeat (first
 | (simp (disch := omega) only [evA, evB, bAdd_i64, bSub_i64, ptr, Nat.zero_add, Bool.not_true, Bool.not_false, Option.isNone_some, Option.isNone_none, Option.isSome_some, Option.isSome_none, decide_true, decide_false, eq_self, true_and, and_assoc])
 | (refine go_some (fb31_0_1_3_4 ..) ?_)
 | ((with_reducible apply go_ld1 h))
 | ((with_reducible apply go_ldA h); (rfl))
 | ((with_reducible apply go_ldN h))
 | ((with_reducible apply go_st h); intro _ h)
 | ((with_reducible apply go_stA h); (rfl); (rfl); (first | rfl | simp [OneV.o]); intro _ h)
 | ((with_reducible apply go_stN h); (rfl); (first | rfl | simp [OneV.o]); intro _ h)
 | ((with_reducible apply go_box h); rfl; intro _ _ h)
 | ((with_reducible apply go_rd h); (rfl))
 | ((with_reducible apply go_rdN h); (rfl))
 | ((with_reducible apply go_rlen h); (rfl))
 | ((with_reducible apply go_lenL h))
 | ((with_reducible apply go_ix h); (omega))
 | ((with_reducible apply go_elN h); (case hi => omega))
 | ((with_reducible apply go_fa h); (omega); (omega))
 | ((with_reducible apply go_f1 h); (case hi => omega); (case hx => exact inferInstance))
 | ((with_reducible apply go_rf1 h); (case hi => omega); (case hx => exact inferInstance); (case hv => rfl))
 | ((with_reducible apply go_rel h); (case hi => omega); (case hv => rfl))
))
  exact hK _ (h.get (by (repeat (first | exact .done | (refine .pick (by repeat (first | exact .here | apply Fnt.there)) ?_) | refine .skip ?_))))
end
end Go.Proofs.Gong

/- Be4 -/
namespace Go.Proofs.Gong
open Go Go.Sx Go.Proofs
set_option maxRecDepth 100000
attribute [local irreducible] fBuild fLook fZero eqv bEqv Cl MapH LsH SlH ld1 ldN st callP eBox eAlloc lenM lenL eMapSet eDelete eAppend eBuildSl eRange eNext
section
variable {w0 w : World} {L : List HP} {K : Value → World → Prop} {v : Value} {n next : Int} {R : List (Int × Row)} {I : List (Sg × Int)} {rs : List Row} {r : Row}
theorem okR_ack {r : Row} {who : List UInt8} (h : okR r = true) (hw : whoP who = true) : okR { r with acked := true, who := who } = true := by
  obtain ⟨h1, h2, h3, h4, h5, h6, h7, h8, h9⟩ := okR_parts h
  unfold okR timesR whoR
  simp [h1, h2, h3, h4, h5, h6, h7, h9, hw]
theorem baack_spec {id : Int} {who : List UInt8} (hwho : who.length < 1000000) (h : Sat w0 (BoardA v n next rs :: L) w)
    (hK0 : ∀ c : Int, ((c = 5 ∧ ∀ r ∈ rs, r.id ≠ id) ∨ (c = 1 ∧ whoP who = false ∧ ∃ r ∈ rs, r.id = id) ∨ (c = 6 ∧ whoP who = true ∧ ∃ r ∈ rs, r.id = id ∧ r.acked = true)) → ∀ w', Sat w0 (BoardA v n next rs :: L) w' → K (.tuple #[rowV zeroR, .int .i64 c]) w')
    (hK1 : ∀ r ∈ rs, r.id = id → r.acked = false → whoP who = true → ∀ w', Sat w0 (BoardA v n next (replL { r with acked := true, who := who } rs) :: L) w' → K (.tuple #[rowV { r with acked := true, who := who }, .int .i64 0]) w') : callP G43 [v, .int .i64 id, .string (bs who)] w K := by
  refine c43 ?_
  unfold F43
  replace h := boardA_iff.1 h
  obtain ⟨R, I, H, h⟩ := h
  replace h := board_iff.1 h
  obtain ⟨p, mr, mi, rfl, h⟩ := h
  have := map_one (h.front (A := MapH kI rowV mr R) (by repeat (first | exact .here | apply Fnt.there)))
  have := map_one (h.front (A := MapH ekS kI mi I) (by repeat (first | exact .here | apply Fnt.there)))
  have close : ∀ {w : World} {L' : List HP}, Sat w0 L' w → Get L' (Cl p #[.int .i64 n, .int .i64 next, mr, mi] 110 :: MapH kI rowV mr R :: MapH ekS kI mi I :: L) → Sat w0 (BoardA (ptr p) n next rs :: L) w := fun h g => boardA_iff.2 ⟨R, I, H, board_iff.2 ⟨p, mr, mi, rfl, h.get g⟩⟩
  refine go_alloc h zR rfl fun _ _ h => ?_
  (repeat (first
 | (simp (disch := omega) only [evA, evB, bAdd_i64, bSub_i64, ptr, Nat.zero_add, Bool.not_true, Bool.not_false, Option.isNone_some, Option.isNone_none, Option.isSome_some, Option.isSome_none, decide_true, decide_false, eq_self, true_and, and_assoc])
 | ((with_reducible apply go_ld1 h))
 | ((with_reducible apply go_ldA h); (rfl))
 | ((with_reducible apply go_ldN h))
 | ((with_reducible apply go_st h); intro _ h)
 | ((with_reducible apply go_stA h); (rfl); (rfl); (first | rfl | simp [OneV.o]); intro _ h)
 | ((with_reducible apply go_stN h); (rfl); (first | rfl | simp [OneV.o]); intro _ h)
 | ((with_reducible apply go_box h); rfl; intro _ _ h)
 | ((with_reducible apply go_rd h); (rfl))
 | ((with_reducible apply go_rdN h); (rfl))
 | ((with_reducible apply go_rlen h); (rfl))
 | ((with_reducible apply go_lenL h))
 | ((with_reducible apply go_ix h); (omega))
 | ((with_reducible apply go_elN h); (case hi => omega))
 | ((with_reducible apply go_fa h); (omega); (omega))
 | ((with_reducible apply go_f1 h); (case hi => omega); (case hx => exact inferInstance))
 | ((with_reducible apply go_rf1 h); (case hi => omega); (case hx => exact inferInstance); (case hv => rfl))
 | ((with_reducible apply go_rel h); (case hi => omega); (case hv => rfl))
))
  refine go_look2 h (by repeat (first | exact .here | apply Fnt.there)) KIr um107 zR id ?_
  rw [elimR]
  (repeat (first
 | (simp (disch := omega) only [evA, evB, bAdd_i64, bSub_i64, ptr, Nat.zero_add, Bool.not_true, Bool.not_false, Option.isNone_some, Option.isNone_none, Option.isSome_some, Option.isSome_none, decide_true, decide_false, eq_self, true_and, and_assoc])
 | ((with_reducible apply go_ld1 h))
 | ((with_reducible apply go_ldA h); (rfl))
 | ((with_reducible apply go_ldN h))
 | ((with_reducible apply go_st h); intro _ h)
 | ((with_reducible apply go_stA h); (rfl); (rfl); (first | rfl | simp [OneV.o]); intro _ h)
 | ((with_reducible apply go_stN h); (rfl); (first | rfl | simp [OneV.o]); intro _ h)
 | ((with_reducible apply go_box h); rfl; intro _ _ h)
 | ((with_reducible apply go_rd h); (rfl))
 | ((with_reducible apply go_rdN h); (rfl))
 | ((with_reducible apply go_rlen h); (rfl))
 | ((with_reducible apply go_lenL h))
 | ((with_reducible apply go_ix h); (omega))
 | ((with_reducible apply go_elN h); (case hi => omega))
 | ((with_reducible apply go_fa h); (omega); (omega))
 | ((with_reducible apply go_f1 h); (case hi => omega); (case hx => exact inferInstance))
 | ((with_reducible apply go_rf1 h); (case hi => omega); (case hx => exact inferInstance); (case hv => rfl))
 | ((with_reducible apply go_rel h); (case hi => omega); (case hv => rfl))
))
  refine go_alloc h zR rfl fun _ _ h => ?_
  cases hg : aGet id R with
  | none =>
    simp only [Option.getD_none, Option.isSome_none]
    (repeat (first
 | (simp (disch := omega) only [evA, evB, bAdd_i64, bSub_i64, ptr, Nat.zero_add, Bool.not_true, Bool.not_false, Option.isNone_some, Option.isNone_none, Option.isSome_some, Option.isSome_none, decide_true, decide_false, eq_self, true_and, and_assoc])
 | (refine go_some (fb33 ..) ?_)
 | ((with_reducible apply go_ld1 h))
 | ((with_reducible apply go_ldA h); (rfl))
 | ((with_reducible apply go_ldN h))
 | ((with_reducible apply go_st h); intro _ h)
 | ((with_reducible apply go_stA h); (rfl); (rfl); (first | rfl | simp [OneV.o]); intro _ h)
 | ((with_reducible apply go_stN h); (rfl); (first | rfl | simp [OneV.o]); intro _ h)
 | ((with_reducible apply go_box h); rfl; intro _ _ h)
 | ((with_reducible apply go_rd h); (rfl))
 | ((with_reducible apply go_rdN h); (rfl))
 | ((with_reducible apply go_rlen h); (rfl))
 | ((with_reducible apply go_lenL h))
 | ((with_reducible apply go_ix h); (omega))
 | ((with_reducible apply go_elN h); (case hi => omega))
 | ((with_reducible apply go_fa h); (omega); (omega))
 | ((with_reducible apply go_f1 h); (case hi => omega); (case hx => exact inferInstance))
 | ((with_reducible apply go_rf1 h); (case hi => omega); (case hx => exact inferInstance); (case hv => rfl))
 | ((with_reducible apply go_rel h); (case hi => omega); (case hv => rfl))
))
    refine hK0 5 (.inl ⟨rfl, fun c hc e => ?_⟩) _ (close h (by (repeat (first | exact .done | (refine .pick (by repeat (first | exact .here | apply Fnt.there)) ?_) | refine .skip ?_))))
    have h1 := H.1.get hc
    rw [e, hg] at h1; cases h1
  | some x =>
    obtain ⟨hc, hid⟩ := H.1.mem hg
    simp only [Option.getD_some, Option.isSome_some]
    (repeat (first
 | (simp (disch := omega) only [evA, evB, bAdd_i64, bSub_i64, ptr, Nat.zero_add, Bool.not_true, Bool.not_false, Option.isNone_some, Option.isNone_none, Option.isSome_some, Option.isSome_none, decide_true, decide_false, eq_self, true_and, and_assoc])
 | ((with_reducible apply go_ld1 h))
 | ((with_reducible apply go_ldA h); (rfl))
 | ((with_reducible apply go_ldN h))
 | ((with_reducible apply go_st h); intro _ h)
 | ((with_reducible apply go_stA h); (rfl); (rfl); (first | rfl | simp [OneV.o]); intro _ h)
 | ((with_reducible apply go_stN h); (rfl); (first | rfl | simp [OneV.o]); intro _ h)
 | ((with_reducible apply go_box h); rfl; intro _ _ h)
 | ((with_reducible apply go_rd h); (rfl))
 | ((with_reducible apply go_rdN h); (rfl))
 | ((with_reducible apply go_rlen h); (rfl))
 | ((with_reducible apply go_lenL h))
 | ((with_reducible apply go_ix h); (omega))
 | ((with_reducible apply go_elN h); (case hi => omega))
 | ((with_reducible apply go_fa h); (omega); (omega))
 | ((with_reducible apply go_f1 h); (case hi => omega); (case hx => exact inferInstance))
 | ((with_reducible apply go_rf1 h); (case hi => omega); (case hx => exact inferInstance); (case hv => rfl))
 | ((with_reducible apply go_rel h); (case hi => omega); (case hv => rfl))
))
    refine iswho_spec (s := who) hwho h fun w h => ?_
    cases g1 : whoP who
    · (repeat (first
 | (simp (disch := omega) only [evA, evB, bAdd_i64, bSub_i64, ptr, Nat.zero_add, Bool.not_true, Bool.not_false, Option.isNone_some, Option.isNone_none, Option.isSome_some, Option.isSome_none, decide_true, decide_false, eq_self, true_and, and_assoc])
 | (refine go_some (fb33 ..) ?_)
 | ((with_reducible apply go_ld1 h))
 | ((with_reducible apply go_ldA h); (rfl))
 | ((with_reducible apply go_ldN h))
 | ((with_reducible apply go_st h); intro _ h)
 | ((with_reducible apply go_stA h); (rfl); (rfl); (first | rfl | simp [OneV.o]); intro _ h)
 | ((with_reducible apply go_stN h); (rfl); (first | rfl | simp [OneV.o]); intro _ h)
 | ((with_reducible apply go_box h); rfl; intro _ _ h)
 | ((with_reducible apply go_rd h); (rfl))
 | ((with_reducible apply go_rdN h); (rfl))
 | ((with_reducible apply go_rlen h); (rfl))
 | ((with_reducible apply go_lenL h))
 | ((with_reducible apply go_ix h); (omega))
 | ((with_reducible apply go_elN h); (case hi => omega))
 | ((with_reducible apply go_fa h); (omega); (omega))
 | ((with_reducible apply go_f1 h); (case hi => omega); (case hx => exact inferInstance))
 | ((with_reducible apply go_rf1 h); (case hi => omega); (case hx => exact inferInstance); (case hv => rfl))
 | ((with_reducible apply go_rel h); (case hi => omega); (case hv => rfl))
))
      exact hK0 1 (.inr (.inl ⟨rfl, g1, x, hc, hid⟩)) _ (close h (by (repeat (first | exact .done | (refine .pick (by repeat (first | exact .here | apply Fnt.there)) ?_) | refine .skip ?_))))
    (repeat (first
 | (simp (disch := omega) only [evA, evB, bAdd_i64, bSub_i64, ptr, Nat.zero_add, Bool.not_true, Bool.not_false, Option.isNone_some, Option.isNone_none, Option.isSome_some, Option.isSome_none, decide_true, decide_false, eq_self, true_and, and_assoc])
 | ((with_reducible apply go_ld1 h))
 | ((with_reducible apply go_ldA h); (rfl))
 | ((with_reducible apply go_ldN h))
 | ((with_reducible apply go_st h); intro _ h)
 | ((with_reducible apply go_stA h); (rfl); (rfl); (first | rfl | simp [OneV.o]); intro _ h)
 | ((with_reducible apply go_stN h); (rfl); (first | rfl | simp [OneV.o]); intro _ h)
 | ((with_reducible apply go_box h); rfl; intro _ _ h)
 | ((with_reducible apply go_rd h); (rfl))
 | ((with_reducible apply go_rdN h); (rfl))
 | ((with_reducible apply go_rlen h); (rfl))
 | ((with_reducible apply go_lenL h))
 | ((with_reducible apply go_ix h); (omega))
 | ((with_reducible apply go_elN h); (case hi => omega))
 | ((with_reducible apply go_fa h); (omega); (omega))
 | ((with_reducible apply go_f1 h); (case hi => omega); (case hx => exact inferInstance))
 | ((with_reducible apply go_rf1 h); (case hi => omega); (case hx => exact inferInstance); (case hv => rfl))
 | ((with_reducible apply go_rel h); (case hi => omega); (case hv => rfl))
))
    cases g2 : x.acked
    case true =>
      (repeat (first
 | (simp (disch := omega) only [evA, evB, bAdd_i64, bSub_i64, ptr, Nat.zero_add, Bool.not_true, Bool.not_false, Option.isNone_some, Option.isNone_none, Option.isSome_some, Option.isSome_none, decide_true, decide_false, eq_self, true_and, and_assoc, g2])
 | (refine go_some (fb33 ..) ?_)
 | ((with_reducible apply go_ld1 h))
 | ((with_reducible apply go_ldA h); (rfl))
 | ((with_reducible apply go_ldN h))
 | ((with_reducible apply go_st h); intro _ h)
 | ((with_reducible apply go_stA h); (rfl); (rfl); (first | rfl | simp [OneV.o]); intro _ h)
 | ((with_reducible apply go_stN h); (rfl); (first | rfl | simp [OneV.o]); intro _ h)
 | ((with_reducible apply go_box h); rfl; intro _ _ h)
 | ((with_reducible apply go_rd h); (rfl))
 | ((with_reducible apply go_rdN h); (rfl))
 | ((with_reducible apply go_rlen h); (rfl))
 | ((with_reducible apply go_lenL h))
 | ((with_reducible apply go_ix h); (omega))
 | ((with_reducible apply go_elN h); (case hi => omega))
 | ((with_reducible apply go_fa h); (omega); (omega))
 | ((with_reducible apply go_f1 h); (case hi => omega); (case hx => exact inferInstance))
 | ((with_reducible apply go_rf1 h); (case hi => omega); (case hx => exact inferInstance); (case hv => rfl))
 | ((with_reducible apply go_rel h); (case hi => omega); (case hv => rfl))
))
      exact hK0 6 (.inr (.inr ⟨rfl, g1, x, hc, hid, g2⟩)) _ (close h (by (repeat (first | exact .done | (refine .pick (by repeat (first | exact .here | apply Fnt.there)) ?_) | refine .skip ?_))))
    (repeat (first
 | (simp (disch := omega) only [evA, evB, bAdd_i64, bSub_i64, ptr, Nat.zero_add, Bool.not_true, Bool.not_false, Option.isNone_some, Option.isNone_none, Option.isSome_some, Option.isSome_none, decide_true, decide_false, eq_self, true_and, and_assoc, g2])
 | ((with_reducible apply go_ld1 h))
 | ((with_reducible apply go_ldA h); (rfl))
 | ((with_reducible apply go_ldN h))
 | ((with_reducible apply go_st h); intro _ h)
 | ((with_reducible apply go_stA h); (rfl); (rfl); (first | rfl | simp [OneV.o]); intro _ h)
 | ((with_reducible apply go_stN h); (rfl); (first | rfl | simp [OneV.o]); intro _ h)
 | ((with_reducible apply go_box h); rfl; intro _ _ h)
 | ((with_reducible apply go_rd h); (rfl))
 | ((with_reducible apply go_rdN h); (rfl))
 | ((with_reducible apply go_rlen h); (rfl))
 | ((with_reducible apply go_lenL h))
 | ((with_reducible apply go_ix h); (omega))
 | ((with_reducible apply go_elN h); (case hi => omega))
 | ((with_reducible apply go_fa h); (omega); (omega))
 | ((with_reducible apply go_f1 h); (case hi => omega); (case hx => exact inferInstance))
 | ((with_reducible apply go_rf1 h); (case hi => omega); (case hx => exact inferInstance); (case hv => rfl))
 | ((with_reducible apply go_rel h); (case hi => omega); (case hv => rfl))
))
    refine put_bspec (r := { x with acked := true, who := who }) (v := ptr p) (n := n) (next := next) (R := R) (I := I) (L := _ :: _ :: L) (board_iff.2 ⟨p, mr, mi, rfl, h.get (by (repeat (first | exact .done | (refine .pick (by repeat (first | exact .here | apply Fnt.there)) ?_) | refine .skip ?_)))⟩) fun w h => ?_
    (repeat (first
 | (simp (disch := omega) only [evA, evB, bAdd_i64, bSub_i64, ptr, Nat.zero_add, Bool.not_true, Bool.not_false, Option.isNone_some, Option.isNone_none, Option.isSome_some, Option.isSome_none, decide_true, decide_false, eq_self, true_and, and_assoc])
 | ((with_reducible apply go_ld1 h))
 | ((with_reducible apply go_ldA h); (rfl))
 | ((with_reducible apply go_ldN h))
 | ((with_reducible apply go_st h); intro _ h)
 | ((with_reducible apply go_stA h); (rfl); (rfl); (first | rfl | simp [OneV.o]); intro _ h)
 | ((with_reducible apply go_stN h); (rfl); (first | rfl | simp [OneV.o]); intro _ h)
 | ((with_reducible apply go_box h); rfl; intro _ _ h)
 | ((with_reducible apply go_rd h); (rfl))
 | ((with_reducible apply go_rdN h); (rfl))
 | ((with_reducible apply go_rlen h); (rfl))
 | ((with_reducible apply go_lenL h))
 | ((with_reducible apply go_ix h); (omega))
 | ((with_reducible apply go_elN h); (case hi => omega))
 | ((with_reducible apply go_fa h); (omega); (omega))
 | ((with_reducible apply go_f1 h); (case hi => omega); (case hx => exact inferInstance))
 | ((with_reducible apply go_rf1 h); (case hi => omega); (case hx => exact inferInstance); (case hv => rfl))
 | ((with_reducible apply go_rel h); (case hi => omega); (case hv => rfl))
))
    exact hK1 x hc hid g2 g1 _ (boardA_iff.2 ⟨_, _, ⟨H.1.repl (r := { x with acked := true, who := who }) (okR_ack (H.1.ok x hc).1 g1) hc rfl rfl, H.2⟩, h.get (by (repeat (first | exact .done | (refine .pick (by repeat (first | exact .here | apply Fnt.there)) ?_) | refine .skip ?_)))⟩)
theorem rows_loop {a b : Value} (hl : rs.length ≤ 1000000) (hK : ∀ w', Sat w0 (LsH cRow 11 33 a rs :: LsH cRow 11 33 b rs :: L) w' → K (.bool true) w') : ∀ (d i : Nat) (w : World), rs.length - i < d → i ≤ rs.length → Sat w0 (LsH cRow 11 33 a rs :: LsH cRow 11 33 b rs :: L) w → F46_2L d a b (.int .i64 i) w K := by
  intro d
  induction d with
  | zero => intro i w hd; omega
  | succ d ih =>
    intro i w hd hi h
    rw [F46_2L]
    unfold F46_2b
    by_cases g : i < rs.length
    · have g' : decide ((i : Int) < (rs.length : Int)) = true := by simpa using g
      (repeat (first
 | (simp (disch := omega) only [evA, evB, bAdd_i64, bSub_i64, ptr, Nat.zero_add, Bool.not_true, Bool.not_false, Option.isNone_some, Option.isNone_none, Option.isSome_some, Option.isSome_none, decide_true, decide_false, eq_self, true_and, and_assoc, g'])
 | ((with_reducible apply go_ld1 h))
 | ((with_reducible apply go_ldA h); (rfl))
 | ((with_reducible apply go_ldN h))
 | ((with_reducible apply go_st h); intro _ h)
 | ((with_reducible apply go_stA h); (rfl); (rfl); (first | rfl | simp [OneV.o]); intro _ h)
 | ((with_reducible apply go_stN h); (rfl); (first | rfl | simp [OneV.o]); intro _ h)
 | ((with_reducible apply go_box h); rfl; intro _ _ h)
 | ((with_reducible apply go_rd h); (rfl))
 | ((with_reducible apply go_rdN h); (rfl))
 | ((with_reducible apply go_rlen h); (rfl))
 | ((with_reducible apply go_lenL h))
 | ((with_reducible apply go_ix h); (omega))
 | ((with_reducible apply go_elN h); (case hi => omega))
 | ((with_reducible apply go_fa h); (omega); (omega))
 | ((with_reducible apply go_f1 h); (case hi => omega); (case hx => exact inferInstance))
 | ((with_reducible apply go_rf1 h); (case hi => omega); (case hx => exact inferInstance); (case hv => rfl))
 | ((with_reducible apply go_rel h); (case hi => omega); (case hv => rfl))
))
      refine go_some (neR _ _ rs[i] rs[i]) ?_
      rw [decide_eq_true rfl]
      (repeat (first
 | (simp (disch := omega) only [evA, evB, bAdd_i64, bSub_i64, ptr, Nat.zero_add, Bool.not_true, Bool.not_false, Option.isNone_some, Option.isNone_none, Option.isSome_some, Option.isSome_none, decide_true, decide_false, eq_self, true_and, and_assoc])
 | ((with_reducible apply go_ld1 h))
 | ((with_reducible apply go_ldA h); (rfl))
 | ((with_reducible apply go_ldN h))
 | ((with_reducible apply go_st h); intro _ h)
 | ((with_reducible apply go_stA h); (rfl); (rfl); (first | rfl | simp [OneV.o]); intro _ h)
 | ((with_reducible apply go_stN h); (rfl); (first | rfl | simp [OneV.o]); intro _ h)
 | ((with_reducible apply go_box h); rfl; intro _ _ h)
 | ((with_reducible apply go_rd h); (rfl))
 | ((with_reducible apply go_rdN h); (rfl))
 | ((with_reducible apply go_rlen h); (rfl))
 | ((with_reducible apply go_lenL h))
 | ((with_reducible apply go_ix h); (omega))
 | ((with_reducible apply go_elN h); (case hi => omega))
 | ((with_reducible apply go_fa h); (omega); (omega))
 | ((with_reducible apply go_f1 h); (case hi => omega); (case hx => exact inferInstance))
 | ((with_reducible apply go_rf1 h); (case hi => omega); (case hx => exact inferInstance); (case hv => rfl))
 | ((with_reducible apply go_rel h); (case hi => omega); (case hv => rfl))
))
      exact ih (i + 1) _ (by omega) (by omega) h.drew
    · have g' : decide ((i : Int) < (rs.length : Int)) = false := by simpa using g
      (repeat (first
 | (simp (disch := omega) only [evA, evB, bAdd_i64, bSub_i64, ptr, Nat.zero_add, Bool.not_true, Bool.not_false, Option.isNone_some, Option.isNone_none, Option.isSome_some, Option.isSome_none, decide_true, decide_false, eq_self, true_and, and_assoc, g'])
 | ((with_reducible apply go_ld1 h))
 | ((with_reducible apply go_ldA h); (rfl))
 | ((with_reducible apply go_ldN h))
 | ((with_reducible apply go_st h); intro _ h)
 | ((with_reducible apply go_stA h); (rfl); (rfl); (first | rfl | simp [OneV.o]); intro _ h)
 | ((with_reducible apply go_stN h); (rfl); (first | rfl | simp [OneV.o]); intro _ h)
 | ((with_reducible apply go_box h); rfl; intro _ _ h)
 | ((with_reducible apply go_rd h); (rfl))
 | ((with_reducible apply go_rdN h); (rfl))
 | ((with_reducible apply go_rlen h); (rfl))
 | ((with_reducible apply go_lenL h))
 | ((with_reducible apply go_ix h); (omega))
 | ((with_reducible apply go_elN h); (case hi => omega))
 | ((with_reducible apply go_fa h); (omega); (omega))
 | ((with_reducible apply go_f1 h); (case hi => omega); (case hx => exact inferInstance))
 | ((with_reducible apply go_rf1 h); (case hi => omega); (case hx => exact inferInstance); (case hv => rfl))
 | ((with_reducible apply go_rel h); (case hi => omega); (case hv => rfl))
))
      unfold F46_3 F46_3b
      exact hK _ h
theorem rows_spec {a b : Value} (hl : rs.length ≤ 1000000) (h : Sat w0 (LsH cRow 11 33 a rs :: LsH cRow 11 33 b rs :: L) w) (hK : ∀ w', Sat w0 (LsH cRow 11 33 a rs :: LsH cRow 11 33 b rs :: L) w' → K (.bool true) w') : callP G46 [a, b] w K := by
  refine c46 ?_
  unfold F46 F46_1 F46_1b F46_2
  (repeat (first
 | (simp (disch := omega) only [evA, evB, bAdd_i64, bSub_i64, ptr, Nat.zero_add, Bool.not_true, Bool.not_false, Option.isNone_some, Option.isNone_none, Option.isSome_some, Option.isSome_none, decide_true, decide_false, eq_self, true_and, and_assoc])
 | ((with_reducible apply go_ld1 h))
 | ((with_reducible apply go_ldA h); (rfl))
 | ((with_reducible apply go_ldN h))
 | ((with_reducible apply go_st h); intro _ h)
 | ((with_reducible apply go_stA h); (rfl); (rfl); (first | rfl | simp [OneV.o]); intro _ h)
 | ((with_reducible apply go_stN h); (rfl); (first | rfl | simp [OneV.o]); intro _ h)
 | ((with_reducible apply go_box h); rfl; intro _ _ h)
 | ((with_reducible apply go_rd h); (rfl))
 | ((with_reducible apply go_rdN h); (rfl))
 | ((with_reducible apply go_rlen h); (rfl))
 | ((with_reducible apply go_lenL h))
 | ((with_reducible apply go_ix h); (omega))
 | ((with_reducible apply go_elN h); (case hi => omega))
 | ((with_reducible apply go_fa h); (omega); (omega))
 | ((with_reducible apply go_f1 h); (case hi => omega); (case hx => exact inferInstance))
 | ((with_reducible apply go_rf1 h); (case hi => omega); (case hx => exact inferInstance); (case hv => rfl))
 | ((with_reducible apply go_rel h); (case hi => omega); (case hv => rfl))
))
  exact rows_loop hl hK fuel 0 w (by unfold fuel; omega) (by omega) h
end
end Go.Proofs.Gong

/- Be5 -/
namespace Go.Proofs.Gong
open Go Go.Sx Go.Proofs
set_option maxRecDepth 100000
def loadStepR (next : Int) (rs : List Row) (r : Row) : Option (List Row) :=
  if okR r = true ∧ r.id < next ∧ (∀ d ∈ rs, d.id ≠ r.id) ∧ (∀ d ∈ rs, sgOf d.e ≠ sgOf r.e) then some (insR r rs) else none
def loadR (next : Int) : List Row → List Row → Option (List Row)
  | [], rs => some rs
  | r :: l, rs => (loadStepR next rs r).bind (loadR next l)
theorem loadR_perm {next : Int} : ∀ {l cs : List Row}, (∀ c ∈ l, okR c = true ∧ c.id < next) → (cs ++ l).Pairwise (fun a b => a.id ≠ b.id) → (cs ++ l).Pairwise (fun a b => sgOf a.e ≠ sgOf b.e) → (cs.Pairwise fun a b => a.id < b.id) →
    ∃ ds, loadR next l cs = some ds ∧ ds.Perm (cs ++ l) ∧ ds.Pairwise fun a b => a.id < b.id
  | [], cs, _, _, _, ha => ⟨cs, rfl, by simp, ha⟩
  | c :: l, cs, h, h1, h2, ha => by
    have g1 : ∀ d ∈ cs, d.id ≠ c.id := fun d hd => (List.pairwise_append.1 h1).2.2 d hd c (by simp)
    have g2 : ∀ d ∈ cs, sgOf d.e ≠ sgOf c.e := fun d hd => (List.pairwise_append.1 h2).2.2 d hd c (by simp)
    have hc := h c (by simp)
    have hp : (insR c cs ++ l).Perm (cs ++ c :: l) := ((insR_perm c cs).append_right l).trans List.perm_middle.symm
    obtain ⟨ds, e, p, s⟩ := loadR_perm (next := next) (l := l) (cs := insR c cs) (fun d hd => h d (List.mem_cons_of_mem _ hd)) (hp.symm.pairwise h1 fun h => h.symm) (hp.symm.pairwise h2 fun h => h.symm) (insR_asc ha g1)
    refine ⟨ds, ?_, p.trans hp, s⟩
    unfold loadR loadStepR
    rw [if_pos ⟨hc.1, hc.2, g1, g2⟩]
    exact e
theorem loadR_all {next : Int} {l cs : List Row} (hp : l.Perm cs) (h : ∀ c ∈ cs, okR c = true ∧ c.id < next) (ha : cs.Pairwise fun a b => a.id < b.id) (hs : cs.Pairwise fun a b => sgOf a.e ≠ sgOf b.e) : loadR next l [] = some cs := by
  obtain ⟨ds, e, p, s⟩ := loadR_perm (next := next) (l := l) (cs := []) (fun c hc => h c (hp.mem_iff.1 hc)) (hp.symm.pairwise (ha.imp fun h => by omega) fun h => h.symm) (hp.symm.pairwise hs fun h => h.symm) .nil
  rw [e]
  have : ds = cs := List.Perm.eq_of_pairwise (le := fun a b : Row => a.id < b.id) (fun a b _ _ h1 h2 => by omega) s ha (p.trans hp)
  rw [this]
attribute [local irreducible] fBuild fLook fZero eqv bEqv Cl MapH LsH SlH ld1 ldN st callP eBox eAlloc lenM lenL eMapSet eDelete eAppend eBuildSl eRange eNext
section
variable {w0 w : World} {L : List HP} {K : Value → World → Prop} {v : Value} {n next : Int} {R : List (Int × Row)} {I : List (Sg × Int)} {rs : List Row} {r : Row}
theorem bload2 {p : Nat} {sv : Value} {l ds : List Row} {next0 : Int} (hlen : (l.length : Int) ≤ n) (hn : 1 ≤ n ∧ n ≤ 65536) (hnx : 1 ≤ next ∧ next ≤ 1152921504606846976) (hrd : RdL w0 L cRow 11 sv l)
    (hK : ∀ w', Sat w0 (BoardA (ptr p) n next ds :: L) w' → K (.int .i64 0) w') :
    ∀ (d i : Nat) (cs : List Row) (R : List (Int × Row)) (I : List (Sg × Int)) (w : World), l.length - i < d → i ≤ l.length → cs.length = i → loadR next (l.drop i) cs = some ds → BInv n next R I cs →
      Sat w0 (BoardI (ptr p) n next0 R I :: L) w → F44_4L d (ptr p) (.int .i64 next) sv (.int .i64 (l.length : Nat)) (.int .i64 i) w K := by
  intro d
  induction d with
  | zero => intro i _ _ _ _ hd; omega
  | succ d ih =>
    intro i cs R I w hd hi hc he H h
    rw [F44_4L]
    unfold F44_4b
    by_cases g : i < l.length
    · have g' : decide ((i : Int) < (l.length : Int)) = true := by simpa using g
      rw [List.drop_eq_getElem_cons g] at he
      unfold loadR loadStepR at he
      split at he
      case isFalse => cases he
      rename_i hs
      have hrL : Rd w 11 sv l.length (l.flatMap cRow) := hrd w (h.get (by (repeat (first | exact .done | (refine .pick (by repeat (first | exact .here | apply Fnt.there)) ?_) | refine .skip ?_))))
      (repeat (first
 | (simp (disch := omega) only [evA, evB, bAdd_i64, bSub_i64, ptr, Nat.zero_add, Bool.not_true, Bool.not_false, Option.isNone_some, Option.isNone_none, Option.isSome_some, Option.isSome_none, decide_true, decide_false, eq_self, true_and, and_assoc, g'])
 | ((with_reducible apply go_ld1 h))
 | ((with_reducible apply go_ldA h); (rfl))
 | ((with_reducible apply go_ldN h))
 | ((with_reducible apply go_st h); intro _ h)
 | ((with_reducible apply go_stA h); (rfl); (rfl); (first | rfl | simp [OneV.o]); intro _ h)
 | ((with_reducible apply go_stN h); (rfl); (first | rfl | simp [OneV.o]); intro _ h)
 | ((with_reducible apply go_box h); rfl; intro _ _ h)
 | ((with_reducible apply go_rd h); (rfl))
 | ((with_reducible apply go_rdN h); (rfl))
 | ((with_reducible apply go_rlen h); (rfl))
 | ((with_reducible apply go_lenL h))
 | ((with_reducible apply go_ix h); (omega))
 | ((with_reducible apply go_elN h); (case hi => omega))
 | ((with_reducible apply go_fa h); (omega); (omega))
 | ((with_reducible apply go_f1 h); (case hi => omega); (case hx => exact inferInstance))
 | ((with_reducible apply go_rf1 h); (case hi => omega); (case hx => exact inferInstance); (case hv => rfl))
 | ((with_reducible apply go_rel h); (case hi => omega); (case hv => rfl))
))
      refine go_some (ix_el hrL g) ?_
      refine go_some (rd_ld CR hrL g) ?_
      (repeat (first
 | (simp (disch := omega) only [evA, evB, bAdd_i64, bSub_i64, ptr, Nat.zero_add, Bool.not_true, Bool.not_false, Option.isNone_some, Option.isNone_none, Option.isSome_some, Option.isSome_none, decide_true, decide_false, eq_self, true_and, and_assoc])
 | ((with_reducible apply go_ld1 h))
 | ((with_reducible apply go_ldA h); (rfl))
 | ((with_reducible apply go_ldN h))
 | ((with_reducible apply go_st h); intro _ h)
 | ((with_reducible apply go_stA h); (rfl); (rfl); (first | rfl | simp [OneV.o]); intro _ h)
 | ((with_reducible apply go_stN h); (rfl); (first | rfl | simp [OneV.o]); intro _ h)
 | ((with_reducible apply go_box h); rfl; intro _ _ h)
 | ((with_reducible apply go_rd h); (rfl))
 | ((with_reducible apply go_rdN h); (rfl))
 | ((with_reducible apply go_rlen h); (rfl))
 | ((with_reducible apply go_lenL h))
 | ((with_reducible apply go_ix h); (omega))
 | ((with_reducible apply go_elN h); (case hi => omega))
 | ((with_reducible apply go_fa h); (omega); (omega))
 | ((with_reducible apply go_f1 h); (case hi => omega); (case hx => exact inferInstance))
 | ((with_reducible apply go_rf1 h); (case hi => omega); (case hx => exact inferInstance); (case hv => rfl))
 | ((with_reducible apply go_rel h); (case hi => omega); (case hv => rfl))
))
      refine go_alloc h zR rfl fun _ _ h => ?_
      (repeat (first
 | (simp (disch := omega) only [evA, evB, bAdd_i64, bSub_i64, ptr, Nat.zero_add, Bool.not_true, Bool.not_false, Option.isNone_some, Option.isNone_none, Option.isSome_some, Option.isSome_none, decide_true, decide_false, eq_self, true_and, and_assoc])
 | ((with_reducible apply go_ld1 h))
 | ((with_reducible apply go_ldA h); (rfl))
 | ((with_reducible apply go_ldN h))
 | ((with_reducible apply go_st h); intro _ h)
 | ((with_reducible apply go_stA h); (rfl); (rfl); (first | rfl | simp [OneV.o]); intro _ h)
 | ((with_reducible apply go_stN h); (rfl); (first | rfl | simp [OneV.o]); intro _ h)
 | ((with_reducible apply go_box h); rfl; intro _ _ h)
 | ((with_reducible apply go_rd h); (rfl))
 | ((with_reducible apply go_rdN h); (rfl))
 | ((with_reducible apply go_rlen h); (rfl))
 | ((with_reducible apply go_lenL h))
 | ((with_reducible apply go_ix h); (omega))
 | ((with_reducible apply go_elN h); (case hi => omega))
 | ((with_reducible apply go_fa h); (omega); (omega))
 | ((with_reducible apply go_f1 h); (case hi => omega); (case hx => exact inferInstance))
 | ((with_reducible apply go_rf1 h); (case hi => omega); (case hx => exact inferInstance); (case hv => rfl))
 | ((with_reducible apply go_rel h); (case hi => omega); (case hv => rfl))
))
      refine put_bspec (r := l[i]) (v := ptr p) (n := n) (next := next0) (R := R) (I := I) (L := _ :: L) (h.get (by (repeat (first | exact .done | (refine .pick (by repeat (first | exact .here | apply Fnt.there)) ?_) | refine .skip ?_)))) fun w h => ?_
      (repeat (first
 | (simp (disch := omega) only [evA, evB, bAdd_i64, bSub_i64, ptr, Nat.zero_add, Bool.not_true, Bool.not_false, Option.isNone_some, Option.isNone_none, Option.isSome_some, Option.isSome_none, decide_true, decide_false, eq_self, true_and, and_assoc])
 | ((with_reducible apply go_ld1 h))
 | ((with_reducible apply go_ldA h); (rfl))
 | ((with_reducible apply go_ldN h))
 | ((with_reducible apply go_st h); intro _ h)
 | ((with_reducible apply go_stA h); (rfl); (rfl); (first | rfl | simp [OneV.o]); intro _ h)
 | ((with_reducible apply go_stN h); (rfl); (first | rfl | simp [OneV.o]); intro _ h)
 | ((with_reducible apply go_box h); rfl; intro _ _ h)
 | ((with_reducible apply go_rd h); (rfl))
 | ((with_reducible apply go_rdN h); (rfl))
 | ((with_reducible apply go_rlen h); (rfl))
 | ((with_reducible apply go_lenL h))
 | ((with_reducible apply go_ix h); (omega))
 | ((with_reducible apply go_elN h); (case hi => omega))
 | ((with_reducible apply go_fa h); (omega); (omega))
 | ((with_reducible apply go_f1 h); (case hi => omega); (case hx => exact inferInstance))
 | ((with_reducible apply go_rf1 h); (case hi => omega); (case hx => exact inferInstance); (case hv => rfl))
 | ((with_reducible apply go_rel h); (case hi => omega); (case hv => rfl))
))
      refine ih (i + 1) (insR l[i] cs) _ _ w (by omega) (by omega) ?_ he (H.ins hs.1 hs.2.2.2 hs.2.2.1 (by omega) hs.2.1) (h.get (by (repeat (first | exact .done | (refine .pick (by repeat (first | exact .here | apply Fnt.there)) ?_) | refine .skip ?_))))
      have := (insR_perm l[i] cs).length_eq; simp at this; omega
    · have g' : decide ((i : Int) < (l.length : Int)) = false := by simpa using g
      rw [List.drop_eq_nil_of_le (by omega)] at he
      simp only [loadR, Option.some.injEq] at he
      subst he
      (repeat (first
 | (simp (disch := omega) only [evA, evB, bAdd_i64, bSub_i64, ptr, Nat.zero_add, Bool.not_true, Bool.not_false, Option.isNone_some, Option.isNone_none, Option.isSome_some, Option.isSome_none, decide_true, decide_false, eq_self, true_and, and_assoc, g'])
 | ((with_reducible apply go_ld1 h))
 | ((with_reducible apply go_ldA h); (rfl))
 | ((with_reducible apply go_ldN h))
 | ((with_reducible apply go_st h); intro _ h)
 | ((with_reducible apply go_stA h); (rfl); (rfl); (first | rfl | simp [OneV.o]); intro _ h)
 | ((with_reducible apply go_stN h); (rfl); (first | rfl | simp [OneV.o]); intro _ h)
 | ((with_reducible apply go_box h); rfl; intro _ _ h)
 | ((with_reducible apply go_rd h); (rfl))
 | ((with_reducible apply go_rdN h); (rfl))
 | ((with_reducible apply go_rlen h); (rfl))
 | ((with_reducible apply go_lenL h))
 | ((with_reducible apply go_ix h); (omega))
 | ((with_reducible apply go_elN h); (case hi => omega))
 | ((with_reducible apply go_fa h); (omega); (omega))
 | ((with_reducible apply go_f1 h); (case hi => omega); (case hx => exact inferInstance))
 | ((with_reducible apply go_rf1 h); (case hi => omega); (case hx => exact inferInstance); (case hv => rfl))
 | ((with_reducible apply go_rel h); (case hi => omega); (case hv => rfl))
))
      unfold F44_5 F44_5b
      replace h := board_iff.1 h
      obtain ⟨p', mr, mi, e, h⟩ := h
      cases e
      (repeat (first
 | (simp (disch := omega) only [evA, evB, bAdd_i64, bSub_i64, ptr, Nat.zero_add, Bool.not_true, Bool.not_false, Option.isNone_some, Option.isNone_none, Option.isSome_some, Option.isSome_none, decide_true, decide_false, eq_self, true_and, and_assoc])
 | ((with_reducible apply go_ld1 h))
 | ((with_reducible apply go_ldA h); (rfl))
 | ((with_reducible apply go_ldN h))
 | ((with_reducible apply go_st h); intro _ h)
 | ((with_reducible apply go_stA h); (rfl); (rfl); (first | rfl | simp [OneV.o]); intro _ h)
 | ((with_reducible apply go_stN h); (rfl); (first | rfl | simp [OneV.o]); intro _ h)
 | ((with_reducible apply go_box h); rfl; intro _ _ h)
 | ((with_reducible apply go_rd h); (rfl))
 | ((with_reducible apply go_rdN h); (rfl))
 | ((with_reducible apply go_rlen h); (rfl))
 | ((with_reducible apply go_lenL h))
 | ((with_reducible apply go_ix h); (omega))
 | ((with_reducible apply go_elN h); (case hi => omega))
 | ((with_reducible apply go_fa h); (omega); (omega))
 | ((with_reducible apply go_f1 h); (case hi => omega); (case hx => exact inferInstance))
 | ((with_reducible apply go_rf1 h); (case hi => omega); (case hx => exact inferInstance); (case hv => rfl))
 | ((with_reducible apply go_rel h); (case hi => omega); (case hv => rfl))
))
      exact hK _ (boardA_iff.2 ⟨R, I, ⟨H, by omega, by omega⟩, board_iff.2 ⟨p, mr, mi, rfl, h.get (by (repeat (first | exact .done | (refine .pick (by repeat (first | exact .here | apply Fnt.there)) ?_) | refine .skip ?_)))⟩⟩)
theorem bload1 {q : Nat} {v sv : Value} {l : List Row} (hfit : ∀ x ∈ l, x.e.fits ∧ x.who.length < 1000000) (hlen : l.length ≤ 65536) (hnx : 1 ≤ next ∧ next ≤ 1152921504606846976) (hrd : RdL w0 L cRow 11 sv l)
    (hK0 : loadR next l [] = none → ∀ w', Sat w0 L w' → K (.int .i64 4) w') (hK1 : ∀ ds, loadR next l [] = some ds → ∀ w', Sat w0 L w' → F44_3 v sv (.int .i64 next) w' K) :
    ∀ (d i : Nat) (cs : List Row) (R : List (Int × Row)) (I : List (Sg × Int)) (w : World), l.length - i < d → i ≤ l.length → cs.length = i → loadR next l [] = loadR next (l.drop i) cs → BInv 65536 next R I cs →
      Sat w0 (BoardI (ptr q) n next R I :: L) w → F44_2L d v sv (.int .i64 next) (ptr q) sv (.int .i64 (l.length : Nat)) (.int .i64 i) w K := by
  intro d
  induction d with
  | zero => intro i _ _ _ _ hd; omega
  | succ d ih =>
    intro i cs R I w hd hi hc he H h
    rw [F44_2L]
    unfold F44_2b
    by_cases g : i < l.length
    · have g' : decide ((i : Int) < (l.length : Int)) = true := by simpa using g
      rw [List.drop_eq_getElem_cons g] at he
      replace h := board_iff.1 h
      obtain ⟨p', mr, mi, e, h⟩ := h
      cases e
      have := map_one (h.front (A := MapH kI rowV mr R) (by repeat (first | exact .here | apply Fnt.there)))
      have := map_one (h.front (A := MapH ekS kI mi I) (by repeat (first | exact .here | apply Fnt.there)))
      have hrL : Rd w 11 sv l.length (l.flatMap cRow) := hrd w (h.get (by (repeat (first | exact .done | (refine .pick (by repeat (first | exact .here | apply Fnt.there)) ?_) | refine .skip ?_))))
      (repeat (first
 | (simp (disch := omega) only [evA, evB, bAdd_i64, bSub_i64, ptr, Nat.zero_add, Bool.not_true, Bool.not_false, Option.isNone_some, Option.isNone_none, Option.isSome_some, Option.isSome_none, decide_true, decide_false, eq_self, true_and, and_assoc, g'])
 | ((with_reducible apply go_ld1 h))
 | ((with_reducible apply go_ldA h); (rfl))
 | ((with_reducible apply go_ldN h))
 | ((with_reducible apply go_st h); intro _ h)
 | ((with_reducible apply go_stA h); (rfl); (rfl); (first | rfl | simp [OneV.o]); intro _ h)
 | ((with_reducible apply go_stN h); (rfl); (first | rfl | simp [OneV.o]); intro _ h)
 | ((with_reducible apply go_box h); rfl; intro _ _ h)
 | ((with_reducible apply go_rd h); (rfl))
 | ((with_reducible apply go_rdN h); (rfl))
 | ((with_reducible apply go_rlen h); (rfl))
 | ((with_reducible apply go_lenL h))
 | ((with_reducible apply go_ix h); (omega))
 | ((with_reducible apply go_elN h); (case hi => omega))
 | ((with_reducible apply go_fa h); (omega); (omega))
 | ((with_reducible apply go_f1 h); (case hi => omega); (case hx => exact inferInstance))
 | ((with_reducible apply go_rf1 h); (case hi => omega); (case hx => exact inferInstance); (case hv => rfl))
 | ((with_reducible apply go_rel h); (case hi => omega); (case hv => rfl))
))
      refine go_some (ix_el hrL g) ?_
      refine go_some (rd_ld CR hrL g) ?_
      have hfc := hfit _ (List.getElem_mem g)
      generalize l[i] = c at he hfc
      have hbad : loadStepR next cs c = none → loadR next l [] = none := fun h => by rw [he]; simp [loadR, h]
      (repeat (first
 | (simp (disch := omega) only [evA, evB, bAdd_i64, bSub_i64, ptr, Nat.zero_add, Bool.not_true, Bool.not_false, Option.isNone_some, Option.isNone_none, Option.isSome_some, Option.isSome_none, decide_true, decide_false, eq_self, true_and, and_assoc])
 | ((with_reducible apply go_ld1 h))
 | ((with_reducible apply go_ldA h); (rfl))
 | ((with_reducible apply go_ldN h))
 | ((with_reducible apply go_st h); intro _ h)
 | ((with_reducible apply go_stA h); (rfl); (rfl); (first | rfl | simp [OneV.o]); intro _ h)
 | ((with_reducible apply go_stN h); (rfl); (first | rfl | simp [OneV.o]); intro _ h)
 | ((with_reducible apply go_box h); rfl; intro _ _ h)
 | ((with_reducible apply go_rd h); (rfl))
 | ((with_reducible apply go_rdN h); (rfl))
 | ((with_reducible apply go_rlen h); (rfl))
 | ((with_reducible apply go_lenL h))
 | ((with_reducible apply go_ix h); (omega))
 | ((with_reducible apply go_elN h); (case hi => omega))
 | ((with_reducible apply go_fa h); (omega); (omega))
 | ((with_reducible apply go_f1 h); (case hi => omega); (case hx => exact inferInstance))
 | ((with_reducible apply go_rf1 h); (case hi => omega); (case hx => exact inferInstance); (case hv => rfl))
 | ((with_reducible apply go_rel h); (case hi => omega); (case hv => rfl))
))
      refine go_alloc h zR rfl fun _ _ h => ?_
      (repeat (first
 | (simp (disch := omega) only [evA, evB, bAdd_i64, bSub_i64, ptr, Nat.zero_add, Bool.not_true, Bool.not_false, Option.isNone_some, Option.isNone_none, Option.isSome_some, Option.isSome_none, decide_true, decide_false, eq_self, true_and, and_assoc])
 | ((with_reducible apply go_ld1 h))
 | ((with_reducible apply go_ldA h); (rfl))
 | ((with_reducible apply go_ldN h))
 | ((with_reducible apply go_st h); intro _ h)
 | ((with_reducible apply go_stA h); (rfl); (rfl); (first | rfl | simp [OneV.o]); intro _ h)
 | ((with_reducible apply go_stN h); (rfl); (first | rfl | simp [OneV.o]); intro _ h)
 | ((with_reducible apply go_box h); rfl; intro _ _ h)
 | ((with_reducible apply go_rd h); (rfl))
 | ((with_reducible apply go_rdN h); (rfl))
 | ((with_reducible apply go_rlen h); (rfl))
 | ((with_reducible apply go_lenL h))
 | ((with_reducible apply go_ix h); (omega))
 | ((with_reducible apply go_elN h); (case hi => omega))
 | ((with_reducible apply go_fa h); (omega); (omega))
 | ((with_reducible apply go_f1 h); (case hi => omega); (case hx => exact inferInstance))
 | ((with_reducible apply go_rf1 h); (case hi => omega); (case hx => exact inferInstance); (case hv => rfl))
 | ((with_reducible apply go_rel h); (case hi => omega); (case hv => rfl))
))
      refine go_look2 h (by repeat (first | exact .here | apply Fnt.there)) KIr um107 zR c.id ?_
      rw [elimR]
      (repeat (first
 | (simp (disch := omega) only [evA, evB, bAdd_i64, bSub_i64, ptr, Nat.zero_add, Bool.not_true, Bool.not_false, Option.isNone_some, Option.isNone_none, Option.isSome_some, Option.isSome_none, decide_true, decide_false, eq_self, true_and, and_assoc])
 | ((with_reducible apply go_ld1 h))
 | ((with_reducible apply go_ldA h); (rfl))
 | ((with_reducible apply go_ldN h))
 | ((with_reducible apply go_st h); intro _ h)
 | ((with_reducible apply go_stA h); (rfl); (rfl); (first | rfl | simp [OneV.o]); intro _ h)
 | ((with_reducible apply go_stN h); (rfl); (first | rfl | simp [OneV.o]); intro _ h)
 | ((with_reducible apply go_box h); rfl; intro _ _ h)
 | ((with_reducible apply go_rd h); (rfl))
 | ((with_reducible apply go_rdN h); (rfl))
 | ((with_reducible apply go_rlen h); (rfl))
 | ((with_reducible apply go_lenL h))
 | ((with_reducible apply go_ix h); (omega))
 | ((with_reducible apply go_elN h); (case hi => omega))
 | ((with_reducible apply go_fa h); (omega); (omega))
 | ((with_reducible apply go_f1 h); (case hi => omega); (case hx => exact inferInstance))
 | ((with_reducible apply go_rf1 h); (case hi => omega); (case hx => exact inferInstance); (case hv => rfl))
 | ((with_reducible apply go_rel h); (case hi => omega); (case hv => rfl))
))
      refine go_alloc h zR rfl fun _ _ h => ?_
      (repeat (first
 | (simp (disch := omega) only [evA, evB, bAdd_i64, bSub_i64, ptr, Nat.zero_add, Bool.not_true, Bool.not_false, Option.isNone_some, Option.isNone_none, Option.isSome_some, Option.isSome_none, decide_true, decide_false, eq_self, true_and, and_assoc])
 | ((with_reducible apply go_ld1 h))
 | ((with_reducible apply go_ldA h); (rfl))
 | ((with_reducible apply go_ldN h))
 | ((with_reducible apply go_st h); intro _ h)
 | ((with_reducible apply go_stA h); (rfl); (rfl); (first | rfl | simp [OneV.o]); intro _ h)
 | ((with_reducible apply go_stN h); (rfl); (first | rfl | simp [OneV.o]); intro _ h)
 | ((with_reducible apply go_box h); rfl; intro _ _ h)
 | ((with_reducible apply go_rd h); (rfl))
 | ((with_reducible apply go_rdN h); (rfl))
 | ((with_reducible apply go_rlen h); (rfl))
 | ((with_reducible apply go_lenL h))
 | ((with_reducible apply go_ix h); (omega))
 | ((with_reducible apply go_elN h); (case hi => omega))
 | ((with_reducible apply go_fa h); (omega); (omega))
 | ((with_reducible apply go_f1 h); (case hi => omega); (case hx => exact inferInstance))
 | ((with_reducible apply go_rf1 h); (case hi => omega); (case hx => exact inferInstance); (case hv => rfl))
 | ((with_reducible apply go_rel h); (case hi => omega); (case hv => rfl))
))
      refine go_fok ((look2 (h.front (by repeat (first | exact .here | apply Fnt.there))) KIr um107 zR c.id).trans (by rw [elimR])) ?_
      (repeat (first
 | (simp (disch := omega) only [evA, evB, bAdd_i64, bSub_i64, ptr, Nat.zero_add, Bool.not_true, Bool.not_false, Option.isNone_some, Option.isNone_none, Option.isSome_some, Option.isSome_none, decide_true, decide_false, eq_self, true_and, and_assoc])
 | ((with_reducible apply go_ld1 h))
 | ((with_reducible apply go_ldA h); (rfl))
 | ((with_reducible apply go_ldN h))
 | ((with_reducible apply go_st h); intro _ h)
 | ((with_reducible apply go_stA h); (rfl); (rfl); (first | rfl | simp [OneV.o]); intro _ h)
 | ((with_reducible apply go_stN h); (rfl); (first | rfl | simp [OneV.o]); intro _ h)
 | ((with_reducible apply go_box h); rfl; intro _ _ h)
 | ((with_reducible apply go_rd h); (rfl))
 | ((with_reducible apply go_rdN h); (rfl))
 | ((with_reducible apply go_rlen h); (rfl))
 | ((with_reducible apply go_lenL h))
 | ((with_reducible apply go_ix h); (omega))
 | ((with_reducible apply go_elN h); (case hi => omega))
 | ((with_reducible apply go_fa h); (omega); (omega))
 | ((with_reducible apply go_f1 h); (case hi => omega); (case hx => exact inferInstance))
 | ((with_reducible apply go_rf1 h); (case hi => omega); (case hx => exact inferInstance); (case hv => rfl))
 | ((with_reducible apply go_rel h); (case hi => omega); (case hv => rfl))
))
      refine of_spec (e := c.e) h.drew fun w h => ?_
      (repeat (first
 | (simp (disch := omega) only [evA, evB, bAdd_i64, bSub_i64, ptr, Nat.zero_add, Bool.not_true, Bool.not_false, Option.isNone_some, Option.isNone_none, Option.isSome_some, Option.isSome_none, decide_true, decide_false, eq_self, true_and, and_assoc])
 | ((with_reducible apply go_ld1 h))
 | ((with_reducible apply go_ldA h); (rfl))
 | ((with_reducible apply go_ldN h))
 | ((with_reducible apply go_st h); intro _ h)
 | ((with_reducible apply go_stA h); (rfl); (rfl); (first | rfl | simp [OneV.o]); intro _ h)
 | ((with_reducible apply go_stN h); (rfl); (first | rfl | simp [OneV.o]); intro _ h)
 | ((with_reducible apply go_box h); rfl; intro _ _ h)
 | ((with_reducible apply go_rd h); (rfl))
 | ((with_reducible apply go_rdN h); (rfl))
 | ((with_reducible apply go_rlen h); (rfl))
 | ((with_reducible apply go_lenL h))
 | ((with_reducible apply go_ix h); (omega))
 | ((with_reducible apply go_elN h); (case hi => omega))
 | ((with_reducible apply go_fa h); (omega); (omega))
 | ((with_reducible apply go_f1 h); (case hi => omega); (case hx => exact inferInstance))
 | ((with_reducible apply go_rf1 h); (case hi => omega); (case hx => exact inferInstance); (case hv => rfl))
 | ((with_reducible apply go_rel h); (case hi => omega); (case hv => rfl))
))
      refine go_look2 h (by repeat (first | exact .here | apply Fnt.there)) KS um108 z3 (sgOf c.e) ?_
      (repeat (first
 | (simp (disch := omega) only [evA, evB, bAdd_i64, bSub_i64, ptr, Nat.zero_add, Bool.not_true, Bool.not_false, Option.isNone_some, Option.isNone_none, Option.isSome_some, Option.isSome_none, decide_true, decide_false, eq_self, true_and, and_assoc])
 | ((with_reducible apply go_ld1 h))
 | ((with_reducible apply go_ldA h); (rfl))
 | ((with_reducible apply go_ldN h))
 | ((with_reducible apply go_st h); intro _ h)
 | ((with_reducible apply go_stA h); (rfl); (rfl); (first | rfl | simp [OneV.o]); intro _ h)
 | ((with_reducible apply go_stN h); (rfl); (first | rfl | simp [OneV.o]); intro _ h)
 | ((with_reducible apply go_box h); rfl; intro _ _ h)
 | ((with_reducible apply go_rd h); (rfl))
 | ((with_reducible apply go_rdN h); (rfl))
 | ((with_reducible apply go_rlen h); (rfl))
 | ((with_reducible apply go_lenL h))
 | ((with_reducible apply go_ix h); (omega))
 | ((with_reducible apply go_elN h); (case hi => omega))
 | ((with_reducible apply go_fa h); (omega); (omega))
 | ((with_reducible apply go_f1 h); (case hi => omega); (case hx => exact inferInstance))
 | ((with_reducible apply go_rf1 h); (case hi => omega); (case hx => exact inferInstance); (case hv => rfl))
 | ((with_reducible apply go_rel h); (case hi => omega); (case hv => rfl))
))
      refine bcheck_spec (r := c) hfc.1 hfc.2 h fun w h => ?_
      unfold chkR
      cases g1 : okR c
      · have d4 : decide ((4 : Int) = 0) = false := by decide
        (repeat (first
 | (simp (disch := omega) only [evA, evB, bAdd_i64, bSub_i64, ptr, Nat.zero_add, Bool.not_true, Bool.not_false, Option.isNone_some, Option.isNone_none, Option.isSome_some, Option.isSome_none, decide_true, decide_false, eq_self, true_and, and_assoc, Bool.false_eq_true, if_false, d4])
 | ((with_reducible apply go_ld1 h))
 | ((with_reducible apply go_ldA h); (rfl))
 | ((with_reducible apply go_ldN h))
 | ((with_reducible apply go_st h); intro _ h)
 | ((with_reducible apply go_stA h); (rfl); (rfl); (first | rfl | simp [OneV.o]); intro _ h)
 | ((with_reducible apply go_stN h); (rfl); (first | rfl | simp [OneV.o]); intro _ h)
 | ((with_reducible apply go_box h); rfl; intro _ _ h)
 | ((with_reducible apply go_rd h); (rfl))
 | ((with_reducible apply go_rdN h); (rfl))
 | ((with_reducible apply go_rlen h); (rfl))
 | ((with_reducible apply go_lenL h))
 | ((with_reducible apply go_ix h); (omega))
 | ((with_reducible apply go_elN h); (case hi => omega))
 | ((with_reducible apply go_fa h); (omega); (omega))
 | ((with_reducible apply go_f1 h); (case hi => omega); (case hx => exact inferInstance))
 | ((with_reducible apply go_rf1 h); (case hi => omega); (case hx => exact inferInstance); (case hv => rfl))
 | ((with_reducible apply go_rel h); (case hi => omega); (case hv => rfl))
))
        exact hK0 (hbad (by unfold loadStepR; rw [if_neg]; simp [g1])) _ (h.get (by (repeat (first | exact .done | (refine .pick (by repeat (first | exact .here | apply Fnt.there)) ?_) | refine .skip ?_))))
      by_cases g3 : c.id ≥ next
      · have g3' : decide (c.id ≥ next) = true := by simpa using g3
        (repeat (first
 | (simp (disch := omega) only [evA, evB, bAdd_i64, bSub_i64, ptr, Nat.zero_add, Bool.not_true, Bool.not_false, Option.isNone_some, Option.isNone_none, Option.isSome_some, Option.isSome_none, decide_true, decide_false, eq_self, true_and, and_assoc, if_true, g3'])
 | ((with_reducible apply go_ld1 h))
 | ((with_reducible apply go_ldA h); (rfl))
 | ((with_reducible apply go_ldN h))
 | ((with_reducible apply go_st h); intro _ h)
 | ((with_reducible apply go_stA h); (rfl); (rfl); (first | rfl | simp [OneV.o]); intro _ h)
 | ((with_reducible apply go_stN h); (rfl); (first | rfl | simp [OneV.o]); intro _ h)
 | ((with_reducible apply go_box h); rfl; intro _ _ h)
 | ((with_reducible apply go_rd h); (rfl))
 | ((with_reducible apply go_rdN h); (rfl))
 | ((with_reducible apply go_rlen h); (rfl))
 | ((with_reducible apply go_lenL h))
 | ((with_reducible apply go_ix h); (omega))
 | ((with_reducible apply go_elN h); (case hi => omega))
 | ((with_reducible apply go_fa h); (omega); (omega))
 | ((with_reducible apply go_f1 h); (case hi => omega); (case hx => exact inferInstance))
 | ((with_reducible apply go_rf1 h); (case hi => omega); (case hx => exact inferInstance); (case hv => rfl))
 | ((with_reducible apply go_rel h); (case hi => omega); (case hv => rfl))
))
        exact hK0 (hbad (by unfold loadStepR; rw [if_neg]; omega)) _ (h.get (by (repeat (first | exact .done | (refine .pick (by repeat (first | exact .here | apply Fnt.there)) ?_) | refine .skip ?_))))
      have g3' : decide (c.id ≥ next) = false := by simpa using g3
      cases g4 : (aGet c.id R).isSome
      case true =>
        (repeat (first
 | (simp (disch := omega) only [evA, evB, bAdd_i64, bSub_i64, ptr, Nat.zero_add, Bool.not_true, Bool.not_false, Option.isNone_some, Option.isNone_none, Option.isSome_some, Option.isSome_none, decide_true, decide_false, eq_self, true_and, and_assoc, if_true, g3'])
 | ((with_reducible apply go_ld1 h))
 | ((with_reducible apply go_ldA h); (rfl))
 | ((with_reducible apply go_ldN h))
 | ((with_reducible apply go_st h); intro _ h)
 | ((with_reducible apply go_stA h); (rfl); (rfl); (first | rfl | simp [OneV.o]); intro _ h)
 | ((with_reducible apply go_stN h); (rfl); (first | rfl | simp [OneV.o]); intro _ h)
 | ((with_reducible apply go_box h); rfl; intro _ _ h)
 | ((with_reducible apply go_rd h); (rfl))
 | ((with_reducible apply go_rdN h); (rfl))
 | ((with_reducible apply go_rlen h); (rfl))
 | ((with_reducible apply go_lenL h))
 | ((with_reducible apply go_ix h); (omega))
 | ((with_reducible apply go_elN h); (case hi => omega))
 | ((with_reducible apply go_fa h); (omega); (omega))
 | ((with_reducible apply go_f1 h); (case hi => omega); (case hx => exact inferInstance))
 | ((with_reducible apply go_rf1 h); (case hi => omega); (case hx => exact inferInstance); (case hv => rfl))
 | ((with_reducible apply go_rel h); (case hi => omega); (case hv => rfl))
))
        refine hK0 (hbad ?_) _ (h.get (by (repeat (first | exact .done | (refine .pick (by repeat (first | exact .here | apply Fnt.there)) ?_) | refine .skip ?_))))
        unfold loadStepR
        rw [if_neg]
        intro hh
        rw [H.get_none hh.2.2.1] at g4; cases g4
      cases g5 : (aGet (sgOf c.e) I).isSome
      case true =>
        (repeat (first
 | (simp (disch := omega) only [evA, evB, bAdd_i64, bSub_i64, ptr, Nat.zero_add, Bool.not_true, Bool.not_false, Option.isNone_some, Option.isNone_none, Option.isSome_some, Option.isSome_none, decide_true, decide_false, eq_self, true_and, and_assoc, if_true, g3'])
 | ((with_reducible apply go_ld1 h))
 | ((with_reducible apply go_ldA h); (rfl))
 | ((with_reducible apply go_ldN h))
 | ((with_reducible apply go_st h); intro _ h)
 | ((with_reducible apply go_stA h); (rfl); (rfl); (first | rfl | simp [OneV.o]); intro _ h)
 | ((with_reducible apply go_stN h); (rfl); (first | rfl | simp [OneV.o]); intro _ h)
 | ((with_reducible apply go_box h); rfl; intro _ _ h)
 | ((with_reducible apply go_rd h); (rfl))
 | ((with_reducible apply go_rdN h); (rfl))
 | ((with_reducible apply go_rlen h); (rfl))
 | ((with_reducible apply go_lenL h))
 | ((with_reducible apply go_ix h); (omega))
 | ((with_reducible apply go_elN h); (case hi => omega))
 | ((with_reducible apply go_fa h); (omega); (omega))
 | ((with_reducible apply go_f1 h); (case hi => omega); (case hx => exact inferInstance))
 | ((with_reducible apply go_rf1 h); (case hi => omega); (case hx => exact inferInstance); (case hv => rfl))
 | ((with_reducible apply go_rel h); (case hi => omega); (case hv => rfl))
))
        refine hK0 (hbad ?_) _ (h.get (by (repeat (first | exact .done | (refine .pick (by repeat (first | exact .here | apply Fnt.there)) ?_) | refine .skip ?_))))
        unfold loadStepR
        rw [if_neg]
        intro hh
        rw [H.snone hh.2.2.2] at g5; cases g5
      have n1 : ∀ d ∈ cs, d.id ≠ c.id := fun d hd e => by
        have hs := H.get hd
        rw [e] at hs; rw [hs] at g4; cases g4
      have n2 : ∀ d ∈ cs, sgOf d.e ≠ sgOf c.e := fun d hd e => by
        have hs := H.sget hd
        rw [e] at hs; rw [hs] at g5; cases g5
      have hstep : loadStepR next cs c = some (insR c cs) := by
        unfold loadStepR
        rw [if_pos ⟨g1, by omega, n1, n2⟩]
      (repeat (first
 | (simp (disch := omega) only [evA, evB, bAdd_i64, bSub_i64, ptr, Nat.zero_add, Bool.not_true, Bool.not_false, Option.isNone_some, Option.isNone_none, Option.isSome_some, Option.isSome_none, decide_true, decide_false, eq_self, true_and, and_assoc, if_true, g3'])
 | ((with_reducible apply go_ld1 h))
 | ((with_reducible apply go_ldA h); (rfl))
 | ((with_reducible apply go_ldN h))
 | ((with_reducible apply go_st h); intro _ h)
 | ((with_reducible apply go_stA h); (rfl); (rfl); (first | rfl | simp [OneV.o]); intro _ h)
 | ((with_reducible apply go_stN h); (rfl); (first | rfl | simp [OneV.o]); intro _ h)
 | ((with_reducible apply go_box h); rfl; intro _ _ h)
 | ((with_reducible apply go_rd h); (rfl))
 | ((with_reducible apply go_rdN h); (rfl))
 | ((with_reducible apply go_rlen h); (rfl))
 | ((with_reducible apply go_lenL h))
 | ((with_reducible apply go_ix h); (omega))
 | ((with_reducible apply go_elN h); (case hi => omega))
 | ((with_reducible apply go_fa h); (omega); (omega))
 | ((with_reducible apply go_f1 h); (case hi => omega); (case hx => exact inferInstance))
 | ((with_reducible apply go_rf1 h); (case hi => omega); (case hx => exact inferInstance); (case hv => rfl))
 | ((with_reducible apply go_rel h); (case hi => omega); (case hv => rfl))
))
      refine put_bspec (r := c) (v := ptr q) (n := n) (next := next) (R := R) (I := I) (L := _ :: _ :: L) (board_iff.2 ⟨q, mr, mi, rfl, h.get (by (repeat (first | exact .done | (refine .pick (by repeat (first | exact .here | apply Fnt.there)) ?_) | refine .skip ?_)))⟩) fun w h => ?_
      (repeat (first
 | (simp (disch := omega) only [evA, evB, bAdd_i64, bSub_i64, ptr, Nat.zero_add, Bool.not_true, Bool.not_false, Option.isNone_some, Option.isNone_none, Option.isSome_some, Option.isSome_none, decide_true, decide_false, eq_self, true_and, and_assoc])
 | ((with_reducible apply go_ld1 h))
 | ((with_reducible apply go_ldA h); (rfl))
 | ((with_reducible apply go_ldN h))
 | ((with_reducible apply go_st h); intro _ h)
 | ((with_reducible apply go_stA h); (rfl); (rfl); (first | rfl | simp [OneV.o]); intro _ h)
 | ((with_reducible apply go_stN h); (rfl); (first | rfl | simp [OneV.o]); intro _ h)
 | ((with_reducible apply go_box h); rfl; intro _ _ h)
 | ((with_reducible apply go_rd h); (rfl))
 | ((with_reducible apply go_rdN h); (rfl))
 | ((with_reducible apply go_rlen h); (rfl))
 | ((with_reducible apply go_lenL h))
 | ((with_reducible apply go_ix h); (omega))
 | ((with_reducible apply go_elN h); (case hi => omega))
 | ((with_reducible apply go_fa h); (omega); (omega))
 | ((with_reducible apply go_f1 h); (case hi => omega); (case hx => exact inferInstance))
 | ((with_reducible apply go_rf1 h); (case hi => omega); (case hx => exact inferInstance); (case hv => rfl))
 | ((with_reducible apply go_rel h); (case hi => omega); (case hv => rfl))
))
      refine ih (i + 1) (insR c cs) _ _ w (by omega) (by omega) ?_ ?_ (H.ins g1 n2 n1 (by omega) (by omega)) (h.get (by (repeat (first | exact .done | (refine .pick (by repeat (first | exact .here | apply Fnt.there)) ?_) | refine .skip ?_))))
      · have := (insR_perm c cs).length_eq; simp at this; omega
      · rw [he]; simp [loadR, hstep]
    · have g' : decide ((i : Int) < (l.length : Int)) = false := by simpa using g
      (repeat (first
 | (simp (disch := omega) only [evA, evB, bAdd_i64, bSub_i64, ptr, Nat.zero_add, Bool.not_true, Bool.not_false, Option.isNone_some, Option.isNone_none, Option.isSome_some, Option.isSome_none, decide_true, decide_false, eq_self, true_and, and_assoc, g'])
 | ((with_reducible apply go_ld1 h))
 | ((with_reducible apply go_ldA h); (rfl))
 | ((with_reducible apply go_ldN h))
 | ((with_reducible apply go_st h); intro _ h)
 | ((with_reducible apply go_stA h); (rfl); (rfl); (first | rfl | simp [OneV.o]); intro _ h)
 | ((with_reducible apply go_stN h); (rfl); (first | rfl | simp [OneV.o]); intro _ h)
 | ((with_reducible apply go_box h); rfl; intro _ _ h)
 | ((with_reducible apply go_rd h); (rfl))
 | ((with_reducible apply go_rdN h); (rfl))
 | ((with_reducible apply go_rlen h); (rfl))
 | ((with_reducible apply go_lenL h))
 | ((with_reducible apply go_ix h); (omega))
 | ((with_reducible apply go_elN h); (case hi => omega))
 | ((with_reducible apply go_fa h); (omega); (omega))
 | ((with_reducible apply go_f1 h); (case hi => omega); (case hx => exact inferInstance))
 | ((with_reducible apply go_rf1 h); (case hi => omega); (case hx => exact inferInstance); (case hv => rfl))
 | ((with_reducible apply go_rel h); (case hi => omega); (case hv => rfl))
))
      refine hK1 cs ?_ w (h.get (by (repeat (first | exact .done | (refine .pick (by repeat (first | exact .here | apply Fnt.there)) ?_) | refine .skip ?_))))
      rw [he, List.drop_eq_nil_of_le (by omega)]; rfl
theorem baload_spec {sv : Value} {l : List Row} {next0 : Int} (hfit : ∀ x ∈ l, x.e.fits ∧ x.who.length < 1000000) (hlen : l.length ≤ 65536) (hl : ∀ {w}, Sat w0 L w → lenL sv = some (.int .i64 l.length)) (hrd : RdL w0 L cRow 11 sv l)
    (h : Sat w0 (BoardA v n next0 rs :: L) w)
    (hKbad : (next < 1 ∨ 1152921504606846976 < next ∨ loadR next l [] = none) → ∀ w', Sat w0 (BoardA v n next0 rs :: L) w' → K (.int .i64 4) w')
    (hKfull : ∀ ds, loadR next l [] = some ds → 1 ≤ next ∧ next ≤ 1152921504606846976 → n < l.length → ∀ w', Sat w0 (BoardA v n next0 rs :: L) w' → K (.int .i64 200) w')
    (hK : ∀ ds, loadR next l [] = some ds → 1 ≤ next ∧ next ≤ 1152921504606846976 → (l.length : Int) ≤ n → ∀ w', Sat w0 (BoardA v n next ds :: L) w' → K (.int .i64 0) w') : callP G44 [v, sv, .int .i64 next] w K := by
  refine c44 ?_
  unfold F44 F44_1 F44_1b F44_2
  have hl := hl h.drop
  by_cases g1 : next < 1
  · have g1' : decide (next < 1) = true := by simpa using g1
    (repeat (first
 | (simp (disch := omega) only [evA, evB, bAdd_i64, bSub_i64, ptr, Nat.zero_add, Bool.not_true, Bool.not_false, Option.isNone_some, Option.isNone_none, Option.isSome_some, Option.isSome_none, decide_true, decide_false, eq_self, true_and, and_assoc, g1'])
 | ((with_reducible apply go_ld1 h))
 | ((with_reducible apply go_ldA h); (rfl))
 | ((with_reducible apply go_ldN h))
 | ((with_reducible apply go_st h); intro _ h)
 | ((with_reducible apply go_stA h); (rfl); (rfl); (first | rfl | simp [OneV.o]); intro _ h)
 | ((with_reducible apply go_stN h); (rfl); (first | rfl | simp [OneV.o]); intro _ h)
 | ((with_reducible apply go_box h); rfl; intro _ _ h)
 | ((with_reducible apply go_rd h); (rfl))
 | ((with_reducible apply go_rdN h); (rfl))
 | ((with_reducible apply go_rlen h); (rfl))
 | ((with_reducible apply go_lenL h))
 | ((with_reducible apply go_ix h); (omega))
 | ((with_reducible apply go_elN h); (case hi => omega))
 | ((with_reducible apply go_fa h); (omega); (omega))
 | ((with_reducible apply go_f1 h); (case hi => omega); (case hx => exact inferInstance))
 | ((with_reducible apply go_rf1 h); (case hi => omega); (case hx => exact inferInstance); (case hv => rfl))
 | ((with_reducible apply go_rel h); (case hi => omega); (case hv => rfl))
))
    exact hKbad (.inl g1) _ h
  have g1' : decide (next < 1) = false := by simpa using g1
  by_cases g2 : next > 1152921504606846976
  · have g2' : decide (next > 1152921504606846976) = true := by simpa using g2
    (repeat (first
 | (simp (disch := omega) only [evA, evB, bAdd_i64, bSub_i64, ptr, Nat.zero_add, Bool.not_true, Bool.not_false, Option.isNone_some, Option.isNone_none, Option.isSome_some, Option.isSome_none, decide_true, decide_false, eq_self, true_and, and_assoc, g1', g2'])
 | ((with_reducible apply go_ld1 h))
 | ((with_reducible apply go_ldA h); (rfl))
 | ((with_reducible apply go_ldN h))
 | ((with_reducible apply go_st h); intro _ h)
 | ((with_reducible apply go_stA h); (rfl); (rfl); (first | rfl | simp [OneV.o]); intro _ h)
 | ((with_reducible apply go_stN h); (rfl); (first | rfl | simp [OneV.o]); intro _ h)
 | ((with_reducible apply go_box h); rfl; intro _ _ h)
 | ((with_reducible apply go_rd h); (rfl))
 | ((with_reducible apply go_rdN h); (rfl))
 | ((with_reducible apply go_rlen h); (rfl))
 | ((with_reducible apply go_lenL h))
 | ((with_reducible apply go_ix h); (omega))
 | ((with_reducible apply go_elN h); (case hi => omega))
 | ((with_reducible apply go_fa h); (omega); (omega))
 | ((with_reducible apply go_f1 h); (case hi => omega); (case hx => exact inferInstance))
 | ((with_reducible apply go_rf1 h); (case hi => omega); (case hx => exact inferInstance); (case hv => rfl))
 | ((with_reducible apply go_rel h); (case hi => omega); (case hv => rfl))
))
    exact hKbad (.inr (.inl g2)) _ h
  have g2' : decide (next > 1152921504606846976) = false := by simpa using g2
  replace h := boardA_iff.1 h
  obtain ⟨R, I, H, h⟩ := h
  replace h := board_iff.1 h
  obtain ⟨p, mr, mi, rfl, h⟩ := h
  (repeat (first
 | (simp (disch := omega) only [evA, evB, bAdd_i64, bSub_i64, ptr, Nat.zero_add, Bool.not_true, Bool.not_false, Option.isNone_some, Option.isNone_none, Option.isSome_some, Option.isSome_none, decide_true, decide_false, eq_self, true_and, and_assoc, g1', g2'])
 | ((with_reducible apply go_ld1 h))
 | ((with_reducible apply go_ldA h); (rfl))
 | ((with_reducible apply go_ldN h))
 | ((with_reducible apply go_st h); intro _ h)
 | ((with_reducible apply go_stA h); (rfl); (rfl); (first | rfl | simp [OneV.o]); intro _ h)
 | ((with_reducible apply go_stN h); (rfl); (first | rfl | simp [OneV.o]); intro _ h)
 | ((with_reducible apply go_box h); rfl; intro _ _ h)
 | ((with_reducible apply go_rd h); (rfl))
 | ((with_reducible apply go_rdN h); (rfl))
 | ((with_reducible apply go_rlen h); (rfl))
 | ((with_reducible apply go_lenL h))
 | ((with_reducible apply go_ix h); (omega))
 | ((with_reducible apply go_elN h); (case hi => omega))
 | ((with_reducible apply go_fa h); (omega); (omega))
 | ((with_reducible apply go_f1 h); (case hi => omega); (case hx => exact inferInstance))
 | ((with_reducible apply go_rf1 h); (case hi => omega); (case hx => exact inferInstance); (case hv => rfl))
 | ((with_reducible apply go_rel h); (case hi => omega); (case hv => rfl))
))
  refine eMakeMap_sat kI rowV h fun m1 w h => ?_
  obtain ⟨r1, _, _, ⟨e1, _⟩, _⟩ := map_iff.1 h
  refine eMakeMap_sat ekS kI h fun m2 w h => ?_
  obtain ⟨r2, _, _, ⟨e2, _⟩, _⟩ := map_iff.1 h
  subst e1 e2
  have eb : fBuild Try.prog 110 [(0, .int .i64 n), (1, .int .i64 next), (2, .map (some r1)), (3, .map (some r2))] = some (.agg #[.int .i64 n, .int .i64 next, .map (some r1), .map (some r2)]) := by kernel_rfl
  refine go_some eb ?_
  refine eBox_sat h fun q w h => ?_
  simp only [cells_agg] at h
  refine go_some hl ?_
  have h2 : Sat w0 (BoardI (ptr q) n next [] [] :: BoardA (ptr p) n next0 rs :: L) w := by
    refine board_iff.2 ⟨q, .map (some r1), .map (some r2), rfl, ?_⟩
    have h3 : Sat w0 (BoardA (ptr p) n next0 rs :: Cl q #[.int .i64 n, .int .i64 next, .map (some r1), .map (some r2)] 110 :: MapH ekS kI (.map (some r2)) [] :: MapH kI rowV (.map (some r1)) [] :: L) w := boardA_iff.2 ⟨R, I, H, board_iff.2 ⟨p, mr, mi, rfl, h.get (by (repeat (first | exact .done | (refine .pick (by repeat (first | exact .here | apply Fnt.there)) ?_) | refine .skip ?_)))⟩⟩
    exact h3.get (by (repeat (first | exact .done | (refine .pick (by repeat (first | exact .here | apply Fnt.there)) ?_) | refine .skip ?_)))
  refine bload1 (L := BoardA (ptr p) n next0 rs :: L) hfit hlen (by omega) hrd.cons (fun hb w h => hKbad (.inr (.inr hb)) w h) (fun ds hds w h => ?_) fuel 0 [] [] [] w (by unfold fuel; omega) (by omega) rfl (by simp) (.start (by omega) (by omega) next) h2
  clear h2
  unfold F44_3 F44_3b
  replace h := boardA_iff.1 h
  obtain ⟨R, I, H, h⟩ := h
  replace h := board_iff.1 h
  obtain ⟨p', mr, mi, e, h⟩ := h
  cases e
  have := map_one (h.front (A := MapH kI rowV mr R) (by repeat (first | exact .here | apply Fnt.there)))
  have := map_one (h.front (A := MapH ekS kI mi I) (by repeat (first | exact .here | apply Fnt.there)))
  by_cases g3 : (l.length : Int) > n
  · have g3' : decide ((l.length : Int) > n) = true := by simpa using g3
    (repeat (first
 | (simp (disch := omega) only [evA, evB, bAdd_i64, bSub_i64, ptr, Nat.zero_add, Bool.not_true, Bool.not_false, Option.isNone_some, Option.isNone_none, Option.isSome_some, Option.isSome_none, decide_true, decide_false, eq_self, true_and, and_assoc, hl, g3'])
 | ((with_reducible apply go_ld1 h))
 | ((with_reducible apply go_ldA h); (rfl))
 | ((with_reducible apply go_ldN h))
 | ((with_reducible apply go_st h); intro _ h)
 | ((with_reducible apply go_stA h); (rfl); (rfl); (first | rfl | simp [OneV.o]); intro _ h)
 | ((with_reducible apply go_stN h); (rfl); (first | rfl | simp [OneV.o]); intro _ h)
 | ((with_reducible apply go_box h); rfl; intro _ _ h)
 | ((with_reducible apply go_rd h); (rfl))
 | ((with_reducible apply go_rdN h); (rfl))
 | ((with_reducible apply go_rlen h); (rfl))
 | ((with_reducible apply go_lenL h))
 | ((with_reducible apply go_ix h); (omega))
 | ((with_reducible apply go_elN h); (case hi => omega))
 | ((with_reducible apply go_fa h); (omega); (omega))
 | ((with_reducible apply go_f1 h); (case hi => omega); (case hx => exact inferInstance))
 | ((with_reducible apply go_rf1 h); (case hi => omega); (case hx => exact inferInstance); (case hv => rfl))
 | ((with_reducible apply go_rel h); (case hi => omega); (case hv => rfl))
))
    exact hKfull ds hds (by omega) (by omega) _ (boardA_iff.2 ⟨R, I, H, board_iff.2 ⟨p, mr, mi, rfl, h.get (by (repeat (first | exact .done | (refine .pick (by repeat (first | exact .here | apply Fnt.there)) ?_) | refine .skip ?_)))⟩⟩)
  · have g3' : decide ((l.length : Int) > n) = false := by simpa using g3
    (repeat (first
 | (simp (disch := omega) only [evA, evB, bAdd_i64, bSub_i64, ptr, Nat.zero_add, Bool.not_true, Bool.not_false, Option.isNone_some, Option.isNone_none, Option.isSome_some, Option.isSome_none, decide_true, decide_false, eq_self, true_and, and_assoc, hl, g3'])
 | ((with_reducible apply go_ld1 h))
 | ((with_reducible apply go_ldA h); (rfl))
 | ((with_reducible apply go_ldN h))
 | ((with_reducible apply go_st h); intro _ h)
 | ((with_reducible apply go_stA h); (rfl); (rfl); (first | rfl | simp [OneV.o]); intro _ h)
 | ((with_reducible apply go_stN h); (rfl); (first | rfl | simp [OneV.o]); intro _ h)
 | ((with_reducible apply go_box h); rfl; intro _ _ h)
 | ((with_reducible apply go_rd h); (rfl))
 | ((with_reducible apply go_rdN h); (rfl))
 | ((with_reducible apply go_rlen h); (rfl))
 | ((with_reducible apply go_lenL h))
 | ((with_reducible apply go_ix h); (omega))
 | ((with_reducible apply go_elN h); (case hi => omega))
 | ((with_reducible apply go_fa h); (omega); (omega))
 | ((with_reducible apply go_f1 h); (case hi => omega); (case hx => exact inferInstance))
 | ((with_reducible apply go_rf1 h); (case hi => omega); (case hx => exact inferInstance); (case hv => rfl))
 | ((with_reducible apply go_rel h); (case hi => omega); (case hv => rfl))
))
    refine eClear_sat (h.front (A := MapH kI rowV mr R) (by repeat (first | exact .here | apply Fnt.there))) um107 fun w h => ?_
    (repeat (first
 | (simp (disch := omega) only [evA, evB, bAdd_i64, bSub_i64, ptr, Nat.zero_add, Bool.not_true, Bool.not_false, Option.isNone_some, Option.isNone_none, Option.isSome_some, Option.isSome_none, decide_true, decide_false, eq_self, true_and, and_assoc])
 | ((with_reducible apply go_ld1 h))
 | ((with_reducible apply go_ldA h); (rfl))
 | ((with_reducible apply go_ldN h))
 | ((with_reducible apply go_st h); intro _ h)
 | ((with_reducible apply go_stA h); (rfl); (rfl); (first | rfl | simp [OneV.o]); intro _ h)
 | ((with_reducible apply go_stN h); (rfl); (first | rfl | simp [OneV.o]); intro _ h)
 | ((with_reducible apply go_box h); rfl; intro _ _ h)
 | ((with_reducible apply go_rd h); (rfl))
 | ((with_reducible apply go_rdN h); (rfl))
 | ((with_reducible apply go_rlen h); (rfl))
 | ((with_reducible apply go_lenL h))
 | ((with_reducible apply go_ix h); (omega))
 | ((with_reducible apply go_elN h); (case hi => omega))
 | ((with_reducible apply go_fa h); (omega); (omega))
 | ((with_reducible apply go_f1 h); (case hi => omega); (case hx => exact inferInstance))
 | ((with_reducible apply go_rf1 h); (case hi => omega); (case hx => exact inferInstance); (case hv => rfl))
 | ((with_reducible apply go_rel h); (case hi => omega); (case hv => rfl))
))
    refine eClear_sat (h.front (A := MapH ekS kI mi I) (by repeat (first | exact .here | apply Fnt.there))) um108 fun w h => ?_
    (repeat (first
 | (simp (disch := omega) only [evA, evB, bAdd_i64, bSub_i64, ptr, Nat.zero_add, Bool.not_true, Bool.not_false, Option.isNone_some, Option.isNone_none, Option.isSome_some, Option.isSome_none, decide_true, decide_false, eq_self, true_and, and_assoc, hl])
 | ((with_reducible apply go_ld1 h))
 | ((with_reducible apply go_ldA h); (rfl))
 | ((with_reducible apply go_ldN h))
 | ((with_reducible apply go_st h); intro _ h)
 | ((with_reducible apply go_stA h); (rfl); (rfl); (first | rfl | simp [OneV.o]); intro _ h)
 | ((with_reducible apply go_stN h); (rfl); (first | rfl | simp [OneV.o]); intro _ h)
 | ((with_reducible apply go_box h); rfl; intro _ _ h)
 | ((with_reducible apply go_rd h); (rfl))
 | ((with_reducible apply go_rdN h); (rfl))
 | ((with_reducible apply go_rlen h); (rfl))
 | ((with_reducible apply go_lenL h))
 | ((with_reducible apply go_ix h); (omega))
 | ((with_reducible apply go_elN h); (case hi => omega))
 | ((with_reducible apply go_fa h); (omega); (omega))
 | ((with_reducible apply go_f1 h); (case hi => omega); (case hx => exact inferInstance))
 | ((with_reducible apply go_rf1 h); (case hi => omega); (case hx => exact inferInstance); (case hv => rfl))
 | ((with_reducible apply go_rel h); (case hi => omega); (case hv => rfl))
))
    unfold F44_4
    have hb := H.1.bd
    refine bload2 (next0 := next0) (by omega) (by omega) (by omega) hrd (fun w h => hK ds hds (by omega) (by omega) w h) fuel 0 [] [] [] w (by unfold fuel; omega) (by omega) rfl (by simpa using hds) (.start (by omega) (by omega) next) (board_iff.2 ⟨p, mr, mi, rfl, h.get (by (repeat (first | exact .done | (refine .pick (by repeat (first | exact .here | apply Fnt.there)) ?_) | refine .skip ?_)))⟩)
end
end Go.Proofs.Gong

/- Be6 -/
namespace Go.Proofs.Gong
open Go Go.Sx Go.Proofs
set_option maxRecDepth 100000
def FitRs (rs : List Row) : Prop := ∀ r ∈ rs, r.e.fits ∧ r.who.length < 1000000
theorem fit_again {r : Row} {e : Evt} {now : Int} (h : r.e.fits ∧ r.who.length < 1000000) (he : e.fits) : (againP r e now).1.e.fits ∧ (againP r e now).1.who.length < 1000000 := by
  obtain ⟨h1, h2⟩ := h
  unfold Evt.fits at *
  unfold againP
  split
  · exact ⟨⟨h1.1, h1.2.1, h1.2.2.1, he.2.2.2⟩, h2⟩
  · split
    · exact ⟨⟨h1.1, h1.2.1, h1.2.2.1, he.2.2.2⟩, by simp⟩
    · exact ⟨⟨h1.1, h1.2.1, h1.2.2.1, he.2.2.2⟩, h2⟩
theorem fit_repl {rs : List Row} {r : Row} (h : FitRs rs) (hr : r.e.fits ∧ r.who.length < 1000000) : FitRs (replL r rs) := by
  intro d hd
  obtain ⟨x, hx, rfl⟩ := List.mem_map.1 hd
  split
  · exact hr
  · exact h x hx
theorem fit_rem {rs : List Row} {id : Int} (h : FitRs rs) : FitRs (remL id rs) := fun d hd => h d (List.mem_filter.1 hd).1
theorem fit_raise {n next now : Int} {rs : List Row} {e : Evt} (h : FitRs rs) (he : e.fits) : FitRs (raiseA n next rs e now).2.2 := by
  unfold raiseA
  split
  · exact h
  split
  · exact h
  split
  · split
    · exact h
    split
    · exact h
    intro d hd
    rcases List.mem_append.1 hd with hd | hd
    · exact h d hd
    · simp at hd; subst hd; exact ⟨he, by simp⟩
  · rename_i r hf
    split
    · exact fit_rem h
    · exact fit_repl h (fit_again (h r (List.mem_of_find?_eq_some hf)) he)
theorem raise_next {n next now : Int} {rs : List Row} {e : Evt} : next ≤ (raiseA n next rs e now).2.1 ∧ (raiseA n next rs e now).2.1 ≤ next + 1 := by
  unfold raiseA
  split
  · simp; omega
  split
  · simp; omega
  split
  · split
    · simp; omega
    split
    · simp; omega
    simp; omega
  · split <;> (simp; omega)
attribute [local irreducible] fBuild fLook fZero eqv bEqv Cl MapH LsH SlH ld1 ldN st callP eBox eAlloc lenM lenL eMapSet eDelete eAppend eBuildSl eRange eNext
section
variable {w0 w : World} {L : List HP} {K : Value → World → Prop} {ha hb s0 s1 s2 : Value} {n next : Int} {cs : List Row}
theorem bl_loop1 {l : List Int} (hl : l.length ≤ 140737488351232) (hrd : Rd w0 1 s0 l.length (l.flatMap cI)) (hE : ∀ next cs w', 1 ≤ next → next ≤ 1000 → FitRs cs → Sat w0 (BoardA ha 20 next cs :: L) w' → F9_3 s1 s2 ha hb w' K) :
    ∀ (d i : Nat) (next : Int) (cs : List Row) (w : World), l.length - i < d → i ≤ 60 → i ≤ l.length → 1 ≤ next → next ≤ i + 1 → FitRs cs → Sat w0 (BoardA ha 20 next cs :: L) w → F9_2L d s0 s1 s2 ha hb (.int .i64 i) w K := by
  intro d
  induction d with
  | zero => intro i next cs w hd; omega
  | succ d ih =>
    intro i next cs w hd hi hl hn1 hn2 hfr h
    rw [F9_2L]
    unfold F9_6 F9_6b F9_7 F9_7b
    have hlen := hrd.len
    have fin : F9_3 s1 s2 ha hb w K := hE next cs w hn1 (by omega) hfr h
    by_cases g : i < l.length
    · have g' : decide ((i : Int) < (l.length : Int)) = true := by simpa using g
      by_cases g2 : i < 60
      · have g2' : decide ((i : Int) < 60) = true := by simp; omega
        (repeat (first
 | (simp (disch := omega) only [evA, evB, bAdd_i64, bSub_i64, ptr, Nat.zero_add, Bool.not_true, Bool.not_false, Option.isNone_some, Option.isNone_none, Option.isSome_some, Option.isSome_none, decide_true, decide_false, eq_self, true_and, and_assoc, hlen, g', g2'])
 | ((with_reducible apply go_ld1 h))
 | ((with_reducible apply go_ldA h); (rfl))
 | ((with_reducible apply go_ldN h))
 | ((with_reducible apply go_st h); intro _ h)
 | ((with_reducible apply go_stA h); (rfl); (rfl); (first | rfl | simp [OneV.o]); intro _ h)
 | ((with_reducible apply go_stN h); (rfl); (first | rfl | simp [OneV.o]); intro _ h)
 | ((with_reducible apply go_box h); rfl; intro _ _ h)
 | ((with_reducible apply go_rd h); (rfl))
 | ((with_reducible apply go_rdN h); (rfl))
 | ((with_reducible apply go_rlen h); (rfl))
 | ((with_reducible apply go_lenL h))
 | ((with_reducible apply go_ix h); (omega))
 | ((with_reducible apply go_elN h); (case hi => omega))
 | ((with_reducible apply go_fa h); (omega); (omega))
 | ((with_reducible apply go_f1 h); (case hi => omega); (case hx => exact inferInstance))
 | ((with_reducible apply go_rf1 h); (case hi => omega); (case hx => exact inferInstance); (case hv => rfl))
 | ((with_reducible apply go_rel h); (case hi => omega); (case hv => rfl))
))
        refine go_some (ix_el (hrd.sat h) g) ?_
        refine go_some (i_at (hrd.sat h) g).2 ?_
        refine event_spec h fun w h => ?_
        have hfit : (evN l[i]).fits := evK_fits _
        generalize evN l[i] = e at hfit
        have e5 : bRem (.int .i64 l[i]) (.int .i64 7) = some (.int .i64 (l[i].tmod 7)) := bRem_int _ _ _ (by decide)
        have hnx := raise_next (n := 20) (next := next) (now := i) (rs := cs) (e := e)
        have hf2 := fit_raise (n := 20) (next := next) (now := i) hfr hfit
        refine baraise_spec (n := 20) (next := next) (rs := cs) (e := e) (now := (i : Int)) hfit (by omega) h fun w h => ?_
        generalize (raiseA 20 next cs e i).2.2 = ds at h hf2
        generalize (raiseA 20 next cs e i).2.1 = nx at h hnx
        (repeat (first
 | (simp (disch := omega) only [evA, evB, bAdd_i64, bSub_i64, ptr, Nat.zero_add, Bool.not_true, Bool.not_false, Option.isNone_some, Option.isNone_none, Option.isSome_some, Option.isSome_none, decide_true, decide_false, eq_self, true_and, and_assoc])
 | ((with_reducible apply go_ld1 h))
 | ((with_reducible apply go_ldA h); (rfl))
 | ((with_reducible apply go_ldN h))
 | ((with_reducible apply go_st h); intro _ h)
 | ((with_reducible apply go_stA h); (rfl); (rfl); (first | rfl | simp [OneV.o]); intro _ h)
 | ((with_reducible apply go_stN h); (rfl); (first | rfl | simp [OneV.o]); intro _ h)
 | ((with_reducible apply go_box h); rfl; intro _ _ h)
 | ((with_reducible apply go_rd h); (rfl))
 | ((with_reducible apply go_rdN h); (rfl))
 | ((with_reducible apply go_rlen h); (rfl))
 | ((with_reducible apply go_lenL h))
 | ((with_reducible apply go_ix h); (omega))
 | ((with_reducible apply go_elN h); (case hi => omega))
 | ((with_reducible apply go_fa h); (omega); (omega))
 | ((with_reducible apply go_f1 h); (case hi => omega); (case hx => exact inferInstance))
 | ((with_reducible apply go_rf1 h); (case hi => omega); (case hx => exact inferInstance); (case hv => rfl))
 | ((with_reducible apply go_rel h); (case hi => omega); (case hv => rfl))
))
        refine go_some (ix_el (hrd.sat h) g) ?_
        refine go_some (i_at (hrd.sat h) g).2 ?_
        refine go_some e5 ?_
        cases g5 : decide (l[i].tmod 7 = 0)
        case' false =>
          (repeat (first
 | (simp (disch := omega) only [evA, evB, bAdd_i64, bSub_i64, ptr, Nat.zero_add, Bool.not_true, Bool.not_false, Option.isNone_some, Option.isNone_none, Option.isSome_some, Option.isSome_none, decide_true, decide_false, eq_self, true_and, and_assoc, g5])
 | ((with_reducible apply go_ld1 h))
 | ((with_reducible apply go_ldA h); (rfl))
 | ((with_reducible apply go_ldN h))
 | ((with_reducible apply go_st h); intro _ h)
 | ((with_reducible apply go_stA h); (rfl); (rfl); (first | rfl | simp [OneV.o]); intro _ h)
 | ((with_reducible apply go_stN h); (rfl); (first | rfl | simp [OneV.o]); intro _ h)
 | ((with_reducible apply go_box h); rfl; intro _ _ h)
 | ((with_reducible apply go_rd h); (rfl))
 | ((with_reducible apply go_rdN h); (rfl))
 | ((with_reducible apply go_rlen h); (rfl))
 | ((with_reducible apply go_lenL h))
 | ((with_reducible apply go_ix h); (omega))
 | ((with_reducible apply go_elN h); (case hi => omega))
 | ((with_reducible apply go_fa h); (omega); (omega))
 | ((with_reducible apply go_f1 h); (case hi => omega); (case hx => exact inferInstance))
 | ((with_reducible apply go_rf1 h); (case hi => omega); (case hx => exact inferInstance); (case hv => rfl))
 | ((with_reducible apply go_rel h); (case hi => omega); (case hv => rfl))
))
          exact ih (i + 1) nx ds w (by omega) (by omega) (by omega) (by omega) (by omega) hf2 h
        (repeat (first
 | (simp (disch := omega) only [evA, evB, bAdd_i64, bSub_i64, ptr, Nat.zero_add, Bool.not_true, Bool.not_false, Option.isNone_some, Option.isNone_none, Option.isSome_some, Option.isSome_none, decide_true, decide_false, eq_self, true_and, and_assoc, g5])
 | ((with_reducible apply go_ld1 h))
 | ((with_reducible apply go_ldA h); (rfl))
 | ((with_reducible apply go_ldN h))
 | ((with_reducible apply go_st h); intro _ h)
 | ((with_reducible apply go_stA h); (rfl); (rfl); (first | rfl | simp [OneV.o]); intro _ h)
 | ((with_reducible apply go_stN h); (rfl); (first | rfl | simp [OneV.o]); intro _ h)
 | ((with_reducible apply go_box h); rfl; intro _ _ h)
 | ((with_reducible apply go_rd h); (rfl))
 | ((with_reducible apply go_rdN h); (rfl))
 | ((with_reducible apply go_rlen h); (rfl))
 | ((with_reducible apply go_lenL h))
 | ((with_reducible apply go_ix h); (omega))
 | ((with_reducible apply go_elN h); (case hi => omega))
 | ((with_reducible apply go_fa h); (omega); (omega))
 | ((with_reducible apply go_f1 h); (case hi => omega); (case hx => exact inferInstance))
 | ((with_reducible apply go_rf1 h); (case hi => omega); (case hx => exact inferInstance); (case hv => rfl))
 | ((with_reducible apply go_rel h); (case hi => omega); (case hv => rfl))
))
        refine baack_spec (id := i) (who := [97, 110, 110]) (by simp) h (fun _ _ w h => ?_) (fun r hr _ _ _ w h => ?_)
        · (repeat (first
 | (simp (disch := omega) only [evA, evB, bAdd_i64, bSub_i64, ptr, Nat.zero_add, Bool.not_true, Bool.not_false, Option.isNone_some, Option.isNone_none, Option.isSome_some, Option.isSome_none, decide_true, decide_false, eq_self, true_and, and_assoc])
 | ((with_reducible apply go_ld1 h))
 | ((with_reducible apply go_ldA h); (rfl))
 | ((with_reducible apply go_ldN h))
 | ((with_reducible apply go_st h); intro _ h)
 | ((with_reducible apply go_stA h); (rfl); (rfl); (first | rfl | simp [OneV.o]); intro _ h)
 | ((with_reducible apply go_stN h); (rfl); (first | rfl | simp [OneV.o]); intro _ h)
 | ((with_reducible apply go_box h); rfl; intro _ _ h)
 | ((with_reducible apply go_rd h); (rfl))
 | ((with_reducible apply go_rdN h); (rfl))
 | ((with_reducible apply go_rlen h); (rfl))
 | ((with_reducible apply go_lenL h))
 | ((with_reducible apply go_ix h); (omega))
 | ((with_reducible apply go_elN h); (case hi => omega))
 | ((with_reducible apply go_fa h); (omega); (omega))
 | ((with_reducible apply go_f1 h); (case hi => omega); (case hx => exact inferInstance))
 | ((with_reducible apply go_rf1 h); (case hi => omega); (case hx => exact inferInstance); (case hv => rfl))
 | ((with_reducible apply go_rel h); (case hi => omega); (case hv => rfl))
))
          exact ih (i + 1) nx ds w (by omega) (by omega) (by omega) (by omega) (by omega) hf2 h
        · (repeat (first
 | (simp (disch := omega) only [evA, evB, bAdd_i64, bSub_i64, ptr, Nat.zero_add, Bool.not_true, Bool.not_false, Option.isNone_some, Option.isNone_none, Option.isSome_some, Option.isSome_none, decide_true, decide_false, eq_self, true_and, and_assoc])
 | ((with_reducible apply go_ld1 h))
 | ((with_reducible apply go_ldA h); (rfl))
 | ((with_reducible apply go_ldN h))
 | ((with_reducible apply go_st h); intro _ h)
 | ((with_reducible apply go_stA h); (rfl); (rfl); (first | rfl | simp [OneV.o]); intro _ h)
 | ((with_reducible apply go_stN h); (rfl); (first | rfl | simp [OneV.o]); intro _ h)
 | ((with_reducible apply go_box h); rfl; intro _ _ h)
 | ((with_reducible apply go_rd h); (rfl))
 | ((with_reducible apply go_rdN h); (rfl))
 | ((with_reducible apply go_rlen h); (rfl))
 | ((with_reducible apply go_lenL h))
 | ((with_reducible apply go_ix h); (omega))
 | ((with_reducible apply go_elN h); (case hi => omega))
 | ((with_reducible apply go_fa h); (omega); (omega))
 | ((with_reducible apply go_f1 h); (case hi => omega); (case hx => exact inferInstance))
 | ((with_reducible apply go_rf1 h); (case hi => omega); (case hx => exact inferInstance); (case hv => rfl))
 | ((with_reducible apply go_rel h); (case hi => omega); (case hv => rfl))
))
          exact ih (i + 1) nx _ w (by omega) (by omega) (by omega) (by omega) (by omega) (fit_repl (r := { r with acked := true, who := [97, 110, 110] }) hf2 ⟨(hf2 r hr).1, by show [97, 110, 110].length < 1000000; simp⟩) h
      · have g2' : decide ((i : Int) < 60) = false := by simp; omega
        (repeat (first
 | (simp (disch := omega) only [evA, evB, bAdd_i64, bSub_i64, ptr, Nat.zero_add, Bool.not_true, Bool.not_false, Option.isNone_some, Option.isNone_none, Option.isSome_some, Option.isSome_none, decide_true, decide_false, eq_self, true_and, and_assoc, hlen, g', g2'])
 | ((with_reducible apply go_ld1 h))
 | ((with_reducible apply go_ldA h); (rfl))
 | ((with_reducible apply go_ldN h))
 | ((with_reducible apply go_st h); intro _ h)
 | ((with_reducible apply go_stA h); (rfl); (rfl); (first | rfl | simp [OneV.o]); intro _ h)
 | ((with_reducible apply go_stN h); (rfl); (first | rfl | simp [OneV.o]); intro _ h)
 | ((with_reducible apply go_box h); rfl; intro _ _ h)
 | ((with_reducible apply go_rd h); (rfl))
 | ((with_reducible apply go_rdN h); (rfl))
 | ((with_reducible apply go_rlen h); (rfl))
 | ((with_reducible apply go_lenL h))
 | ((with_reducible apply go_ix h); (omega))
 | ((with_reducible apply go_elN h); (case hi => omega))
 | ((with_reducible apply go_fa h); (omega); (omega))
 | ((with_reducible apply go_f1 h); (case hi => omega); (case hx => exact inferInstance))
 | ((with_reducible apply go_rf1 h); (case hi => omega); (case hx => exact inferInstance); (case hv => rfl))
 | ((with_reducible apply go_rel h); (case hi => omega); (case hv => rfl))
))
        exact fin
    · have g' : decide ((i : Int) < (l.length : Int)) = false := by simpa using g
      (repeat (first
 | (simp (disch := omega) only [evA, evB, bAdd_i64, bSub_i64, ptr, Nat.zero_add, Bool.not_true, Bool.not_false, Option.isNone_some, Option.isNone_none, Option.isSome_some, Option.isSome_none, decide_true, decide_false, eq_self, true_and, and_assoc, hlen, g'])
 | ((with_reducible apply go_ld1 h))
 | ((with_reducible apply go_ldA h); (rfl))
 | ((with_reducible apply go_ldN h))
 | ((with_reducible apply go_st h); intro _ h)
 | ((with_reducible apply go_stA h); (rfl); (rfl); (first | rfl | simp [OneV.o]); intro _ h)
 | ((with_reducible apply go_stN h); (rfl); (first | rfl | simp [OneV.o]); intro _ h)
 | ((with_reducible apply go_box h); rfl; intro _ _ h)
 | ((with_reducible apply go_rd h); (rfl))
 | ((with_reducible apply go_rdN h); (rfl))
 | ((with_reducible apply go_rlen h); (rfl))
 | ((with_reducible apply go_lenL h))
 | ((with_reducible apply go_ix h); (omega))
 | ((with_reducible apply go_elN h); (case hi => omega))
 | ((with_reducible apply go_fa h); (omega); (omega))
 | ((with_reducible apply go_f1 h); (case hi => omega); (case hx => exact inferInstance))
 | ((with_reducible apply go_rf1 h); (case hi => omega); (case hx => exact inferInstance); (case hv => rfl))
 | ((with_reducible apply go_rel h); (case hi => omega); (case hv => rfl))
))
      exact fin
theorem bl_loop2 {l : List Int} (hl : l.length ≤ 140737488351232) (hrd : Rd w0 1 s1 l.length (l.flatMap cI)) (hE : ∀ next cs w', 1 ≤ next → next ≤ 2000 → Sat w0 (BoardA ha 20 next cs :: BoardA hb 20 next cs :: L) w' → F9_5 ha hb w' K) :
    ∀ (d i : Nat) (next : Int) (cs : List Row) (w : World), l.length - i < d → i ≤ 60 → i ≤ l.length → 1 ≤ next → next ≤ i + 1000 → Sat w0 (BoardA ha 20 next cs :: BoardA hb 20 next cs :: L) w → F9_4L d s1 ha hb (.int .i64 i) w K := by
  intro d
  induction d with
  | zero => intro i next cs w hd; omega
  | succ d ih =>
    intro i next cs w hd hi hl hn1 hn2 h
    rw [F9_4L]
    unfold F9_4b
    have hlen := hrd.len
    have fin : F9_5 ha hb w K := hE next cs w hn1 (by omega) h
    by_cases g : i < l.length
    · have g' : decide ((i : Int) < (l.length : Int)) = true := by simpa using g
      by_cases g2 : i < 60
      · have g2' : decide ((i : Int) < 60) = true := by simp; omega
        (repeat (first
 | (simp (disch := omega) only [evA, evB, bAdd_i64, bSub_i64, ptr, Nat.zero_add, Bool.not_true, Bool.not_false, Option.isNone_some, Option.isNone_none, Option.isSome_some, Option.isSome_none, decide_true, decide_false, eq_self, true_and, and_assoc, hlen, g', g2'])
 | ((with_reducible apply go_ld1 h))
 | ((with_reducible apply go_ldA h); (rfl))
 | ((with_reducible apply go_ldN h))
 | ((with_reducible apply go_st h); intro _ h)
 | ((with_reducible apply go_stA h); (rfl); (rfl); (first | rfl | simp [OneV.o]); intro _ h)
 | ((with_reducible apply go_stN h); (rfl); (first | rfl | simp [OneV.o]); intro _ h)
 | ((with_reducible apply go_box h); rfl; intro _ _ h)
 | ((with_reducible apply go_rd h); (rfl))
 | ((with_reducible apply go_rdN h); (rfl))
 | ((with_reducible apply go_rlen h); (rfl))
 | ((with_reducible apply go_lenL h))
 | ((with_reducible apply go_ix h); (omega))
 | ((with_reducible apply go_elN h); (case hi => omega))
 | ((with_reducible apply go_fa h); (omega); (omega))
 | ((with_reducible apply go_f1 h); (case hi => omega); (case hx => exact inferInstance))
 | ((with_reducible apply go_rf1 h); (case hi => omega); (case hx => exact inferInstance); (case hv => rfl))
 | ((with_reducible apply go_rel h); (case hi => omega); (case hv => rfl))
))
        refine go_some (ix_el (hrd.sat h) g) ?_
        refine go_some (i_at (hrd.sat h) g).2 ?_
        refine event_spec h fun w h => ?_
        have hfit : (evN l[i]).fits := evK_fits _
        generalize he0 : evN l[i] = e at hfit
        have hnx := raise_next (n := 20) (next := next) (now := 100 + i) (rs := cs) (e := e)
        (repeat (first
 | (simp (disch := omega) only [evA, evB, bAdd_i64, bSub_i64, ptr, Nat.zero_add, Bool.not_true, Bool.not_false, Option.isNone_some, Option.isNone_none, Option.isSome_some, Option.isSome_none, decide_true, decide_false, eq_self, true_and, and_assoc])
 | ((with_reducible apply go_ld1 h))
 | ((with_reducible apply go_ldA h); (rfl))
 | ((with_reducible apply go_ldN h))
 | ((with_reducible apply go_st h); intro _ h)
 | ((with_reducible apply go_stA h); (rfl); (rfl); (first | rfl | simp [OneV.o]); intro _ h)
 | ((with_reducible apply go_stN h); (rfl); (first | rfl | simp [OneV.o]); intro _ h)
 | ((with_reducible apply go_box h); rfl; intro _ _ h)
 | ((with_reducible apply go_rd h); (rfl))
 | ((with_reducible apply go_rdN h); (rfl))
 | ((with_reducible apply go_rlen h); (rfl))
 | ((with_reducible apply go_lenL h))
 | ((with_reducible apply go_ix h); (omega))
 | ((with_reducible apply go_elN h); (case hi => omega))
 | ((with_reducible apply go_fa h); (omega); (omega))
 | ((with_reducible apply go_f1 h); (case hi => omega); (case hx => exact inferInstance))
 | ((with_reducible apply go_rf1 h); (case hi => omega); (case hx => exact inferInstance); (case hv => rfl))
 | ((with_reducible apply go_rel h); (case hi => omega); (case hv => rfl))
))
        refine baraise_spec (n := 20) (next := next) (rs := cs) (e := e) (now := 100 + (i : Int)) hfit (by omega) h fun w h => ?_
        generalize hra : raiseA 20 next cs e (100 + (i : Int)) = ra at h hnx
        (repeat (first
 | (simp (disch := omega) only [evA, evB, bAdd_i64, bSub_i64, ptr, Nat.zero_add, Bool.not_true, Bool.not_false, Option.isNone_some, Option.isNone_none, Option.isSome_some, Option.isSome_none, decide_true, decide_false, eq_self, true_and, and_assoc])
 | ((with_reducible apply go_ld1 h))
 | ((with_reducible apply go_ldA h); (rfl))
 | ((with_reducible apply go_ldN h))
 | ((with_reducible apply go_st h); intro _ h)
 | ((with_reducible apply go_stA h); (rfl); (rfl); (first | rfl | simp [OneV.o]); intro _ h)
 | ((with_reducible apply go_stN h); (rfl); (first | rfl | simp [OneV.o]); intro _ h)
 | ((with_reducible apply go_box h); rfl; intro _ _ h)
 | ((with_reducible apply go_rd h); (rfl))
 | ((with_reducible apply go_rdN h); (rfl))
 | ((with_reducible apply go_rlen h); (rfl))
 | ((with_reducible apply go_lenL h))
 | ((with_reducible apply go_ix h); (omega))
 | ((with_reducible apply go_elN h); (case hi => omega))
 | ((with_reducible apply go_fa h); (omega); (omega))
 | ((with_reducible apply go_f1 h); (case hi => omega); (case hx => exact inferInstance))
 | ((with_reducible apply go_rf1 h); (case hi => omega); (case hx => exact inferInstance); (case hv => rfl))
 | ((with_reducible apply go_rel h); (case hi => omega); (case hv => rfl))
))
        refine go_alloc h zR rfl fun _ _ h => ?_
        (repeat (first
 | (simp (disch := omega) only [evA, evB, bAdd_i64, bSub_i64, ptr, Nat.zero_add, Bool.not_true, Bool.not_false, Option.isNone_some, Option.isNone_none, Option.isSome_some, Option.isSome_none, decide_true, decide_false, eq_self, true_and, and_assoc])
 | ((with_reducible apply go_ld1 h))
 | ((with_reducible apply go_ldA h); (rfl))
 | ((with_reducible apply go_ldN h))
 | ((with_reducible apply go_st h); intro _ h)
 | ((with_reducible apply go_stA h); (rfl); (rfl); (first | rfl | simp [OneV.o]); intro _ h)
 | ((with_reducible apply go_stN h); (rfl); (first | rfl | simp [OneV.o]); intro _ h)
 | ((with_reducible apply go_box h); rfl; intro _ _ h)
 | ((with_reducible apply go_rd h); (rfl))
 | ((with_reducible apply go_rdN h); (rfl))
 | ((with_reducible apply go_rlen h); (rfl))
 | ((with_reducible apply go_lenL h))
 | ((with_reducible apply go_ix h); (omega))
 | ((with_reducible apply go_elN h); (case hi => omega))
 | ((with_reducible apply go_fa h); (omega); (omega))
 | ((with_reducible apply go_f1 h); (case hi => omega); (case hx => exact inferInstance))
 | ((with_reducible apply go_rf1 h); (case hi => omega); (case hx => exact inferInstance); (case hv => rfl))
 | ((with_reducible apply go_rel h); (case hi => omega); (case hv => rfl))
))
        refine go_some (ix_el (hrd.sat h) g) ?_
        refine go_some (i_at (hrd.sat h) g).2 ?_
        refine event_spec h fun w h => ?_
        rw [he0]
        (repeat (first
 | (simp (disch := omega) only [evA, evB, bAdd_i64, bSub_i64, ptr, Nat.zero_add, Bool.not_true, Bool.not_false, Option.isNone_some, Option.isNone_none, Option.isSome_some, Option.isSome_none, decide_true, decide_false, eq_self, true_and, and_assoc])
 | ((with_reducible apply go_ld1 h))
 | ((with_reducible apply go_ldA h); (rfl))
 | ((with_reducible apply go_ldN h))
 | ((with_reducible apply go_st h); intro _ h)
 | ((with_reducible apply go_stA h); (rfl); (rfl); (first | rfl | simp [OneV.o]); intro _ h)
 | ((with_reducible apply go_stN h); (rfl); (first | rfl | simp [OneV.o]); intro _ h)
 | ((with_reducible apply go_box h); rfl; intro _ _ h)
 | ((with_reducible apply go_rd h); (rfl))
 | ((with_reducible apply go_rdN h); (rfl))
 | ((with_reducible apply go_rlen h); (rfl))
 | ((with_reducible apply go_lenL h))
 | ((with_reducible apply go_ix h); (omega))
 | ((with_reducible apply go_elN h); (case hi => omega))
 | ((with_reducible apply go_fa h); (omega); (omega))
 | ((with_reducible apply go_f1 h); (case hi => omega); (case hx => exact inferInstance))
 | ((with_reducible apply go_rf1 h); (case hi => omega); (case hx => exact inferInstance); (case hv => rfl))
 | ((with_reducible apply go_rel h); (case hi => omega); (case hv => rfl))
))
        refine baraise_spec (v := hb) (n := 20) (next := next) (rs := cs) (e := e) (now := 100 + (i : Int)) hfit (by omega) (h.front (by repeat (first | exact .here | apply Fnt.there))) fun w h => ?_
        rw [hra] at h ⊢
        (repeat (first
 | (simp (disch := omega) only [evA, evB, bAdd_i64, bSub_i64, ptr, Nat.zero_add, Bool.not_true, Bool.not_false, Option.isNone_some, Option.isNone_none, Option.isSome_some, Option.isSome_none, decide_true, decide_false, eq_self, true_and, and_assoc])
 | ((with_reducible apply go_ld1 h))
 | ((with_reducible apply go_ldA h); (rfl))
 | ((with_reducible apply go_ldN h))
 | ((with_reducible apply go_st h); intro _ h)
 | ((with_reducible apply go_stA h); (rfl); (rfl); (first | rfl | simp [OneV.o]); intro _ h)
 | ((with_reducible apply go_stN h); (rfl); (first | rfl | simp [OneV.o]); intro _ h)
 | ((with_reducible apply go_box h); rfl; intro _ _ h)
 | ((with_reducible apply go_rd h); (rfl))
 | ((with_reducible apply go_rdN h); (rfl))
 | ((with_reducible apply go_rlen h); (rfl))
 | ((with_reducible apply go_lenL h))
 | ((with_reducible apply go_ix h); (omega))
 | ((with_reducible apply go_elN h); (case hi => omega))
 | ((with_reducible apply go_fa h); (omega); (omega))
 | ((with_reducible apply go_f1 h); (case hi => omega); (case hx => exact inferInstance))
 | ((with_reducible apply go_rf1 h); (case hi => omega); (case hx => exact inferInstance); (case hv => rfl))
 | ((with_reducible apply go_rel h); (case hi => omega); (case hv => rfl))
))
        refine go_alloc h zR rfl fun _ _ h => ?_
        (repeat (first
 | (simp (disch := omega) only [evA, evB, bAdd_i64, bSub_i64, ptr, Nat.zero_add, Bool.not_true, Bool.not_false, Option.isNone_some, Option.isNone_none, Option.isSome_some, Option.isSome_none, decide_true, decide_false, eq_self, true_and, and_assoc])
 | ((with_reducible apply go_ld1 h))
 | ((with_reducible apply go_ldA h); (rfl))
 | ((with_reducible apply go_ldN h))
 | ((with_reducible apply go_st h); intro _ h)
 | ((with_reducible apply go_stA h); (rfl); (rfl); (first | rfl | simp [OneV.o]); intro _ h)
 | ((with_reducible apply go_stN h); (rfl); (first | rfl | simp [OneV.o]); intro _ h)
 | ((with_reducible apply go_box h); rfl; intro _ _ h)
 | ((with_reducible apply go_rd h); (rfl))
 | ((with_reducible apply go_rdN h); (rfl))
 | ((with_reducible apply go_rlen h); (rfl))
 | ((with_reducible apply go_lenL h))
 | ((with_reducible apply go_ix h); (omega))
 | ((with_reducible apply go_elN h); (case hi => omega))
 | ((with_reducible apply go_fa h); (omega); (omega))
 | ((with_reducible apply go_f1 h); (case hi => omega); (case hx => exact inferInstance))
 | ((with_reducible apply go_rf1 h); (case hi => omega); (case hx => exact inferInstance); (case hv => rfl))
 | ((with_reducible apply go_rel h); (case hi => omega); (case hv => rfl))
))
        refine go_some (neR _ _ ra.1.1 ra.1.1) ?_
        rw [decide_eq_true rfl]
        (repeat (first
 | (simp (disch := omega) only [evA, evB, bAdd_i64, bSub_i64, ptr, Nat.zero_add, Bool.not_true, Bool.not_false, Option.isNone_some, Option.isNone_none, Option.isSome_some, Option.isSome_none, decide_true, decide_false, eq_self, true_and, and_assoc])
 | ((with_reducible apply go_ld1 h))
 | ((with_reducible apply go_ldA h); (rfl))
 | ((with_reducible apply go_ldN h))
 | ((with_reducible apply go_st h); intro _ h)
 | ((with_reducible apply go_stA h); (rfl); (rfl); (first | rfl | simp [OneV.o]); intro _ h)
 | ((with_reducible apply go_stN h); (rfl); (first | rfl | simp [OneV.o]); intro _ h)
 | ((with_reducible apply go_box h); rfl; intro _ _ h)
 | ((with_reducible apply go_rd h); (rfl))
 | ((with_reducible apply go_rdN h); (rfl))
 | ((with_reducible apply go_rlen h); (rfl))
 | ((with_reducible apply go_lenL h))
 | ((with_reducible apply go_ix h); (omega))
 | ((with_reducible apply go_elN h); (case hi => omega))
 | ((with_reducible apply go_fa h); (omega); (omega))
 | ((with_reducible apply go_f1 h); (case hi => omega); (case hx => exact inferInstance))
 | ((with_reducible apply go_rf1 h); (case hi => omega); (case hx => exact inferInstance); (case hv => rfl))
 | ((with_reducible apply go_rel h); (case hi => omega); (case hv => rfl))
))
        exact ih (i + 1) ra.2.1 ra.2.2 _ (by omega) (by omega) (by omega) (by omega) (by omega) (h.get (by (repeat (first | exact .done | (refine .pick (by repeat (first | exact .here | apply Fnt.there)) ?_) | refine .skip ?_))))
      · have g2' : decide ((i : Int) < 60) = false := by simp; omega
        (repeat (first
 | (simp (disch := omega) only [evA, evB, bAdd_i64, bSub_i64, ptr, Nat.zero_add, Bool.not_true, Bool.not_false, Option.isNone_some, Option.isNone_none, Option.isSome_some, Option.isSome_none, decide_true, decide_false, eq_self, true_and, and_assoc, hlen, g', g2'])
 | ((with_reducible apply go_ld1 h))
 | ((with_reducible apply go_ldA h); (rfl))
 | ((with_reducible apply go_ldN h))
 | ((with_reducible apply go_st h); intro _ h)
 | ((with_reducible apply go_stA h); (rfl); (rfl); (first | rfl | simp [OneV.o]); intro _ h)
 | ((with_reducible apply go_stN h); (rfl); (first | rfl | simp [OneV.o]); intro _ h)
 | ((with_reducible apply go_box h); rfl; intro _ _ h)
 | ((with_reducible apply go_rd h); (rfl))
 | ((with_reducible apply go_rdN h); (rfl))
 | ((with_reducible apply go_rlen h); (rfl))
 | ((with_reducible apply go_lenL h))
 | ((with_reducible apply go_ix h); (omega))
 | ((with_reducible apply go_elN h); (case hi => omega))
 | ((with_reducible apply go_fa h); (omega); (omega))
 | ((with_reducible apply go_f1 h); (case hi => omega); (case hx => exact inferInstance))
 | ((with_reducible apply go_rf1 h); (case hi => omega); (case hx => exact inferInstance); (case hv => rfl))
 | ((with_reducible apply go_rel h); (case hi => omega); (case hv => rfl))
))
        exact fin
    · have g' : decide ((i : Int) < (l.length : Int)) = false := by simpa using g
      (repeat (first
 | (simp (disch := omega) only [evA, evB, bAdd_i64, bSub_i64, ptr, Nat.zero_add, Bool.not_true, Bool.not_false, Option.isNone_some, Option.isNone_none, Option.isSome_some, Option.isSome_none, decide_true, decide_false, eq_self, true_and, and_assoc, hlen, g'])
 | ((with_reducible apply go_ld1 h))
 | ((with_reducible apply go_ldA h); (rfl))
 | ((with_reducible apply go_ldN h))
 | ((with_reducible apply go_st h); intro _ h)
 | ((with_reducible apply go_stA h); (rfl); (rfl); (first | rfl | simp [OneV.o]); intro _ h)
 | ((with_reducible apply go_stN h); (rfl); (first | rfl | simp [OneV.o]); intro _ h)
 | ((with_reducible apply go_box h); rfl; intro _ _ h)
 | ((with_reducible apply go_rd h); (rfl))
 | ((with_reducible apply go_rdN h); (rfl))
 | ((with_reducible apply go_rlen h); (rfl))
 | ((with_reducible apply go_lenL h))
 | ((with_reducible apply go_ix h); (omega))
 | ((with_reducible apply go_elN h); (case hi => omega))
 | ((with_reducible apply go_fa h); (omega); (omega))
 | ((with_reducible apply go_f1 h); (case hi => omega); (case hx => exact inferInstance))
 | ((with_reducible apply go_rf1 h); (case hi => omega); (case hx => exact inferInstance); (case hv => rfl))
 | ((with_reducible apply go_rel h); (case hi => omega); (case hv => rfl))
))
      exact fin
theorem bl_end (hK : ∀ w', Sat w0 L w' → K (.bool true) w') (h : Sat w0 (BoardA ha 20 next cs :: BoardA hb 20 next cs :: L) w) : F9_5 ha hb w K := by
  unfold F9_5 F9_5b
  obtain ⟨R, I, H⟩ := boardA_inv h
  have hbd := H.bd
  refine baall_spec h fun sv w h => ?_
  refine baall_spec (v := hb) (rs := cs) (n := 20) (next := next) (h.front (by repeat (first | exact .here | apply Fnt.there))) fun sv2 w h => ?_
  refine rows_spec (rs := cs) (L := BoardA ha 20 next cs :: BoardA hb 20 next cs :: L) (a := sv) (b := sv2) (by omega) (h.get (by (repeat (first | exact .done | (refine .pick (by repeat (first | exact .here | apply Fnt.there)) ?_) | refine .skip ?_)))) fun w h => ?_
  (repeat (first
 | (simp (disch := omega) only [evA, evB, bAdd_i64, bSub_i64, ptr, Nat.zero_add, Bool.not_true, Bool.not_false, Option.isNone_some, Option.isNone_none, Option.isSome_some, Option.isSome_none, decide_true, decide_false, eq_self, true_and, and_assoc])
 | ((with_reducible apply go_ld1 h))
 | ((with_reducible apply go_ldA h); (rfl))
 | ((with_reducible apply go_ldN h))
 | ((with_reducible apply go_st h); intro _ h)
 | ((with_reducible apply go_stA h); (rfl); (rfl); (first | rfl | simp [OneV.o]); intro _ h)
 | ((with_reducible apply go_stN h); (rfl); (first | rfl | simp [OneV.o]); intro _ h)
 | ((with_reducible apply go_box h); rfl; intro _ _ h)
 | ((with_reducible apply go_rd h); (rfl))
 | ((with_reducible apply go_rdN h); (rfl))
 | ((with_reducible apply go_rlen h); (rfl))
 | ((with_reducible apply go_lenL h))
 | ((with_reducible apply go_ix h); (omega))
 | ((with_reducible apply go_elN h); (case hi => omega))
 | ((with_reducible apply go_fa h); (omega); (omega))
 | ((with_reducible apply go_f1 h); (case hi => omega); (case hx => exact inferInstance))
 | ((with_reducible apply go_rf1 h); (case hi => omega); (case hx => exact inferInstance); (case hv => rfl))
 | ((with_reducible apply go_rel h); (case hi => omega); (case hv => rfl))
))
  refine bnext_spec (v := ha) (rs := cs) (n := 20) (next := next) (h.front (by repeat (first | exact .here | apply Fnt.there))) ?_
  (repeat (first
 | (simp (disch := omega) only [evA, evB, bAdd_i64, bSub_i64, ptr, Nat.zero_add, Bool.not_true, Bool.not_false, Option.isNone_some, Option.isNone_none, Option.isSome_some, Option.isSome_none, decide_true, decide_false, eq_self, true_and, and_assoc])
 | ((with_reducible apply go_ld1 h))
 | ((with_reducible apply go_ldA h); (rfl))
 | ((with_reducible apply go_ldN h))
 | ((with_reducible apply go_st h); intro _ h)
 | ((with_reducible apply go_stA h); (rfl); (rfl); (first | rfl | simp [OneV.o]); intro _ h)
 | ((with_reducible apply go_stN h); (rfl); (first | rfl | simp [OneV.o]); intro _ h)
 | ((with_reducible apply go_box h); rfl; intro _ _ h)
 | ((with_reducible apply go_rd h); (rfl))
 | ((with_reducible apply go_rdN h); (rfl))
 | ((with_reducible apply go_rlen h); (rfl))
 | ((with_reducible apply go_lenL h))
 | ((with_reducible apply go_ix h); (omega))
 | ((with_reducible apply go_elN h); (case hi => omega))
 | ((with_reducible apply go_fa h); (omega); (omega))
 | ((with_reducible apply go_f1 h); (case hi => omega); (case hx => exact inferInstance))
 | ((with_reducible apply go_rf1 h); (case hi => omega); (case hx => exact inferInstance); (case hv => rfl))
 | ((with_reducible apply go_rel h); (case hi => omega); (case hv => rfl))
))
  refine bnext_spec (v := hb) (rs := cs) (n := 20) (next := next) (h.front (by repeat (first | exact .here | apply Fnt.there))) ?_
  (repeat (first
 | (simp (disch := omega) only [evA, evB, bAdd_i64, bSub_i64, ptr, Nat.zero_add, Bool.not_true, Bool.not_false, Option.isNone_some, Option.isNone_none, Option.isSome_some, Option.isSome_none, decide_true, decide_false, eq_self, true_and, and_assoc])
 | ((with_reducible apply go_ld1 h))
 | ((with_reducible apply go_ldA h); (rfl))
 | ((with_reducible apply go_ldN h))
 | ((with_reducible apply go_st h); intro _ h)
 | ((with_reducible apply go_stA h); (rfl); (rfl); (first | rfl | simp [OneV.o]); intro _ h)
 | ((with_reducible apply go_stN h); (rfl); (first | rfl | simp [OneV.o]); intro _ h)
 | ((with_reducible apply go_box h); rfl; intro _ _ h)
 | ((with_reducible apply go_rd h); (rfl))
 | ((with_reducible apply go_rdN h); (rfl))
 | ((with_reducible apply go_rlen h); (rfl))
 | ((with_reducible apply go_lenL h))
 | ((with_reducible apply go_ix h); (omega))
 | ((with_reducible apply go_elN h); (case hi => omega))
 | ((with_reducible apply go_fa h); (omega); (omega))
 | ((with_reducible apply go_f1 h); (case hi => omega); (case hx => exact inferInstance))
 | ((with_reducible apply go_rf1 h); (case hi => omega); (case hx => exact inferInstance); (case hv => rfl))
 | ((with_reducible apply go_rel h); (case hi => omega); (case hv => rfl))
))
  exact hK _ (h.get (by (repeat (first | exact .done | (refine .pick (by repeat (first | exact .here | apply Fnt.there)) ?_) | refine .skip ?_))))
theorem bl_mid {turn : Int} {ml : List Int} (hml : ml.length ≤ 140737488351232) (hrd : Rd w0 1 s1 ml.length (ml.flatMap cI)) (hn0 : 1 ≤ next) (hn1 : next ≤ 1000) (hfr : FitRs cs) (hK : ∀ w', Sat w0 L w' → K (.bool true) w') (h : Sat w0 (BoardA ha 20 next cs :: BoardA hb 20 1 [] :: L) w) : F9_3 s1 (.int .i64 turn) ha hb w K := by
  unfold F9_3 F9_3b
  obtain ⟨R, I, H⟩ := boardA_inv h
  refine baall_spec h fun sv w h => ?_
  have hbd := H.bd
  (repeat (first
 | (simp (disch := omega) only [evA, evB, bAdd_i64, bSub_i64, ptr, Nat.zero_add, Bool.not_true, Bool.not_false, Option.isNone_some, Option.isNone_none, Option.isSome_some, Option.isSome_none, decide_true, decide_false, eq_self, true_and, and_assoc])
 | ((with_reducible apply go_ld1 h))
 | ((with_reducible apply go_ldA h); (rfl))
 | ((with_reducible apply go_ldN h))
 | ((with_reducible apply go_st h); intro _ h)
 | ((with_reducible apply go_stA h); (rfl); (rfl); (first | rfl | simp [OneV.o]); intro _ h)
 | ((with_reducible apply go_stN h); (rfl); (first | rfl | simp [OneV.o]); intro _ h)
 | ((with_reducible apply go_box h); rfl; intro _ _ h)
 | ((with_reducible apply go_rd h); (rfl))
 | ((with_reducible apply go_rdN h); (rfl))
 | ((with_reducible apply go_rlen h); (rfl))
 | ((with_reducible apply go_lenL h))
 | ((with_reducible apply go_ix h); (omega))
 | ((with_reducible apply go_elN h); (case hi => omega))
 | ((with_reducible apply go_fa h); (omega); (omega))
 | ((with_reducible apply go_f1 h); (case hi => omega); (case hx => exact inferInstance))
 | ((with_reducible apply go_rf1 h); (case hi => omega); (case hx => exact inferInstance); (case hv => rfl))
 | ((with_reducible apply go_rel h); (case hi => omega); (case hv => rfl))
))
  refine Below_spec (by omega) (by omega) fun r h1 h2 _ => ?_
  obtain ⟨k, rfl⟩ : ∃ k : Nat, r = k := ⟨r.toNat, by omega⟩
  have hk : k ≤ cs.length := by omega
  have hr : Rd w 11 sv cs.length (cs.flatMap cRow) := ls_rd (h.front (A := LsH cRow 11 33 sv cs) (by repeat (first | exact .here | apply Fnt.there)))
  obtain ⟨v1, e1, _⟩ := hr.sub (L := some (.int .i64 (k : Int))) (H := none) (M := none) (lo := k) (hi := cs.length) (.some _ _) .none (.none _) hk (Nat.le_refl _)
  obtain ⟨v2, e2, _⟩ := hr.sub (L := none) (H := some (.int .i64 (k : Int))) (M := none) (lo := 0) (hi := k) .none (.some _ _) (.none _) (Nat.zero_le _) hk
  refine go_some e1 ?_
  refine go_some e2 ?_
  refine go_lit0 CR h u74 (by kernel_rfl) fun s3 w h => ?_
  have r1 : Rd w 11 v1 (cs.drop k).length ((cs.drop k).flatMap cRow) := by
    have := rd_sub CR (ls_rd (h.front (A := LsH cRow 11 33 sv cs) (by repeat (first | exact .here | apply Fnt.there)))) e1 (lo := k) (hi := cs.length) (.some _ _) .none (.none _) hk (Nat.le_refl _)
    rw [List.take_length] at this; exact this
  refine ls_app (l := []) (m := cs.drop k) CR (h.front (by repeat (first | exact .here | apply Fnt.there))) sl74 ss74 r1 (by simp; omega) fun s4 w h => ?_
  have r2 : Rd w 11 v2 (cs.take k).length ((cs.take k).flatMap cRow) := by
    have := rd_sub CR (ls_rd (h.front (A := LsH cRow 11 33 sv cs) (by repeat (first | exact .here | apply Fnt.there)))) e2 (lo := 0) (hi := k) .none (.some _ _) (.none _) (Nat.zero_le _) hk
    rw [List.drop_zero] at this; exact this
  refine ls_app (l := [] ++ cs.drop k) (m := cs.take k) CR (h.front (by repeat (first | exact .here | apply Fnt.there))) sl74 ss74 r2 (by simp; omega) fun s5 w h => ?_
  rw [List.nil_append] at h
  refine bnext_spec (v := ha) (rs := cs) (n := 20) (next := next) (h.front (by repeat (first | exact .here | apply Fnt.there))) ?_
  have hp : (cs.drop k ++ cs.take k).Perm cs := List.perm_append_comm.trans (by rw [List.take_append_drop])
  have hld : loadR next (cs.drop k ++ cs.take k) [] = some cs := loadR_all hp H.ok H.asc H.sg
  have hll := hp.length_eq
  have h3 : Sat w0 (BoardA hb 20 1 [] :: LsH cRow 11 33 s5 (cs.drop k ++ cs.take k) :: BoardA ha 20 next cs :: L) w := h.get (by (repeat (first | exact .done | (refine .pick (by repeat (first | exact .here | apply Fnt.there)) ?_) | refine .skip ?_)))
  refine baload_spec (l := cs.drop k ++ cs.take k) (n := 20) (next := next) (fun x hx => hfr x (hp.mem_iff.1 hx)) (by omega) (fun h => ls_len h) (.of_ls inferInstance) h3 (fun hb => ?_) (fun ds _ _ hlt => by omega) (fun ds hds _ _ w h => ?_)
  · rcases hb with hb | hb | hb
    · omega
    · omega
    · rw [hld] at hb; cases hb
  · rw [hld] at hds
    cases hds
    (repeat (first
 | (simp (disch := omega) only [evA, evB, bAdd_i64, bSub_i64, ptr, Nat.zero_add, Bool.not_true, Bool.not_false, Option.isNone_some, Option.isNone_none, Option.isSome_some, Option.isSome_none, decide_true, decide_false, eq_self, true_and, and_assoc])
 | ((with_reducible apply go_ld1 h))
 | ((with_reducible apply go_ldA h); (rfl))
 | ((with_reducible apply go_ldN h))
 | ((with_reducible apply go_st h); intro _ h)
 | ((with_reducible apply go_stA h); (rfl); (rfl); (first | rfl | simp [OneV.o]); intro _ h)
 | ((with_reducible apply go_stN h); (rfl); (first | rfl | simp [OneV.o]); intro _ h)
 | ((with_reducible apply go_box h); rfl; intro _ _ h)
 | ((with_reducible apply go_rd h); (rfl))
 | ((with_reducible apply go_rdN h); (rfl))
 | ((with_reducible apply go_rlen h); (rfl))
 | ((with_reducible apply go_lenL h))
 | ((with_reducible apply go_ix h); (omega))
 | ((with_reducible apply go_elN h); (case hi => omega))
 | ((with_reducible apply go_fa h); (omega); (omega))
 | ((with_reducible apply go_f1 h); (case hi => omega); (case hx => exact inferInstance))
 | ((with_reducible apply go_rf1 h); (case hi => omega); (case hx => exact inferInstance); (case hv => rfl))
 | ((with_reducible apply go_rel h); (case hi => omega); (case hv => rfl))
))
    unfold F9_4
    exact bl_loop2 hml hrd (fun next cs w h1 h2 h => bl_end (L := L) hK h) fuel 0 next cs w (by unfold fuel; omega) (by omega) (by omega) hn0 (by omega) (h.get (by (repeat (first | exact .done | (refine .pick (by repeat (first | exact .here | apply Fnt.there)) ?_) | refine .skip ?_))))
theorem boardLoads_spec {l ml : List Int} {turn : Int} (hrd : Rd w0 1 s0 l.length (l.flatMap cI)) (hrt : Rd w0 1 s1 ml.length (ml.flatMap cI)) (hl : l.length ≤ 140737488351232) (ht : ml.length ≤ 140737488351232) (h : Sat w0 L w) (hK : ∀ w', Sat w0 L w' → K (.bool true) w') : callP G9 [s0, s1, .int .i64 turn] w K := by
  refine c9 ?_
  unfold F9 F9_1 F9_1b
  refine banew_spec (n := 20) (by omega) (by omega) h fun p w h => ?_
  (repeat (first
 | (simp (disch := omega) only [evA, evB, bAdd_i64, bSub_i64, ptr, Nat.zero_add, Bool.not_true, Bool.not_false, Option.isNone_some, Option.isNone_none, Option.isSome_some, Option.isSome_none, decide_true, decide_false, eq_self, true_and, and_assoc])
 | ((with_reducible apply go_ld1 h))
 | ((with_reducible apply go_ldA h); (rfl))
 | ((with_reducible apply go_ldN h))
 | ((with_reducible apply go_st h); intro _ h)
 | ((with_reducible apply go_stA h); (rfl); (rfl); (first | rfl | simp [OneV.o]); intro _ h)
 | ((with_reducible apply go_stN h); (rfl); (first | rfl | simp [OneV.o]); intro _ h)
 | ((with_reducible apply go_box h); rfl; intro _ _ h)
 | ((with_reducible apply go_rd h); (rfl))
 | ((with_reducible apply go_rdN h); (rfl))
 | ((with_reducible apply go_rlen h); (rfl))
 | ((with_reducible apply go_lenL h))
 | ((with_reducible apply go_ix h); (omega))
 | ((with_reducible apply go_elN h); (case hi => omega))
 | ((with_reducible apply go_fa h); (omega); (omega))
 | ((with_reducible apply go_f1 h); (case hi => omega); (case hx => exact inferInstance))
 | ((with_reducible apply go_rf1 h); (case hi => omega); (case hx => exact inferInstance); (case hv => rfl))
 | ((with_reducible apply go_rel h); (case hi => omega); (case hv => rfl))
))
  refine banew_spec (n := 20) (by omega) (by omega) h fun q w h => ?_
  (repeat (first
 | (simp (disch := omega) only [evA, evB, bAdd_i64, bSub_i64, ptr, Nat.zero_add, Bool.not_true, Bool.not_false, Option.isNone_some, Option.isNone_none, Option.isSome_some, Option.isSome_none, decide_true, decide_false, eq_self, true_and, and_assoc])
 | (refine go_some (bEq_nilp up23 ..) ?_)
 | ((with_reducible apply go_ld1 h))
 | ((with_reducible apply go_ldA h); (rfl))
 | ((with_reducible apply go_ldN h))
 | ((with_reducible apply go_st h); intro _ h)
 | ((with_reducible apply go_stA h); (rfl); (rfl); (first | rfl | simp [OneV.o]); intro _ h)
 | ((with_reducible apply go_stN h); (rfl); (first | rfl | simp [OneV.o]); intro _ h)
 | ((with_reducible apply go_box h); rfl; intro _ _ h)
 | ((with_reducible apply go_rd h); (rfl))
 | ((with_reducible apply go_rdN h); (rfl))
 | ((with_reducible apply go_rlen h); (rfl))
 | ((with_reducible apply go_lenL h))
 | ((with_reducible apply go_ix h); (omega))
 | ((with_reducible apply go_elN h); (case hi => omega))
 | ((with_reducible apply go_fa h); (omega); (omega))
 | ((with_reducible apply go_f1 h); (case hi => omega); (case hx => exact inferInstance))
 | ((with_reducible apply go_rf1 h); (case hi => omega); (case hx => exact inferInstance); (case hv => rfl))
 | ((with_reducible apply go_rel h); (case hi => omega); (case hv => rfl))
))
  refine works20_spec h fun w h => ?_
  (repeat (first
 | (simp (disch := omega) only [evA, evB, bAdd_i64, bSub_i64, ptr, Nat.zero_add, Bool.not_true, Bool.not_false, Option.isNone_some, Option.isNone_none, Option.isSome_some, Option.isSome_none, decide_true, decide_false, eq_self, true_and, and_assoc])
 | ((with_reducible apply go_ld1 h))
 | ((with_reducible apply go_ldA h); (rfl))
 | ((with_reducible apply go_ldN h))
 | ((with_reducible apply go_st h); intro _ h)
 | ((with_reducible apply go_stA h); (rfl); (rfl); (first | rfl | simp [OneV.o]); intro _ h)
 | ((with_reducible apply go_stN h); (rfl); (first | rfl | simp [OneV.o]); intro _ h)
 | ((with_reducible apply go_box h); rfl; intro _ _ h)
 | ((with_reducible apply go_rd h); (rfl))
 | ((with_reducible apply go_rdN h); (rfl))
 | ((with_reducible apply go_rlen h); (rfl))
 | ((with_reducible apply go_lenL h))
 | ((with_reducible apply go_ix h); (omega))
 | ((with_reducible apply go_elN h); (case hi => omega))
 | ((with_reducible apply go_fa h); (omega); (omega))
 | ((with_reducible apply go_f1 h); (case hi => omega); (case hx => exact inferInstance))
 | ((with_reducible apply go_rf1 h); (case hi => omega); (case hx => exact inferInstance); (case hv => rfl))
 | ((with_reducible apply go_rel h); (case hi => omega); (case hv => rfl))
))
  unfold F9_2
  exact bl_loop1 (L := BoardA (ptr q) 20 1 [] :: L) hl hrd (fun next cs w h1 h2 hf h => bl_mid ht hrt h1 h2 hf hK h) fuel 0 1 [] w (by unfold fuel; omega) (by omega) (by omega) (by omega) (by omega) (by intro r hr; simp at hr) h.f1
end
theorem fit_intB {W : World} {B : Nat} {c : List Value} (h : FitL2 W B [.int .i64] c) : ∃ n : Int, c = cI n ∧ True := by
  obtain ⟨n, vs, rfl, _, h2⟩ := fitL2_int h
  rw [fitL2_nil h2]; exact ⟨n, rfl, trivial⟩
theorem lawBoardLoads {W : World} {v : Value} {n : Nat} {cs : List Value} (rd : Rd W 1 v n cs) (hn : n ≤ 140737488351232) (ft : ∀ i, i < n → FitL2 W 140737488351232 [.int .i64] ((cs.drop (i * 1)).take 1))
    {v' : Value} {n' : Nat} {cs' : List Value} (rd' : Rd W 1 v' n' cs') (hn' : n' ≤ 140737488351232) (ft' : ∀ i, i < n' → FitL2 W 140737488351232 [.int .i64] ((cs'.drop (i * 1)).take 1)) (turn : Int) {p : Prop} (_ : p) :
    callP G9 [v, v', .int .i64 turn] W fun v w' => v = .bool true ∧ Sat W [] w' := by
  obtain ⟨l, rfl, rfl, _⟩ := fit_list2 (fun c h => fit_intB h) n cs rd.length ft
  obtain ⟨l', rfl, rfl, _⟩ := fit_list2 (fun c h => fit_intB h) n' cs' rd'.length ft'
  exact boardLoads_spec rd rd' hn hn' (Sat.start W) fun w' h => ⟨rfl, h⟩
end Go.Proofs.Gong
