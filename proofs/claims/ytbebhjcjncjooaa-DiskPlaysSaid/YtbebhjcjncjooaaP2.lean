/- A part of the proofs: what stands below it, told in lemmas. No condition. -/
import Derived.Test.YtbebhjcjncjooaaP1
set_option linter.all false

/- Disk -/
namespace Go.Proofs.Gong
open Go Go.Sx Go.Proofs
set_option linter.all false
set_option maxRecDepth 100000
variable {kn kr : ET} {ke : JT}
def T8 : List (Nat × FnT) := []
def F8 (x0 : Value) (w : World) (K : V1) : Prop :=
bindP (bLt x0 (.int .i64 0)) fun v1 =>
stepM (gd false v1) x0 fun v2 =>
Sx.stepG (gd false v1) (bGt v2 (.int .i64 1099511627776)) fun v3 =>
bindP (pPick v1 (.bool true) v3) fun v4 =>
ifB v4 (
K (.tuple #[(.pointer none), (.int .i64 1)]) w) (
eMakeMap none w fun v6 w5 =>
bindP (fBuild Try.prog 80 [(0, x0), (1, v6)]) fun v7 =>
eBox 80 v7 w5 fun v9 w8 =>
K (.tuple #[v9, (.int .i64 0)]) w8)
def G8 : FnT := fun args w K => on1 (fun x0 => F8 x0 w K) args
theorem c8 {x0 : Value} {w : World} {K : V1} (h : F8 x0 w K) : callP G8 [x0] w K := callP_intro (on1_mk (p := fun x0 => F8 x0 w K) h)
theorem ok8 : OkF Try.prog 8 G8 := by
  refine okF_of (tab_ok (l := T8) trivial) mixed (n := fuel) Try.func8 Try.call8 fun args w K h => ?_
  obtain ⟨x0, rfl, hh⟩ := of_on1 h
  exact fnD_list (c := bodyOf Try.f8) (by kernel_rfl) (by kernel_rfl) (Eq.mp (by kernel_rfl) hh)
def LayK43_ren : Go.Shelf.Ren := ⟨fun | 7 => 43 | 10 => 71 | n => n, fun | 23 => 78 | 26 => 9 | 3 => 86 | 28 => 83 | 0 => 0 | 27 => 82 | 33 => 87 | 4 => 4 | n => n, fun | n => n⟩
theorem LayK43 : Go.Proofs.SlLaysZ.n7 Try.prog LayK43_ren := {
  mixed := by kernel_rfl
  f7 := ⟨Try.f43.name, by decide, Try.func43.trans (congrArg some (by kernel_rfl))⟩
  f10 := ⟨Try.f71.name, by decide, Try.func71.trans (congrArg some (by kernel_rfl))⟩
  t0 := Try.underlying0
  a0 := Try.isAgg0
  z0 := Try.sizeOf0
  v0 := Try.zeroValue0
  t4 := Try.underlying4
  a4 := Try.isAgg4
  z4 := Try.sizeOf4
  v4 := Try.zeroValue4
  t23 := Try.underlying78
  a23 := Try.isAgg78
  z23 := Try.sizeOf78
  v23 := Try.zeroValue78
  t26 := Try.underlying9
  a26 := Try.isAgg9
  z26 := Try.sizeOf9
  v26 := Try.zeroValue9
  t27 := Try.underlying82
  a27 := Try.isAgg82
  z27 := Try.sizeOf82
  v27 := Try.zeroValue82
  t28 := Try.underlying83
  a28 := Try.isAgg83
  z28 := Try.sizeOf83
  v28 := Try.zeroValue83
  t33 := Try.underlying87
  a33 := Try.isAgg87
  z33 := Try.sizeOf87
  v33 := Try.zeroValue87 }
def LayS42_ren : Go.Shelf.Ren := ⟨fun | 6 => 42 | 8 => 69 | 9 => 70 | 11 => 83 | 13 => 85 | 12 => 84 | 23 => 99 | 24 => 100 | 14 => 90 | 15 => 91 | 16 => 92 | 17 => 93 | 18 => 94 | 19 => 95 | 20 => 96 | 21 => 97 | 22 => 98 | 25 => 106 | 26 => 107 | 27 => 108 | 28 => 109 | 29 => 110 | 30 => 111 | 31 => 123 | n => n, fun | 26 => 9 | 28 => 83 | 24 => 33 | 0 => 0 | 3 => 3 | 37 => 121 | 48 => 131 | 50 => 133 | 4 => 4 | 40 => 125 | 39 => 124 | 45 => 60 | 5 => 5 | 9 => 9 | 51 => 139 | 55 => 143 | 57 => 154 | 58 => 155 | 33 => 87 | n => n, fun | n => n⟩
theorem LayS42 : Go.Proofs.SlLaysZ.n6 Try.prog LayS42_ren := {
  mixed := by kernel_rfl
  f6 := ⟨Try.f42.name, by decide, Try.func42.trans (congrArg some (by kernel_rfl))⟩
  f8 := ⟨Try.f69.name, by decide, Try.func69.trans (congrArg some (by kernel_rfl))⟩
  f11 := ⟨Try.f83.name, by decide, Try.func83.trans (congrArg some (by kernel_rfl))⟩
  t0 := Try.underlying0
  a0 := Try.isAgg0
  z0 := Try.sizeOf0
  v0 := Try.zeroValue0
  t24 := Try.underlying33
  a24 := Try.isAgg33
  z24 := Try.sizeOf33
  v24 := Try.zeroValue33
  t26 := Try.underlying9
  a26 := Try.isAgg9
  z26 := Try.sizeOf9
  v26 := Try.zeroValue9
  t28 := Try.underlying83
  a28 := Try.isAgg83
  z28 := Try.sizeOf83
  v28 := Try.zeroValue83
  i26 := by kernel_rfl }
def LayM70_ren : Go.Shelf.Ren := ⟨fun | 6 => 70 | 8 => 85 | 9 => 84 | 19 => 99 | 20 => 100 | 21 => 90 | 22 => 91 | 23 => 92 | 24 => 93 | 25 => 94 | 26 => 95 | 27 => 96 | 28 => 97 | 29 => 98 | 36 => 106 | 31 => 107 | 32 => 108 | 37 => 109 | 38 => 110 | 39 => 111 | 41 => 123 | n => n, fun | 27 => 33 | 29 => 9 | 3 => 3 | 32 => 121 | 26 => 33 | 0 => 0 | 44 => 131 | 46 => 133 | 4 => 4 | 36 => 125 | 35 => 124 | 41 => 60 | 5 => 5 | 9 => 9 | 53 => 139 | 57 => 143 | 63 => 154 | 64 => 155 | n => n, fun | n => n⟩
theorem LayM70 : Go.Proofs.SlLaysM.n6 Try.prog LayM70_ren := {
  mixed := by kernel_rfl
  f6 := ⟨Try.f70.name, by decide, Try.func70.trans (congrArg some (by kernel_rfl))⟩
  f8 := Try.func85.trans (congrArg some (by kernel_rfl))
  f9 := ⟨Try.f84.name, by decide, Try.func84.trans (congrArg some (by kernel_rfl))⟩
  f19 := Try.func99.trans (congrArg some (by kernel_rfl))
  f20 := Try.func100.trans (congrArg some (by kernel_rfl))
  f21 := ⟨Try.f90.name, by decide, Try.func90.trans (congrArg some (by kernel_rfl))⟩
  f22 := ⟨Try.f91.name, by decide, Try.func91.trans (congrArg some (by kernel_rfl))⟩
  f23 := ⟨Try.f92.name, by decide, Try.func92.trans (congrArg some (by kernel_rfl))⟩
  f24 := ⟨Try.f93.name, by decide, Try.func93.trans (congrArg some (by kernel_rfl))⟩
  f25 := ⟨Try.f94.name, by decide, Try.func94.trans (congrArg some (by kernel_rfl))⟩
  f26 := ⟨Try.f95.name, by decide, Try.func95.trans (congrArg some (by kernel_rfl))⟩
  f27 := ⟨Try.f96.name, by decide, Try.func96.trans (congrArg some (by kernel_rfl))⟩
  f28 := ⟨Try.f97.name, by decide, Try.func97.trans (congrArg some (by kernel_rfl))⟩
  f29 := ⟨Try.f98.name, by decide, Try.func98.trans (congrArg some (by kernel_rfl))⟩
  f31 := Try.func107.trans (congrArg some (by kernel_rfl))
  f32 := Try.func108.trans (congrArg some (by kernel_rfl))
  f36 := ⟨Try.f106.name, by decide, Try.func106.trans (congrArg some (by kernel_rfl))⟩
  f37 := ⟨Try.f109.name, by decide, Try.func109.trans (congrArg some (by kernel_rfl))⟩
  f38 := ⟨Try.f110.name, by decide, Try.func110.trans (congrArg some (by kernel_rfl))⟩
  f39 := ⟨Try.f111.name, by decide, Try.func111.trans (congrArg some (by kernel_rfl))⟩
  f41 := ⟨Try.f123.name, by decide, Try.func123.trans (congrArg some (by kernel_rfl))⟩
  t0 := Try.underlying0
  a0 := Try.isAgg0
  z0 := Try.sizeOf0
  v0 := Try.zeroValue0
  t3 := Try.underlying3
  a3 := Try.isAgg3
  z3 := Try.sizeOf3
  v3 := Try.zeroValue3
  t4 := Try.underlying4
  a4 := Try.isAgg4
  z4 := Try.sizeOf4
  v4 := Try.zeroValue4
  t5 := Try.underlying5
  a5 := Try.isAgg5
  z5 := Try.sizeOf5
  v5 := Try.zeroValue5
  t9 := Try.underlying9
  a9 := Try.isAgg9
  z9 := Try.sizeOf9
  v9 := Try.zeroValue9
  t26 := Try.underlying33
  a26 := Try.isAgg33
  z26 := Try.sizeOf33
  v26 := Try.zeroValue33
  t27 := Try.underlying33
  a27 := Try.isAgg33
  z27 := Try.sizeOf33
  v27 := Try.zeroValue33
  t29 := Try.underlying9
  a29 := Try.isAgg9
  z29 := Try.sizeOf9
  v29 := Try.zeroValue9
  t32 := Try.underlying121
  a32 := Try.isAgg121
  z32 := Try.sizeOf121
  v32 := Try.zeroValue121
  t35 := Try.underlying124
  a35 := Try.isAgg124
  z35 := Try.sizeOf124
  v35 := Try.zeroValue124
  t36 := Try.underlying125
  a36 := Try.isAgg125
  z36 := Try.sizeOf125
  v36 := Try.zeroValue125
  t41 := Try.underlying60
  a41 := Try.isAgg60
  z41 := Try.sizeOf60
  v41 := Try.zeroValue60
  t44 := Try.underlying131
  a44 := Try.isAgg131
  z44 := Try.sizeOf131
  v44 := Try.zeroValue131
  t46 := Try.underlying133
  a46 := Try.isAgg133
  z46 := Try.sizeOf133
  v46 := Try.zeroValue133
  t53 := Try.underlying139
  a53 := Try.isAgg139
  z53 := Try.sizeOf139
  v53 := Try.zeroValue139
  t57 := Try.underlying143
  a57 := Try.isAgg143
  z57 := Try.sizeOf143
  v57 := Try.zeroValue143
  t63 := Try.underlying154
  a63 := Try.isAgg154
  z63 := Try.sizeOf154
  v63 := Try.zeroValue154
  t64 := Try.underlying155
  a64 := Try.isAgg155
  z64 := Try.sizeOf155
  v64 := Try.zeroValue155 }
def G42 : FnT := gSortedS 71 9
theorem ok42 : OkF Try.prog 42 G42 := okSortedS (f := 42) (g := 71) (ty := 9) LayK43 LayS42 LayM70 rfl rfl rfl rfl Try.call42 Try.call70 Try.call71
def T43 : List (Nat × FnT) := []
def F43 (x0 : Value) (w : World) (K : V1) : Prop :=
eBox 78 x0 w fun v2 w1 =>
bindP (some (.func (.func 71) #[] #[v2])) fun v3 =>
K v3 w1
def G43 : FnT := fun args w K => on1 (fun x0 => F43 x0 w K) args
theorem c43 {x0 : Value} {w : World} {K : V1} (h : F43 x0 w K) : callP G43 [x0] w K := callP_intro (on1_mk (p := fun x0 => F43 x0 w K) h)
theorem ok43 : OkF Try.prog 43 G43 := by
  refine okF_of (tab_ok (l := T43) trivial) mixed (n := fuel) Try.func43 Try.call43 fun args w K h => ?_
  obtain ⟨x0, rfl, hh⟩ := of_on1 h
  exact fnD_list (c := bodyOf Try.f43) (by kernel_rfl) (by kernel_rfl) (Eq.mp (by kernel_rfl) hh)
def T15 : List (Nat × FnT) := [(42, G42), (43, G43)]
def F15 (x0 : Value) (w : World) (K : V1) : Prop :=
bindP (pNil x0) fun v1 =>
bindP (pFieldAddr 1 v1) fun v2 =>
bindP (ld1 v2 w) fun v3 =>
callP G43 [v3] w fun v5 w4 =>
callP G42 [v5] w4 fun v7 w6 =>
K v7 w6
def G15 : FnT := fun args w K => on1 (fun x0 => F15 x0 w K) args
theorem c15 {x0 : Value} {w : World} {K : V1} (h : F15 x0 w K) : callP G15 [x0] w K := callP_intro (on1_mk (p := fun x0 => F15 x0 w K) h)
theorem ok15 : OkF Try.prog 15 G15 := by
  refine okF_of (tab_ok (l := T15) ⟨ok42, ok43, trivial⟩) mixed (n := fuel) Try.func15 Try.call15 fun args w K h => ?_
  obtain ⟨x0, rfl, hh⟩ := of_on1 h
  exact fnD_list (c := bodyOf Try.f15) (by kernel_rfl) (by kernel_rfl) (Eq.mp (by kernel_rfl) hh)
def T44 : List (Nat × FnT) := []
def F44_2b (s0 : Value) (w : World) (K : V1) : Prop :=
K s0 w
def F44_2 (s0 : Value) (w : World) (K : V1) : Prop := F44_2b s0 w K
theorem ok44_2 {K : V1}
    (hn : HN (fun e w => K (e 4) w) kn) (hr : HR Try.prog [.tmp 4] K kr) (he : HE noE ke) :
    ∀ e w, F44_2 (e 0) w K → denL Try.prog (tabOf T44) 16 fuel ((flat (bodyOf Try.f44)).drop 4) e w kn kr ke := by
  intro e w h
  unfold F44_2 at h
  have e1 : ∀ (_ : Unit), F44_2b (e 0) w K = denL Try.prog (tabOf T44) 16 fuel ((flat (bodyOf Try.f44)).drop 4) e w (fun e w => K (e 4) w) (endD Try.prog [.tmp 4] K) noE := by intro _; kernel_rfl
  exact seg_end (Eq.mp (e1 ()) h) hn hr he
def F44_1b (s0 s1 : Value) (w : World) (_K : V1) (Y0 : V1) : Prop :=
bindP (bAdd s1 (.int .i64 1)) fun v1 =>
bindP (bRem s0 v1) fun v2 =>
bindP (bLt v2 (.int .i64 0)) fun v3 =>
ifB v3 (
bindP (bAdd s1 (.int .i64 1)) fun v4 =>
bindP (bAdd v2 v4) fun v5 =>
Y0 v5 w) (
Y0 v2 w)
def F44_1 (s0 s1 : Value) (w : World) (K : V1) : Prop := F44_1b s0 s1 w K (fun a0 w => F44_2 a0 w K)
theorem ok44_1 {K : V1}
    (hn : HN (fun e w => K (e 4) w) kn) (hr : HR Try.prog [.tmp 4] K kr) (he : HE noE ke) :
    ∀ e w, F44_1 (e 0) (e 1) w K → denL Try.prog (tabOf T44) 16 fuel ((flat (bodyOf Try.f44)).drop 0) e w kn kr ke := by
  intro e w h
  unfold F44_1 at h
  have e1 : ∀ (Y0 : V1), F44_1b (e 0) (e 1) w K Y0 = denL Try.prog (tabOf T44) 16 fuel (((flat (bodyOf Try.f44)).drop 0).take 4) e w (fun e w => Y0 (e 0) w) (endD Try.prog [.tmp 4] K) noE := by intro Y0; kernel_rfl
  exact seg 4 (Eq.mp (e1 (fun a0 w => F44_2 a0 w K)) h) (fun e w h => ok44_2 hn hr he e w h) hr he
def F44 (x0 x1 : Value) (w : World) (K : V1) : Prop := F44_1 x0 x1 w K
def G44 : FnT := fun args w K => on2 (fun x0 x1 => F44 x0 x1 w K) args
theorem c44 {x0 x1 : Value} {w : World} {K : V1} (h : F44 x0 x1 w K) : callP G44 [x0, x1] w K := callP_intro (on2_mk (p := fun x0 x1 => F44 x0 x1 w K) h)
theorem ok44 : OkF Try.prog 44 G44 := by
  refine okF_of (tab_ok (l := T44) trivial) mixed (n := fuel) Try.func44 Try.call44 fun args w K h => ?_
  obtain ⟨x0, x1, rfl, hh⟩ := of_on2 h
  unfold F44 at hh
  exact fnD_list (c := bodyOf Try.f44) (by kernel_rfl) (by kernel_rfl) (ok44_1 (fun _ _ h => h) (fun _ _ h => h) (fun _ _ _ h => h) (initE [x0, x1]) w hh)
def T17 : List (Nat × FnT) := [(15, G15), (44, G44)]
def F17_3b (s0 : Value) (w : World) (K : V1) : Prop :=
bindP (pNil s0) fun v1 =>
bindP (pFieldAddr 2 v1) fun v2 =>
bindW (st 1 v2 (.bool false) w) fun w3 =>
bindP (pNil s0) fun v5 =>
bindP (pFieldAddr 3 v5) fun v6 =>
bindW (st 1 v6 (.int .i64 0) w3) fun w7 =>
K (.tuple #[]) w7
def F17_3 (s0 : Value) (w : World) (K : V1) : Prop := F17_3b s0 w K
theorem ok17_3 {K : V1}
    (hn : HN (fun e w => K (.tuple #[]) w) kn) (hr : HR Try.prog [] K kr) (he : HE noE ke) :
    ∀ e w, F17_3 (e 0) w K → denL Try.prog (tabOf T17) 59 fuel ((flat (bodyOf Try.f17)).drop 2) e w kn kr ke := by
  intro e w h
  unfold F17_3 at h
  have e1 : ∀ (_ : Unit), F17_3b (e 0) w K = denL Try.prog (tabOf T17) 59 fuel ((flat (bodyOf Try.f17)).drop 2) e w (fun e w => K (.tuple #[]) w) (endD Try.prog [] K) noE := by intro _; kernel_rfl
  exact seg_end (Eq.mp (e1 ()) h) hn hr he
def F17_6b (s0 s1 s9 s10 s11 : Value) (w : World) (_K : V1) (R3 : V5) : Prop :=
bindP (bAdd s11 (.int .i64 1)) fun v9 =>
R3 s0 s1 s9 s10 v9 w
def F17_6 (s0 s1 s9 s10 s11 : Value) (w : World) (K : V1) (R3 : V5) : Prop := F17_6b s0 s1 s9 s10 s11 w K R3
theorem ok17_6 (R3 : V5) {K : V1}
    (hn : HN (fun e w => R3 (e 0) (e 1) (e 9) (e 10) (e 11) w) kn) (hr : HR Try.prog [] K kr) (he : HE (blkK 0 (fun e w => F17_3 (e 0) w K) noE) ke) :
    ∀ e w, F17_6 (e 0) (e 1) (e 9) (e 10) (e 11) w K R3 → denL Try.prog (tabOf T17) 59 fuel ((flat (loopB (blkB (nthC (flat (bodyOf Try.f17)) 1)))).drop 3) e w kn kr ke := by
  intro e w h
  unfold F17_6 at h
  have e1 : ∀ (_ : Unit), F17_6b (e 0) (e 1) (e 9) (e 10) (e 11) w K R3 = denL Try.prog (tabOf T17) 59 fuel ((flat (loopB (blkB (nthC (flat (bodyOf Try.f17)) 1)))).drop 3) e w (fun e w => R3 (e 0) (e 1) (e 9) (e 10) (e 11) w) (endD Try.prog [] K) (blkK 0 (fun e w => F17_3 (e 0) w K) noE) := by intro _; kernel_rfl
  exact seg_end (Eq.mp (e1 ()) h) hn hr he
def F17_8b (s0 s1 s5 s6 s7 s9 s10 s11 : Value) (w : World) (_K : V1) (R3 : V5) (Y0 : V5) : Prop :=
bindP (pNil s0) fun v10 =>
bindP (pFieldAddr 1 v10) fun v11 =>
bindP (ld1 v11 w.drew) fun v12 =>
bindP (pFieldAddr 0 s6) fun v13 =>
bindP (ld1 v13 w.drew) fun v14 =>
bindP (pSliceS v14 none (some s7)) fun v15 =>
bindP (fBuild Try.prog 86 [(0, v15), (1, s7)]) fun v16 =>
eMapSet Try.prog 78 v12 s5 v16 w.drew fun _ w17 =>
Y0 s0 s1 s9 s10 s11 w17
def F17_8 (s0 s1 s5 s6 s7 s9 s10 s11 : Value) (w : World) (K : V1) (R3 : V5) : Prop := F17_8b s0 s1 s5 s6 s7 s9 s10 s11 w K R3 (fun a0 a1 a9 a10 a11 w => F17_6 a0 a1 a9 a10 a11 w K R3)
theorem ok17_8 (R3 : V5) {K : V1}
    (hn : HN (fun e w => F17_6 (e 0) (e 1) (e 9) (e 10) (e 11) w K R3) kn) (hr : HR Try.prog [] K kr) (he : HE (blkK 1 (fun e w => F17_6 (e 0) (e 1) (e 9) (e 10) (e 11) w K R3) (blkK 0 (fun e w => F17_3 (e 0) w K) noE)) ke) :
    ∀ e w, F17_8 (e 0) (e 1) (e 5) (e 6) (e 7) (e 9) (e 10) (e 11) w K R3 → denL Try.prog (tabOf T17) 59 fuel ((flat (blkB (nthC (flat (loopB (blkB (nthC (flat (bodyOf Try.f17)) 1)))) 2))).drop 5) e w kn kr ke := by
  intro e w h
  unfold F17_8 at h
  have e1 : ∀ (Y0 : V5), F17_8b (e 0) (e 1) (e 5) (e 6) (e 7) (e 9) (e 10) (e 11) w K R3 Y0 = denL Try.prog (tabOf T17) 59 fuel ((flat (blkB (nthC (flat (loopB (blkB (nthC (flat (bodyOf Try.f17)) 1)))) 2))).drop 5) e w (fun e w => Y0 (e 0) (e 1) (e 9) (e 10) (e 11) w) (endD Try.prog [] K) (blkK 1 (fun e w => Y0 (e 0) (e 1) (e 9) (e 10) (e 11) w) (blkK 0 (fun e w => F17_3 (e 0) w K) noE)) := by intro Y0; kernel_rfl
  exact seg_end (Eq.mp (e1 (fun a0 a1 a9 a10 a11 w => F17_6 a0 a1 a9 a10 a11 w K R3)) h) hn hr he
def F17_7b (s0 s1 s9 s10 s11 : Value) (w : World) (_K : V1) (R3 : V5) (Y0 : V8) : Prop :=
bindP (pIndexL 1 s9 s11) fun v19 =>
bindP (ld1 v19 w) fun v20 =>
bindP (pNil s0) fun v21 =>
bindP (pFieldAddr 1 v21) fun v22 =>
bindP (ld1 v22 w) fun v23 =>
bindP (fLook Try.prog 78 v23 v20 false w) fun v24 =>
eAlloc Try.prog 86 w fun v26 w25 =>
bindW (st 2 v26 v24 w25) fun w27 =>
bindP (pFieldAddr 1 v26) fun v29 =>
bindP (ld1 v29 w27) fun v30 =>
bindP (lenL s1) fun v31 =>
bindP (bLt s11 v31) fun v32 =>
ifB v32 (
bindP (pIndexL 1 s1 s11) fun v33 =>
bindP (ld1 v33 w27.drew) fun v34 =>
bindP (pFieldAddr 0 v26) fun v35 =>
bindP (ld1 v35 w27.drew) fun v36 =>
bindP (lenS v36) fun v37 =>
bindP (pFieldAddr 1 v26) fun v38 =>
bindP (ld1 v38 w27.drew) fun v39 =>
bindP (bSub v37 v39) fun v40 =>
callP G44 [v34, v40] w27.drew fun v42 w41 =>
bindP (bAdd v30 v42) fun v43 =>
Y0 s0 s1 v20 v26 v43 s9 s10 s11 w41) (
Y0 s0 s1 v20 v26 v30 s9 s10 s11 w27)
def F17_7 (s0 s1 s9 s10 s11 : Value) (w : World) (K : V1) (R3 : V5) : Prop := F17_7b s0 s1 s9 s10 s11 w K R3 (fun a0 a1 a5 a6 a7 a9 a10 a11 w => F17_8 a0 a1 a5 a6 a7 a9 a10 a11 w K R3)
theorem ok17_7 (R3 : V5) {K : V1}
    (hn : HN (fun e w => F17_6 (e 0) (e 1) (e 9) (e 10) (e 11) w K R3) kn) (hr : HR Try.prog [] K kr) (he : HE (blkK 1 (fun e w => F17_6 (e 0) (e 1) (e 9) (e 10) (e 11) w K R3) (blkK 0 (fun e w => F17_3 (e 0) w K) noE)) ke) :
    ∀ e w, F17_7 (e 0) (e 1) (e 9) (e 10) (e 11) w K R3 → denL Try.prog (tabOf T17) 59 fuel ((flat (blkB (nthC (flat (loopB (blkB (nthC (flat (bodyOf Try.f17)) 1)))) 2))).drop 0) e w kn kr ke := by
  intro e w h
  unfold F17_7 at h
  have e1 : ∀ (Y0 : V8), F17_7b (e 0) (e 1) (e 9) (e 10) (e 11) w K R3 Y0 = denL Try.prog (tabOf T17) 59 fuel (((flat (blkB (nthC (flat (loopB (blkB (nthC (flat (bodyOf Try.f17)) 1)))) 2))).drop 0).take 5) e w (fun e w => Y0 (e 0) (e 1) (e 5) (e 6) (e 7) (e 9) (e 10) (e 11) w) (endD Try.prog [] K) (blkK 1 (fun e w => F17_6 (e 0) (e 1) (e 9) (e 10) (e 11) w K R3) (blkK 0 (fun e w => F17_3 (e 0) w K) noE)) := by intro Y0; kernel_rfl
  exact seg 5 (Eq.mp (e1 (fun a0 a1 a5 a6 a7 a9 a10 a11 w => F17_8 a0 a1 a5 a6 a7 a9 a10 a11 w K R3)) h) (fun e w h => ok17_8 R3 hn hr he e w h) hr he
def F17_5 (s0 s1 s9 s10 s11 : Value) (w : World) (K : V1) (R3 : V5) : Prop := F17_7 s0 s1 s9 s10 s11 w K R3
theorem ok17_5 (R3 : V5) {K : V1}
    (hn : HN (fun e w => R3 (e 0) (e 1) (e 9) (e 10) (e 11) w) kn) (hr : HR Try.prog [] K kr) (he : HE (blkK 0 (fun e w => F17_3 (e 0) w K) noE) ke) :
    ∀ e w, F17_5 (e 0) (e 1) (e 9) (e 10) (e 11) w K R3 → denL Try.prog (tabOf T17) 59 fuel ((flat (loopB (blkB (nthC (flat (bodyOf Try.f17)) 1)))).drop 2) e w kn kr ke := by
  intro e w h
  unfold F17_5 at h
  refine seg_block (id := 1) (body := (blkB (nthC (flat (loopB (blkB (nthC (flat (bodyOf Try.f17)) 1)))) 2))) (l2 := (flat (loopB (blkB (nthC (flat (bodyOf Try.f17)) 1)))).drop 3) (by kernel_rfl) ?_
  exact ok17_7 R3 (fun e w h => ok17_6 R3 hn hr he e w h) hr (blkK_mono (fun e w h => ok17_6 R3 hn hr he e w h) he) e w h
def F17_4b (s0 s1 s9 s10 s11 : Value) (w : World) (_K : V1) (R3 : V5) (Y0 : V5) (Y1 : V1) : Prop :=
bindP (bLt s11 s10) fun v44 =>
ifB v44 (
Y0 s0 s1 s9 s10 s11 w) (
Y1 s0 w)
def F17_4 (s0 s1 s9 s10 s11 : Value) (w : World) (K : V1) (R3 : V5) : Prop := F17_4b s0 s1 s9 s10 s11 w K R3 (fun a0 a1 a9 a10 a11 w => F17_5 a0 a1 a9 a10 a11 w K R3) (fun a0 w => F17_3 a0 w K)
theorem ok17_4 (R3 : V5) {K : V1}
    (hn : HN (fun e w => R3 (e 0) (e 1) (e 9) (e 10) (e 11) w) kn) (hr : HR Try.prog [] K kr) (he : HE (blkK 0 (fun e w => F17_3 (e 0) w K) noE) ke) :
    ∀ e w, F17_4 (e 0) (e 1) (e 9) (e 10) (e 11) w K R3 → denL Try.prog (tabOf T17) 59 fuel ((flat (loopB (blkB (nthC (flat (bodyOf Try.f17)) 1)))).drop 0) e w kn kr ke := by
  intro e w h
  unfold F17_4 at h
  have e1 : ∀ (Y0 : V5) (Y1 : V1), F17_4b (e 0) (e 1) (e 9) (e 10) (e 11) w K R3 Y0 Y1 = denL Try.prog (tabOf T17) 59 fuel (((flat (loopB (blkB (nthC (flat (bodyOf Try.f17)) 1)))).drop 0).take 2) e w (fun e w => Y0 (e 0) (e 1) (e 9) (e 10) (e 11) w) (endD Try.prog [] K) (blkK 0 (fun e w => Y1 (e 0) w) noE) := by intro Y0 Y1; kernel_rfl
  exact seg 2 (Eq.mp (e1 (fun a0 a1 a9 a10 a11 w => F17_5 a0 a1 a9 a10 a11 w K R3) (fun a0 w => F17_3 a0 w K)) h) (fun e w h => ok17_5 R3 hn hr he e w h) hr he
def F17_2L : Nat → Value → Value → Value → Value → Value → World → (V1) → Prop
  | 0, _, _, _, _, _, _, _ => False
  | n + 1, s0, s1, s9, s10, s11, w, K => F17_4 s0 s1 s9 s10 s11 w K (fun a0 a1 a9 a10 a11 w => F17_2L n a0 a1 a9 a10 a11 w K)
def F17_2 (s0 s1 s9 s10 s11 : Value) (w : World) (K : V1) : Prop := F17_2L fuel s0 s1 s9 s10 s11 w K
theorem ok17_2 {K : V1}
    (hn : HN (fun e w => K (.tuple #[]) w) kn) (hr : HR Try.prog [] K kr) (he : HE noE ke) :
    ∀ e w, F17_2 (e 0) (e 1) (e 9) (e 10) (e 11) w K → denL Try.prog (tabOf T17) 59 fuel ((flat (bodyOf Try.f17)).drop 1) e w kn kr ke := by
  intro e w h
  unfold F17_2 at h
  refine seg_loop (id := 0) (body := (loopB (blkB (nthC (flat (bodyOf Try.f17)) 1)))) (l2 := (flat (bodyOf Try.f17)).drop 2) (by kernel_rfl) ?_
  refine loop_ok (FL := fun m e w => F17_2L m (e 0) (e 1) (e 9) (e 10) (e 11) w K) (fr := endD Try.prog [] K) (fe := (blkK 0 (fun e w => F17_3 (e 0) w K) noE)) (fun _ _ h => h) ?_ hr (blkK_mono (fun e w h => ok17_3 hn hr he e w h) he) fuel e w h
  intro m e w h
  have h : F17_2L (m + 1) (e 0) (e 1) (e 9) (e 10) (e 11) w K := h
  rw [F17_2L] at h
  exact ok17_4 (fun a0 a1 a9 a10 a11 w => F17_2L m a0 a1 a9 a10 a11 w K) (fun _ _ h => h) (fun _ _ h => h) (fun _ _ _ h => h) e w h
def F17_1b (s0 s1 : Value) (w : World) (_K : V1) (Y0 : V5) : Prop :=
callP G15 [s0] w fun v46 w45 =>
bindP (lenL v46) fun v47 =>
Y0 s0 s1 v46 v47 (.int .i64 0) w45
def F17_1 (s0 s1 : Value) (w : World) (K : V1) : Prop := F17_1b s0 s1 w K (fun a0 a1 a9 a10 a11 w => F17_2 a0 a1 a9 a10 a11 w K)
theorem ok17_1 {K : V1}
    (hn : HN (fun e w => K (.tuple #[]) w) kn) (hr : HR Try.prog [] K kr) (he : HE noE ke) :
    ∀ e w, F17_1 (e 0) (e 1) w K → denL Try.prog (tabOf T17) 59 fuel ((flat (bodyOf Try.f17)).drop 0) e w kn kr ke := by
  intro e w h
  unfold F17_1 at h
  have e1 : ∀ (Y0 : V5), F17_1b (e 0) (e 1) w K Y0 = denL Try.prog (tabOf T17) 59 fuel (((flat (bodyOf Try.f17)).drop 0).take 1) e w (fun e w => Y0 (e 0) (e 1) (e 9) (e 10) (e 11) w) (endD Try.prog [] K) noE := by intro Y0; kernel_rfl
  exact seg 1 (Eq.mp (e1 (fun a0 a1 a9 a10 a11 w => F17_2 a0 a1 a9 a10 a11 w K)) h) (fun e w h => ok17_2 hn hr he e w h) hr he
def F17 (x0 x1 : Value) (w : World) (K : V1) : Prop := F17_1 x0 x1 w K
def G17 : FnT := fun args w K => on2 (fun x0 x1 => F17 x0 x1 w K) args
theorem c17 {x0 x1 : Value} {w : World} {K : V1} (h : F17 x0 x1 w K) : callP G17 [x0, x1] w K := callP_intro (on2_mk (p := fun x0 x1 => F17 x0 x1 w K) h)
theorem ok17 : OkF Try.prog 17 G17 := by
  refine okF_of (tab_ok (l := T17) ⟨ok15, ok44, trivial⟩) mixed (n := fuel) Try.func17 Try.call17 fun args w K h => ?_
  obtain ⟨x0, x1, rfl, hh⟩ := of_on2 h
  unfold F17 at hh
  exact fnD_list (c := bodyOf Try.f17) (by kernel_rfl) (by kernel_rfl) (ok17_1 (fun _ _ h => h) (fun _ _ h => h) (fun _ _ _ h => h) (initE [x0, x1]) w hh)
def T45 : List (Nat × FnT) := []
def F45 (x0 : Value) (w : World) (K : V1) : Prop :=
bindP (bNe Try.prog 9 (.tmp 3) (.const (.string ⟨#[]⟩)) x0 (.string ⟨#[]⟩)) fun v1 =>
stepM (gd true v1) x0 fun v2 =>
Sx.stepG (gd true v1) (lenS v2) fun v3 =>
Sx.stepG (gd true v1) (bLe v3 (.int .i64 64)) fun v4 =>
bindP (pPick v1 v4 (.bool false)) fun v5 =>
K v5 w
def G45 : FnT := fun args w K => on1 (fun x0 => F45 x0 w K) args
theorem c45 {x0 : Value} {w : World} {K : V1} (h : F45 x0 w K) : callP G45 [x0] w K := callP_intro (on1_mk (p := fun x0 => F45 x0 w K) h)
theorem ok45 : OkF Try.prog 45 G45 := by
  refine okF_of (tab_ok (l := T45) trivial) mixed (n := fuel) Try.func45 Try.call45 fun args w K h => ?_
  obtain ⟨x0, rfl, hh⟩ := of_on1 h
  exact fnD_list (c := bodyOf Try.f45) (by kernel_rfl) (by kernel_rfl) (Eq.mp (by kernel_rfl) hh)
def T13 : List (Nat × FnT) := []
def F13 (x0 : Value) (w : World) (K : V1) : Prop :=
bindP (pNil x0) fun v1 =>
bindP (pFieldAddr 2 v1) fun v2 =>
bindP (ld1 v2 w) fun v3 =>
stepM (gd true v3) x0 fun v4 =>
Sx.stepG (gd true v3) (pNil v4) fun v5 =>
Sx.stepG (gd true v3) (pFieldAddr 3 v5) fun v6 =>
Sx.stepG (gd true v3) (ld1 v6 w) fun v7 =>
Sx.stepG (gd true v3) (bEq Try.prog 3 (.tmp 11) (.const (.int .i64 0)) v7 (.int .i64 0)) fun v8 =>
bindP (pPick v3 v8 (.bool false)) fun v9 =>
K v9 w
def G13 : FnT := fun args w K => on1 (fun x0 => F13 x0 w K) args
theorem c13 {x0 : Value} {w : World} {K : V1} (h : F13 x0 w K) : callP G13 [x0] w K := callP_intro (on1_mk (p := fun x0 => F13 x0 w K) h)
theorem ok13 : OkF Try.prog 13 G13 := by
  refine okF_of (tab_ok (l := T13) trivial) mixed (n := fuel) Try.func13 Try.call13 fun args w K h => ?_
  obtain ⟨x0, rfl, hh⟩ := of_on1 h
  exact fnD_list (c := bodyOf Try.f13) (by kernel_rfl) (by kernel_rfl) (Eq.mp (by kernel_rfl) hh)
def T68 : List (Nat × FnT) := [(13, G13)]
def F68_2b (w : World) (K : V1) : Prop :=
K (.bool true) w
def F68_2 (w : World) (K : V1) : Prop := F68_2b w K
theorem ok68_2 {K : V1}
    (hn : HN (fun e w => K (e 2) w) kn) (hr : HR Try.prog [.tmp 2] K kr) (he : HE noE ke) :
    ∀ e w, F68_2 w K → denL Try.prog (tabOf T68) 16 fuel ((flat (bodyOf Try.f68)).drop 5) e w kn kr ke := by
  intro e w h
  unfold F68_2 at h
  have e1 : ∀ (_ : Unit), F68_2b w K = denL Try.prog (tabOf T68) 16 fuel ((flat (bodyOf Try.f68)).drop 5) e w (fun e w => K (e 2) w) (endD Try.prog [.tmp 2] K) noE := by intro _; kernel_rfl
  exact seg_end (Eq.mp (e1 ()) h) hn hr he
def F68_1b (s0 : Value) (w : World) (K : V1) (Y0 : V0) : Prop :=
callP G13 [s0] w fun v2 w1 =>
ifB v2 (
K (.bool false) w1) (
bindP (pNil s0) fun v3 =>
bindP (pFieldAddr 2 v3) fun v4 =>
bindP (ld1 v4 w1) fun v5 =>
ifB v5 (
bindP (pNil s0) fun v6 =>
bindP (pFieldAddr 3 v6) fun v7 =>
bindP (ld1 v7 w1) fun v8 =>
bindP (bSub v8 (.int .i64 1)) fun v9 =>
bindP (pNil s0) fun v10 =>
bindP (pFieldAddr 3 v10) fun v11 =>
bindW (st 1 v11 v9 w1) fun w12 =>
Y0 w12) (
Y0 w1))
def F68_1 (s0 : Value) (w : World) (K : V1) : Prop := F68_1b s0 w K (fun w => F68_2 w K)
theorem ok68_1 {K : V1}
    (hn : HN (fun e w => K (e 2) w) kn) (hr : HR Try.prog [.tmp 2] K kr) (he : HE noE ke) :
    ∀ e w, F68_1 (e 0) w K → denL Try.prog (tabOf T68) 16 fuel ((flat (bodyOf Try.f68)).drop 0) e w kn kr ke := by
  intro e w h
  unfold F68_1 at h
  have e1 : ∀ (Y0 : V0), F68_1b (e 0) w K Y0 = denL Try.prog (tabOf T68) 16 fuel (((flat (bodyOf Try.f68)).drop 0).take 5) e w (fun e w => Y0 w) (endD Try.prog [.tmp 2] K) noE := by intro Y0; kernel_rfl
  exact seg 5 (Eq.mp (e1 (fun w => F68_2 w K)) h) (fun e w h => ok68_2 hn hr he e w h) hr he
def F68 (x0 : Value) (w : World) (K : V1) : Prop := F68_1 x0 w K
def G68 : FnT := fun args w K => on1 (fun x0 => F68 x0 w K) args
theorem c68 {x0 : Value} {w : World} {K : V1} (h : F68 x0 w K) : callP G68 [x0] w K := callP_intro (on1_mk (p := fun x0 => F68 x0 w K) h)
theorem ok68 : OkF Try.prog 68 G68 := by
  refine okF_of (tab_ok (l := T68) ⟨ok13, trivial⟩) mixed (n := fuel) Try.func68 Try.call68 fun args w K h => ?_
  obtain ⟨x0, rfl, hh⟩ := of_on1 h
  unfold F68 at hh
  exact fnD_list (c := bodyOf Try.f68) (by kernel_rfl) (by kernel_rfl) (ok68_1 (fun _ _ h => h) (fun _ _ h => h) (fun _ _ _ h => h) (initE [x0]) w hh)
def T46 : List (Nat × FnT) := [(68, G68)]
def F46 (x0 x1 x2 : Value) (w : World) (K : V1) : Prop :=
eBox 86 x2 w fun v2 w1 =>
callP G68 [x0] w1 fun v4 w3 =>
bindP (uNot v4) fun v5 =>
ifB v5 (
K (.int .i64 251) w3) (
bindP (pNil x0) fun v6 =>
bindP (pFieldAddr 1 v6) fun v7 =>
bindP (ld1 v7 w3.drew) fun v8 =>
bindP (ldN 2 v2 w3.drew) fun v9 =>
eMapSet Try.prog 78 v8 x1 v9 w3.drew fun _ w10 =>
K (.int .i64 0) w10)
def G46 : FnT := fun args w K => on3 (fun x0 x1 x2 => F46 x0 x1 x2 w K) args
theorem c46 {x0 x1 x2 : Value} {w : World} {K : V1} (h : F46 x0 x1 x2 w K) : callP G46 [x0, x1, x2] w K := callP_intro (on3_mk (p := fun x0 x1 x2 => F46 x0 x1 x2 w K) h)
theorem ok46 : OkF Try.prog 46 G46 := by
  refine okF_of (tab_ok (l := T46) ⟨ok68, trivial⟩) mixed (n := fuel) Try.func46 Try.call46 fun args w K h => ?_
  obtain ⟨x0, x1, x2, rfl, hh⟩ := of_on3 h
  exact fnD_list (c := bodyOf Try.f46) (by kernel_rfl) (by kernel_rfl) (Eq.mp (by kernel_rfl) hh)
def T18 : List (Nat × FnT) := [(45, G45), (46, G46)]
def F18 (x0 x1 : Value) (w : World) (K : V1) : Prop :=
callP G45 [x1] w fun v2 w1 =>
bindP (uNot v2) fun v3 =>
ifB v3 (
K (.int .i64 1) w1) (
bindP (pNil x0) fun v4 =>
bindP (pFieldAddr 1 v4) fun v5 =>
bindP (ld1 v5 w1) fun v6 =>
bindP (fLook Try.prog 78 v6 x1 true w1) fun v7 =>
bindP (pTuple v7 0) fun v8 =>
bindP (pTuple v7 1) fun v9 =>
eAlloc Try.prog 86 w1 fun v11 w10 =>
bindW (st 2 v11 v8 w10) fun w12 =>
ifB v9 (
K (.int .i64 6) w12) (
bindP (fBuild Try.prog 86 []) fun v14 =>
callP G46 [x0, x1, v14] w12 fun v16 w15 =>
K v16 w15))
def G18 : FnT := fun args w K => on2 (fun x0 x1 => F18 x0 x1 w K) args
theorem c18 {x0 x1 : Value} {w : World} {K : V1} (h : F18 x0 x1 w K) : callP G18 [x0, x1] w K := callP_intro (on2_mk (p := fun x0 x1 => F18 x0 x1 w K) h)
theorem ok18 : OkF Try.prog 18 G18 := by
  refine okF_of (tab_ok (l := T18) ⟨ok45, ok46, trivial⟩) mixed (n := fuel) Try.func18 Try.call18 fun args w K h => ?_
  obtain ⟨x0, x1, rfl, hh⟩ := of_on2 h
  exact fnD_list (c := bodyOf Try.f18) (by kernel_rfl) (by kernel_rfl) (Eq.mp (by kernel_rfl) hh)
def T16 : List (Nat × FnT) := []
def F16_3b (s3 : Value) (w : World) (K : V1) : Prop :=
K s3 w
def F16_3 (s3 : Value) (w : World) (K : V1) : Prop := F16_3b s3 w K
theorem ok16_3 {K : V1}
    (hn : HN (fun e w => K (e 2) w) kn) (hr : HR Try.prog [.tmp 2] K kr) (he : HE noE ke) :
    ∀ e w, F16_3 (e 3) w K → denL Try.prog (tabOf T16) 21 fuel ((flat (bodyOf Try.f16)).drop 4) e w kn kr ke := by
  intro e w h
  unfold F16_3 at h
  have e1 : ∀ (_ : Unit), F16_3b (e 3) w K = denL Try.prog (tabOf T16) 21 fuel ((flat (bodyOf Try.f16)).drop 4) e w (fun e w => K (e 2) w) (endD Try.prog [.tmp 2] K) noE := by intro _; kernel_rfl
  exact seg_end (Eq.mp (e1 ()) h) hn hr he
def F16_2b (s3 s10 : Value) (w : World) (_K : V1) (Y0 : V2) (Y1 : V1) : Prop :=
eNext s10 false w fun v2 w1 =>
bindP (pTuple v2 0) fun v3 =>
ifB v3 (
bindP (fEntry s10 w1) fun v4 =>
bindP (pTuple v4 1) fun v5 =>
eAlloc Try.prog 86 w1 fun v7 w6 =>
bindW (st 2 v7 v5 w6) fun w8 =>
bindP (pFieldAddr 0 v7) fun v10 =>
bindP (ld1 v10 w8) fun v11 =>
bindP (lenS v11) fun v12 =>
bindP (bAdd s3 v12) fun v13 =>
Y0 v13 s10 w8) (
Y1 s3 w1)
def F16_2L : Nat → Value → Value → World → (V1) → Prop
  | 0, _, _, _, _ => False
  | n + 1, s3, s10, w, K => F16_2b s3 s10 w K (fun a3 a10 w => F16_2L n a3 a10 w K) (fun a3 w => F16_3 a3 w K)
def F16_2 (s3 s10 : Value) (w : World) (K : V1) : Prop := F16_2L fuel s3 s10 w K
theorem ok16_2 {K : V1}
    (hn : HN (fun e w => K (e 2) w) kn) (hr : HR Try.prog [.tmp 2] K kr) (he : HE noE ke) :
    ∀ e w, F16_2 (e 3) (e 10) w K → denL Try.prog (tabOf T16) 21 fuel ((flat (bodyOf Try.f16)).drop 3) e w kn kr ke := by
  intro e w h
  unfold F16_2 at h
  refine seg_loop (id := 0) (body := (loopB (blkB (nthC (flat (bodyOf Try.f16)) 3)))) (l2 := (flat (bodyOf Try.f16)).drop 4) (by kernel_rfl) ?_
  refine loop_ok (FL := fun m e w => F16_2L m (e 3) (e 10) w K) (fr := endD Try.prog [.tmp 2] K) (fe := (blkK 0 (fun e w => F16_3 (e 3) w K) noE)) (fun _ _ h => h) ?_ hr (blkK_mono (fun e w h => ok16_3 hn hr he e w h) he) fuel e w h
  intro m e w h
  have h : F16_2L (m + 1) (e 3) (e 10) w K := h
  rw [F16_2L] at h
  have e1 : ∀ (Y0 : V2) (Y1 : V1), F16_2b (e 3) (e 10) w K Y0 Y1 = denL Try.prog (tabOf T16) 21 fuel (flat (loopB (blkB (nthC (flat (bodyOf Try.f16)) 3)))) e w (fun e w => Y0 (e 3) (e 10) w) (endD Try.prog [.tmp 2] K) (blkK 0 (fun e w => Y1 (e 3) w) noE) := by intro Y0 Y1; kernel_rfl
  exact Eq.mp (e1 (fun a3 a10 w => F16_2L m a3 a10 w K) (fun a3 w => F16_3 a3 w K)) h
def F16_1b (s0 : Value) (w : World) (_K : V1) (Y0 : V2) : Prop :=
bindP (pNil s0) fun v14 =>
bindP (pFieldAddr 1 v14) fun v15 =>
bindP (ld1 v15 w) fun v16 =>
eRange Try.prog 78 v16 w fun v18 w17 =>
Y0 (.int .i64 0) v18 w17
def F16_1 (s0 : Value) (w : World) (K : V1) : Prop := F16_1b s0 w K (fun a3 a10 w => F16_2 a3 a10 w K)
theorem ok16_1 {K : V1}
    (hn : HN (fun e w => K (e 2) w) kn) (hr : HR Try.prog [.tmp 2] K kr) (he : HE noE ke) :
    ∀ e w, F16_1 (e 0) w K → denL Try.prog (tabOf T16) 21 fuel ((flat (bodyOf Try.f16)).drop 0) e w kn kr ke := by
  intro e w h
  unfold F16_1 at h
  have e1 : ∀ (Y0 : V2), F16_1b (e 0) w K Y0 = denL Try.prog (tabOf T16) 21 fuel (((flat (bodyOf Try.f16)).drop 0).take 3) e w (fun e w => Y0 (e 3) (e 10) w) (endD Try.prog [.tmp 2] K) noE := by intro Y0; kernel_rfl
  exact seg 3 (Eq.mp (e1 (fun a3 a10 w => F16_2 a3 a10 w K)) h) (fun e w h => ok16_2 hn hr he e w h) hr he
def F16 (x0 : Value) (w : World) (K : V1) : Prop := F16_1 x0 w K
def G16 : FnT := fun args w K => on1 (fun x0 => F16 x0 w K) args
theorem c16 {x0 : Value} {w : World} {K : V1} (h : F16 x0 w K) : callP G16 [x0] w K := callP_intro (on1_mk (p := fun x0 => F16 x0 w K) h)
theorem ok16 : OkF Try.prog 16 G16 := by
  refine okF_of (tab_ok (l := T16) trivial) mixed (n := fuel) Try.func16 Try.call16 fun args w K h => ?_
  obtain ⟨x0, rfl, hh⟩ := of_on1 h
  unfold F16 at hh
  exact fnD_list (c := bodyOf Try.f16) (by kernel_rfl) (by kernel_rfl) (ok16_1 (fun _ _ h => h) (fun _ _ h => h) (fun _ _ _ h => h) (initE [x0]) w hh)
def T19 : List (Nat × FnT) := [(16, G16), (46, G46)]
def F19 (x0 x1 x2 : Value) (w : World) (K : V1) : Prop :=
bindP (pNil x0) fun v1 =>
bindP (pFieldAddr 1 v1) fun v2 =>
bindP (ld1 v2 w) fun v3 =>
bindP (fLook Try.prog 78 v3 x1 true w) fun v4 =>
bindP (pTuple v4 0) fun v5 =>
bindP (pTuple v4 1) fun v6 =>
eAlloc Try.prog 86 w fun v8 w7 =>
bindW (st 2 v8 v5 w7) fun w9 =>
bindP (uNot v6) fun v11 =>
ifB v11 (
K (.int .i64 5) w9) (
bindP (lenS x2) fun v12 =>
bindP (pNil x0) fun v13 =>
bindP (pFieldAddr 0 v13) fun v14 =>
bindP (ld1 v14 w9.drew) fun v15 =>
callP G16 [x0] w9.drew fun v17 w16 =>
(fok true (lenS x2) v12 ∧ fok true (ld1 v14 w16) v15) ∧ (bindP (bSub v15 v17) fun v18 =>
bindP (bGt v12 v18) fun v19 =>
ifB v19 (
K (.int .i64 250) w16) (
bindP (pFieldAddr 0 v8) fun v20 =>
bindP (ld1 v20 w16) fun v21 =>
bindP (bAdd v21 x2) fun v22 =>
bindP (pFieldAddr 0 v8) fun v23 =>
bindW (st 1 v23 v22 w16) fun w24 =>
bindP (ldN 2 v8 w24) fun v26 =>
callP G46 [x0, x1, v26] w24 fun v28 w27 =>
K v28 w27)))
def G19 : FnT := fun args w K => on3 (fun x0 x1 x2 => F19 x0 x1 x2 w K) args
theorem c19 {x0 x1 x2 : Value} {w : World} {K : V1} (h : F19 x0 x1 x2 w K) : callP G19 [x0, x1, x2] w K := callP_intro (on3_mk (p := fun x0 x1 x2 => F19 x0 x1 x2 w K) h)
theorem ok19 : OkF Try.prog 19 G19 := by
  refine okF_of (tab_ok (l := T19) ⟨ok16, ok46, trivial⟩) mixed (n := fuel) Try.func19 Try.call19 fun args w K h => ?_
  obtain ⟨x0, x1, x2, rfl, hh⟩ := of_on3 h
  exact fnD_list (c := bodyOf Try.f19) (by kernel_rfl) (by kernel_rfl) (Eq.mp (by kernel_rfl) hh)
def T21 : List (Nat × FnT) := [(46, G46)]
def F21 (x0 x1 : Value) (w : World) (K : V1) : Prop :=
bindP (pNil x0) fun v1 =>
bindP (pFieldAddr 1 v1) fun v2 =>
bindP (ld1 v2 w) fun v3 =>
bindP (fLook Try.prog 78 v3 x1 true w) fun v4 =>
bindP (pTuple v4 0) fun v5 =>
bindP (pTuple v4 1) fun v6 =>
eAlloc Try.prog 86 w fun v8 w7 =>
bindW (st 2 v8 v5 w7) fun w9 =>
bindP (uNot v6) fun v11 =>
ifB v11 (
K (.int .i64 5) w9) (
bindP (pFieldAddr 0 v8) fun v12 =>
bindP (ld1 v12 w9) fun v13 =>
bindP (lenS v13) fun v14 =>
bindP (pFieldAddr 1 v8) fun v15 =>
bindW (st 1 v15 v14 w9) fun w16 =>
bindP (ldN 2 v8 w16) fun v18 =>
callP G46 [x0, x1, v18] w16 fun v20 w19 =>
K v20 w19)
def G21 : FnT := fun args w K => on2 (fun x0 x1 => F21 x0 x1 w K) args
theorem c21 {x0 x1 : Value} {w : World} {K : V1} (h : F21 x0 x1 w K) : callP G21 [x0, x1] w K := callP_intro (on2_mk (p := fun x0 x1 => F21 x0 x1 w K) h)
theorem ok21 : OkF Try.prog 21 G21 := by
  refine okF_of (tab_ok (l := T21) ⟨ok46, trivial⟩) mixed (n := fuel) Try.func21 Try.call21 fun args w K h => ?_
  obtain ⟨x0, x1, rfl, hh⟩ := of_on2 h
  exact fnD_list (c := bodyOf Try.f21) (by kernel_rfl) (by kernel_rfl) (Eq.mp (by kernel_rfl) hh)
def T23 : List (Nat × FnT) := []
def F23 (x0 x1 : Value) (w : World) (K : V1) : Prop :=
bindP (pNil x0) fun v1 =>
bindP (pFieldAddr 1 v1) fun v2 =>
bindP (ld1 v2 w) fun v3 =>
bindP (fLook Try.prog 78 v3 x1 true w) fun v4 =>
bindP (pTuple v4 0) fun v5 =>
bindP (pTuple v4 1) fun v6 =>
eAlloc Try.prog 86 w fun v8 w7 =>
bindW (st 2 v8 v5 w7) fun w9 =>
bindP (uNot v6) fun v11 =>
ifB v11 (
K (.tuple #[(.string ⟨#[]⟩), (.int .i64 5)]) w9) (
bindP (pFieldAddr 0 v8) fun v12 =>
bindP (ld1 v12 w9) fun v13 =>
K (.tuple #[v13, (.int .i64 0)]) w9)
def G23 : FnT := fun args w K => on2 (fun x0 x1 => F23 x0 x1 w K) args
theorem c23 {x0 x1 : Value} {w : World} {K : V1} (h : F23 x0 x1 w K) : callP G23 [x0, x1] w K := callP_intro (on2_mk (p := fun x0 x1 => F23 x0 x1 w K) h)
theorem ok23 : OkF Try.prog 23 G23 := by
  refine okF_of (tab_ok (l := T23) trivial) mixed (n := fuel) Try.func23 Try.call23 fun args w K h => ?_
  obtain ⟨x0, x1, rfl, hh⟩ := of_on2 h
  exact fnD_list (c := bodyOf Try.f23) (by kernel_rfl) (by kernel_rfl) (Eq.mp (by kernel_rfl) hh)
def T9 : List (Nat × FnT) := [(8, G8), (17, G17), (18, G18), (19, G19), (21, G21), (23, G23)]
def F9 (w : World) (K : V1) : Prop :=
callP G8 [(.int .i64 100)] w fun v2 w1 =>
bindP (pTuple v2 0) fun v3 =>
bindP (pTuple v2 1) fun v4 =>
bindP (bEq Try.prog 23 (.tmp 8) (.const (.pointer none)) v3 (.pointer none)) fun v5 =>
stepM (gd false v5) v4 fun v6 =>
Sx.stepG (gd false v5) (bNe Try.prog 24 (.tmp 11) (.const (.int .i64 0)) v6 (.int .i64 0)) fun v7 =>
bindP (pPick v5 (.bool true) v7) fun v8 =>
stepM (gd false v8) v3 fun v9 =>
stepE (gd false v8) (fun k => callP G18 [v9, (.string ⟨#[102]⟩)] w1 k) w1 fun v11 w10 =>
Sx.stepG (gd false v8) (bNe Try.prog 24 (.tmp 16) (.const (.int .i64 0)) v11 (.int .i64 0)) fun v12 =>
bindP (pPick v8 (.bool true) v12) fun v13 =>
stepM (gd false v13) v3 fun v14 =>
stepE (gd false v13) (fun k => callP G19 [v14, (.string ⟨#[102]⟩), (.string ⟨#[97, 98, 99]⟩)] w10 k) w10 fun v16 w15 =>
Sx.stepG (gd false v13) (bNe Try.prog 24 (.tmp 21) (.const (.int .i64 0)) v16 (.int .i64 0)) fun v17 =>
bindP (pPick v13 (.bool true) v17) fun v18 =>
stepM (gd false v18) v3 fun v19 =>
stepE (gd false v18) (fun k => callP G21 [v19, (.string ⟨#[102]⟩)] w15 k) w15 fun v21 w20 =>
Sx.stepG (gd false v18) (bNe Try.prog 24 (.tmp 26) (.const (.int .i64 0)) v21 (.int .i64 0)) fun v22 =>
bindP (pPick v18 (.bool true) v22) fun v23 =>
stepM (gd false v23) v3 fun v24 =>
stepE (gd false v23) (fun k => callP G19 [v24, (.string ⟨#[102]⟩), (.string ⟨#[100, 101, 102]⟩)] w20 k) w20 fun v26 w25 =>
Sx.stepG (gd false v23) (bNe Try.prog 24 (.tmp 31) (.const (.int .i64 0)) v26 (.int .i64 0)) fun v27 =>
bindP (pPick v23 (.bool true) v27) fun v28 =>
ifB v28 (
K (.bool false) w25) (
eBuildSl Try.prog 22 1 [(0, (.int .i64 1))] w25 fun v30 w29 =>
callP G17 [v3, v30] w29 fun _ w31 =>
callP G23 [v3, (.string ⟨#[102]⟩)] w31 fun v34 w33 =>
bindP (pTuple v34 0) fun v35 =>
bindP (pTuple v34 1) fun v36 =>
bindP (bEq Try.prog 9 (.tmp 42) (.const (.string ⟨#[97, 98, 99, 100]⟩)) v35 (.string ⟨#[97, 98, 99, 100]⟩)) fun v37 =>
stepM (gd true v37) v36 fun v38 =>
Sx.stepG (gd true v37) (bEq Try.prog 24 (.tmp 45) (.const (.int .i64 0)) v38 (.int .i64 0)) fun v39 =>
bindP (pPick v37 v39 (.bool false)) fun v40 =>
K v40 w33)
def G9 : FnT := fun args w K => on0 (F9 w K) args
theorem c9 {w : World} {K : V1} (h : F9 w K) : callP G9 [] w K := callP_intro (on0_mk (p := F9 w K) h)
theorem ok9 : OkF Try.prog 9 G9 := by
  refine okF_of (tab_ok (l := T9) ⟨ok8, ok17, ok18, ok19, ok21, ok23, trivial⟩) mixed (n := fuel) Try.func9 Try.call9 fun args w K h => ?_
  obtain ⟨rfl, hh⟩ := of_on0 h
  exact fnD_list (c := bodyOf Try.f9) (by kernel_rfl) (by kernel_rfl) (Eq.mp (by kernel_rfl) hh)
def T11 : List (Nat × FnT) := []
def F11 (x0 x1 : Value) (w : World) (K : V1) : Prop :=
bindP (bLt x1 (.int .i64 0)) fun v1 =>
ifB v1 (
K (.int .i64 1) w) (
bindP (pNil x0) fun v2 =>
bindP (pFieldAddr 2 v2) fun v3 =>
bindW (st 1 v3 (.bool true) w) fun w4 =>
bindP (pNil x0) fun v6 =>
bindP (pFieldAddr 3 v6) fun v7 =>
bindW (st 1 v7 x1 w4) fun w8 =>
K (.int .i64 0) w8)
def G11 : FnT := fun args w K => on2 (fun x0 x1 => F11 x0 x1 w K) args
theorem c11 {x0 x1 : Value} {w : World} {K : V1} (h : F11 x0 x1 w K) : callP G11 [x0, x1] w K := callP_intro (on2_mk (p := fun x0 x1 => F11 x0 x1 w K) h)
theorem ok11 : OkF Try.prog 11 G11 := by
  refine okF_of (tab_ok (l := T11) trivial) mixed (n := fuel) Try.func11 Try.call11 fun args w K h => ?_
  obtain ⟨x0, x1, rfl, hh⟩ := of_on2 h
  exact fnD_list (c := bodyOf Try.f11) (by kernel_rfl) (by kernel_rfl) (Eq.mp (by kernel_rfl) hh)
def T41 : List (Nat × FnT) := [(45, G45), (68, G68)]
def F41 (x0 x1 x2 : Value) (w : World) (K : V1) : Prop :=
bindP (pNil x0) fun v1 =>
bindP (pFieldAddr 1 v1) fun v2 =>
bindP (ld1 v2 w) fun v3 =>
bindP (fLook Try.prog 78 v3 x1 true w) fun v4 =>
bindP (pTuple v4 0) fun v5 =>
bindP (pTuple v4 1) fun v6 =>
eAlloc Try.prog 86 w fun v8 w7 =>
bindW (st 2 v8 v5 w7) fun w9 =>
bindP (uNot v6) fun v11 =>
ifB v11 (
K (.int .i64 5) w9) (
callP G45 [x2] w9 fun v13 w12 =>
bindP (uNot v13) fun v14 =>
ifB v14 (
K (.int .i64 1) w12) (
callP G68 [x0] w12 fun v16 w15 =>
bindP (uNot v16) fun v17 =>
ifB v17 (
K (.int .i64 251) w15) (
bindP (pNil x0) fun v18 =>
bindP (pFieldAddr 1 v18) fun v19 =>
bindP (ld1 v19 w15) fun v20 =>
eDelete Try.prog 78 v20 x1 w15 fun _ w21 =>
bindP (pNil x0) fun v23 =>
bindP (pFieldAddr 1 v23) fun v24 =>
bindP (ld1 v24 w21.drew) fun v25 =>
bindP (ldN 2 v8 w21.drew) fun v26 =>
eMapSet Try.prog 78 v25 x2 v26 w21.drew fun _ w27 =>
K (.int .i64 0) w27)))
def G41 : FnT := fun args w K => on3 (fun x0 x1 x2 => F41 x0 x1 x2 w K) args
theorem c41 {x0 x1 x2 : Value} {w : World} {K : V1} (h : F41 x0 x1 x2 w K) : callP G41 [x0, x1, x2] w K := callP_intro (on3_mk (p := fun x0 x1 x2 => F41 x0 x1 x2 w K) h)
theorem ok41 : OkF Try.prog 41 G41 := by
  refine okF_of (tab_ok (l := T41) ⟨ok45, ok68, trivial⟩) mixed (n := fuel) Try.func41 Try.call41 fun args w K h => ?_
  obtain ⟨x0, x1, x2, rfl, hh⟩ := of_on3 h
  exact fnD_list (c := bodyOf Try.f41) (by kernel_rfl) (by kernel_rfl) (Eq.mp (by kernel_rfl) hh)
def T14 : List (Nat × FnT) := []
def F14_3b (s5 : Value) (w : World) (K : V1) : Prop :=
K s5 w
def F14_3 (s5 : Value) (w : World) (K : V1) : Prop := F14_3b s5 w K
theorem ok14_3 {K : V1}
    (hn : HN (fun e w => K (e 4) w) kn) (hr : HR Try.prog [.tmp 4] K kr) (he : HE noE ke) :
    ∀ e w, F14_3 (e 5) w K → denL Try.prog (tabOf T14) 31 fuel ((flat (bodyOf Try.f14)).drop 4) e w kn kr ke := by
  intro e w h
  unfold F14_3 at h
  have e1 : ∀ (_ : Unit), F14_3b (e 5) w K = denL Try.prog (tabOf T14) 31 fuel ((flat (bodyOf Try.f14)).drop 4) e w (fun e w => K (e 4) w) (endD Try.prog [.tmp 4] K) noE := by intro _; kernel_rfl
  exact seg_end (Eq.mp (e1 ()) h) hn hr he
def F14_2b (s0 s1 s5 s6 : Value) (w : World) (_K : V1) (Y0 : V4) (Y1 : V1) : Prop :=
stepM (gd true s5) s6 fun v1 =>
stepM (gd true s5) s0 fun v2 =>
Sx.stepG (gd true s5) (lenL v2) fun v3 =>
Sx.stepG (gd true s5) (bLt v1 v3) fun v4 =>
bindP (pPick s5 v4 (.bool false)) fun v5 =>
ifB v5 (
bindP (pIndexL 1 s0 s6) fun v6 =>
bindP (ld1 v6 w.drew) fun v7 =>
bindP (pIndexL 1 s1 s6) fun v8 =>
bindP (ld1 v8 w.drew) fun v9 =>
bindP (bEq Try.prog 9 (.tmp 24) (.tmp 28) v7 v9) fun v10 =>
bindP (bAdd s6 (.int .i64 1)) fun v11 =>
Y0 s0 s1 v10 v11 w.drew) (
Y1 s5 w)
def F14_2L : Nat → Value → Value → Value → Value → World → (V1) → Prop
  | 0, _, _, _, _, _, _ => False
  | n + 1, s0, s1, s5, s6, w, K => F14_2b s0 s1 s5 s6 w K (fun a0 a1 a5 a6 w => F14_2L n a0 a1 a5 a6 w K) (fun a5 w => F14_3 a5 w K)
def F14_2 (s0 s1 s5 s6 : Value) (w : World) (K : V1) : Prop := F14_2L fuel s0 s1 s5 s6 w K
theorem ok14_2 {K : V1}
    (hn : HN (fun e w => K (e 4) w) kn) (hr : HR Try.prog [.tmp 4] K kr) (he : HE noE ke) :
    ∀ e w, F14_2 (e 0) (e 1) (e 5) (e 6) w K → denL Try.prog (tabOf T14) 31 fuel ((flat (bodyOf Try.f14)).drop 3) e w kn kr ke := by
  intro e w h
  unfold F14_2 at h
  refine seg_loop (id := 0) (body := (loopB (blkB (nthC (flat (bodyOf Try.f14)) 3)))) (l2 := (flat (bodyOf Try.f14)).drop 4) (by kernel_rfl) ?_
  refine loop_ok (FL := fun m e w => F14_2L m (e 0) (e 1) (e 5) (e 6) w K) (fr := endD Try.prog [.tmp 4] K) (fe := (blkK 0 (fun e w => F14_3 (e 5) w K) noE)) (fun _ _ h => h) ?_ hr (blkK_mono (fun e w h => ok14_3 hn hr he e w h) he) fuel e w h
  intro m e w h
  have h : F14_2L (m + 1) (e 0) (e 1) (e 5) (e 6) w K := h
  rw [F14_2L] at h
  have e1 : ∀ (Y0 : V4) (Y1 : V1), F14_2b (e 0) (e 1) (e 5) (e 6) w K Y0 Y1 = denL Try.prog (tabOf T14) 31 fuel (flat (loopB (blkB (nthC (flat (bodyOf Try.f14)) 3)))) e w (fun e w => Y0 (e 0) (e 1) (e 5) (e 6) w) (endD Try.prog [.tmp 4] K) (blkK 0 (fun e w => Y1 (e 5) w) noE) := by intro Y0 Y1; kernel_rfl
  exact Eq.mp (e1 (fun a0 a1 a5 a6 w => F14_2L m a0 a1 a5 a6 w K) (fun a5 w => F14_3 a5 w K)) h
def F14_1b (s0 s1 : Value) (w : World) (_K : V1) (Y0 : V4) : Prop :=
bindP (lenL s0) fun v12 =>
bindP (lenL s1) fun v13 =>
bindP (bEq Try.prog 3 (.tmp 8) (.tmp 10) v12 v13) fun v14 =>
Y0 s0 s1 v14 (.int .i64 0) w
def F14_1 (s0 s1 : Value) (w : World) (K : V1) : Prop := F14_1b s0 s1 w K (fun a0 a1 a5 a6 w => F14_2 a0 a1 a5 a6 w K)
theorem ok14_1 {K : V1}
    (hn : HN (fun e w => K (e 4) w) kn) (hr : HR Try.prog [.tmp 4] K kr) (he : HE noE ke) :
    ∀ e w, F14_1 (e 0) (e 1) w K → denL Try.prog (tabOf T14) 31 fuel ((flat (bodyOf Try.f14)).drop 0) e w kn kr ke := by
  intro e w h
  unfold F14_1 at h
  have e1 : ∀ (Y0 : V4), F14_1b (e 0) (e 1) w K Y0 = denL Try.prog (tabOf T14) 31 fuel (((flat (bodyOf Try.f14)).drop 0).take 3) e w (fun e w => Y0 (e 0) (e 1) (e 5) (e 6) w) (endD Try.prog [.tmp 4] K) noE := by intro Y0; kernel_rfl
  exact seg 3 (Eq.mp (e1 (fun a0 a1 a5 a6 w => F14_2 a0 a1 a5 a6 w K)) h) (fun e w h => ok14_2 hn hr he e w h) hr he
def F14 (x0 x1 : Value) (w : World) (K : V1) : Prop := F14_1 x0 x1 w K
def G14 : FnT := fun args w K => on2 (fun x0 x1 => F14 x0 x1 w K) args
theorem c14 {x0 x1 : Value} {w : World} {K : V1} (h : F14 x0 x1 w K) : callP G14 [x0, x1] w K := callP_intro (on2_mk (p := fun x0 x1 => F14 x0 x1 w K) h)
theorem ok14 : OkF Try.prog 14 G14 := by
  refine okF_of (tab_ok (l := T14) trivial) mixed (n := fuel) Try.func14 Try.call14 fun args w K h => ?_
  obtain ⟨x0, x1, rfl, hh⟩ := of_on2 h
  unfold F14 at hh
  exact fnD_list (c := bodyOf Try.f14) (by kernel_rfl) (by kernel_rfl) (ok14_1 (fun _ _ h => h) (fun _ _ h => h) (fun _ _ _ h => h) (initE [x0, x1]) w hh)
def G72 : FnT := gClone
theorem ok72 : OkF Try.prog 72 G72 := okClone Try.func72 (by kernel_rfl) (by kernel_rfl) (by kernel_rfl) (by kernel_rfl)
def T47 : List (Nat × FnT) := [(72, G72)]
def F47 (x0 : Value) (w : World) (K : V1) : Prop :=
bindP (bEq Try.prog 78 (.tmp 3) (.const (.map none)) x0 (.map none)) fun v1 =>
ifB v1 (
K (.map none) w) (
bindP (fMkI Try.prog 78 x0) fun v2 =>
callP G72 [v2] w fun v4 w3 =>
bindP (fAssert Try.prog v4 78 false) fun v5 =>
K v5 w3)
def G47 : FnT := fun args w K => on1 (fun x0 => F47 x0 w K) args
theorem c47 {x0 : Value} {w : World} {K : V1} (h : F47 x0 w K) : callP G47 [x0] w K := callP_intro (on1_mk (p := fun x0 => F47 x0 w K) h)
theorem ok47 : OkF Try.prog 47 G47 := by
  refine okF_of (tab_ok (l := T47) ⟨ok72, trivial⟩) mixed (n := fuel) Try.func47 Try.call47 fun args w K h => ?_
  obtain ⟨x0, rfl, hh⟩ := of_on1 h
  exact fnD_list (c := bodyOf Try.f47) (by kernel_rfl) (by kernel_rfl) (Eq.mp (by kernel_rfl) hh)
def T22 : List (Nat × FnT) := [(47, G47)]
def F22 (x0 : Value) (w : World) (K : V1) : Prop :=
bindP (pNil x0) fun v1 =>
bindP (ldN 4 v1 w) fun v2 =>
eAlloc Try.prog 80 w fun v4 w3 =>
bindW (st 4 v4 v2 w3) fun w5 =>
bindP (pNil x0) fun v7 =>
bindP (pFieldAddr 1 v7) fun v8 =>
bindP (ld1 v8 w5) fun v9 =>
callP G47 [v9] w5 fun v11 w10 =>
bindP (pFieldAddr 1 v4) fun v12 =>
bindW (st 1 v12 v11 w10) fun w13 =>
K v4 w13
def G22 : FnT := fun args w K => on1 (fun x0 => F22 x0 w K) args
theorem c22 {x0 : Value} {w : World} {K : V1} (h : F22 x0 w K) : callP G22 [x0] w K := callP_intro (on1_mk (p := fun x0 => F22 x0 w K) h)
theorem ok22 : OkF Try.prog 22 G22 := by
  refine okF_of (tab_ok (l := T22) ⟨ok47, trivial⟩) mixed (n := fuel) Try.func22 Try.call22 fun args w K h => ?_
  obtain ⟨x0, rfl, hh⟩ := of_on1 h
  exact fnD_list (c := bodyOf Try.f22) (by kernel_rfl) (by kernel_rfl) (Eq.mp (by kernel_rfl) hh)
def T24 : List (Nat × FnT) := []
def F24 (x0 x1 : Value) (w : World) (K : V1) : Prop :=
bindP (pNil x0) fun v1 =>
bindP (pFieldAddr 1 v1) fun v2 =>
bindP (ld1 v2 w) fun v3 =>
bindP (fLook Try.prog 78 v3 x1 true w) fun v4 =>
bindP (pTuple v4 0) fun v5 =>
bindP (pTuple v4 1) fun v6 =>
eAlloc Try.prog 86 w fun v8 w7 =>
bindW (st 2 v8 v5 w7) fun w9 =>
bindP (uNot v6) fun v11 =>
ifB v11 (
K (.tuple #[(.int .i64 0), (.int .i64 5)]) w9) (
bindP (pFieldAddr 1 v8) fun v12 =>
bindP (ld1 v12 w9) fun v13 =>
K (.tuple #[v13, (.int .i64 0)]) w9)
def G24 : FnT := fun args w K => on2 (fun x0 x1 => F24 x0 x1 w K) args
theorem c24 {x0 x1 : Value} {w : World} {K : V1} (h : F24 x0 x1 w K) : callP G24 [x0, x1] w K := callP_intro (on2_mk (p := fun x0 x1 => F24 x0 x1 w K) h)
theorem ok24 : OkF Try.prog 24 G24 := by
  refine okF_of (tab_ok (l := T24) trivial) mixed (n := fuel) Try.func24 Try.call24 fun args w K h => ?_
  obtain ⟨x0, x1, rfl, hh⟩ := of_on2 h
  exact fnD_list (c := bodyOf Try.f24) (by kernel_rfl) (by kernel_rfl) (Eq.mp (by kernel_rfl) hh)
def T34 : List (Nat × FnT) := []
def F34 (x0 : Value) (w : World) (K : V1) : Prop :=
bindP (bLt x0 (.int .i64 0)) fun v1 =>
stepM (gd false v1) x0 fun v2 =>
Sx.stepG (gd false v1) (bGt v2 (.int .i64 1099511627776)) fun v3 =>
bindP (pPick v1 (.bool true) v3) fun v4 =>
ifB v4 (
K (.tuple #[(.pointer none), (.int .i64 1)]) w) (
bindP (fBuild Try.prog 101 [(0, x0)]) fun v5 =>
eBox 101 v5 w fun v7 w6 =>
K (.tuple #[v7, (.int .i64 0)]) w6)
def G34 : FnT := fun args w K => on1 (fun x0 => F34 x0 w K) args
theorem c34 {x0 : Value} {w : World} {K : V1} (h : F34 x0 w K) : callP G34 [x0] w K := callP_intro (on1_mk (p := fun x0 => F34 x0 w K) h)
theorem ok34 : OkF Try.prog 34 G34 := by
  refine okF_of (tab_ok (l := T34) trivial) mixed (n := fuel) Try.func34 Try.call34 fun args w K h => ?_
  obtain ⟨x0, rfl, hh⟩ := of_on1 h
  exact fnD_list (c := bodyOf Try.f34) (by kernel_rfl) (by kernel_rfl) (Eq.mp (by kernel_rfl) hh)
def T63 : List (Nat × FnT) := []
def F63_3b (s3 : Value) (w : World) (K : V1) : Prop :=
K s3 w
def F63_3 (s3 : Value) (w : World) (K : V1) : Prop := F63_3b s3 w K
theorem ok63_3 {K : V1}
    (hn : HN (fun e w => K (e 2) w) kn) (hr : HR Try.prog [.tmp 2] K kr) (he : HE noE ke) :
    ∀ e w, F63_3 (e 3) w K → denL Try.prog (tabOf T63) 26 fuel ((flat (bodyOf Try.f63)).drop 4) e w kn kr ke := by
  intro e w h
  unfold F63_3 at h
  have e1 : ∀ (_ : Unit), F63_3b (e 3) w K = denL Try.prog (tabOf T63) 26 fuel ((flat (bodyOf Try.f63)).drop 4) e w (fun e w => K (e 2) w) (endD Try.prog [.tmp 2] K) noE := by intro _; kernel_rfl
  exact seg_end (Eq.mp (e1 ()) h) hn hr he
def F63_2b (s0 s3 s4 : Value) (w : World) (_K : V1) (Y0 : V3) (Y1 : V1) : Prop :=
bindP (pNil s0) fun v1 =>
bindP (pFieldAddr 3 v1) fun v2 =>
bindP (ld1 v2 w) fun v3 =>
bindP (lenL v3) fun v4 =>
bindP (bLt s4 v4) fun v5 =>
ifB v5 (
bindP (pNil s0) fun v6 =>
bindP (pFieldAddr 3 v6) fun v7 =>
bindP (ld1 v7 w) fun v8 =>
bindP (pIndexL 3 v8 s4) fun v9 =>
bindP (pFieldAddr 0 v9) fun v10 =>
bindP (ld1 v10 w) fun v11 =>
eBuildSl Try.prog 33 1 [(0, v11)] w fun v13 w12 =>
eAppend Try.prog 33 33 s3 v13 w12 fun v15 w14 =>
bindP (bAdd s4 (.int .i64 1)) fun v16 =>
Y0 s0 v15 v16 w14) (
Y1 s3 w)
def F63_2L : Nat → Value → Value → Value → World → (V1) → Prop
  | 0, _, _, _, _, _ => False
  | n + 1, s0, s3, s4, w, K => F63_2b s0 s3 s4 w K (fun a0 a3 a4 w => F63_2L n a0 a3 a4 w K) (fun a3 w => F63_3 a3 w K)
def F63_2 (s0 s3 s4 : Value) (w : World) (K : V1) : Prop := F63_2L fuel s0 s3 s4 w K
theorem ok63_2 {K : V1}
    (hn : HN (fun e w => K (e 2) w) kn) (hr : HR Try.prog [.tmp 2] K kr) (he : HE noE ke) :
    ∀ e w, F63_2 (e 0) (e 3) (e 4) w K → denL Try.prog (tabOf T63) 26 fuel ((flat (bodyOf Try.f63)).drop 3) e w kn kr ke := by
  intro e w h
  unfold F63_2 at h
  refine seg_loop (id := 0) (body := (loopB (blkB (nthC (flat (bodyOf Try.f63)) 3)))) (l2 := (flat (bodyOf Try.f63)).drop 4) (by kernel_rfl) ?_
  refine loop_ok (FL := fun m e w => F63_2L m (e 0) (e 3) (e 4) w K) (fr := endD Try.prog [.tmp 2] K) (fe := (blkK 0 (fun e w => F63_3 (e 3) w K) noE)) (fun _ _ h => h) ?_ hr (blkK_mono (fun e w h => ok63_3 hn hr he e w h) he) fuel e w h
  intro m e w h
  have h : F63_2L (m + 1) (e 0) (e 3) (e 4) w K := h
  rw [F63_2L] at h
  have e1 : ∀ (Y0 : V3) (Y1 : V1), F63_2b (e 0) (e 3) (e 4) w K Y0 Y1 = denL Try.prog (tabOf T63) 26 fuel (flat (loopB (blkB (nthC (flat (bodyOf Try.f63)) 3)))) e w (fun e w => Y0 (e 0) (e 3) (e 4) w) (endD Try.prog [.tmp 2] K) (blkK 0 (fun e w => Y1 (e 3) w) noE) := by intro Y0 Y1; kernel_rfl
  exact Eq.mp (e1 (fun a0 a3 a4 w => F63_2L m a0 a3 a4 w K) (fun a3 w => F63_3 a3 w K)) h
def F63_1b (s0 : Value) (w : World) (_K : V1) (Y0 : V3) : Prop :=
Y0 s0 (.slice none 0 0) (.int .i64 0) w
def F63_1 (s0 : Value) (w : World) (K : V1) : Prop := F63_1b s0 w K (fun a0 a3 a4 w => F63_2 a0 a3 a4 w K)
theorem ok63_1 {K : V1}
    (hn : HN (fun e w => K (e 2) w) kn) (hr : HR Try.prog [.tmp 2] K kr) (he : HE noE ke) :
    ∀ e w, F63_1 (e 0) w K → denL Try.prog (tabOf T63) 26 fuel ((flat (bodyOf Try.f63)).drop 0) e w kn kr ke := by
  intro e w h
  unfold F63_1 at h
  have e1 : ∀ (Y0 : V3), F63_1b (e 0) w K Y0 = denL Try.prog (tabOf T63) 26 fuel (((flat (bodyOf Try.f63)).drop 0).take 3) e w (fun e w => Y0 (e 0) (e 3) (e 4) w) (endD Try.prog [.tmp 2] K) noE := by intro Y0; kernel_rfl
  exact seg 3 (Eq.mp (e1 (fun a0 a3 a4 w => F63_2 a0 a3 a4 w K)) h) (fun e w h => ok63_2 hn hr he e w h) hr he
def F63 (x0 : Value) (w : World) (K : V1) : Prop := F63_1 x0 w K
def G63 : FnT := fun args w K => on1 (fun x0 => F63 x0 w K) args
theorem c63 {x0 : Value} {w : World} {K : V1} (h : F63 x0 w K) : callP G63 [x0] w K := callP_intro (on1_mk (p := fun x0 => F63 x0 w K) h)
theorem ok63 : OkF Try.prog 63 G63 := by
  refine okF_of (tab_ok (l := T63) trivial) mixed (n := fuel) Try.func63 Try.call63 fun args w K h => ?_
  obtain ⟨x0, rfl, hh⟩ := of_on1 h
  unfold F63 at hh
  exact fnD_list (c := bodyOf Try.f63) (by kernel_rfl) (by kernel_rfl) (ok63_1 (fun _ _ h => h) (fun _ _ h => h) (fun _ _ _ h => h) (initE [x0]) w hh)
def T64 : List (Nat × FnT) := []
def F64_3b (s3 : Value) (w : World) (K : V1) : Prop :=
K s3 w
def F64_3 (s3 : Value) (w : World) (K : V1) : Prop := F64_3b s3 w K
theorem ok64_3 {K : V1}
    (hn : HN (fun e w => K (e 2) w) kn) (hr : HR Try.prog [.tmp 2] K kr) (he : HE noE ke) :
    ∀ e w, F64_3 (e 3) w K → denL Try.prog (tabOf T64) 26 fuel ((flat (bodyOf Try.f64)).drop 4) e w kn kr ke := by
  intro e w h
  unfold F64_3 at h
  have e1 : ∀ (_ : Unit), F64_3b (e 3) w K = denL Try.prog (tabOf T64) 26 fuel ((flat (bodyOf Try.f64)).drop 4) e w (fun e w => K (e 2) w) (endD Try.prog [.tmp 2] K) noE := by intro _; kernel_rfl
  exact seg_end (Eq.mp (e1 ()) h) hn hr he
def F64_2b (s0 s3 s4 : Value) (w : World) (_K : V1) (Y0 : V3) (Y1 : V1) : Prop :=
bindP (pNil s0) fun v1 =>
bindP (pFieldAddr 3 v1) fun v2 =>
bindP (ld1 v2 w) fun v3 =>
bindP (lenL v3) fun v4 =>
bindP (bLt s4 v4) fun v5 =>
ifB v5 (
bindP (pNil s0) fun v6 =>
bindP (pFieldAddr 3 v6) fun v7 =>
bindP (ld1 v7 w) fun v8 =>
bindP (pIndexL 3 v8 s4) fun v9 =>
bindP (pFieldAddr 1 v9) fun v10 =>
bindP (ld1 v10 w) fun v11 =>
bindP (lenS v11) fun v12 =>
bindP (bAdd s3 v12) fun v13 =>
bindP (bAdd s4 (.int .i64 1)) fun v14 =>
Y0 s0 v13 v14 w) (
Y1 s3 w)
def F64_2L : Nat → Value → Value → Value → World → (V1) → Prop
  | 0, _, _, _, _, _ => False
  | n + 1, s0, s3, s4, w, K => F64_2b s0 s3 s4 w K (fun a0 a3 a4 w => F64_2L n a0 a3 a4 w K) (fun a3 w => F64_3 a3 w K)
def F64_2 (s0 s3 s4 : Value) (w : World) (K : V1) : Prop := F64_2L fuel s0 s3 s4 w K
theorem ok64_2 {K : V1}
    (hn : HN (fun e w => K (e 2) w) kn) (hr : HR Try.prog [.tmp 2] K kr) (he : HE noE ke) :
    ∀ e w, F64_2 (e 0) (e 3) (e 4) w K → denL Try.prog (tabOf T64) 26 fuel ((flat (bodyOf Try.f64)).drop 3) e w kn kr ke := by
  intro e w h
  unfold F64_2 at h
  refine seg_loop (id := 0) (body := (loopB (blkB (nthC (flat (bodyOf Try.f64)) 3)))) (l2 := (flat (bodyOf Try.f64)).drop 4) (by kernel_rfl) ?_
  refine loop_ok (FL := fun m e w => F64_2L m (e 0) (e 3) (e 4) w K) (fr := endD Try.prog [.tmp 2] K) (fe := (blkK 0 (fun e w => F64_3 (e 3) w K) noE)) (fun _ _ h => h) ?_ hr (blkK_mono (fun e w h => ok64_3 hn hr he e w h) he) fuel e w h
  intro m e w h
  have h : F64_2L (m + 1) (e 0) (e 3) (e 4) w K := h
  rw [F64_2L] at h
  have e1 : ∀ (Y0 : V3) (Y1 : V1), F64_2b (e 0) (e 3) (e 4) w K Y0 Y1 = denL Try.prog (tabOf T64) 26 fuel (flat (loopB (blkB (nthC (flat (bodyOf Try.f64)) 3)))) e w (fun e w => Y0 (e 0) (e 3) (e 4) w) (endD Try.prog [.tmp 2] K) (blkK 0 (fun e w => Y1 (e 3) w) noE) := by intro Y0 Y1; kernel_rfl
  exact Eq.mp (e1 (fun a0 a3 a4 w => F64_2L m a0 a3 a4 w K) (fun a3 w => F64_3 a3 w K)) h
def F64_1b (s0 : Value) (w : World) (_K : V1) (Y0 : V3) : Prop :=
Y0 s0 (.int .i64 0) (.int .i64 0) w
def F64_1 (s0 : Value) (w : World) (K : V1) : Prop := F64_1b s0 w K (fun a0 a3 a4 w => F64_2 a0 a3 a4 w K)
theorem ok64_1 {K : V1}
    (hn : HN (fun e w => K (e 2) w) kn) (hr : HR Try.prog [.tmp 2] K kr) (he : HE noE ke) :
    ∀ e w, F64_1 (e 0) w K → denL Try.prog (tabOf T64) 26 fuel ((flat (bodyOf Try.f64)).drop 0) e w kn kr ke := by
  intro e w h
  unfold F64_1 at h
  have e1 : ∀ (Y0 : V3), F64_1b (e 0) w K Y0 = denL Try.prog (tabOf T64) 26 fuel (((flat (bodyOf Try.f64)).drop 0).take 3) e w (fun e w => Y0 (e 0) (e 3) (e 4) w) (endD Try.prog [.tmp 2] K) noE := by intro Y0; kernel_rfl
  exact seg 3 (Eq.mp (e1 (fun a0 a3 a4 w => F64_2 a0 a3 a4 w K)) h) (fun e w h => ok64_2 hn hr he e w h) hr he
def F64 (x0 : Value) (w : World) (K : V1) : Prop := F64_1 x0 w K
def G64 : FnT := fun args w K => on1 (fun x0 => F64 x0 w K) args
theorem c64 {x0 : Value} {w : World} {K : V1} (h : F64 x0 w K) : callP G64 [x0] w K := callP_intro (on1_mk (p := fun x0 => F64 x0 w K) h)
theorem ok64 : OkF Try.prog 64 G64 := by
  refine okF_of (tab_ok (l := T64) trivial) mixed (n := fuel) Try.func64 Try.call64 fun args w K h => ?_
  obtain ⟨x0, rfl, hh⟩ := of_on1 h
  unfold F64 at hh
  exact fnD_list (c := bodyOf Try.f64) (by kernel_rfl) (by kernel_rfl) (ok64_1 (fun _ _ h => h) (fun _ _ h => h) (fun _ _ _ h => h) (initE [x0]) w hh)
def T79 : List (Nat × FnT) := []
def F79_3b (w : World) (K : V1) : Prop :=
K (.int .i64 (-1)) w
def F79_3 (w : World) (K : V1) : Prop := F79_3b w K
theorem ok79_3 {K : V1}
    (hn : HN (fun e w => K (e 4) w) kn) (hr : HR Try.prog [.tmp 4] K kr) (he : HE noE ke) :
    ∀ e w, F79_3 w K → denL Try.prog (tabOf T79) 26 fuel ((flat (bodyOf Try.f79)).drop 3) e w kn kr ke := by
  intro e w h
  unfold F79_3 at h
  have e1 : ∀ (_ : Unit), F79_3b w K = denL Try.prog (tabOf T79) 26 fuel ((flat (bodyOf Try.f79)).drop 3) e w (fun e w => K (e 4) w) (endD Try.prog [.tmp 4] K) noE := by intro _; kernel_rfl
  exact seg_end (Eq.mp (e1 ()) h) hn hr he
def F79_2b (s0 s1 s5 : Value) (w : World) (K : V1) (Y0 : V3) (Y1 : V0) : Prop :=
bindP (pNil s0) fun v1 =>
bindP (pFieldAddr 3 v1) fun v2 =>
bindP (ld1 v2 w) fun v3 =>
bindP (lenL v3) fun v4 =>
bindP (bLt s5 v4) fun v5 =>
ifB v5 (
bindP (pNil s0) fun v6 =>
bindP (pFieldAddr 3 v6) fun v7 =>
bindP (ld1 v7 w) fun v8 =>
bindP (pIndexL 3 v8 s5) fun v9 =>
bindP (pFieldAddr 0 v9) fun v10 =>
bindP (ld1 v10 w) fun v11 =>
bindP (bEq Try.prog 9 (.tmp 22) (.tmp 23) v11 s1) fun v12 =>
ifB v12 (
K s5 w) (
bindP (bAdd s5 (.int .i64 1)) fun v13 =>
Y0 s0 s1 v13 w)) (
Y1 w)
def F79_2L : Nat → Value → Value → Value → World → (V1) → Prop
  | 0, _, _, _, _, _ => False
  | n + 1, s0, s1, s5, w, K => F79_2b s0 s1 s5 w K (fun a0 a1 a5 w => F79_2L n a0 a1 a5 w K) (fun w => F79_3 w K)
def F79_2 (s0 s1 s5 : Value) (w : World) (K : V1) : Prop := F79_2L fuel s0 s1 s5 w K
theorem ok79_2 {K : V1}
    (hn : HN (fun e w => K (e 4) w) kn) (hr : HR Try.prog [.tmp 4] K kr) (he : HE noE ke) :
    ∀ e w, F79_2 (e 0) (e 1) (e 5) w K → denL Try.prog (tabOf T79) 26 fuel ((flat (bodyOf Try.f79)).drop 2) e w kn kr ke := by
  intro e w h
  unfold F79_2 at h
  refine seg_loop (id := 0) (body := (loopB (blkB (nthC (flat (bodyOf Try.f79)) 2)))) (l2 := (flat (bodyOf Try.f79)).drop 3) (by kernel_rfl) ?_
  refine loop_ok (FL := fun m e w => F79_2L m (e 0) (e 1) (e 5) w K) (fr := endD Try.prog [.tmp 4] K) (fe := (blkK 0 (fun e w => F79_3 w K) noE)) (fun _ _ h => h) ?_ hr (blkK_mono (fun e w h => ok79_3 hn hr he e w h) he) fuel e w h
  intro m e w h
  have h : F79_2L (m + 1) (e 0) (e 1) (e 5) w K := h
  rw [F79_2L] at h
  have e1 : ∀ (Y0 : V3) (Y1 : V0), F79_2b (e 0) (e 1) (e 5) w K Y0 Y1 = denL Try.prog (tabOf T79) 26 fuel (flat (loopB (blkB (nthC (flat (bodyOf Try.f79)) 2)))) e w (fun e w => Y0 (e 0) (e 1) (e 5) w) (endD Try.prog [.tmp 4] K) (blkK 0 (fun e w => Y1 w) noE) := by intro Y0 Y1; kernel_rfl
  exact Eq.mp (e1 (fun a0 a1 a5 w => F79_2L m a0 a1 a5 w K) (fun w => F79_3 w K)) h
def F79_1b (s0 s1 : Value) (w : World) (_K : V1) (Y0 : V3) : Prop :=
Y0 s0 s1 (.int .i64 0) w
def F79_1 (s0 s1 : Value) (w : World) (K : V1) : Prop := F79_1b s0 s1 w K (fun a0 a1 a5 w => F79_2 a0 a1 a5 w K)
theorem ok79_1 {K : V1}
    (hn : HN (fun e w => K (e 4) w) kn) (hr : HR Try.prog [.tmp 4] K kr) (he : HE noE ke) :
    ∀ e w, F79_1 (e 0) (e 1) w K → denL Try.prog (tabOf T79) 26 fuel ((flat (bodyOf Try.f79)).drop 0) e w kn kr ke := by
  intro e w h
  unfold F79_1 at h
  have e1 : ∀ (Y0 : V3), F79_1b (e 0) (e 1) w K Y0 = denL Try.prog (tabOf T79) 26 fuel (((flat (bodyOf Try.f79)).drop 0).take 2) e w (fun e w => Y0 (e 0) (e 1) (e 5) w) (endD Try.prog [.tmp 4] K) noE := by intro Y0; kernel_rfl
  exact seg 2 (Eq.mp (e1 (fun a0 a1 a5 w => F79_2 a0 a1 a5 w K)) h) (fun e w h => ok79_2 hn hr he e w h) hr he
def F79 (x0 x1 : Value) (w : World) (K : V1) : Prop := F79_1 x0 x1 w K
def G79 : FnT := fun args w K => on2 (fun x0 x1 => F79 x0 x1 w K) args
theorem c79 {x0 x1 : Value} {w : World} {K : V1} (h : F79 x0 x1 w K) : callP G79 [x0, x1] w K := callP_intro (on2_mk (p := fun x0 x1 => F79 x0 x1 w K) h)
theorem ok79 : OkF Try.prog 79 G79 := by
  refine okF_of (tab_ok (l := T79) trivial) mixed (n := fuel) Try.func79 Try.call79 fun args w K h => ?_
  obtain ⟨x0, x1, rfl, hh⟩ := of_on2 h
  unfold F79 at hh
  exact fnD_list (c := bodyOf Try.f79) (by kernel_rfl) (by kernel_rfl) (ok79_1 (fun _ _ h => h) (fun _ _ h => h) (fun _ _ _ h => h) (initE [x0, x1]) w hh)
def T65 : List (Nat × FnT) := [(79, G79)]
def F65 (x0 x1 : Value) (w : World) (K : V1) : Prop :=
callP G79 [x0, x1] w fun v2 w1 =>
bindP (bLt v2 (.int .i64 0)) fun v3 =>
ifB v3 (
K (.tuple #[(.string ⟨#[]⟩), (.int .i64 5)]) w1) (
bindP (pNil x0) fun v4 =>
bindP (pFieldAddr 3 v4) fun v5 =>
bindP (ld1 v5 w1) fun v6 =>
bindP (pIndexL 3 v6 v2) fun v7 =>
bindP (pFieldAddr 1 v7) fun v8 =>
bindP (ld1 v8 w1) fun v9 =>
K (.tuple #[v9, (.int .i64 0)]) w1)
def G65 : FnT := fun args w K => on2 (fun x0 x1 => F65 x0 x1 w K) args
theorem c65 {x0 x1 : Value} {w : World} {K : V1} (h : F65 x0 x1 w K) : callP G65 [x0, x1] w K := callP_intro (on2_mk (p := fun x0 x1 => F65 x0 x1 w K) h)
theorem ok65 : OkF Try.prog 65 G65 := by
  refine okF_of (tab_ok (l := T65) ⟨ok79, trivial⟩) mixed (n := fuel) Try.func65 Try.call65 fun args w K h => ?_
  obtain ⟨x0, x1, rfl, hh⟩ := of_on2 h
  exact fnD_list (c := bodyOf Try.f65) (by kernel_rfl) (by kernel_rfl) (Eq.mp (by kernel_rfl) hh)
def T66 : List (Nat × FnT) := [(79, G79)]
def F66 (x0 x1 : Value) (w : World) (K : V1) : Prop :=
callP G79 [x0, x1] w fun v2 w1 =>
bindP (bLt v2 (.int .i64 0)) fun v3 =>
ifB v3 (
K (.tuple #[(.int .i64 0), (.int .i64 5)]) w1) (
bindP (pNil x0) fun v4 =>
bindP (pFieldAddr 3 v4) fun v5 =>
bindP (ld1 v5 w1) fun v6 =>
bindP (pIndexL 3 v6 v2) fun v7 =>
bindP (pFieldAddr 2 v7) fun v8 =>
bindP (ld1 v8 w1) fun v9 =>
K (.tuple #[v9, (.int .i64 0)]) w1)
def G66 : FnT := fun args w K => on2 (fun x0 x1 => F66 x0 x1 w K) args
theorem c66 {x0 x1 : Value} {w : World} {K : V1} (h : F66 x0 x1 w K) : callP G66 [x0, x1] w K := callP_intro (on2_mk (p := fun x0 x1 => F66 x0 x1 w K) h)
theorem ok66 : OkF Try.prog 66 G66 := by
  refine okF_of (tab_ok (l := T66) ⟨ok79, trivial⟩) mixed (n := fuel) Try.func66 Try.call66 fun args w K h => ?_
  obtain ⟨x0, x1, rfl, hh⟩ := of_on2 h
  exact fnD_list (c := bodyOf Try.f66) (by kernel_rfl) (by kernel_rfl) (Eq.mp (by kernel_rfl) hh)
def T67 : List (Nat × FnT) := []
def F67_2b (s0 s2 : Value) (w : World) (K : V1) (Y0 : V2) : Prop :=
bindP (lenL s0) fun v1 =>
bindP (bLt s2 v1) fun v2 =>
ifB v2 (
bindP (pIndexL 1 s0 s2) fun v3 =>
bindW (st 1 v3 (.string ⟨#[97, 110, 111, 116, 104, 101, 114, 32, 111, 110, 101]⟩) w) fun w4 =>
bindP (bAdd s2 (.int .i64 1)) fun v6 =>
Y0 s0 v6 w4) (
K (.tuple #[]) w)
def F67_2L : Nat → Value → Value → World → (V1) → Prop
  | 0, _, _, _, _ => False
  | n + 1, s0, s2, w, K => F67_2b s0 s2 w K (fun a0 a2 w => F67_2L n a0 a2 w K)
def F67_2 (s0 s2 : Value) (w : World) (K : V1) : Prop := F67_2L fuel s0 s2 w K
theorem ok67_2 {K : V1}
    (hn : HN (fun e w => K (.tuple #[]) w) kn) (hr : HR Try.prog [] K kr) (he : HE noE ke) :
    ∀ e w, F67_2 (e 0) (e 2) w K → denL Try.prog (tabOf T67) 12 fuel ((flat (bodyOf Try.f67)).drop 1) e w kn kr ke := by
  intro e w h
  unfold F67_2 at h
  refine seg_loop (id := 0) (body := (loopB (blkB (nthC (flat (bodyOf Try.f67)) 1)))) (l2 := (flat (bodyOf Try.f67)).drop 2) (by kernel_rfl) ?_
  refine loop_ok (FL := fun m e w => F67_2L m (e 0) (e 2) w K) (fr := endD Try.prog [] K) (fe := (blkK 0 (fun e w => K (.tuple #[]) w) noE)) (fun _ _ h => h) ?_ hr (blkK_mono hn he) fuel e w h
  intro m e w h
  have h : F67_2L (m + 1) (e 0) (e 2) w K := h
  rw [F67_2L] at h
  have e1 : ∀ (Y0 : V2), F67_2b (e 0) (e 2) w K Y0 = denL Try.prog (tabOf T67) 12 fuel (flat (loopB (blkB (nthC (flat (bodyOf Try.f67)) 1)))) e w (fun e w => Y0 (e 0) (e 2) w) (endD Try.prog [] K) (blkK 0 (fun e w => K (.tuple #[]) w) noE) := by intro Y0; kernel_rfl
  exact Eq.mp (e1 (fun a0 a2 w => F67_2L m a0 a2 w K)) h
def F67_1b (s0 : Value) (w : World) (_K : V1) (Y0 : V2) : Prop :=
Y0 s0 (.int .i64 0) w
def F67_1 (s0 : Value) (w : World) (K : V1) : Prop := F67_1b s0 w K (fun a0 a2 w => F67_2 a0 a2 w K)
theorem ok67_1 {K : V1}
    (hn : HN (fun e w => K (.tuple #[]) w) kn) (hr : HR Try.prog [] K kr) (he : HE noE ke) :
    ∀ e w, F67_1 (e 0) w K → denL Try.prog (tabOf T67) 12 fuel ((flat (bodyOf Try.f67)).drop 0) e w kn kr ke := by
  intro e w h
  unfold F67_1 at h
  have e1 : ∀ (Y0 : V2), F67_1b (e 0) w K Y0 = denL Try.prog (tabOf T67) 12 fuel (((flat (bodyOf Try.f67)).drop 0).take 1) e w (fun e w => Y0 (e 0) (e 2) w) (endD Try.prog [] K) noE := by intro Y0; kernel_rfl
  exact seg 1 (Eq.mp (e1 (fun a0 a2 w => F67_2 a0 a2 w K)) h) (fun e w h => ok67_2 hn hr he e w h) hr he
def F67 (x0 : Value) (w : World) (K : V1) : Prop := F67_1 x0 w K
def G67 : FnT := fun args w K => on1 (fun x0 => F67 x0 w K) args
theorem c67 {x0 : Value} {w : World} {K : V1} (h : F67 x0 w K) : callP G67 [x0] w K := callP_intro (on1_mk (p := fun x0 => F67 x0 w K) h)
theorem ok67 : OkF Try.prog 67 G67 := by
  refine okF_of (tab_ok (l := T67) trivial) mixed (n := fuel) Try.func67 Try.call67 fun args w K h => ?_
  obtain ⟨x0, rfl, hh⟩ := of_on1 h
  unfold F67 at hh
  exact fnD_list (c := bodyOf Try.f67) (by kernel_rfl) (by kernel_rfl) (ok67_1 (fun _ _ h => h) (fun _ _ h => h) (fun _ _ _ h => h) (initE [x0]) w hh)
def T36 : List (Nat × FnT) := [(13, G13), (14, G14), (15, G15), (16, G16), (23, G23), (24, G24), (63, G63), (64, G64), (65, G65), (66, G66), (67, G67)]
def F36_3b (s0 s1 s2 : Value) (w : World) (K : V1) : Prop :=
callP G23 [s0, s2] w fun v2 w1 =>
bindP (pTuple v2 0) fun v3 =>
bindP (pTuple v2 1) fun v4 =>
callP G65 [s1, s2] w1 fun v6 w5 =>
bindP (pTuple v6 0) fun v7 =>
bindP (pTuple v6 1) fun v8 =>
callP G24 [s0, s2] w5 fun v10 w9 =>
bindP (pTuple v10 0) fun v11 =>
bindP (pTuple v10 1) fun v12 =>
callP G66 [s1, s2] w9 fun v14 w13 =>
bindP (pTuple v14 0) fun v15 =>
bindP (pTuple v14 1) fun v16 =>
callP G15 [s0] w13 fun v18 w17 =>
callP G67 [v18] w17 fun _ w19 =>
bindP (bEq Try.prog 9 (.tmp 143) (.tmp 144) v3 v7) fun v21 =>
stepM (gd true v21) v4 fun v22 =>
stepM (gd true v21) v8 fun v23 =>
Sx.stepG (gd true v21) (bEq Try.prog 24 (.tmp 147) (.tmp 148) v22 v23) fun v24 =>
bindP (pPick v21 v24 (.bool false)) fun v25 =>
stepM (gd true v25) v11 fun v26 =>
stepM (gd true v25) v15 fun v27 =>
Sx.stepG (gd true v25) (bEq Try.prog 3 (.tmp 152) (.tmp 153) v26 v27) fun v28 =>
bindP (pPick v25 v28 (.bool false)) fun v29 =>
stepM (gd true v29) v12 fun v30 =>
stepM (gd true v29) v16 fun v31 =>
Sx.stepG (gd true v29) (bEq Try.prog 24 (.tmp 157) (.tmp 158) v30 v31) fun v32 =>
bindP (pPick v29 v32 (.bool false)) fun v33 =>
K v33 w19
def F36_3 (s0 s1 s2 : Value) (w : World) (K : V1) : Prop := F36_3b s0 s1 s2 w K
theorem ok36_3 {K : V1}
    (hn : HN (fun e w => K (e 6) w) kn) (hr : HR Try.prog [.tmp 6] K kr) (he : HE noE ke) :
    ∀ e w, F36_3 (e 0) (e 1) (e 2) w K → denL Try.prog (tabOf T36) 161 fuel ((flat (bodyOf Try.f36)).drop 5) e w kn kr ke := by
  intro e w h
  unfold F36_3 at h
  have e1 : ∀ (_ : Unit), F36_3b (e 0) (e 1) (e 2) w K = denL Try.prog (tabOf T36) 161 fuel ((flat (bodyOf Try.f36)).drop 5) e w (fun e w => K (e 6) w) (endD Try.prog [.tmp 6] K) noE := by intro _; kernel_rfl
  exact seg_end (Eq.mp (e1 ()) h) hn hr he
def F36_2b (s0 s1 s2 s7 : Value) (w : World) (K : V1) (Y0 : V4) (Y1 : V3) : Prop :=
bindP (pNil s1) fun v34 =>
bindP (pFieldAddr 3 v34) fun v35 =>
bindP (ld1 v35 w) fun v36 =>
bindP (lenL v36) fun v37 =>
bindP (bLt s7 v37) fun v38 =>
ifB v38 (
bindP (pNil s1) fun v39 =>
bindP (pFieldAddr 3 v39) fun v40 =>
bindP (ld1 v40 w) fun v41 =>
bindP (pIndexL 3 v41 s7) fun v42 =>
bindP (pFieldAddr 0 v42) fun v43 =>
bindP (ld1 v43 w) fun v44 =>
callP G23 [s0, v44] w fun v46 w45 =>
bindP (pTuple v46 0) fun v47 =>
bindP (pTuple v46 1) fun v48 =>
bindP (pNil s1) fun v49 =>
bindP (pFieldAddr 3 v49) fun v50 =>
bindP (ld1 v50 w45) fun v51 =>
bindP (pIndexL 3 v51 s7) fun v52 =>
bindP (pFieldAddr 0 v52) fun v53 =>
bindP (ld1 v53 w45) fun v54 =>
callP G24 [s0, v54] w45 fun v56 w55 =>
bindP (pTuple v56 0) fun v57 =>
bindP (pTuple v56 1) fun v58 =>
bindP (pNil s1) fun v59 =>
bindP (pFieldAddr 3 v59) fun v60 =>
bindP (ld1 v60 w55) fun v61 =>
bindP (pIndexL 3 v61 s7) fun v62 =>
bindP (pFieldAddr 1 v62) fun v63 =>
bindP (ld1 v63 w55) fun v64 =>
bindP (bNe Try.prog 9 (.tmp 85) (.tmp 93) v47 v64) fun v65 =>
stepM (gd false v65) v57 fun v66 =>
stepM (gd false v65) s1 fun v67 =>
Sx.stepG (gd false v65) (pNil v67) fun v68 =>
Sx.stepG (gd false v65) (pFieldAddr 3 v68) fun v69 =>
Sx.stepG (gd false v65) (ld1 v69 w55) fun v70 =>
stepM (gd false v65) s7 fun v71 =>
Sx.stepG (gd false v65) (pIndexL 3 v70 v71) fun v72 =>
Sx.stepG (gd false v65) (pFieldAddr 2 v72) fun v73 =>
Sx.stepG (gd false v65) (ld1 v73 w55) fun v74 =>
Sx.stepG (gd false v65) (bNe Try.prog 3 (.tmp 96) (.tmp 104) v66 v74) fun v75 =>
bindP (pPick v65 (.bool true) v75) fun v76 =>
stepM (gd false v76) v48 fun v77 =>
Sx.stepG (gd false v76) (bNe Try.prog 24 (.tmp 108) (.const (.int .i64 0)) v77 (.int .i64 0)) fun v78 =>
bindP (pPick v76 (.bool true) v78) fun v79 =>
stepM (gd false v79) v58 fun v80 =>
Sx.stepG (gd false v79) (bNe Try.prog 24 (.tmp 112) (.const (.int .i64 0)) v80 (.int .i64 0)) fun v81 =>
bindP (pPick v79 (.bool true) v81) fun v82 =>
ifB v82 (
K (.bool false) w55) (
bindP (bAdd s7 (.int .i64 1)) fun v83 =>
Y0 s0 s1 s2 v83 w55)) (
Y1 s0 s1 s2 w)
def F36_2L : Nat → Value → Value → Value → Value → World → (V1) → Prop
  | 0, _, _, _, _, _, _ => False
  | n + 1, s0, s1, s2, s7, w, K => F36_2b s0 s1 s2 s7 w K (fun a0 a1 a2 a7 w => F36_2L n a0 a1 a2 a7 w K) (fun a0 a1 a2 w => F36_3 a0 a1 a2 w K)
def F36_2 (s0 s1 s2 s7 : Value) (w : World) (K : V1) : Prop := F36_2L fuel s0 s1 s2 s7 w K
theorem ok36_2 {K : V1}
    (hn : HN (fun e w => K (e 6) w) kn) (hr : HR Try.prog [.tmp 6] K kr) (he : HE noE ke) :
    ∀ e w, F36_2 (e 0) (e 1) (e 2) (e 7) w K → denL Try.prog (tabOf T36) 161 fuel ((flat (bodyOf Try.f36)).drop 4) e w kn kr ke := by
  intro e w h
  unfold F36_2 at h
  refine seg_loop (id := 0) (body := (loopB (blkB (nthC (flat (bodyOf Try.f36)) 4)))) (l2 := (flat (bodyOf Try.f36)).drop 5) (by kernel_rfl) ?_
  refine loop_ok (FL := fun m e w => F36_2L m (e 0) (e 1) (e 2) (e 7) w K) (fr := endD Try.prog [.tmp 6] K) (fe := (blkK 0 (fun e w => F36_3 (e 0) (e 1) (e 2) w K) noE)) (fun _ _ h => h) ?_ hr (blkK_mono (fun e w h => ok36_3 hn hr he e w h) he) fuel e w h
  intro m e w h
  have h : F36_2L (m + 1) (e 0) (e 1) (e 2) (e 7) w K := h
  rw [F36_2L] at h
  have e1 : ∀ (Y0 : V4) (Y1 : V3), F36_2b (e 0) (e 1) (e 2) (e 7) w K Y0 Y1 = denL Try.prog (tabOf T36) 161 fuel (flat (loopB (blkB (nthC (flat (bodyOf Try.f36)) 4)))) e w (fun e w => Y0 (e 0) (e 1) (e 2) (e 7) w) (endD Try.prog [.tmp 6] K) (blkK 0 (fun e w => Y1 (e 0) (e 1) (e 2) w) noE) := by intro Y0 Y1; kernel_rfl
  exact Eq.mp (e1 (fun a0 a1 a2 a7 w => F36_2L m a0 a1 a2 a7 w K) (fun a0 a1 a2 w => F36_3 a0 a1 a2 w K)) h
def F36_1b (s0 s1 s2 : Value) (w : World) (K : V1) (Y0 : V4) : Prop :=
callP G15 [s0] w.drew fun v85 w84 =>
callP G63 [s1] w84 fun v87 w86 =>
callP G14 [v85, v87] w86 fun v89 w88 =>
bindP (uNot v89) fun v90 =>
stepM (gd false v90) s0 fun v91 =>
stepM (gd false v90) s1 fun v92 =>
stepE (gd false v90) (fun k => callP G16 [v91] w88 k) w88 fun v94 w93 =>
stepE (gd false v90) (fun k => callP G64 [v92] w93 k) w93 fun v96 w95 =>
Sx.stepG (gd false v90) (bNe Try.prog 3 (.tmp 29) (.tmp 31) v94 v96) fun v97 =>
bindP (pPick v90 (.bool true) v97) fun v98 =>
stepM (gd false v98) s0 fun v99 =>
stepM (gd false v98) s1 fun v100 =>
Sx.stepG (gd false v98) (pNil v100) fun v101 =>
Sx.stepG (gd false v98) (pFieldAddr 1 v101) fun v102 =>
Sx.stepG (gd false v98) (ld1 v102 w95) fun v103 =>
stepE (gd false v98) (fun k => callP G13 [v99] w95 k) w95 fun v105 w104 =>
fok (gd false v98) (ld1 v102 w104) v103 ∧ (stepM (gd false v98) v103 fun v106 =>
stepM (gd true v106) s1 fun v107 =>
Sx.stepG (gd true v106) (pNil v107) fun v108 =>
Sx.stepG (gd true v106) (pFieldAddr 2 v108) fun v109 =>
Sx.stepG (gd true v106) (ld1 v109 w104) fun v110 =>
Sx.stepG (gd true v106) (bEq Try.prog 3 (.tmp 45) (.const (.int .i64 0)) v110 (.int .i64 0)) fun v111 =>
Sx.stepG (gd false v98) (pPick v106 v111 (.bool false)) fun v112 =>
Sx.stepG (gd false v98) (bNe Try.prog 4 (.tmp 36) (.tmp 47) v105 v112) fun v113 =>
bindP (pPick v98 (.bool true) v113) fun v114 =>
ifB v114 (
K (.bool false) w104) (
Y0 s0 s1 s2 (.int .i64 0) w104))
def F36_1 (s0 s1 s2 : Value) (w : World) (K : V1) : Prop := F36_1b s0 s1 s2 w K (fun a0 a1 a2 a7 w => F36_2 a0 a1 a2 a7 w K)
theorem ok36_1 {K : V1}
    (hn : HN (fun e w => K (e 6) w) kn) (hr : HR Try.prog [.tmp 6] K kr) (he : HE noE ke) :
    ∀ e w, F36_1 (e 0) (e 1) (e 2) w K → denL Try.prog (tabOf T36) 161 fuel ((flat (bodyOf Try.f36)).drop 0) e w kn kr ke := by
  intro e w h
  unfold F36_1 at h
  have e1 : ∀ (Y0 : V4), F36_1b (e 0) (e 1) (e 2) w K Y0 = denL Try.prog (tabOf T36) 161 fuel (((flat (bodyOf Try.f36)).drop 0).take 4) e w (fun e w => Y0 (e 0) (e 1) (e 2) (e 7) w) (endD Try.prog [.tmp 6] K) noE := by intro Y0; kernel_rfl
  exact seg 4 (Eq.mp (e1 (fun a0 a1 a2 a7 w => F36_2 a0 a1 a2 a7 w K)) h) (fun e w h => ok36_2 hn hr he e w h) hr he
def F36 (x0 x1 x2 : Value) (w : World) (K : V1) : Prop := F36_1 x0 x1 x2 w K
def G36 : FnT := fun args w K => on3 (fun x0 x1 x2 => F36 x0 x1 x2 w K) args
theorem c36 {x0 x1 x2 : Value} {w : World} {K : V1} (h : F36 x0 x1 x2 w K) : callP G36 [x0, x1, x2] w K := callP_intro (on3_mk (p := fun x0 x1 x2 => F36 x0 x1 x2 w K) h)
theorem ok36 : OkF Try.prog 36 G36 := by
  refine okF_of (tab_ok (l := T36) ⟨ok13, ok14, ok15, ok16, ok23, ok24, ok63, ok64, ok65, ok66, ok67, trivial⟩) mixed (n := fuel) Try.func36 Try.call36 fun args w K h => ?_
  obtain ⟨x0, x1, x2, rfl, hh⟩ := of_on3 h
  unfold F36 at hh
  exact fnD_list (c := bodyOf Try.f36) (by kernel_rfl) (by kernel_rfl) (ok36_1 (fun _ _ h => h) (fun _ _ h => h) (fun _ _ _ h => h) (initE [x0, x1, x2]) w hh)
def T78 : List (Nat × FnT) := []
def F78 (x0 : Value) (w : World) (K : V1) : Prop :=
bindP (lenS x0) fun v1 =>
bindP (bGe v1 (.int .i64 1)) fun v2 =>
stepM (gd true v2) x0 fun v3 =>
Sx.stepG (gd true v2) (lenS v3) fun v4 =>
Sx.stepG (gd true v2) (bLe v4 (.int .i64 64)) fun v5 =>
bindP (pPick v2 v5 (.bool false)) fun v6 =>
K v6 w
def G78 : FnT := fun args w K => on1 (fun x0 => F78 x0 w K) args
theorem c78 {x0 : Value} {w : World} {K : V1} (h : F78 x0 w K) : callP G78 [x0] w K := callP_intro (on1_mk (p := fun x0 => F78 x0 w K) h)
theorem ok78 : OkF Try.prog 78 G78 := by
  refine okF_of (tab_ok (l := T78) trivial) mixed (n := fuel) Try.func78 Try.call78 fun args w K h => ?_
  obtain ⟨x0, rfl, hh⟩ := of_on1 h
  exact fnD_list (c := bodyOf Try.f78) (by kernel_rfl) (by kernel_rfl) (Eq.mp (by kernel_rfl) hh)
def T80 : List (Nat × FnT) := []
def F80 (x0 : Value) (w : World) (K : V1) : Prop :=
bindP (pNil x0) fun v1 =>
bindP (pFieldAddr 1 v1) fun v2 =>
bindP (ld1 v2 w) fun v3 =>
bindP (uNot v3) fun v4 =>
ifB v4 (
K (.bool true) w) (
bindP (pNil x0) fun v5 =>
bindP (pFieldAddr 2 v5) fun v6 =>
bindP (ld1 v6 w) fun v7 =>
bindP (bEq Try.prog 3 (.tmp 11) (.const (.int .i64 0)) v7 (.int .i64 0)) fun v8 =>
ifB v8 (
K (.bool false) w) (
bindP (pNil x0) fun v9 =>
bindP (pFieldAddr 2 v9) fun v10 =>
bindP (ld1 v10 w) fun v11 =>
bindP (bSub v11 (.int .i64 1)) fun v12 =>
bindP (pNil x0) fun v13 =>
bindP (pFieldAddr 2 v13) fun v14 =>
bindW (st 1 v14 v12 w) fun w15 =>
K (.bool true) w15))
def G80 : FnT := fun args w K => on1 (fun x0 => F80 x0 w K) args
theorem c80 {x0 : Value} {w : World} {K : V1} (h : F80 x0 w K) : callP G80 [x0] w K := callP_intro (on1_mk (p := fun x0 => F80 x0 w K) h)
theorem ok80 : OkF Try.prog 80 G80 := by
  refine okF_of (tab_ok (l := T80) trivial) mixed (n := fuel) Try.func80 Try.call80 fun args w K h => ?_
  obtain ⟨x0, rfl, hh⟩ := of_on1 h
  exact fnD_list (c := bodyOf Try.f80) (by kernel_rfl) (by kernel_rfl) (Eq.mp (by kernel_rfl) hh)
def T82 : List (Nat × FnT) := []
def F82_3b (s0 s4 : Value) (w : World) (K : V1) : Prop :=
bindP (pNil s0) fun v1 =>
bindP (pFieldAddr 3 v1) fun v2 =>
bindW (st 1 v2 s4 w) fun w3 =>
K (.tuple #[]) w3
def F82_3 (s0 s4 : Value) (w : World) (K : V1) : Prop := F82_3b s0 s4 w K
theorem ok82_3 {K : V1}
    (hn : HN (fun e w => K (.tuple #[]) w) kn) (hr : HR Try.prog [] K kr) (he : HE noE ke) :
    ∀ e w, F82_3 (e 0) (e 4) w K → denL Try.prog (tabOf T82) 39 fuel ((flat (bodyOf Try.f82)).drop 3) e w kn kr ke := by
  intro e w h
  unfold F82_3 at h
  have e1 : ∀ (_ : Unit), F82_3b (e 0) (e 4) w K = denL Try.prog (tabOf T82) 39 fuel ((flat (bodyOf Try.f82)).drop 3) e w (fun e w => K (.tuple #[]) w) (endD Try.prog [] K) noE := by intro _; kernel_rfl
  exact seg_end (Eq.mp (e1 ()) h) hn hr he
def F82_5b (s0 s1 s4 s5 : Value) (w : World) (_K : V1) (R3 : V4) : Prop :=
bindP (bAdd s5 (.int .i64 1)) fun v5 =>
R3 s0 s1 s4 v5 w
def F82_5 (s0 s1 s4 s5 : Value) (w : World) (K : V1) (R3 : V4) : Prop := F82_5b s0 s1 s4 s5 w K R3
theorem ok82_5 (R3 : V4) {K : V1}
    (hn : HN (fun e w => R3 (e 0) (e 1) (e 4) (e 5) w) kn) (hr : HR Try.prog [] K kr) (he : HE (blkK 0 (fun e w => F82_3 (e 0) (e 4) w K) noE) ke) :
    ∀ e w, F82_5 (e 0) (e 1) (e 4) (e 5) w K R3 → denL Try.prog (tabOf T82) 39 fuel ((flat (loopB (blkB (nthC (flat (bodyOf Try.f82)) 2)))).drop 3) e w kn kr ke := by
  intro e w h
  unfold F82_5 at h
  have e1 : ∀ (_ : Unit), F82_5b (e 0) (e 1) (e 4) (e 5) w K R3 = denL Try.prog (tabOf T82) 39 fuel ((flat (loopB (blkB (nthC (flat (bodyOf Try.f82)) 2)))).drop 3) e w (fun e w => R3 (e 0) (e 1) (e 4) (e 5) w) (endD Try.prog [] K) (blkK 0 (fun e w => F82_3 (e 0) (e 4) w K) noE) := by intro _; kernel_rfl
  exact seg_end (Eq.mp (e1 ()) h) hn hr he
def F82_4b (s0 s1 s4 s5 : Value) (w : World) (_K : V1) (R3 : V4) (Y0 : V4) (Y1 : V2) : Prop :=
bindP (pNil s0) fun v6 =>
bindP (pFieldAddr 3 v6) fun v7 =>
bindP (ld1 v7 w) fun v8 =>
bindP (lenL v8) fun v9 =>
bindP (bLt s5 v9) fun v10 =>
ifB v10 (
bindP (pNil s0) fun v11 =>
bindP (pFieldAddr 3 v11) fun v12 =>
bindP (ld1 v12 w) fun v13 =>
bindP (pIndexL 3 v13 s5) fun v14 =>
bindP (pFieldAddr 0 v14) fun v15 =>
bindP (ld1 v15 w) fun v16 =>
bindP (bNe Try.prog 9 (.tmp 22) (.tmp 23) v16 s1) fun v17 =>
ifB v17 (
bindP (pNil s0) fun v18 =>
bindP (pFieldAddr 3 v18) fun v19 =>
bindP (ld1 v19 w) fun v20 =>
bindP (pIndexL 3 v20 s5) fun v21 =>
bindP (ldN 3 v21 w) fun v22 =>
eBuildSl Try.prog 99 1 [(0, v22)] w fun v24 w23 =>
eAppend Try.prog 99 99 s4 v24 w23 fun v26 w25 =>
Y0 s0 s1 v26 s5 w25) (
Y0 s0 s1 s4 s5 w)) (
Y1 s0 s4 w)
def F82_4 (s0 s1 s4 s5 : Value) (w : World) (K : V1) (R3 : V4) : Prop := F82_4b s0 s1 s4 s5 w K R3 (fun a0 a1 a4 a5 w => F82_5 a0 a1 a4 a5 w K R3) (fun a0 a4 w => F82_3 a0 a4 w K)
theorem ok82_4 (R3 : V4) {K : V1}
    (hn : HN (fun e w => R3 (e 0) (e 1) (e 4) (e 5) w) kn) (hr : HR Try.prog [] K kr) (he : HE (blkK 0 (fun e w => F82_3 (e 0) (e 4) w K) noE) ke) :
    ∀ e w, F82_4 (e 0) (e 1) (e 4) (e 5) w K R3 → denL Try.prog (tabOf T82) 39 fuel ((flat (loopB (blkB (nthC (flat (bodyOf Try.f82)) 2)))).drop 0) e w kn kr ke := by
  intro e w h
  unfold F82_4 at h
  have e1 : ∀ (Y0 : V4) (Y1 : V2), F82_4b (e 0) (e 1) (e 4) (e 5) w K R3 Y0 Y1 = denL Try.prog (tabOf T82) 39 fuel (((flat (loopB (blkB (nthC (flat (bodyOf Try.f82)) 2)))).drop 0).take 3) e w (fun e w => Y0 (e 0) (e 1) (e 4) (e 5) w) (endD Try.prog [] K) (blkK 0 (fun e w => Y1 (e 0) (e 4) w) noE) := by intro Y0 Y1; kernel_rfl
  exact seg 3 (Eq.mp (e1 (fun a0 a1 a4 a5 w => F82_5 a0 a1 a4 a5 w K R3) (fun a0 a4 w => F82_3 a0 a4 w K)) h) (fun e w h => ok82_5 R3 hn hr he e w h) hr he
def F82_2L : Nat → Value → Value → Value → Value → World → (V1) → Prop
  | 0, _, _, _, _, _, _ => False
  | n + 1, s0, s1, s4, s5, w, K => F82_4 s0 s1 s4 s5 w K (fun a0 a1 a4 a5 w => F82_2L n a0 a1 a4 a5 w K)
def F82_2 (s0 s1 s4 s5 : Value) (w : World) (K : V1) : Prop := F82_2L fuel s0 s1 s4 s5 w K
theorem ok82_2 {K : V1}
    (hn : HN (fun e w => K (.tuple #[]) w) kn) (hr : HR Try.prog [] K kr) (he : HE noE ke) :
    ∀ e w, F82_2 (e 0) (e 1) (e 4) (e 5) w K → denL Try.prog (tabOf T82) 39 fuel ((flat (bodyOf Try.f82)).drop 2) e w kn kr ke := by
  intro e w h
  unfold F82_2 at h
  refine seg_loop (id := 0) (body := (loopB (blkB (nthC (flat (bodyOf Try.f82)) 2)))) (l2 := (flat (bodyOf Try.f82)).drop 3) (by kernel_rfl) ?_
  refine loop_ok (FL := fun m e w => F82_2L m (e 0) (e 1) (e 4) (e 5) w K) (fr := endD Try.prog [] K) (fe := (blkK 0 (fun e w => F82_3 (e 0) (e 4) w K) noE)) (fun _ _ h => h) ?_ hr (blkK_mono (fun e w h => ok82_3 hn hr he e w h) he) fuel e w h
  intro m e w h
  have h : F82_2L (m + 1) (e 0) (e 1) (e 4) (e 5) w K := h
  rw [F82_2L] at h
  exact ok82_4 (fun a0 a1 a4 a5 w => F82_2L m a0 a1 a4 a5 w K) (fun _ _ h => h) (fun _ _ h => h) (fun _ _ _ h => h) e w h
def F82_1b (s0 s1 : Value) (w : World) (_K : V1) (Y0 : V4) : Prop :=
Y0 s0 s1 (.slice none 0 0) (.int .i64 0) w
def F82_1 (s0 s1 : Value) (w : World) (K : V1) : Prop := F82_1b s0 s1 w K (fun a0 a1 a4 a5 w => F82_2 a0 a1 a4 a5 w K)
theorem ok82_1 {K : V1}
    (hn : HN (fun e w => K (.tuple #[]) w) kn) (hr : HR Try.prog [] K kr) (he : HE noE ke) :
    ∀ e w, F82_1 (e 0) (e 1) w K → denL Try.prog (tabOf T82) 39 fuel ((flat (bodyOf Try.f82)).drop 0) e w kn kr ke := by
  intro e w h
  unfold F82_1 at h
  have e1 : ∀ (Y0 : V4), F82_1b (e 0) (e 1) w K Y0 = denL Try.prog (tabOf T82) 39 fuel (((flat (bodyOf Try.f82)).drop 0).take 2) e w (fun e w => Y0 (e 0) (e 1) (e 4) (e 5) w) (endD Try.prog [] K) noE := by intro Y0; kernel_rfl
  exact seg 2 (Eq.mp (e1 (fun a0 a1 a4 a5 w => F82_2 a0 a1 a4 a5 w K)) h) (fun e w h => ok82_2 hn hr he e w h) hr he
def F82 (x0 x1 : Value) (w : World) (K : V1) : Prop := F82_1 x0 x1 w K
def G82 : FnT := fun args w K => on2 (fun x0 x1 => F82 x0 x1 w K) args
theorem c82 {x0 x1 : Value} {w : World} {K : V1} (h : F82 x0 x1 w K) : callP G82 [x0, x1] w K := callP_intro (on2_mk (p := fun x0 x1 => F82 x0 x1 w K) h)
theorem ok82 : OkF Try.prog 82 G82 := by
  refine okF_of (tab_ok (l := T82) trivial) mixed (n := fuel) Try.func82 Try.call82 fun args w K h => ?_
  obtain ⟨x0, x1, rfl, hh⟩ := of_on2 h
  unfold F82 at hh
  exact fnD_list (c := bodyOf Try.f82) (by kernel_rfl) (by kernel_rfl) (ok82_1 (fun _ _ h => h) (fun _ _ h => h) (fun _ _ _ h => h) (initE [x0, x1]) w hh)
def T81 : List (Nat × FnT) := [(82, G82)]
def F81_3b (s0 s3 s4 : Value) (w : World) (K : V1) : Prop :=
bindP (pNil s0) fun v1 =>
bindP (pFieldAddr 3 v1) fun v2 =>
bindP (ld1 v2 w) fun v3 =>
bindP (pSliceL 3 v3 none (some s4) none) fun v4 =>
eAppend Try.prog 99 99 (.slice none 0 0) v4 w fun v6 w5 =>
bindP (ldN 3 s3 w5) fun v7 =>
eBuildSl Try.prog 99 1 [(0, v7)] w5 fun v9 w8 =>
eAppend Try.prog 99 99 v6 v9 w8 fun v11 w10 =>
bindP (pNil s0) fun v12 =>
bindP (pFieldAddr 3 v12) fun v13 =>
bindP (ld1 v13 w10) fun v14 =>
bindP (pSliceL 3 v14 (some s4) none none) fun v15 =>
eAppend Try.prog 99 99 v11 v15 w10 fun v17 w16 =>
bindP (pNil s0) fun v18 =>
bindP (pFieldAddr 3 v18) fun v19 =>
bindW (st 1 v19 v17 w16) fun w20 =>
K (.tuple #[]) w20
def F81_3 (s0 s3 s4 : Value) (w : World) (K : V1) : Prop := F81_3b s0 s3 s4 w K
theorem ok81_3 {K : V1}
    (hn : HN (fun e w => K (.tuple #[]) w) kn) (hr : HR Try.prog [] K kr) (he : HE noE ke) :
    ∀ e w, F81_3 (e 0) (e 3) (e 4) w K → denL Try.prog (tabOf T81) 55 fuel ((flat (bodyOf Try.f81)).drop 4) e w kn kr ke := by
  intro e w h
  unfold F81_3 at h
  have e1 : ∀ (_ : Unit), F81_3b (e 0) (e 3) (e 4) w K = denL Try.prog (tabOf T81) 55 fuel ((flat (bodyOf Try.f81)).drop 4) e w (fun e w => K (.tuple #[]) w) (endD Try.prog [] K) noE := by intro _; kernel_rfl
  exact seg_end (Eq.mp (e1 ()) h) hn hr he
def F81_2b (s0 s3 s4 : Value) (w : World) (_K : V1) (Y0 : V3) (Y1 : V3) : Prop :=
bindP (pNil s0) fun v22 =>
bindP (pFieldAddr 3 v22) fun v23 =>
bindP (ld1 v23 w.drew) fun v24 =>
bindP (lenL v24) fun v25 =>
bindP (bLt s4 v25) fun v26 =>
stepM (gd true v26) s0 fun v27 =>
Sx.stepG (gd true v26) (pNil v27) fun v28 =>
Sx.stepG (gd true v26) (pFieldAddr 3 v28) fun v29 =>
Sx.stepG (gd true v26) (ld1 v29 w.drew) fun v30 =>
stepM (gd true v26) s4 fun v31 =>
Sx.stepG (gd true v26) (pIndexL 3 v30 v31) fun v32 =>
Sx.stepG (gd true v26) (pFieldAddr 0 v32) fun v33 =>
Sx.stepG (gd true v26) (ld1 v33 w.drew) fun v34 =>
Sx.stepG (gd true v26) (pFieldAddr 0 s3) fun v35 =>
Sx.stepG (gd true v26) (ld1 v35 w.drew) fun v36 =>
Sx.stepG (gd true v26) (bLt v34 v36) fun v37 =>
bindP (pPick v26 v37 (.bool false)) fun v38 =>
ifB v38 (
bindP (bAdd s4 (.int .i64 1)) fun v39 =>
Y0 s0 s3 v39 w.drew) (
Y1 s0 s3 s4 w.drew)
def F81_2L : Nat → Value → Value → Value → World → (V1) → Prop
  | 0, _, _, _, _, _ => False
  | n + 1, s0, s3, s4, w, K => F81_2b s0 s3 s4 w K (fun a0 a3 a4 w => F81_2L n a0 a3 a4 w K) (fun a0 a3 a4 w => F81_3 a0 a3 a4 w K)
def F81_2 (s0 s3 s4 : Value) (w : World) (K : V1) : Prop := F81_2L fuel s0 s3 s4 w K
theorem ok81_2 {K : V1}
    (hn : HN (fun e w => K (.tuple #[]) w) kn) (hr : HR Try.prog [] K kr) (he : HE noE ke) :
    ∀ e w, F81_2 (e 0) (e 3) (e 4) w K → denL Try.prog (tabOf T81) 55 fuel ((flat (bodyOf Try.f81)).drop 3) e w kn kr ke := by
  intro e w h
  unfold F81_2 at h
  refine seg_loop (id := 0) (body := (loopB (blkB (nthC (flat (bodyOf Try.f81)) 3)))) (l2 := (flat (bodyOf Try.f81)).drop 4) (by kernel_rfl) ?_
  refine loop_ok (FL := fun m e w => F81_2L m (e 0) (e 3) (e 4) w K) (fr := endD Try.prog [] K) (fe := (blkK 0 (fun e w => F81_3 (e 0) (e 3) (e 4) w K) noE)) (fun _ _ h => h) ?_ hr (blkK_mono (fun e w h => ok81_3 hn hr he e w h) he) fuel e w h
  intro m e w h
  have h : F81_2L (m + 1) (e 0) (e 3) (e 4) w K := h
  rw [F81_2L] at h
  have e1 : ∀ (Y0 : V3) (Y1 : V3), F81_2b (e 0) (e 3) (e 4) w K Y0 Y1 = denL Try.prog (tabOf T81) 55 fuel (flat (loopB (blkB (nthC (flat (bodyOf Try.f81)) 3)))) e w (fun e w => Y0 (e 0) (e 3) (e 4) w) (endD Try.prog [] K) (blkK 0 (fun e w => Y1 (e 0) (e 3) (e 4) w) noE) := by intro Y0 Y1; kernel_rfl
  exact Eq.mp (e1 (fun a0 a3 a4 w => F81_2L m a0 a3 a4 w K) (fun a0 a3 a4 w => F81_3 a0 a3 a4 w K)) h
def F81_1b (s0 s1 : Value) (w : World) (_K : V1) (Y0 : V3) : Prop :=
eBox 105 s1 w fun v41 w40 =>
bindP (pFieldAddr 0 v41) fun v42 =>
bindP (ld1 v42 w40) fun v43 =>
callP G82 [s0, v43] w40 fun _ w44 =>
Y0 s0 v41 (.int .i64 0) w44
def F81_1 (s0 s1 : Value) (w : World) (K : V1) : Prop := F81_1b s0 s1 w K (fun a0 a3 a4 w => F81_2 a0 a3 a4 w K)
theorem ok81_1 {K : V1}
    (hn : HN (fun e w => K (.tuple #[]) w) kn) (hr : HR Try.prog [] K kr) (he : HE noE ke) :
    ∀ e w, F81_1 (e 0) (e 1) w K → denL Try.prog (tabOf T81) 55 fuel ((flat (bodyOf Try.f81)).drop 0) e w kn kr ke := by
  intro e w h
  unfold F81_1 at h
  have e1 : ∀ (Y0 : V3), F81_1b (e 0) (e 1) w K Y0 = denL Try.prog (tabOf T81) 55 fuel (((flat (bodyOf Try.f81)).drop 0).take 3) e w (fun e w => Y0 (e 0) (e 3) (e 4) w) (endD Try.prog [] K) noE := by intro Y0; kernel_rfl
  exact seg 3 (Eq.mp (e1 (fun a0 a3 a4 w => F81_2 a0 a3 a4 w K)) h) (fun e w h => ok81_2 hn hr he e w h) hr he
def F81 (x0 x1 : Value) (w : World) (K : V1) : Prop := F81_1 x0 x1 w K
def G81 : FnT := fun args w K => on2 (fun x0 x1 => F81 x0 x1 w K) args
theorem c81 {x0 x1 : Value} {w : World} {K : V1} (h : F81 x0 x1 w K) : callP G81 [x0, x1] w K := callP_intro (on2_mk (p := fun x0 x1 => F81 x0 x1 w K) h)
theorem ok81 : OkF Try.prog 81 G81 := by
  refine okF_of (tab_ok (l := T81) ⟨ok82, trivial⟩) mixed (n := fuel) Try.func81 Try.call81 fun args w K h => ?_
  obtain ⟨x0, x1, rfl, hh⟩ := of_on2 h
  unfold F81 at hh
  exact fnD_list (c := bodyOf Try.f81) (by kernel_rfl) (by kernel_rfl) (ok81_1 (fun _ _ h => h) (fun _ _ h => h) (fun _ _ _ h => h) (initE [x0, x1]) w hh)
def T52 : List (Nat × FnT) := [(78, G78), (79, G79), (80, G80), (81, G81)]
def F52 (x0 x1 : Value) (w : World) (K : V1) : Prop :=
callP G78 [x1] w fun v2 w1 =>
bindP (uNot v2) fun v3 =>
ifB v3 (
K (.int .i64 1) w1) (
callP G79 [x0, x1] w1 fun v5 w4 =>
bindP (bGe v5 (.int .i64 0)) fun v6 =>
ifB v6 (
K (.int .i64 6) w4) (
callP G80 [x0] w4 fun v8 w7 =>
bindP (uNot v8) fun v9 =>
ifB v9 (
K (.int .i64 251) w7) (
bindP (fBuild Try.prog 105 [(0, x1)]) fun v10 =>
callP G81 [x0, v10] w7 fun _ w11 =>
K (.int .i64 0) w11)))
def G52 : FnT := fun args w K => on2 (fun x0 x1 => F52 x0 x1 w K) args
theorem c52 {x0 x1 : Value} {w : World} {K : V1} (h : F52 x0 x1 w K) : callP G52 [x0, x1] w K := callP_intro (on2_mk (p := fun x0 x1 => F52 x0 x1 w K) h)
theorem ok52 : OkF Try.prog 52 G52 := by
  refine okF_of (tab_ok (l := T52) ⟨ok78, ok79, ok80, ok81, trivial⟩) mixed (n := fuel) Try.func52 Try.call52 fun args w K h => ?_
  obtain ⟨x0, x1, rfl, hh⟩ := of_on2 h
  exact fnD_list (c := bodyOf Try.f52) (by kernel_rfl) (by kernel_rfl) (Eq.mp (by kernel_rfl) hh)
def T53 : List (Nat × FnT) := [(64, G64), (79, G79), (80, G80), (81, G81)]
def F53 (x0 x1 x2 : Value) (w : World) (K : V1) : Prop :=
callP G79 [x0, x1] w fun v2 w1 =>
bindP (bLt v2 (.int .i64 0)) fun v3 =>
ifB v3 (
K (.int .i64 5) w1) (
bindP (lenS x2) fun v4 =>
bindP (pNil x0) fun v5 =>
bindP (pFieldAddr 0 v5) fun v6 =>
bindP (ld1 v6 w1.drew) fun v7 =>
callP G64 [x0] w1.drew fun v9 w8 =>
(fok true (lenS x2) v4 ∧ fok true (ld1 v6 w8) v7) ∧ (bindP (bSub v7 v9) fun v10 =>
bindP (bGt v4 v10) fun v11 =>
ifB v11 (
K (.int .i64 250) w8) (
callP G80 [x0] w8 fun v13 w12 =>
bindP (uNot v13) fun v14 =>
ifB v14 (
K (.int .i64 251) w12) (
bindP (pNil x0) fun v15 =>
bindP (pFieldAddr 3 v15) fun v16 =>
bindP (ld1 v16 w12) fun v17 =>
bindP (pIndexL 3 v17 v2) fun v18 =>
bindP (ldN 3 v18 w12) fun v19 =>
eAlloc Try.prog 105 w12 fun v21 w20 =>
bindW (st 3 v21 v19 w20) fun w22 =>
bindP (pFieldAddr 1 v21) fun v24 =>
bindP (ld1 v24 w22) fun v25 =>
bindP (bAdd v25 x2) fun v26 =>
bindP (pFieldAddr 1 v21) fun v27 =>
bindW (st 1 v27 v26 w22) fun w28 =>
bindP (ldN 3 v21 w28) fun v30 =>
callP G81 [x0, v30] w28 fun _ w31 =>
K (.int .i64 0) w31))))
def G53 : FnT := fun args w K => on3 (fun x0 x1 x2 => F53 x0 x1 x2 w K) args
theorem c53 {x0 x1 x2 : Value} {w : World} {K : V1} (h : F53 x0 x1 x2 w K) : callP G53 [x0, x1, x2] w K := callP_intro (on3_mk (p := fun x0 x1 x2 => F53 x0 x1 x2 w K) h)
theorem ok53 : OkF Try.prog 53 G53 := by
  refine okF_of (tab_ok (l := T53) ⟨ok64, ok79, ok80, ok81, trivial⟩) mixed (n := fuel) Try.func53 Try.call53 fun args w K h => ?_
  obtain ⟨x0, x1, x2, rfl, hh⟩ := of_on3 h
  exact fnD_list (c := bodyOf Try.f53) (by kernel_rfl) (by kernel_rfl) (Eq.mp (by kernel_rfl) hh)
def T54 : List (Nat × FnT) := [(79, G79), (80, G80), (81, G81)]
def F54 (x0 x1 : Value) (w : World) (K : V1) : Prop :=
callP G79 [x0, x1] w fun v2 w1 =>
bindP (bLt v2 (.int .i64 0)) fun v3 =>
ifB v3 (
K (.int .i64 5) w1) (
callP G80 [x0] w1 fun v5 w4 =>
bindP (uNot v5) fun v6 =>
ifB v6 (
K (.int .i64 251) w4) (
bindP (pNil x0) fun v7 =>
bindP (pFieldAddr 3 v7) fun v8 =>
bindP (ld1 v8 w4) fun v9 =>
bindP (pIndexL 3 v9 v2) fun v10 =>
bindP (ldN 3 v10 w4) fun v11 =>
eAlloc Try.prog 105 w4 fun v13 w12 =>
bindW (st 3 v13 v11 w12) fun w14 =>
bindP (pFieldAddr 1 v13) fun v16 =>
bindP (ld1 v16 w14) fun v17 =>
bindP (lenS v17) fun v18 =>
bindP (pFieldAddr 2 v13) fun v19 =>
bindW (st 1 v19 v18 w14) fun w20 =>
bindP (ldN 3 v13 w20) fun v22 =>
callP G81 [x0, v22] w20 fun _ w23 =>
K (.int .i64 0) w23))
def G54 : FnT := fun args w K => on2 (fun x0 x1 => F54 x0 x1 w K) args
theorem c54 {x0 x1 : Value} {w : World} {K : V1} (h : F54 x0 x1 w K) : callP G54 [x0, x1] w K := callP_intro (on2_mk (p := fun x0 x1 => F54 x0 x1 w K) h)
theorem ok54 : OkF Try.prog 54 G54 := by
  refine okF_of (tab_ok (l := T54) ⟨ok79, ok80, ok81, trivial⟩) mixed (n := fuel) Try.func54 Try.call54 fun args w K h => ?_
  obtain ⟨x0, x1, rfl, hh⟩ := of_on2 h
  exact fnD_list (c := bodyOf Try.f54) (by kernel_rfl) (by kernel_rfl) (Eq.mp (by kernel_rfl) hh)
def T55 : List (Nat × FnT) := [(78, G78), (79, G79), (80, G80), (81, G81), (82, G82)]
def F55 (x0 x1 x2 : Value) (w : World) (K : V1) : Prop :=
callP G79 [x0, x1] w fun v2 w1 =>
bindP (bLt v2 (.int .i64 0)) fun v3 =>
ifB v3 (
K (.int .i64 5) w1) (
callP G78 [x2] w1 fun v5 w4 =>
bindP (uNot v5) fun v6 =>
ifB v6 (
K (.int .i64 1) w4) (
callP G80 [x0] w4 fun v8 w7 =>
bindP (uNot v8) fun v9 =>
ifB v9 (
K (.int .i64 251) w7) (
bindP (pNil x0) fun v10 =>
bindP (pFieldAddr 3 v10) fun v11 =>
bindP (ld1 v11 w7) fun v12 =>
bindP (pIndexL 3 v12 v2) fun v13 =>
bindP (ldN 3 v13 w7) fun v14 =>
eAlloc Try.prog 105 w7 fun v16 w15 =>
bindW (st 3 v16 v14 w15) fun w17 =>
callP G82 [x0, x1] w17 fun _ w19 =>
bindP (pFieldAddr 0 v16) fun v21 =>
bindW (st 1 v21 x2 w19) fun w22 =>
bindP (ldN 3 v16 w22) fun v24 =>
callP G81 [x0, v24] w22 fun _ w25 =>
K (.int .i64 0) w25)))
def G55 : FnT := fun args w K => on3 (fun x0 x1 x2 => F55 x0 x1 x2 w K) args
theorem c55 {x0 x1 x2 : Value} {w : World} {K : V1} (h : F55 x0 x1 x2 w K) : callP G55 [x0, x1, x2] w K := callP_intro (on3_mk (p := fun x0 x1 x2 => F55 x0 x1 x2 w K) h)
theorem ok55 : OkF Try.prog 55 G55 := by
  refine okF_of (tab_ok (l := T55) ⟨ok78, ok79, ok80, ok81, ok82, trivial⟩) mixed (n := fuel) Try.func55 Try.call55 fun args w K h => ?_
  obtain ⟨x0, x1, x2, rfl, hh⟩ := of_on3 h
  exact fnD_list (c := bodyOf Try.f55) (by kernel_rfl) (by kernel_rfl) (Eq.mp (by kernel_rfl) hh)
def T56 : List (Nat × FnT) := [(46, G46)]
def F56 (x0 x1 x2 : Value) (w : World) (K : V1) : Prop :=
bindP (pNil x0) fun v1 =>
bindP (pFieldAddr 1 v1) fun v2 =>
bindP (ld1 v2 w) fun v3 =>
bindP (fLook Try.prog 78 v3 x1 true w) fun v4 =>
bindP (pTuple v4 0) fun v5 =>
bindP (pTuple v4 1) fun v6 =>
eAlloc Try.prog 86 w fun v8 w7 =>
bindW (st 2 v8 v5 w7) fun w9 =>
bindP (uNot v6) fun v11 =>
ifB v11 (
K (.int .i64 5) w9) (
bindP (bLt x2 (.int .i64 0)) fun v12 =>
stepM (gd false v12) x2 fun v13 =>
Sx.stepG (gd false v12) (pFieldAddr 0 v8) fun v14 =>
Sx.stepG (gd false v12) (ld1 v14 w9) fun v15 =>
Sx.stepG (gd false v12) (lenS v15) fun v16 =>
Sx.stepG (gd false v12) (bGt v13 v16) fun v17 =>
bindP (pPick v12 (.bool true) v17) fun v18 =>
ifB v18 (
K (.int .i64 1) w9) (
bindP (pFieldAddr 0 v8) fun v19 =>
bindP (ld1 v19 w9.drew) fun v20 =>
bindP (pSliceS v20 none (some x2)) fun v21 =>
bindP (pFieldAddr 1 v8) fun v22 =>
bindP (ld1 v22 w9.drew) fun v23 =>
bindP (pMin v23 x2) fun v24 =>
bindP (fBuild Try.prog 86 [(0, v21), (1, v24)]) fun v25 =>
callP G46 [x0, x1, v25] w9.drew fun v27 w26 =>
K v27 w26))
def G56 : FnT := fun args w K => on3 (fun x0 x1 x2 => F56 x0 x1 x2 w K) args
theorem c56 {x0 x1 x2 : Value} {w : World} {K : V1} (h : F56 x0 x1 x2 w K) : callP G56 [x0, x1, x2] w K := callP_intro (on3_mk (p := fun x0 x1 x2 => F56 x0 x1 x2 w K) h)
theorem ok56 : OkF Try.prog 56 G56 := by
  refine okF_of (tab_ok (l := T56) ⟨ok46, trivial⟩) mixed (n := fuel) Try.func56 Try.call56 fun args w K h => ?_
  obtain ⟨x0, x1, x2, rfl, hh⟩ := of_on3 h
  exact fnD_list (c := bodyOf Try.f56) (by kernel_rfl) (by kernel_rfl) (Eq.mp (by kernel_rfl) hh)
def T57 : List (Nat × FnT) := [(79, G79), (80, G80), (81, G81)]
def F57 (x0 x1 x2 : Value) (w : World) (K : V1) : Prop :=
callP G79 [x0, x1] w fun v2 w1 =>
bindP (bLt v2 (.int .i64 0)) fun v3 =>
ifB v3 (
K (.int .i64 5) w1) (
bindP (pNil x0) fun v4 =>
bindP (pFieldAddr 3 v4) fun v5 =>
bindP (ld1 v5 w1) fun v6 =>
bindP (pIndexL 3 v6 v2) fun v7 =>
bindP (ldN 3 v7 w1) fun v8 =>
eAlloc Try.prog 105 w1 fun v10 w9 =>
bindW (st 3 v10 v8 w9) fun w11 =>
bindP (bLt x2 (.int .i64 0)) fun v13 =>
stepM (gd false v13) x2 fun v14 =>
Sx.stepG (gd false v13) (pFieldAddr 1 v10) fun v15 =>
Sx.stepG (gd false v13) (ld1 v15 w11) fun v16 =>
Sx.stepG (gd false v13) (lenS v16) fun v17 =>
Sx.stepG (gd false v13) (bGt v14 v17) fun v18 =>
bindP (pPick v13 (.bool true) v18) fun v19 =>
ifB v19 (
K (.int .i64 1) w11) (
callP G80 [x0] w11 fun v21 w20 =>
bindP (uNot v21) fun v22 =>
ifB v22 (
K (.int .i64 251) w20) (
bindP (pFieldAddr 1 v10) fun v23 =>
bindP (ld1 v23 w20) fun v24 =>
bindP (pSliceS v24 none (some x2)) fun v25 =>
bindP (pFieldAddr 1 v10) fun v26 =>
bindW (st 1 v26 v25 w20) fun w27 =>
bindP (pFieldAddr 2 v10) fun v29 =>
bindP (ld1 v29 w27) fun v30 =>
bindP (pMin v30 x2) fun v31 =>
bindP (pFieldAddr 2 v10) fun v32 =>
bindW (st 1 v32 v31 w27) fun w33 =>
bindP (ldN 3 v10 w33) fun v35 =>
callP G81 [x0, v35] w33 fun _ w36 =>
K (.int .i64 0) w36)))
def G57 : FnT := fun args w K => on3 (fun x0 x1 x2 => F57 x0 x1 x2 w K) args
theorem c57 {x0 x1 x2 : Value} {w : World} {K : V1} (h : F57 x0 x1 x2 w K) : callP G57 [x0, x1, x2] w K := callP_intro (on3_mk (p := fun x0 x1 x2 => F57 x0 x1 x2 w K) h)
theorem ok57 : OkF Try.prog 57 G57 := by
  refine okF_of (tab_ok (l := T57) ⟨ok79, ok80, ok81, trivial⟩) mixed (n := fuel) Try.func57 Try.call57 fun args w K h => ?_
  obtain ⟨x0, x1, x2, rfl, hh⟩ := of_on3 h
  exact fnD_list (c := bodyOf Try.f57) (by kernel_rfl) (by kernel_rfl) (Eq.mp (by kernel_rfl) hh)
def T58 : List (Nat × FnT) := [(68, G68)]
def F58 (x0 x1 : Value) (w : World) (K : V1) : Prop :=
bindP (pNil x0) fun v1 =>
bindP (pFieldAddr 1 v1) fun v2 =>
bindP (ld1 v2 w) fun v3 =>
bindP (fLook Try.prog 78 v3 x1 true w) fun v4 =>
bindP (pTuple v4 0) fun v5 =>
bindP (pTuple v4 1) fun v6 =>
eAlloc Try.prog 86 w fun v8 w7 =>
bindW (st 2 v8 v5 w7) fun w9 =>
bindP (uNot v6) fun v11 =>
ifB v11 (
K (.int .i64 5) w9) (
callP G68 [x0] w9 fun v13 w12 =>
bindP (uNot v13) fun v14 =>
ifB v14 (
K (.int .i64 251) w12) (
bindP (pNil x0) fun v15 =>
bindP (pFieldAddr 1 v15) fun v16 =>
bindP (ld1 v16 w12) fun v17 =>
eDelete Try.prog 78 v17 x1 w12 fun _ w18 =>
K (.int .i64 0) w18))
def G58 : FnT := fun args w K => on2 (fun x0 x1 => F58 x0 x1 w K) args
theorem c58 {x0 x1 : Value} {w : World} {K : V1} (h : F58 x0 x1 w K) : callP G58 [x0, x1] w K := callP_intro (on2_mk (p := fun x0 x1 => F58 x0 x1 w K) h)
theorem ok58 : OkF Try.prog 58 G58 := by
  refine okF_of (tab_ok (l := T58) ⟨ok68, trivial⟩) mixed (n := fuel) Try.func58 Try.call58 fun args w K h => ?_
  obtain ⟨x0, x1, rfl, hh⟩ := of_on2 h
  exact fnD_list (c := bodyOf Try.f58) (by kernel_rfl) (by kernel_rfl) (Eq.mp (by kernel_rfl) hh)
def T59 : List (Nat × FnT) := [(79, G79), (80, G80), (82, G82)]
def F59 (x0 x1 : Value) (w : World) (K : V1) : Prop :=
callP G79 [x0, x1] w fun v2 w1 =>
bindP (bLt v2 (.int .i64 0)) fun v3 =>
ifB v3 (
K (.int .i64 5) w1) (
callP G80 [x0] w1 fun v5 w4 =>
bindP (uNot v5) fun v6 =>
ifB v6 (
K (.int .i64 251) w4) (
callP G82 [x0, x1] w4 fun _ w7 =>
K (.int .i64 0) w7))
def G59 : FnT := fun args w K => on2 (fun x0 x1 => F59 x0 x1 w K) args
theorem c59 {x0 x1 : Value} {w : World} {K : V1} (h : F59 x0 x1 w K) : callP G59 [x0, x1] w K := callP_intro (on2_mk (p := fun x0 x1 => F59 x0 x1 w K) h)
theorem ok59 : OkF Try.prog 59 G59 := by
  refine okF_of (tab_ok (l := T59) ⟨ok79, ok80, ok82, trivial⟩) mixed (n := fuel) Try.func59 Try.call59 fun args w K h => ?_
  obtain ⟨x0, x1, rfl, hh⟩ := of_on2 h
  exact fnD_list (c := bodyOf Try.f59) (by kernel_rfl) (by kernel_rfl) (Eq.mp (by kernel_rfl) hh)
def T60 : List (Nat × FnT) := []
def F60_3b (s0 s4 : Value) (w : World) (K : V1) : Prop :=
bindP (pNil s0) fun v1 =>
bindP (pFieldAddr 3 v1) fun v2 =>
bindW (st 1 v2 s4 w) fun w3 =>
bindP (pNil s0) fun v5 =>
bindP (pFieldAddr 1 v5) fun v6 =>
bindW (st 1 v6 (.bool false) w3) fun w7 =>
bindP (pNil s0) fun v9 =>
bindP (pFieldAddr 2 v9) fun v10 =>
bindW (st 1 v10 (.int .i64 0) w7) fun w11 =>
K (.tuple #[]) w11
def F60_3 (s0 s4 : Value) (w : World) (K : V1) : Prop := F60_3b s0 s4 w K
theorem ok60_3 {K : V1}
    (hn : HN (fun e w => K (.tuple #[]) w) kn) (hr : HR Try.prog [] K kr) (he : HE noE ke) :
    ∀ e w, F60_3 (e 0) (e 4) w K → denL Try.prog (tabOf T60) 72 fuel ((flat (bodyOf Try.f60)).drop 3) e w kn kr ke := by
  intro e w h
  unfold F60_3 at h
  have e1 : ∀ (_ : Unit), F60_3b (e 0) (e 4) w K = denL Try.prog (tabOf T60) 72 fuel ((flat (bodyOf Try.f60)).drop 3) e w (fun e w => K (.tuple #[]) w) (endD Try.prog [] K) noE := by intro _; kernel_rfl
  exact seg_end (Eq.mp (e1 ()) h) hn hr he
def F60_6b (s0 s1 s4 s5 : Value) (w : World) (_K : V1) (R3 : V4) : Prop :=
bindP (bAdd s5 (.int .i64 1)) fun v13 =>
R3 s0 s1 s4 v13 w
def F60_6 (s0 s1 s4 s5 : Value) (w : World) (K : V1) (R3 : V4) : Prop := F60_6b s0 s1 s4 s5 w K R3
theorem ok60_6 (R3 : V4) {K : V1}
    (hn : HN (fun e w => R3 (e 0) (e 1) (e 4) (e 5) w) kn) (hr : HR Try.prog [] K kr) (he : HE (blkK 0 (fun e w => F60_3 (e 0) (e 4) w K) noE) ke) :
    ∀ e w, F60_6 (e 0) (e 1) (e 4) (e 5) w K R3 → denL Try.prog (tabOf T60) 72 fuel ((flat (loopB (blkB (nthC (flat (bodyOf Try.f60)) 2)))).drop 3) e w kn kr ke := by
  intro e w h
  unfold F60_6 at h
  have e1 : ∀ (_ : Unit), F60_6b (e 0) (e 1) (e 4) (e 5) w K R3 = denL Try.prog (tabOf T60) 72 fuel ((flat (loopB (blkB (nthC (flat (bodyOf Try.f60)) 2)))).drop 3) e w (fun e w => R3 (e 0) (e 1) (e 4) (e 5) w) (endD Try.prog [] K) (blkK 0 (fun e w => F60_3 (e 0) (e 4) w K) noE) := by intro _; kernel_rfl
  exact seg_end (Eq.mp (e1 ()) h) hn hr he
def F60_8b (s0 s1 s4 s5 s6 s7 : Value) (w : World) (_K : V1) (R3 : V4) (Y0 : V4) : Prop :=
bindP (pFieldAddr 1 s6) fun v14 =>
bindP (ld1 v14 w) fun v15 =>
bindP (pFieldAddr 2 s6) fun v16 =>
bindP (ld1 v16 w) fun v17 =>
bindP (bAdd v17 s7) fun v18 =>
bindP (pSliceS v15 none (some v18)) fun v19 =>
bindP (pFieldAddr 1 s6) fun v20 =>
bindW (st 1 v20 v19 w) fun w21 =>
bindP (pFieldAddr 1 s6) fun v23 =>
bindP (ld1 v23 w21) fun v24 =>
bindP (lenS v24) fun v25 =>
bindP (pFieldAddr 2 s6) fun v26 =>
bindW (st 1 v26 v25 w21) fun w27 =>
bindP (ldN 3 s6 w27) fun v29 =>
eBuildSl Try.prog 99 1 [(0, v29)] w27 fun v31 w30 =>
eAppend Try.prog 99 99 s4 v31 w30 fun v33 w32 =>
Y0 s0 s1 v33 s5 w32
def F60_8 (s0 s1 s4 s5 s6 s7 : Value) (w : World) (K : V1) (R3 : V4) : Prop := F60_8b s0 s1 s4 s5 s6 s7 w K R3 (fun a0 a1 a4 a5 w => F60_6 a0 a1 a4 a5 w K R3)
theorem ok60_8 (R3 : V4) {K : V1}
    (hn : HN (fun e w => F60_6 (e 0) (e 1) (e 4) (e 5) w K R3) kn) (hr : HR Try.prog [] K kr) (he : HE (blkK 1 (fun e w => F60_6 (e 0) (e 1) (e 4) (e 5) w K R3) (blkK 0 (fun e w => F60_3 (e 0) (e 4) w K) noE)) ke) :
    ∀ e w, F60_8 (e 0) (e 1) (e 4) (e 5) (e 6) (e 7) w K R3 → denL Try.prog (tabOf T60) 72 fuel ((flat (blkB (nthC (flat (loopB (blkB (nthC (flat (bodyOf Try.f60)) 2)))) 2))).drop 4) e w kn kr ke := by
  intro e w h
  unfold F60_8 at h
  have e1 : ∀ (Y0 : V4), F60_8b (e 0) (e 1) (e 4) (e 5) (e 6) (e 7) w K R3 Y0 = denL Try.prog (tabOf T60) 72 fuel ((flat (blkB (nthC (flat (loopB (blkB (nthC (flat (bodyOf Try.f60)) 2)))) 2))).drop 4) e w (fun e w => Y0 (e 0) (e 1) (e 4) (e 5) w) (endD Try.prog [] K) (blkK 1 (fun e w => Y0 (e 0) (e 1) (e 4) (e 5) w) (blkK 0 (fun e w => F60_3 (e 0) (e 4) w K) noE)) := by intro Y0; kernel_rfl
  exact seg_end (Eq.mp (e1 (fun a0 a1 a4 a5 w => F60_6 a0 a1 a4 a5 w K R3)) h) hn hr he
def F60_7b (s0 s1 s4 s5 : Value) (w : World) (_K : V1) (R3 : V4) (Y0 : V6) : Prop :=
bindP (pNil s0) fun v34 =>
bindP (pFieldAddr 3 v34) fun v35 =>
bindP (ld1 v35 w) fun v36 =>
bindP (pIndexL 3 v36 s5) fun v37 =>
bindP (ldN 3 v37 w) fun v38 =>
eAlloc Try.prog 105 w fun v40 w39 =>
bindW (st 3 v40 v38 w39) fun w41 =>
bindP (lenL s1) fun v43 =>
bindP (bLt s5 v43) fun v44 =>
ifB v44 (
bindP (pFieldAddr 1 v40) fun v45 =>
bindP (ld1 v45 w41) fun v46 =>
bindP (lenS v46) fun v47 =>
bindP (pFieldAddr 2 v40) fun v48 =>
bindP (ld1 v48 w41) fun v49 =>
bindP (bSub v47 v49) fun v50 =>
bindP (bAdd v50 (.int .i64 1)) fun v51 =>
bindP (pIndexL 1 s1 s5) fun v52 =>
bindP (ld1 v52 w41) fun v53 =>
bindP (bRem v53 v51) fun v54 =>
bindP (bAdd v54 v51) fun v55 =>
bindP (bRem v55 v51) fun v56 =>
Y0 s0 s1 s4 s5 v40 v56 w41) (
Y0 s0 s1 s4 s5 v40 (.int .i64 0) w41)
def F60_7 (s0 s1 s4 s5 : Value) (w : World) (K : V1) (R3 : V4) : Prop := F60_7b s0 s1 s4 s5 w K R3 (fun a0 a1 a4 a5 a6 a7 w => F60_8 a0 a1 a4 a5 a6 a7 w K R3)
theorem ok60_7 (R3 : V4) {K : V1}
    (hn : HN (fun e w => F60_6 (e 0) (e 1) (e 4) (e 5) w K R3) kn) (hr : HR Try.prog [] K kr) (he : HE (blkK 1 (fun e w => F60_6 (e 0) (e 1) (e 4) (e 5) w K R3) (blkK 0 (fun e w => F60_3 (e 0) (e 4) w K) noE)) ke) :
    ∀ e w, F60_7 (e 0) (e 1) (e 4) (e 5) w K R3 → denL Try.prog (tabOf T60) 72 fuel ((flat (blkB (nthC (flat (loopB (blkB (nthC (flat (bodyOf Try.f60)) 2)))) 2))).drop 0) e w kn kr ke := by
  intro e w h
  unfold F60_7 at h
  have e1 : ∀ (Y0 : V6), F60_7b (e 0) (e 1) (e 4) (e 5) w K R3 Y0 = denL Try.prog (tabOf T60) 72 fuel (((flat (blkB (nthC (flat (loopB (blkB (nthC (flat (bodyOf Try.f60)) 2)))) 2))).drop 0).take 4) e w (fun e w => Y0 (e 0) (e 1) (e 4) (e 5) (e 6) (e 7) w) (endD Try.prog [] K) (blkK 1 (fun e w => F60_6 (e 0) (e 1) (e 4) (e 5) w K R3) (blkK 0 (fun e w => F60_3 (e 0) (e 4) w K) noE)) := by intro Y0; kernel_rfl
  exact seg 4 (Eq.mp (e1 (fun a0 a1 a4 a5 a6 a7 w => F60_8 a0 a1 a4 a5 a6 a7 w K R3)) h) (fun e w h => ok60_8 R3 hn hr he e w h) hr he
def F60_5 (s0 s1 s4 s5 : Value) (w : World) (K : V1) (R3 : V4) : Prop := F60_7 s0 s1 s4 s5 w K R3
theorem ok60_5 (R3 : V4) {K : V1}
    (hn : HN (fun e w => R3 (e 0) (e 1) (e 4) (e 5) w) kn) (hr : HR Try.prog [] K kr) (he : HE (blkK 0 (fun e w => F60_3 (e 0) (e 4) w K) noE) ke) :
    ∀ e w, F60_5 (e 0) (e 1) (e 4) (e 5) w K R3 → denL Try.prog (tabOf T60) 72 fuel ((flat (loopB (blkB (nthC (flat (bodyOf Try.f60)) 2)))).drop 2) e w kn kr ke := by
  intro e w h
  unfold F60_5 at h
  refine seg_block (id := 1) (body := (blkB (nthC (flat (loopB (blkB (nthC (flat (bodyOf Try.f60)) 2)))) 2))) (l2 := (flat (loopB (blkB (nthC (flat (bodyOf Try.f60)) 2)))).drop 3) (by kernel_rfl) ?_
  exact ok60_7 R3 (fun e w h => ok60_6 R3 hn hr he e w h) hr (blkK_mono (fun e w h => ok60_6 R3 hn hr he e w h) he) e w h
def F60_4b (s0 s1 s4 s5 : Value) (w : World) (_K : V1) (R3 : V4) (Y0 : V4) (Y1 : V2) : Prop :=
bindP (pNil s0) fun v57 =>
bindP (pFieldAddr 3 v57) fun v58 =>
bindP (ld1 v58 w) fun v59 =>
bindP (lenL v59) fun v60 =>
bindP (bLt s5 v60) fun v61 =>
ifB v61 (
Y0 s0 s1 s4 s5 w) (
Y1 s0 s4 w)
def F60_4 (s0 s1 s4 s5 : Value) (w : World) (K : V1) (R3 : V4) : Prop := F60_4b s0 s1 s4 s5 w K R3 (fun a0 a1 a4 a5 w => F60_5 a0 a1 a4 a5 w K R3) (fun a0 a4 w => F60_3 a0 a4 w K)
theorem ok60_4 (R3 : V4) {K : V1}
    (hn : HN (fun e w => R3 (e 0) (e 1) (e 4) (e 5) w) kn) (hr : HR Try.prog [] K kr) (he : HE (blkK 0 (fun e w => F60_3 (e 0) (e 4) w K) noE) ke) :
    ∀ e w, F60_4 (e 0) (e 1) (e 4) (e 5) w K R3 → denL Try.prog (tabOf T60) 72 fuel ((flat (loopB (blkB (nthC (flat (bodyOf Try.f60)) 2)))).drop 0) e w kn kr ke := by
  intro e w h
  unfold F60_4 at h
  have e1 : ∀ (Y0 : V4) (Y1 : V2), F60_4b (e 0) (e 1) (e 4) (e 5) w K R3 Y0 Y1 = denL Try.prog (tabOf T60) 72 fuel (((flat (loopB (blkB (nthC (flat (bodyOf Try.f60)) 2)))).drop 0).take 2) e w (fun e w => Y0 (e 0) (e 1) (e 4) (e 5) w) (endD Try.prog [] K) (blkK 0 (fun e w => Y1 (e 0) (e 4) w) noE) := by intro Y0 Y1; kernel_rfl
  exact seg 2 (Eq.mp (e1 (fun a0 a1 a4 a5 w => F60_5 a0 a1 a4 a5 w K R3) (fun a0 a4 w => F60_3 a0 a4 w K)) h) (fun e w h => ok60_5 R3 hn hr he e w h) hr he
def F60_2L : Nat → Value → Value → Value → Value → World → (V1) → Prop
  | 0, _, _, _, _, _, _ => False
  | n + 1, s0, s1, s4, s5, w, K => F60_4 s0 s1 s4 s5 w K (fun a0 a1 a4 a5 w => F60_2L n a0 a1 a4 a5 w K)
def F60_2 (s0 s1 s4 s5 : Value) (w : World) (K : V1) : Prop := F60_2L fuel s0 s1 s4 s5 w K
theorem ok60_2 {K : V1}
    (hn : HN (fun e w => K (.tuple #[]) w) kn) (hr : HR Try.prog [] K kr) (he : HE noE ke) :
    ∀ e w, F60_2 (e 0) (e 1) (e 4) (e 5) w K → denL Try.prog (tabOf T60) 72 fuel ((flat (bodyOf Try.f60)).drop 2) e w kn kr ke := by
  intro e w h
  unfold F60_2 at h
  refine seg_loop (id := 0) (body := (loopB (blkB (nthC (flat (bodyOf Try.f60)) 2)))) (l2 := (flat (bodyOf Try.f60)).drop 3) (by kernel_rfl) ?_
  refine loop_ok (FL := fun m e w => F60_2L m (e 0) (e 1) (e 4) (e 5) w K) (fr := endD Try.prog [] K) (fe := (blkK 0 (fun e w => F60_3 (e 0) (e 4) w K) noE)) (fun _ _ h => h) ?_ hr (blkK_mono (fun e w h => ok60_3 hn hr he e w h) he) fuel e w h
  intro m e w h
  have h : F60_2L (m + 1) (e 0) (e 1) (e 4) (e 5) w K := h
  rw [F60_2L] at h
  exact ok60_4 (fun a0 a1 a4 a5 w => F60_2L m a0 a1 a4 a5 w K) (fun _ _ h => h) (fun _ _ h => h) (fun _ _ _ h => h) e w h
def F60_1b (s0 s1 : Value) (w : World) (_K : V1) (Y0 : V4) : Prop :=
Y0 s0 s1 (.slice none 0 0) (.int .i64 0) w
def F60_1 (s0 s1 : Value) (w : World) (K : V1) : Prop := F60_1b s0 s1 w K (fun a0 a1 a4 a5 w => F60_2 a0 a1 a4 a5 w K)
theorem ok60_1 {K : V1}
    (hn : HN (fun e w => K (.tuple #[]) w) kn) (hr : HR Try.prog [] K kr) (he : HE noE ke) :
    ∀ e w, F60_1 (e 0) (e 1) w K → denL Try.prog (tabOf T60) 72 fuel ((flat (bodyOf Try.f60)).drop 0) e w kn kr ke := by
  intro e w h
  unfold F60_1 at h
  have e1 : ∀ (Y0 : V4), F60_1b (e 0) (e 1) w K Y0 = denL Try.prog (tabOf T60) 72 fuel (((flat (bodyOf Try.f60)).drop 0).take 2) e w (fun e w => Y0 (e 0) (e 1) (e 4) (e 5) w) (endD Try.prog [] K) noE := by intro Y0; kernel_rfl
  exact seg 2 (Eq.mp (e1 (fun a0 a1 a4 a5 w => F60_2 a0 a1 a4 a5 w K)) h) (fun e w h => ok60_2 hn hr he e w h) hr he
def F60 (x0 x1 : Value) (w : World) (K : V1) : Prop := F60_1 x0 x1 w K
def G60 : FnT := fun args w K => on2 (fun x0 x1 => F60 x0 x1 w K) args
theorem c60 {x0 x1 : Value} {w : World} {K : V1} (h : F60 x0 x1 w K) : callP G60 [x0, x1] w K := callP_intro (on2_mk (p := fun x0 x1 => F60 x0 x1 w K) h)
theorem ok60 : OkF Try.prog 60 G60 := by
  refine okF_of (tab_ok (l := T60) trivial) mixed (n := fuel) Try.func60 Try.call60 fun args w K h => ?_
  obtain ⟨x0, x1, rfl, hh⟩ := of_on2 h
  unfold F60 at hh
  exact fnD_list (c := bodyOf Try.f60) (by kernel_rfl) (by kernel_rfl) (ok60_1 (fun _ _ h => h) (fun _ _ h => h) (fun _ _ _ h => h) (initE [x0, x1]) w hh)
def T61 : List (Nat × FnT) := []
def F61_3b (s5 : Value) (w : World) (K : V1) : Prop :=
K s5 w
def F61_3 (s5 : Value) (w : World) (K : V1) : Prop := F61_3b s5 w K
theorem ok61_3 {K : V1}
    (hn : HN (fun e w => K (e 4) w) kn) (hr : HR Try.prog [.tmp 4] K kr) (he : HE noE ke) :
    ∀ e w, F61_3 (e 5) w K → denL Try.prog (tabOf T61) 31 fuel ((flat (bodyOf Try.f61)).drop 4) e w kn kr ke := by
  intro e w h
  unfold F61_3 at h
  have e1 : ∀ (_ : Unit), F61_3b (e 5) w K = denL Try.prog (tabOf T61) 31 fuel ((flat (bodyOf Try.f61)).drop 4) e w (fun e w => K (e 4) w) (endD Try.prog [.tmp 4] K) noE := by intro _; kernel_rfl
  exact seg_end (Eq.mp (e1 ()) h) hn hr he
def F61_2b (s0 s1 s5 s6 : Value) (w : World) (_K : V1) (Y0 : V4) (Y1 : V1) : Prop :=
stepM (gd true s5) s6 fun v1 =>
stepM (gd true s5) s0 fun v2 =>
Sx.stepG (gd true s5) (lenL v2) fun v3 =>
Sx.stepG (gd true s5) (bLt v1 v3) fun v4 =>
bindP (pPick s5 v4 (.bool false)) fun v5 =>
ifB v5 (
bindP (pIndexL 1 s0 s6) fun v6 =>
bindP (ld1 v6 w.drew) fun v7 =>
bindP (pIndexL 1 s1 s6) fun v8 =>
bindP (ld1 v8 w.drew) fun v9 =>
bindP (bEq Try.prog 3 (.tmp 24) (.tmp 28) v7 v9) fun v10 =>
bindP (bAdd s6 (.int .i64 1)) fun v11 =>
Y0 s0 s1 v10 v11 w.drew) (
Y1 s5 w)
def F61_2L : Nat → Value → Value → Value → Value → World → (V1) → Prop
  | 0, _, _, _, _, _, _ => False
  | n + 1, s0, s1, s5, s6, w, K => F61_2b s0 s1 s5 s6 w K (fun a0 a1 a5 a6 w => F61_2L n a0 a1 a5 a6 w K) (fun a5 w => F61_3 a5 w K)
def F61_2 (s0 s1 s5 s6 : Value) (w : World) (K : V1) : Prop := F61_2L fuel s0 s1 s5 s6 w K
theorem ok61_2 {K : V1}
    (hn : HN (fun e w => K (e 4) w) kn) (hr : HR Try.prog [.tmp 4] K kr) (he : HE noE ke) :
    ∀ e w, F61_2 (e 0) (e 1) (e 5) (e 6) w K → denL Try.prog (tabOf T61) 31 fuel ((flat (bodyOf Try.f61)).drop 3) e w kn kr ke := by
  intro e w h
  unfold F61_2 at h
  refine seg_loop (id := 0) (body := (loopB (blkB (nthC (flat (bodyOf Try.f61)) 3)))) (l2 := (flat (bodyOf Try.f61)).drop 4) (by kernel_rfl) ?_
  refine loop_ok (FL := fun m e w => F61_2L m (e 0) (e 1) (e 5) (e 6) w K) (fr := endD Try.prog [.tmp 4] K) (fe := (blkK 0 (fun e w => F61_3 (e 5) w K) noE)) (fun _ _ h => h) ?_ hr (blkK_mono (fun e w h => ok61_3 hn hr he e w h) he) fuel e w h
  intro m e w h
  have h : F61_2L (m + 1) (e 0) (e 1) (e 5) (e 6) w K := h
  rw [F61_2L] at h
  have e1 : ∀ (Y0 : V4) (Y1 : V1), F61_2b (e 0) (e 1) (e 5) (e 6) w K Y0 Y1 = denL Try.prog (tabOf T61) 31 fuel (flat (loopB (blkB (nthC (flat (bodyOf Try.f61)) 3)))) e w (fun e w => Y0 (e 0) (e 1) (e 5) (e 6) w) (endD Try.prog [.tmp 4] K) (blkK 0 (fun e w => Y1 (e 5) w) noE) := by intro Y0 Y1; kernel_rfl
  exact Eq.mp (e1 (fun a0 a1 a5 a6 w => F61_2L m a0 a1 a5 a6 w K) (fun a5 w => F61_3 a5 w K)) h
def F61_1b (s0 s1 : Value) (w : World) (_K : V1) (Y0 : V4) : Prop :=
bindP (lenL s0) fun v12 =>
bindP (lenL s1) fun v13 =>
bindP (bEq Try.prog 3 (.tmp 8) (.tmp 10) v12 v13) fun v14 =>
Y0 s0 s1 v14 (.int .i64 0) w
def F61_1 (s0 s1 : Value) (w : World) (K : V1) : Prop := F61_1b s0 s1 w K (fun a0 a1 a5 a6 w => F61_2 a0 a1 a5 a6 w K)
theorem ok61_1 {K : V1}
    (hn : HN (fun e w => K (e 4) w) kn) (hr : HR Try.prog [.tmp 4] K kr) (he : HE noE ke) :
    ∀ e w, F61_1 (e 0) (e 1) w K → denL Try.prog (tabOf T61) 31 fuel ((flat (bodyOf Try.f61)).drop 0) e w kn kr ke := by
  intro e w h
  unfold F61_1 at h
  have e1 : ∀ (Y0 : V4), F61_1b (e 0) (e 1) w K Y0 = denL Try.prog (tabOf T61) 31 fuel (((flat (bodyOf Try.f61)).drop 0).take 3) e w (fun e w => Y0 (e 0) (e 1) (e 5) (e 6) w) (endD Try.prog [.tmp 4] K) noE := by intro Y0; kernel_rfl
  exact seg 3 (Eq.mp (e1 (fun a0 a1 a5 a6 w => F61_2 a0 a1 a5 a6 w K)) h) (fun e w h => ok61_2 hn hr he e w h) hr he
def F61 (x0 x1 : Value) (w : World) (K : V1) : Prop := F61_1 x0 x1 w K
def G61 : FnT := fun args w K => on2 (fun x0 x1 => F61 x0 x1 w K) args
theorem c61 {x0 x1 : Value} {w : World} {K : V1} (h : F61 x0 x1 w K) : callP G61 [x0, x1] w K := callP_intro (on2_mk (p := fun x0 x1 => F61 x0 x1 w K) h)
theorem ok61 : OkF Try.prog 61 G61 := by
  refine okF_of (tab_ok (l := T61) trivial) mixed (n := fuel) Try.func61 Try.call61 fun args w K h => ?_
  obtain ⟨x0, x1, rfl, hh⟩ := of_on2 h
  unfold F61 at hh
  exact fnD_list (c := bodyOf Try.f61) (by kernel_rfl) (by kernel_rfl) (ok61_1 (fun _ _ h => h) (fun _ _ h => h) (fun _ _ _ h => h) (initE [x0, x1]) w hh)
def T62 : List (Nat × FnT) := []
def F62 (x0 x1 : Value) (w : World) (K : V1) : Prop :=
bindP (bLt x1 (.int .i64 0)) fun v1 =>
ifB v1 (
K (.int .i64 1) w) (
bindP (pNil x0) fun v2 =>
bindP (pFieldAddr 1 v2) fun v3 =>
bindW (st 1 v3 (.bool true) w) fun w4 =>
bindP (pNil x0) fun v6 =>
bindP (pFieldAddr 2 v6) fun v7 =>
bindW (st 1 v7 x1 w4) fun w8 =>
K (.int .i64 0) w8)
def G62 : FnT := fun args w K => on2 (fun x0 x1 => F62 x0 x1 w K) args
theorem c62 {x0 x1 : Value} {w : World} {K : V1} (h : F62 x0 x1 w K) : callP G62 [x0, x1] w K := callP_intro (on2_mk (p := fun x0 x1 => F62 x0 x1 w K) h)
theorem ok62 : OkF Try.prog 62 G62 := by
  refine okF_of (tab_ok (l := T62) trivial) mixed (n := fuel) Try.func62 Try.call62 fun args w K h => ?_
  obtain ⟨x0, x1, rfl, hh⟩ := of_on2 h
  exact fnD_list (c := bodyOf Try.f62) (by kernel_rfl) (by kernel_rfl) (Eq.mp (by kernel_rfl) hh)
def T35 : List (Nat × FnT) := [(10, G10), (11, G11), (17, G17), (18, G18), (19, G19), (21, G21), (22, G22), (36, G36), (41, G41), (52, G52), (53, G53), (54, G54), (55, G55), (56, G56), (57, G57), (58, G58), (59, G59), (60, G60), (61, G61), (62, G62)]
def F35_5b (s0 s1 s5 : Value) (w : World) (K : V1) : Prop :=
bindP (pFieldAddr 1 s5) fun v1 =>
bindP (ld1 v1 w.drew) fun v2 =>
bindP (pFieldAddr 1 s5) fun v3 =>
bindP (ld1 v3 w.drew) fun v4 =>
callP G18 [s0, v2] w.drew fun v6 w5 =>
fok true (ld1 v3 w5) v4 ∧ (callP G52 [s1, v4] w5 fun v8 w7 =>
bindP (bEq Try.prog 24 (.tmp 37) (.tmp 41) v6 v8) fun v9 =>
K v9 w7)
def F35_5 (s0 s1 s5 : Value) (w : World) (K : V1) : Prop := F35_5b s0 s1 s5 w K
theorem ok35_5 {K : V1}
    (hn : HN (fun e w => K (e 6) w) kn) (hr : HR Try.prog [.tmp 6] K kr) (he : HE (blkK 0 (fun e w => K (e 6) w) noE) ke) :
    ∀ e w, F35_5 (e 0) (e 1) (e 5) w K → denL Try.prog (tabOf T35) 139 fuel ((flat (thenC (nthC (flat (blkB (nthC (flat (bodyOf Try.f35)) 2))) 1))).drop 0) e w kn kr ke := by
  intro e w h
  unfold F35_5 at h
  have e1 : ∀ (_ : Unit), F35_5b (e 0) (e 1) (e 5) w K = denL Try.prog (tabOf T35) 139 fuel ((flat (thenC (nthC (flat (blkB (nthC (flat (bodyOf Try.f35)) 2))) 1))).drop 0) e w (fun e w => K (e 6) w) (endD Try.prog [.tmp 6] K) (blkK 0 (fun e w => K (e 6) w) noE) := by intro _; kernel_rfl
  exact seg_end (Eq.mp (e1 ()) h) hn hr he
def F35_7b (s0 s1 s5 s11 s43 : Value) (w : World) (K : V1) : Prop :=
ifB s43 (
bindP (pFieldAddr 1 s5) fun v10 =>
bindP (ld1 v10 w.drew) fun v11 =>
bindP (pFieldAddr 3 s5) fun v12 =>
bindP (ld1 v12 w.drew) fun v13 =>
bindP (pFieldAddr 1 s5) fun v14 =>
bindP (ld1 v14 w.drew) fun v15 =>
bindP (pFieldAddr 3 s5) fun v16 =>
bindP (ld1 v16 w.drew) fun v17 =>
callP G19 [s0, v11, v13] w.drew fun v19 w18 =>
(fok true (ld1 v14 w18) v15 ∧ fok true (ld1 v16 w18) v17) ∧ (callP G53 [s1, v15, v17] w18 fun v21 w20 =>
bindP (bEq Try.prog 24 (.tmp 51) (.tmp 57) v19 v21) fun v22 =>
K v22 w20)) (
bindP (bEq Try.prog 3 (.tmp 11) (.const (.int .i64 3)) s11 (.int .i64 3)) fun v23 =>
ifB v23 (
bindP (pFieldAddr 1 s5) fun v24 =>
bindP (ld1 v24 w.drew) fun v25 =>
bindP (pFieldAddr 1 s5) fun v26 =>
bindP (ld1 v26 w.drew) fun v27 =>
callP G21 [s0, v25] w.drew fun v29 w28 =>
fok true (ld1 v26 w28) v27 ∧ (callP G54 [s1, v27] w28 fun v31 w30 =>
bindP (bEq Try.prog 24 (.tmp 64) (.tmp 68) v29 v31) fun v32 =>
K v32 w30)) (
bindP (bEq Try.prog 3 (.tmp 11) (.const (.int .i64 4)) s11 (.int .i64 4)) fun v33 =>
ifB v33 (
bindP (pFieldAddr 1 s5) fun v34 =>
bindP (ld1 v34 w.drew) fun v35 =>
bindP (pFieldAddr 2 s5) fun v36 =>
bindP (ld1 v36 w.drew) fun v37 =>
bindP (pFieldAddr 1 s5) fun v38 =>
bindP (ld1 v38 w.drew) fun v39 =>
bindP (pFieldAddr 2 s5) fun v40 =>
bindP (ld1 v40 w.drew) fun v41 =>
callP G41 [s0, v35, v37] w.drew fun v43 w42 =>
(fok true (ld1 v38 w42) v39 ∧ fok true (ld1 v40 w42) v41) ∧ (callP G55 [s1, v39, v41] w42 fun v45 w44 =>
bindP (bEq Try.prog 24 (.tmp 77) (.tmp 83) v43 v45) fun v46 =>
K v46 w44)) (
bindP (bEq Try.prog 3 (.tmp 11) (.const (.int .i64 5)) s11 (.int .i64 5)) fun v47 =>
ifB v47 (
bindP (pFieldAddr 1 s5) fun v48 =>
bindP (ld1 v48 w.drew) fun v49 =>
bindP (pFieldAddr 4 s5) fun v50 =>
bindP (ld1 v50 w.drew) fun v51 =>
bindP (pFieldAddr 1 s5) fun v52 =>
bindP (ld1 v52 w.drew) fun v53 =>
bindP (pFieldAddr 4 s5) fun v54 =>
bindP (ld1 v54 w.drew) fun v55 =>
callP G56 [s0, v49, v51] w.drew fun v57 w56 =>
(fok true (ld1 v52 w56) v53 ∧ fok true (ld1 v54 w56) v55) ∧ (callP G57 [s1, v53, v55] w56 fun v59 w58 =>
bindP (bEq Try.prog 24 (.tmp 92) (.tmp 98) v57 v59) fun v60 =>
K v60 w58)) (
bindP (bEq Try.prog 3 (.tmp 11) (.const (.int .i64 6)) s11 (.int .i64 6)) fun v61 =>
ifB v61 (
bindP (pFieldAddr 1 s5) fun v62 =>
bindP (ld1 v62 w.drew) fun v63 =>
bindP (pFieldAddr 1 s5) fun v64 =>
bindP (ld1 v64 w.drew) fun v65 =>
callP G58 [s0, v63] w.drew fun v67 w66 =>
fok true (ld1 v64 w66) v65 ∧ (callP G59 [s1, v65] w66 fun v69 w68 =>
bindP (bEq Try.prog 24 (.tmp 105) (.tmp 109) v67 v69) fun v70 =>
K v70 w68)) (
bindP (bEq Try.prog 3 (.tmp 11) (.const (.int .i64 7)) s11 (.int .i64 7)) fun v71 =>
ifB v71 (
eBuildSl Try.prog 22 0 [] w fun v73 w72 =>
bindP (pFieldAddr 5 s5) fun v74 =>
bindP (ld1 v74 w72) fun v75 =>
eAppend Try.prog 22 22 v73 v75 w72 fun v77 w76 =>
callP G17 [s0, v77] w76 fun _ w78 =>
bindP (pFieldAddr 5 s5) fun v80 =>
bindP (ld1 v80 w78) fun v81 =>
callP G60 [s1, v81] w78 fun _ w82 =>
bindP (pFieldAddr 5 s5) fun v84 =>
bindP (ld1 v84 w82) fun v85 =>
callP G61 [v77, v85] w82 fun v87 w86 =>
K v87 w86) (
bindP (bEq Try.prog 3 (.tmp 11) (.const (.int .i64 8)) s11 (.int .i64 8)) fun v88 =>
ifB v88 (
bindP (pFieldAddr 4 s5) fun v89 =>
bindP (ld1 v89 w.drew) fun v90 =>
bindP (pFieldAddr 4 s5) fun v91 =>
bindP (ld1 v91 w.drew) fun v92 =>
callP G11 [s0, v90] w.drew fun v94 w93 =>
fok true (ld1 v91 w93) v92 ∧ (callP G62 [s1, v92] w93 fun v96 w95 =>
bindP (bEq Try.prog 24 (.tmp 133) (.tmp 137) v94 v96) fun v97 =>
K v97 w95)) (
callP G22 [s0] w fun v99 w98 =>
bindP (bEq Try.prog 23 (.tmp 14) (.const (.pointer none)) v99 (.pointer none)) fun v100 =>
stepM (gd false v100) v99 fun v101 =>
stepM (gd false v100) s1 fun v102 =>
Sx.stepG (gd false v100) (pFieldAddr 1 s5) fun v103 =>
Sx.stepG (gd false v100) (ld1 v103 w98) fun v104 =>
stepE (gd false v100) (fun k => callP G36 [v101, v102, v104] w98 k) w98 fun v106 w105 =>
Sx.stepG (gd false v100) (uNot v106) fun v107 =>
bindP (pPick v100 (.bool true) v107) fun v108 =>
ifB v108 (
K (.bool false) w105) (
bindP (pFieldAddr 1 s5) fun v109 =>
bindP (ld1 v109 w105) fun v110 =>
callP G19 [v99, v110, (.string ⟨#[111, 116, 104, 101, 114]⟩)] w105 fun _ w111 =>
callP G17 [v99, (.slice none 0 0)] w111 fun _ w113 =>
callP G18 [v99, (.string ⟨#[111, 116, 104, 101, 114]⟩)] w113 fun _ w115 =>
K (.bool true) w115))))))))
def F35_7 (s0 s1 s5 s11 s43 : Value) (w : World) (K : V1) : Prop := F35_7b s0 s1 s5 s11 s43 w K
theorem ok35_7 {K : V1}
    (hn : HN (fun e w => K (e 6) w) kn) (hr : HR Try.prog [.tmp 6] K kr) (he : HE (blkK 0 (fun e w => K (e 6) w) noE) ke) :
    ∀ e w, F35_7 (e 0) (e 1) (e 5) (e 11) (e 43) w K → denL Try.prog (tabOf T35) 139 fuel ((flat (elseC (nthC (flat (blkB (nthC (flat (bodyOf Try.f35)) 2))) 1))).drop 2) e w kn kr ke := by
  intro e w h
  unfold F35_7 at h
  have e1 : ∀ (_ : Unit), F35_7b (e 0) (e 1) (e 5) (e 11) (e 43) w K = denL Try.prog (tabOf T35) 139 fuel ((flat (elseC (nthC (flat (blkB (nthC (flat (bodyOf Try.f35)) 2))) 1))).drop 2) e w (fun e w => K (e 6) w) (endD Try.prog [.tmp 6] K) (blkK 0 (fun e w => K (e 6) w) noE) := by intro _; kernel_rfl
  exact seg_end (Eq.mp (e1 ()) h) hn hr he
def F35_6b (s0 s1 s5 s11 : Value) (w : World) (_K : V1) (Y0 : V5) : Prop :=
bindP (bEq Try.prog 3 (.tmp 11) (.const (.int .i64 1)) s11 (.int .i64 1)) fun v117 =>
ifB v117 (
Y0 s0 s1 s5 s11 v117 w) (
bindP (bEq Try.prog 3 (.tmp 11) (.const (.int .i64 2)) s11 (.int .i64 2)) fun v118 =>
Y0 s0 s1 s5 s11 v118 w)
def F35_6 (s0 s1 s5 s11 : Value) (w : World) (K : V1) : Prop := F35_6b s0 s1 s5 s11 w K (fun a0 a1 a5 a11 a43 w => F35_7 a0 a1 a5 a11 a43 w K)
theorem ok35_6 {K : V1}
    (hn : HN (fun e w => K (e 6) w) kn) (hr : HR Try.prog [.tmp 6] K kr) (he : HE (blkK 0 (fun e w => K (e 6) w) noE) ke) :
    ∀ e w, F35_6 (e 0) (e 1) (e 5) (e 11) w K → denL Try.prog (tabOf T35) 139 fuel ((flat (elseC (nthC (flat (blkB (nthC (flat (bodyOf Try.f35)) 2))) 1))).drop 0) e w kn kr ke := by
  intro e w h
  unfold F35_6 at h
  have e1 : ∀ (Y0 : V5), F35_6b (e 0) (e 1) (e 5) (e 11) w K Y0 = denL Try.prog (tabOf T35) 139 fuel (((flat (elseC (nthC (flat (blkB (nthC (flat (bodyOf Try.f35)) 2))) 1))).drop 0).take 2) e w (fun e w => Y0 (e 0) (e 1) (e 5) (e 11) (e 43) w) (endD Try.prog [.tmp 6] K) (blkK 0 (fun e w => K (e 6) w) noE) := by intro Y0; kernel_rfl
  exact seg 2 (Eq.mp (e1 (fun a0 a1 a5 a11 a43 w => F35_7 a0 a1 a5 a11 a43 w K)) h) (fun e w h => ok35_7 hn hr he e w h) hr he
def F35_4 (s0 s1 s5 s11 s32 : Value) (w : World) (K : V1) : Prop := ifB s32 (F35_5 s0 s1 s5 w K) (F35_6 s0 s1 s5 s11 w K)
theorem ok35_4 {K : V1}
    (hn : HN (fun e w => K (e 6) w) kn) (hr : HR Try.prog [.tmp 6] K kr) (he : HE (blkK 0 (fun e w => K (e 6) w) noE) ke) :
    ∀ e w, F35_4 (e 0) (e 1) (e 5) (e 11) (e 32) w K → denL Try.prog (tabOf T35) 139 fuel ((flat (blkB (nthC (flat (bodyOf Try.f35)) 2))).drop 1) e w kn kr ke := by
  intro e w h
  unfold F35_4 at h
  refine seg_cond (c := (.tmp 32)) (a := thenC (nthC (flat (blkB (nthC (flat (bodyOf Try.f35)) 2))) 1)) (b := elseC (nthC (flat (blkB (nthC (flat (bodyOf Try.f35)) 2))) 1)) (l2 := (flat (blkB (nthC (flat (bodyOf Try.f35)) 2))).drop 2) (by kernel_rfl) h (fun h => ?_) (fun h => ?_)
  · exact ok35_5 hn hr he e w h
  · exact ok35_6 hn hr he e w h
def F35_3b (s0 s1 s5 s11 : Value) (w : World) (_K : V1) (Y0 : V5) : Prop :=
bindP (bEq Try.prog 3 (.tmp 11) (.const (.int .i64 0)) s11 (.int .i64 0)) fun v119 =>
Y0 s0 s1 s5 s11 v119 w
def F35_3 (s0 s1 s5 s11 : Value) (w : World) (K : V1) : Prop := F35_3b s0 s1 s5 s11 w K (fun a0 a1 a5 a11 a32 w => F35_4 a0 a1 a5 a11 a32 w K)
theorem ok35_3 {K : V1}
    (hn : HN (fun e w => K (e 6) w) kn) (hr : HR Try.prog [.tmp 6] K kr) (he : HE (blkK 0 (fun e w => K (e 6) w) noE) ke) :
    ∀ e w, F35_3 (e 0) (e 1) (e 5) (e 11) w K → denL Try.prog (tabOf T35) 139 fuel ((flat (blkB (nthC (flat (bodyOf Try.f35)) 2))).drop 0) e w kn kr ke := by
  intro e w h
  unfold F35_3 at h
  have e1 : ∀ (Y0 : V5), F35_3b (e 0) (e 1) (e 5) (e 11) w K Y0 = denL Try.prog (tabOf T35) 139 fuel (((flat (blkB (nthC (flat (bodyOf Try.f35)) 2))).drop 0).take 1) e w (fun e w => Y0 (e 0) (e 1) (e 5) (e 11) (e 32) w) (endD Try.prog [.tmp 6] K) (blkK 0 (fun e w => K (e 6) w) noE) := by intro Y0; kernel_rfl
  exact seg 1 (Eq.mp (e1 (fun a0 a1 a5 a11 a32 w => F35_4 a0 a1 a5 a11 a32 w K)) h) (fun e w h => ok35_4 hn hr he e w h) hr he
def F35_2 (s0 s1 s5 s11 : Value) (w : World) (K : V1) : Prop := F35_3 s0 s1 s5 s11 w K
theorem ok35_2 {K : V1}
    (hn : HN (fun e w => K (e 6) w) kn) (hr : HR Try.prog [.tmp 6] K kr) (he : HE noE ke) :
    ∀ e w, F35_2 (e 0) (e 1) (e 5) (e 11) w K → denL Try.prog (tabOf T35) 139 fuel ((flat (bodyOf Try.f35)).drop 2) e w kn kr ke := by
  intro e w h
  unfold F35_2 at h
  refine seg_block (id := 0) (body := (blkB (nthC (flat (bodyOf Try.f35)) 2))) (l2 := (flat (bodyOf Try.f35)).drop 3) (by kernel_rfl) ?_
  exact ok35_3 hn hr (blkK_mono hn he) e w h
def F35_1b (s0 s1 s2 : Value) (w : World) (_K : V1) (Y0 : V4) : Prop :=
eBox 70 s2 w fun v121 w120 =>
bindP (pFieldAddr 0 v121) fun v122 =>
bindP (ld1 v122 w120) fun v123 =>
callP G10 [v123, (.int .i64 10)] w120 fun v125 w124 =>
Y0 s0 s1 v121 v125 w124
def F35_1 (s0 s1 s2 : Value) (w : World) (K : V1) : Prop := F35_1b s0 s1 s2 w K (fun a0 a1 a5 a11 w => F35_2 a0 a1 a5 a11 w K)
theorem ok35_1 {K : V1}
    (hn : HN (fun e w => K (e 6) w) kn) (hr : HR Try.prog [.tmp 6] K kr) (he : HE noE ke) :
    ∀ e w, F35_1 (e 0) (e 1) (e 2) w K → denL Try.prog (tabOf T35) 139 fuel ((flat (bodyOf Try.f35)).drop 0) e w kn kr ke := by
  intro e w h
  unfold F35_1 at h
  have e1 : ∀ (Y0 : V4), F35_1b (e 0) (e 1) (e 2) w K Y0 = denL Try.prog (tabOf T35) 139 fuel (((flat (bodyOf Try.f35)).drop 0).take 2) e w (fun e w => Y0 (e 0) (e 1) (e 5) (e 11) w) (endD Try.prog [.tmp 6] K) noE := by intro Y0; kernel_rfl
  exact seg 2 (Eq.mp (e1 (fun a0 a1 a5 a11 w => F35_2 a0 a1 a5 a11 w K)) h) (fun e w h => ok35_2 hn hr he e w h) hr he
def F35 (x0 x1 x2 : Value) (w : World) (K : V1) : Prop := F35_1 x0 x1 x2 w K
def G35 : FnT := fun args w K => on3 (fun x0 x1 x2 => F35 x0 x1 x2 w K) args
theorem c35 {x0 x1 x2 : Value} {w : World} {K : V1} (h : F35 x0 x1 x2 w K) : callP G35 [x0, x1, x2] w K := callP_intro (on3_mk (p := fun x0 x1 x2 => F35 x0 x1 x2 w K) h)
theorem ok35 : OkF Try.prog 35 G35 := by
  refine okF_of (tab_ok (l := T35) ⟨ok10, ok11, ok17, ok18, ok19, ok21, ok22, ok36, ok41, ok52, ok53, ok54, ok55, ok56, ok57, ok58, ok59, ok60, ok61, ok62, trivial⟩) mixed (n := fuel) Try.func35 Try.call35 fun args w K h => ?_
  obtain ⟨x0, x1, x2, rfl, hh⟩ := of_on3 h
  unfold F35 at hh
  exact fnD_list (c := bodyOf Try.f35) (by kernel_rfl) (by kernel_rfl) (ok35_1 (fun _ _ h => h) (fun _ _ h => h) (fun _ _ _ h => h) (initE [x0, x1, x2]) w hh)
def T6 : List (Nat × FnT) := [(8, G8), (9, G9), (34, G34), (35, G35), (36, G36)]
def F6_3b (w : World) (K : V1) : Prop :=
K (.bool true) w
def F6_3 (w : World) (K : V1) : Prop := F6_3b w K
theorem ok6_3 {K : V1}
    (hn : HN (fun e w => K (e 4) w) kn) (hr : HR Try.prog [.tmp 4] K kr) (he : HE noE ke) :
    ∀ e w, F6_3 w K → denL Try.prog (tabOf T6) 87 fuel ((flat (bodyOf Try.f6)).drop 7) e w kn kr ke := by
  intro e w h
  unfold F6_3 at h
  have e1 : ∀ (_ : Unit), F6_3b w K = denL Try.prog (tabOf T6) 87 fuel ((flat (bodyOf Try.f6)).drop 7) e w (fun e w => K (e 4) w) (endD Try.prog [.tmp 4] K) noE := by intro _; kernel_rfl
  exact seg_end (Eq.mp (e1 ()) h) hn hr he
def F6_5b (s1 s5 s7 s9 : Value) (w : World) (_K : V1) (R3 : V4) : Prop :=
bindP (bAdd s9 (.int .i64 1)) fun v1 =>
R3 s1 s5 s7 v1 w
def F6_5 (s1 s5 s7 s9 : Value) (w : World) (K : V1) (R3 : V4) : Prop := F6_5b s1 s5 s7 s9 w K R3
theorem ok6_5 (R3 : V4) {K : V1}
    (hn : HN (fun e w => R3 (e 1) (e 5) (e 7) (e 9) w) kn) (hr : HR Try.prog [.tmp 4] K kr) (he : HE (blkK 0 (fun e w => F6_3 w K) noE) ke) :
    ∀ e w, F6_5 (e 1) (e 5) (e 7) (e 9) w K R3 → denL Try.prog (tabOf T6) 87 fuel ((flat (loopB (blkB (nthC (flat (bodyOf Try.f6)) 6)))).drop 3) e w kn kr ke := by
  intro e w h
  unfold F6_5 at h
  have e1 : ∀ (_ : Unit), F6_5b (e 1) (e 5) (e 7) (e 9) w K R3 = denL Try.prog (tabOf T6) 87 fuel ((flat (loopB (blkB (nthC (flat (bodyOf Try.f6)) 6)))).drop 3) e w (fun e w => R3 (e 1) (e 5) (e 7) (e 9) w) (endD Try.prog [.tmp 4] K) (blkK 0 (fun e w => F6_3 w K) noE) := by intro _; kernel_rfl
  exact seg_end (Eq.mp (e1 ()) h) hn hr he
def F6_4b (s1 s5 s7 s9 : Value) (w : World) (K : V1) (R3 : V4) (Y0 : V4) (Y1 : V0) : Prop :=
bindP (bNe Try.prog 66 (.tmp 38) (.const (.pointer none)) s7 (.pointer none)) fun v2 =>
stepM (gd true v2) s9 fun v3 =>
stepM (gd true v2) s1 fun v4 =>
Sx.stepG (gd true v2) (lenL v4) fun v5 =>
Sx.stepG (gd true v2) (bLt v3 v5) fun v6 =>
bindP (pPick v2 v6 (.bool false)) fun v7 =>
stepM (gd true v7) s9 fun v8 =>
Sx.stepG (gd true v7) (bLt v8 (.int .i64 80)) fun v9 =>
bindP (pPick v7 v9 (.bool false)) fun v10 =>
ifB v10 (
bindP (pIndexL 6 s1 s9) fun v11 =>
bindP (pFieldAddr 3 v11) fun v12 =>
bindP (ld1 v12 w) fun v13 =>
bindP (lenS v13) fun v14 =>
bindP (bGt v14 (.int .i64 500)) fun v15 =>
stepM (gd false v15) s1 fun v16 =>
stepM (gd false v15) s9 fun v17 =>
Sx.stepG (gd false v15) (pIndexL 6 v16 v17) fun v18 =>
Sx.stepG (gd false v15) (pFieldAddr 5 v18) fun v19 =>
Sx.stepG (gd false v15) (ld1 v19 w) fun v20 =>
Sx.stepG (gd false v15) (lenL v20) fun v21 =>
Sx.stepG (gd false v15) (bGt v21 (.int .i64 100)) fun v22 =>
bindP (pPick v15 (.bool true) v22) fun v23 =>
ifB v23 (
Y0 s1 s5 s7 s9 w) (
bindP (pIndexL 6 s1 s9) fun v24 =>
bindP (ldN 6 v24 w) fun v25 =>
callP G35 [s5, s7, v25] w fun v27 w26 =>
bindP (uNot v27) fun v28 =>
stepM (gd false v28) s5 fun v29 =>
stepM (gd false v28) s7 fun v30 =>
stepM (gd false v28) s1 fun v31 =>
stepM (gd false v28) s9 fun v32 =>
Sx.stepG (gd false v28) (pIndexL 6 v31 v32) fun v33 =>
Sx.stepG (gd false v28) (pFieldAddr 1 v33) fun v34 =>
Sx.stepG (gd false v28) (ld1 v34 w26) fun v35 =>
stepE (gd false v28) (fun k => callP G36 [v29, v30, v35] w26 k) w26 fun v37 w36 =>
Sx.stepG (gd false v28) (uNot v37) fun v38 =>
bindP (pPick v28 (.bool true) v38) fun v39 =>
ifB v39 (
K (.bool false) w36) (
Y0 s1 s5 s7 s9 w36))) (
Y1 w)
def F6_4 (s1 s5 s7 s9 : Value) (w : World) (K : V1) (R3 : V4) : Prop := F6_4b s1 s5 s7 s9 w K R3 (fun a1 a5 a7 a9 w => F6_5 a1 a5 a7 a9 w K R3) (fun w => F6_3 w K)
theorem ok6_4 (R3 : V4) {K : V1}
    (hn : HN (fun e w => R3 (e 1) (e 5) (e 7) (e 9) w) kn) (hr : HR Try.prog [.tmp 4] K kr) (he : HE (blkK 0 (fun e w => F6_3 w K) noE) ke) :
    ∀ e w, F6_4 (e 1) (e 5) (e 7) (e 9) w K R3 → denL Try.prog (tabOf T6) 87 fuel ((flat (loopB (blkB (nthC (flat (bodyOf Try.f6)) 6)))).drop 0) e w kn kr ke := by
  intro e w h
  unfold F6_4 at h
  have e1 : ∀ (Y0 : V4) (Y1 : V0), F6_4b (e 1) (e 5) (e 7) (e 9) w K R3 Y0 Y1 = denL Try.prog (tabOf T6) 87 fuel (((flat (loopB (blkB (nthC (flat (bodyOf Try.f6)) 6)))).drop 0).take 3) e w (fun e w => Y0 (e 1) (e 5) (e 7) (e 9) w) (endD Try.prog [.tmp 4] K) (blkK 0 (fun e w => Y1 w) noE) := by intro Y0 Y1; kernel_rfl
  exact seg 3 (Eq.mp (e1 (fun a1 a5 a7 a9 w => F6_5 a1 a5 a7 a9 w K R3) (fun w => F6_3 w K)) h) (fun e w h => ok6_5 R3 hn hr he e w h) hr he
def F6_2L : Nat → Value → Value → Value → Value → World → (V1) → Prop
  | 0, _, _, _, _, _, _ => False
  | n + 1, s1, s5, s7, s9, w, K => F6_4 s1 s5 s7 s9 w K (fun a1 a5 a7 a9 w => F6_2L n a1 a5 a7 a9 w K)
def F6_2 (s1 s5 s7 s9 : Value) (w : World) (K : V1) : Prop := F6_2L fuel s1 s5 s7 s9 w K
theorem ok6_2 {K : V1}
    (hn : HN (fun e w => K (e 4) w) kn) (hr : HR Try.prog [.tmp 4] K kr) (he : HE noE ke) :
    ∀ e w, F6_2 (e 1) (e 5) (e 7) (e 9) w K → denL Try.prog (tabOf T6) 87 fuel ((flat (bodyOf Try.f6)).drop 6) e w kn kr ke := by
  intro e w h
  unfold F6_2 at h
  refine seg_loop (id := 0) (body := (loopB (blkB (nthC (flat (bodyOf Try.f6)) 6)))) (l2 := (flat (bodyOf Try.f6)).drop 7) (by kernel_rfl) ?_
  refine loop_ok (FL := fun m e w => F6_2L m (e 1) (e 5) (e 7) (e 9) w K) (fr := endD Try.prog [.tmp 4] K) (fe := (blkK 0 (fun e w => F6_3 w K) noE)) (fun _ _ h => h) ?_ hr (blkK_mono (fun e w h => ok6_3 hn hr he e w h) he) fuel e w h
  intro m e w h
  have h : F6_2L (m + 1) (e 1) (e 5) (e 7) (e 9) w K := h
  rw [F6_2L] at h
  exact ok6_4 (fun a1 a5 a7 a9 w => F6_2L m a1 a5 a7 a9 w K) (fun _ _ h => h) (fun _ _ h => h) (fun _ _ _ h => h) e w h
def F6_1b (s0 s1 : Value) (w : World) (K : V1) (Y0 : V4) : Prop :=
callP G8 [s0] w fun v41 w40 =>
bindP (pTuple v41 0) fun v42 =>
bindP (pTuple v41 1) fun v43 =>
callP G34 [s0] w40 fun v45 w44 =>
bindP (pTuple v45 0) fun v46 =>
bindP (pTuple v45 1) fun v47 =>
bindP (bNe Try.prog 24 (.tmp 20) (.tmp 21) v43 v47) fun v48 =>
stepM (gd false v48) v42 fun v49 =>
Sx.stepG (gd false v48) (bEq Try.prog 23 (.tmp 24) (.const (.pointer none)) v49 (.pointer none)) fun v50 =>
stepM (gd false v48) v46 fun v51 =>
Sx.stepG (gd false v48) (bEq Try.prog 66 (.tmp 26) (.const (.pointer none)) v51 (.pointer none)) fun v52 =>
Sx.stepG (gd false v48) (bNe Try.prog 4 (.tmp 25) (.tmp 27) v50 v52) fun v53 =>
bindP (pPick v48 (.bool true) v53) fun v54 =>
bindP (pPick v54 (.bool true) (.bool false)) fun v55 =>
bindP (pPick v55 (.bool true) (.bool false)) fun v56 =>
stepE (gd false v56) (fun k => callP G9 [] w44 k) w44 fun v58 w57 =>
Sx.stepG (gd false v56) (uNot v58) fun v59 =>
bindP (pPick v56 (.bool true) v59) fun v60 =>
ifB v60 (
K (.bool false) w57) (
Y0 s1 v42 v46 (.int .i64 0) w57)
def F6_1 (s0 s1 : Value) (w : World) (K : V1) : Prop := F6_1b s0 s1 w K (fun a1 a5 a7 a9 w => F6_2 a1 a5 a7 a9 w K)
theorem ok6_1 {K : V1}
    (hn : HN (fun e w => K (e 4) w) kn) (hr : HR Try.prog [.tmp 4] K kr) (he : HE noE ke) :
    ∀ e w, F6_1 (e 0) (e 1) w K → denL Try.prog (tabOf T6) 87 fuel ((flat (bodyOf Try.f6)).drop 0) e w kn kr ke := by
  intro e w h
  unfold F6_1 at h
  have e1 : ∀ (Y0 : V4), F6_1b (e 0) (e 1) w K Y0 = denL Try.prog (tabOf T6) 87 fuel (((flat (bodyOf Try.f6)).drop 0).take 6) e w (fun e w => Y0 (e 1) (e 5) (e 7) (e 9) w) (endD Try.prog [.tmp 4] K) noE := by intro Y0; kernel_rfl
  exact seg 6 (Eq.mp (e1 (fun a1 a5 a7 a9 w => F6_2 a1 a5 a7 a9 w K)) h) (fun e w h => ok6_2 hn hr he e w h) hr he
def F6 (x0 x1 : Value) (w : World) (K : V1) : Prop := F6_1 x0 x1 w K
def G6 : FnT := fun args w K => on2 (fun x0 x1 => F6 x0 x1 w K) args
theorem c6 {x0 x1 : Value} {w : World} {K : V1} (h : F6 x0 x1 w K) : callP G6 [x0, x1] w K := callP_intro (on2_mk (p := fun x0 x1 => F6 x0 x1 w K) h)
theorem ok6 : OkF Try.prog 6 G6 := by
  refine okF_of (tab_ok (l := T6) ⟨ok8, ok9, ok34, ok35, ok36, trivial⟩) mixed (n := fuel) Try.func6 Try.call6 fun args w K h => ?_
  obtain ⟨x0, x1, rfl, hh⟩ := of_on2 h
  unfold F6 at hh
  exact fnD_list (c := bodyOf Try.f6) (by kernel_rfl) (by kernel_rfl) (ok6_1 (fun _ _ h => h) (fun _ _ h => h) (fun _ _ _ h => h) (initE [x0, x1]) w hh)
end Go.Proofs.Gong

/- Dk1 -/
namespace Go.Proofs.Gong
open Go Go.Sx Go.Proofs
set_option maxRecDepth 100000
@[reducible] def cFi (x : List UInt8 × Nat) : List Value := [.string (bs x.1), .int .i64 (x.2 : Nat)]
abbrev fiV (x : List UInt8 × Nat) : Value := .agg (cFi x).toArray
theorem KST : KeyT Try.prog 9 kSt where
  u := by kernel_rfl
  ck := fun k => by simp [kSt, ckv, show Try.prog.underlying 9 = some .string by kernel_rfl]
  eq := fun a b => by
    have h : Try.prog.underlying 9 = some .string := by kernel_rfl
    simp [kSt, eqv, Op.maxDepth, h, sEq_eq, bs_beq]
  sb := fun a => by simp [kSt, Instr.sameBits]
theorem zFi : fZero Try.prog 86 = some (fiV ([], 0)) := z86
def DiskI (v : Value) (d : Dk) (M : List (List UInt8 × (List UInt8 × Nat))) : HP :=
  HEx fun p => HEx fun m => HPr (v = ptr p) (HSt (Cl p #[.int .i64 d.room, m, .bool d.stop, .int .i64 d.left] 80) (MapH kSt fiV m M))
def DiskA (v : Value) (d : Dk) : HP := HEx fun M => HPr (KInv ltS fKey fVal M d.fs ∧ DOk d) (DiskI v d M)
attribute [local irreducible] fBuild fLook fZero eqv bEqv Cl MapH LsH SlH ld1 ldN st callP eBox eAlloc lenM lenL eMapSet eDelete eAppend eBuildSl eRange eNext
section
variable {w0 w : World} {L : List HP} {K : Value → World → Prop} {v : Value} {d : Dk} {n x : List UInt8} {M : List (List UInt8 × (List UInt8 × Nat))}
theorem diskI_iff : Sat w0 (DiskI v d M :: L) w ↔ ∃ p m, v = ptr p ∧ Sat w0 (Cl p #[.int .i64 d.room, m, .bool d.stop, .int .i64 d.left] 80 :: MapH kSt fiV m M :: L) w := by
  simp only [DiskI, Sat.ex_iff, Sat.pr_iff, Sat.star_iff]
theorem diskA_iff : Sat w0 (DiskA v d :: L) w ↔ ∃ M, (KInv ltS fKey fVal M d.fs ∧ DOk d) ∧ Sat w0 (DiskI v d M :: L) w := by
  simp only [DiskA, Sat.ex_iff, Sat.pr_iff]
theorem diskA_ok (h : Sat w0 (DiskA v d :: L) w) : DOk d := by
  obtain ⟨M, H, _⟩ := diskA_iff.1 h
  exact H.2
theorem dnew_spec {m : Int} (h : Sat w0 L w) (hK0 : (m < 0 ∨ 1099511627776 < m) → K (.tuple #[.pointer none, .int .i64 1]) w) (hK1 : 0 ≤ m → m ≤ 1099511627776 → ∀ p w', Sat w0 (DiskA (ptr p) (newD m) :: L) w' → K (.tuple #[ptr p, .int .i64 0]) w') : callP G8 [.int .i64 m] w K := by
  refine c8 ?_
  unfold F8
  by_cases g1 : m < 0
  · have g1' : decide (m < 0) = true := by simpa using g1
    (repeat (first
 | (simp (disch := omega) only [evA, evB, evC, bAdd_i64, bSub_i64, g1'])
 | (with_reducible apply go_ld1 h)
 | ((with_reducible first | apply go_ldA h | apply go_rd h | apply go_rdN h | apply go_rlen h); rfl)
 | (with_reducible first | apply go_ldN h | apply go_lenL h)
 | ((with_reducible apply go_st h); intro _ h)
 | ((with_reducible apply go_stA h); rfl; rfl; (first | rfl | simp [OneV.o]); intro _ h)
 | ((with_reducible apply go_stN h); rfl; (first | rfl | simp [OneV.o]); intro _ h)
 | ((with_reducible apply go_box h); rfl; intro _ _ h)
 | ((with_reducible apply go_ix h); omega)
 | ((with_reducible first | apply go_elN h | apply go_f1 h | apply go_rf1 h | apply go_rel h); (case hi => omega); (try case hx => exact inferInstance); (try case hv => rfl))
 | ((with_reducible apply go_fa h); omega; omega)
))
    exact hK0 (.inl g1)
  have g1' : decide (m < 0) = false := by simpa using g1
  by_cases g2 : m > 1099511627776
  · have g2' : decide (m > 1099511627776) = true := by simpa using g2
    (repeat (first
 | (simp (disch := omega) only [evA, evB, evC, bAdd_i64, bSub_i64, g1', g2'])
 | (with_reducible apply go_ld1 h)
 | ((with_reducible first | apply go_ldA h | apply go_rd h | apply go_rdN h | apply go_rlen h); rfl)
 | (with_reducible first | apply go_ldN h | apply go_lenL h)
 | ((with_reducible apply go_st h); intro _ h)
 | ((with_reducible apply go_stA h); rfl; rfl; (first | rfl | simp [OneV.o]); intro _ h)
 | ((with_reducible apply go_stN h); rfl; (first | rfl | simp [OneV.o]); intro _ h)
 | ((with_reducible apply go_box h); rfl; intro _ _ h)
 | ((with_reducible apply go_ix h); omega)
 | ((with_reducible first | apply go_elN h | apply go_f1 h | apply go_rf1 h | apply go_rel h); (case hi => omega); (try case hx => exact inferInstance); (try case hv => rfl))
 | ((with_reducible apply go_fa h); omega; omega)
))
    exact hK0 (.inr g2)
  have g2' : decide (m > 1099511627776) = false := by simpa using g2
  (repeat (first
 | (simp (disch := omega) only [evA, evB, evC, bAdd_i64, bSub_i64, g1', g2'])
 | (with_reducible apply go_ld1 h)
 | ((with_reducible first | apply go_ldA h | apply go_rd h | apply go_rdN h | apply go_rlen h); rfl)
 | (with_reducible first | apply go_ldN h | apply go_lenL h)
 | ((with_reducible apply go_st h); intro _ h)
 | ((with_reducible apply go_stA h); rfl; rfl; (first | rfl | simp [OneV.o]); intro _ h)
 | ((with_reducible apply go_stN h); rfl; (first | rfl | simp [OneV.o]); intro _ h)
 | ((with_reducible apply go_box h); rfl; intro _ _ h)
 | ((with_reducible apply go_ix h); omega)
 | ((with_reducible first | apply go_elN h | apply go_f1 h | apply go_rf1 h | apply go_rel h); (case hi => omega); (try case hx => exact inferInstance); (try case hv => rfl))
 | ((with_reducible apply go_fa h); omega; omega)
))
  refine eMakeMap_sat kSt fiV h fun mv w h => ?_
  obtain ⟨r1, _, _, ⟨rfl, _⟩, _⟩ := map_iff.1 h
  have eb : fBuild Try.prog 80 [(0, .int .i64 m), (1, .map (some r1))] = some (.agg #[.int .i64 m, .map (some r1), .bool false, .int .i64 0]) := by kernel_rfl
  (repeat (first
 | (simp (disch := omega) only [evA, evB, evC, bAdd_i64, bSub_i64])
 | (refine go_some (eb ..) ?_)
 | (with_reducible apply go_ld1 h)
 | ((with_reducible first | apply go_ldA h | apply go_rd h | apply go_rdN h | apply go_rlen h); rfl)
 | (with_reducible first | apply go_ldN h | apply go_lenL h)
 | ((with_reducible apply go_st h); intro _ h)
 | ((with_reducible apply go_stA h); rfl; rfl; (first | rfl | simp [OneV.o]); intro _ h)
 | ((with_reducible apply go_stN h); rfl; (first | rfl | simp [OneV.o]); intro _ h)
 | ((with_reducible apply go_box h); rfl; intro _ _ h)
 | ((with_reducible apply go_ix h); omega)
 | ((with_reducible first | apply go_elN h | apply go_f1 h | apply go_rf1 h | apply go_rel h); (case hi => omega); (try case hx => exact inferInstance); (try case hv => rfl))
 | ((with_reducible apply go_fa h); omega; omega)
))
  exact hK1 (by omega) (by omega) _ _ (diskA_iff.2 ⟨[], ⟨.nil, newD_ok (by omega)⟩, diskI_iff.2 ⟨_, _, rfl, h⟩⟩)
theorem isname_spec (hK : K (.bool (nameOk n)) w) : callP G45 [.string (bs n)] w K := by
  refine c45 ?_
  unfold F45
  unfold nameOk at hK
  have e0 : (ByteArray.mk #[] : ByteArray) = bs [] := rfl
  rw [e0]
  by_cases g1 : n = []
  · subst g1
    (repeat (first
 | (simp (disch := omega) only [evA, evB, evC, bAdd_i64, bSub_i64])
 | (with_reducible apply go_ld1 h)
 | ((with_reducible first | apply go_ldA h | apply go_rd h | apply go_rdN h | apply go_rlen h); rfl)
 | (with_reducible first | apply go_ldN h | apply go_lenL h)
 | ((with_reducible apply go_st h); intro _ h)
 | ((with_reducible apply go_stA h); rfl; rfl; (first | rfl | simp [OneV.o]); intro _ h)
 | ((with_reducible apply go_stN h); rfl; (first | rfl | simp [OneV.o]); intro _ h)
 | ((with_reducible apply go_box h); rfl; intro _ _ h)
 | ((with_reducible apply go_ix h); omega)
 | ((with_reducible first | apply go_elN h | apply go_f1 h | apply go_rf1 h | apply go_rel h); (case hi => omega); (try case hx => exact inferInstance); (try case hv => rfl))
 | ((with_reducible apply go_fa h); omega; omega)
))
    simpa using hK
  · have g0 : 1 ≤ n.length := by cases n with | nil => exact absurd rfl g1 | cons a b => simp
    rw [decide_eq_true g0, Bool.true_and] at hK
    have e : decide (n = []) = false := by simpa using g1
    have e2 : decide ((n.length : Int) ≤ 64) = decide (n.length ≤ 64) := by congr 1; simp; omega
    (repeat (first
 | (simp (disch := omega) only [evA, evB, evC, bAdd_i64, bSub_i64, e, e2])
 | (with_reducible apply go_ld1 h)
 | ((with_reducible first | apply go_ldA h | apply go_rd h | apply go_rdN h | apply go_rlen h); rfl)
 | (with_reducible first | apply go_ldN h | apply go_lenL h)
 | ((with_reducible apply go_st h); intro _ h)
 | ((with_reducible apply go_stA h); rfl; rfl; (first | rfl | simp [OneV.o]); intro _ h)
 | ((with_reducible apply go_stN h); rfl; (first | rfl | simp [OneV.o]); intro _ h)
 | ((with_reducible apply go_box h); rfl; intro _ _ h)
 | ((with_reducible apply go_ix h); omega)
 | ((with_reducible first | apply go_elN h | apply go_f1 h | apply go_rf1 h | apply go_rel h); (case hi => omega); (try case hx => exact inferInstance); (try case hv => rfl))
 | ((with_reducible apply go_fa h); omega; omega)
))
    exact hK
theorem diskA_open (h : Sat w0 (DiskA v d :: L) w) : ∃ p m M, v = ptr p ∧ KInv ltS fKey fVal M d.fs ∧ DOk d ∧ Sat w0 (Cl p #[.int .i64 d.room, m, .bool d.stop, .int .i64 d.left] 80 :: MapH kSt fiV m M :: L) w := by
  obtain ⟨M, H, h⟩ := diskA_iff.1 h
  obtain ⟨p, m, hv, h⟩ := diskI_iff.1 h
  exact ⟨p, m, M, hv, H.1, H.2, h⟩
theorem diskA_close {p : Nat} {m : Value} (H : KInv ltS fKey fVal M d.fs) (ok : DOk d) (h : Sat w0 (Cl p #[.int .i64 d.room, m, .bool d.stop, .int .i64 d.left] 80 :: MapH kSt fiV m M :: L) w) : Sat w0 (DiskA (ptr p) d :: L) w :=
  diskA_iff.2 ⟨M, ⟨H, ok⟩, diskI_iff.2 ⟨p, m, rfl, h⟩⟩
theorem stopped_spec (h : Sat w0 (DiskA v d :: L) w) (hK : K (.bool (stoppedD d)) w) : callP G13 [v] w K := by
  obtain ⟨p, m, M, rfl, H, ok, h2⟩ := diskA_open h
  clear h
  have h := h2
  clear h2
  unfold stoppedD at hK
  refine c13 ?_
  unfold F13
  cases hs : d.stop
  · rw [hs] at h hK
    (repeat (first
 | (simp (disch := omega) only [evA, evB, evC, bAdd_i64, bSub_i64])
 | (with_reducible apply go_ld1 h)
 | ((with_reducible first | apply go_ldA h | apply go_rd h | apply go_rdN h | apply go_rlen h); rfl)
 | (with_reducible first | apply go_ldN h | apply go_lenL h)
 | ((with_reducible apply go_st h); intro _ h)
 | ((with_reducible apply go_stA h); rfl; rfl; (first | rfl | simp [OneV.o]); intro _ h)
 | ((with_reducible apply go_stN h); rfl; (first | rfl | simp [OneV.o]); intro _ h)
 | ((with_reducible apply go_box h); rfl; intro _ _ h)
 | ((with_reducible apply go_ix h); omega)
 | ((with_reducible first | apply go_elN h | apply go_f1 h | apply go_rf1 h | apply go_rel h); (case hi => omega); (try case hx => exact inferInstance); (try case hv => rfl))
 | ((with_reducible apply go_fa h); omega; omega)
))
    exact hK
  · rw [hs] at h hK
    (repeat (first
 | (simp (disch := omega) only [evA, evB, evC, bAdd_i64, bSub_i64])
 | (with_reducible apply go_ld1 h)
 | ((with_reducible first | apply go_ldA h | apply go_rd h | apply go_rdN h | apply go_rlen h); rfl)
 | (with_reducible first | apply go_ldN h | apply go_lenL h)
 | ((with_reducible apply go_st h); intro _ h)
 | ((with_reducible apply go_stA h); rfl; rfl; (first | rfl | simp [OneV.o]); intro _ h)
 | ((with_reducible apply go_stN h); rfl; (first | rfl | simp [OneV.o]); intro _ h)
 | ((with_reducible apply go_box h); rfl; intro _ _ h)
 | ((with_reducible apply go_ix h); omega)
 | ((with_reducible first | apply go_elN h | apply go_f1 h | apply go_rf1 h | apply go_rel h); (case hi => omega); (try case hx => exact inferInstance); (try case hv => rfl))
 | ((with_reducible apply go_fa h); omega; omega)
))
    simpa using hK
theorem use_spec (h : Sat w0 (DiskA v d :: L) w) (hK0 : useD d = none → ∀ w', Sat w0 (DiskA v d :: L) w' → K (.bool false) w') (hK1 : ∀ e, useD d = some e → ∀ w', Sat w0 (DiskA v e :: L) w' → K (.bool true) w') : callP G68 [v] w K := by
  refine c68 ?_
  unfold F68 F68_1 F68_1b
  refine stopped_spec h ?_
  have ok := diskA_ok h
  unfold stoppedD
  cases hs : d.stop
  · have hu : useD d = some d := by unfold useD; rw [hs]; rfl
    obtain ⟨p, m, M, rfl, H, ok, h2⟩ := diskA_open h
    have hK0 := h
    clear h
    have h := h2
    clear h2
    rw [hs] at h
    (repeat (first
 | (simp (disch := omega) only [evA, evB, evC, bAdd_i64, bSub_i64, Bool.false_and])
 | (with_reducible apply go_ld1 h)
 | ((with_reducible first | apply go_ldA h | apply go_rd h | apply go_rdN h | apply go_rlen h); rfl)
 | (with_reducible first | apply go_ldN h | apply go_lenL h)
 | ((with_reducible apply go_st h); intro _ h)
 | ((with_reducible apply go_stA h); rfl; rfl; (first | rfl | simp [OneV.o]); intro _ h)
 | ((with_reducible apply go_stN h); rfl; (first | rfl | simp [OneV.o]); intro _ h)
 | ((with_reducible apply go_box h); rfl; intro _ _ h)
 | ((with_reducible apply go_ix h); omega)
 | ((with_reducible first | apply go_elN h | apply go_f1 h | apply go_rf1 h | apply go_rel h); (case hi => omega); (try case hx => exact inferInstance); (try case hv => rfl))
 | ((with_reducible apply go_fa h); omega; omega)
))
    unfold F68_2 F68_2b
    exact hK1 d hu _ hK0
  · by_cases hl : d.left = 0
    · have hu : useD d = none := by unfold useD; rw [hs, if_pos rfl, if_pos hl]
      rw [decide_eq_true hl]
      (repeat (first
 | (simp (disch := omega) only [evA, evB, evC, bAdd_i64, bSub_i64, Bool.and_self])
 | (with_reducible apply go_ld1 h)
 | ((with_reducible first | apply go_ldA h | apply go_rd h | apply go_rdN h | apply go_rlen h); rfl)
 | (with_reducible first | apply go_ldN h | apply go_lenL h)
 | ((with_reducible apply go_st h); intro _ h)
 | ((with_reducible apply go_stA h); rfl; rfl; (first | rfl | simp [OneV.o]); intro _ h)
 | ((with_reducible apply go_stN h); rfl; (first | rfl | simp [OneV.o]); intro _ h)
 | ((with_reducible apply go_box h); rfl; intro _ _ h)
 | ((with_reducible apply go_ix h); omega)
 | ((with_reducible first | apply go_elN h | apply go_f1 h | apply go_rf1 h | apply go_rel h); (case hi => omega); (try case hx => exact inferInstance); (try case hv => rfl))
 | ((with_reducible apply go_fa h); omega; omega)
))
      exact hK0 hu _ h
    · have hu : useD d = some { d with left := d.left - 1 } := by unfold useD; rw [hs, if_pos rfl, if_neg hl]
      have oke := useD_ok ok hu
      rw [decide_eq_false hl]
      obtain ⟨p, m, M, rfl, H, _, h2⟩ := diskA_open h
      clear h
      have h := h2
      clear h2
      rw [hs] at h
      have hb := ok.left
      (repeat (first
 | (simp (disch := omega) only [evA, evB, evC, bAdd_i64, bSub_i64, Bool.and_false])
 | (with_reducible apply go_ld1 h)
 | ((with_reducible first | apply go_ldA h | apply go_rd h | apply go_rdN h | apply go_rlen h); rfl)
 | (with_reducible first | apply go_ldN h | apply go_lenL h)
 | ((with_reducible apply go_st h); intro _ h)
 | ((with_reducible apply go_stA h); rfl; rfl; (first | rfl | simp [OneV.o]); intro _ h)
 | ((with_reducible apply go_stN h); rfl; (first | rfl | simp [OneV.o]); intro _ h)
 | ((with_reducible apply go_box h); rfl; intro _ _ h)
 | ((with_reducible apply go_ix h); omega)
 | ((with_reducible first | apply go_elN h | apply go_f1 h | apply go_rf1 h | apply go_rel h); (case hi => omega); (try case hx => exact inferInstance); (try case hv => rfl))
 | ((with_reducible apply go_fa h); omega; omega)
))
      unfold F68_2 F68_2b
      refine hK1 _ hu _ (diskA_close (d := { d with left := d.left - 1 }) (m := m) H oke ?_)
      show Sat w0 (Cl p #[.int .i64 d.room, m, .bool d.stop, .int .i64 (d.left - 1)] 80 :: MapH kSt fiV m M :: L) _
      rw [hs]
      exact h.got
theorem turn_spec {f : Fil} (hok : DOk (turnD d f).2) (h : Sat w0 (DiskA v d :: L) w) (hK : ∀ w', Sat w0 (DiskA v (turnD d f).2 :: L) w' → K (.int .i64 (turnD d f).1) w') : callP G46 [v, .string (bs f.name), fiV (f.s, f.safe)] w K := by
  refine c46 ?_
  unfold F46
  unfold turnD at hok hK
  (repeat (first
 | (simp (disch := omega) only [evA, evB, evC, bAdd_i64, bSub_i64])
 | (with_reducible apply go_ld1 h)
 | ((with_reducible first | apply go_ldA h | apply go_rd h | apply go_rdN h | apply go_rlen h); rfl)
 | (with_reducible first | apply go_ldN h | apply go_lenL h)
 | ((with_reducible apply go_st h); intro _ h)
 | ((with_reducible apply go_stA h); rfl; rfl; (first | rfl | simp [OneV.o]); intro _ h)
 | ((with_reducible apply go_stN h); rfl; (first | rfl | simp [OneV.o]); intro _ h)
 | ((with_reducible apply go_box h); rfl; intro _ _ h)
 | ((with_reducible apply go_ix h); omega)
 | ((with_reducible first | apply go_elN h | apply go_f1 h | apply go_rf1 h | apply go_rel h); (case hi => omega); (try case hx => exact inferInstance); (try case hv => rfl))
 | ((with_reducible apply go_fa h); omega; omega)
))
  refine use_spec (h.frt) (fun hu w h => ?_) (fun e hu w h => ?_)
  · rw [hu] at hK
    (repeat (first
 | (simp (disch := omega) only [evA, evB, evC, bAdd_i64, bSub_i64])
 | (with_reducible apply go_ld1 h)
 | ((with_reducible first | apply go_ldA h | apply go_rd h | apply go_rdN h | apply go_rlen h); rfl)
 | (with_reducible first | apply go_ldN h | apply go_lenL h)
 | ((with_reducible apply go_st h); intro _ h)
 | ((with_reducible apply go_stA h); rfl; rfl; (first | rfl | simp [OneV.o]); intro _ h)
 | ((with_reducible apply go_stN h); rfl; (first | rfl | simp [OneV.o]); intro _ h)
 | ((with_reducible apply go_box h); rfl; intro _ _ h)
 | ((with_reducible apply go_ix h); omega)
 | ((with_reducible first | apply go_elN h | apply go_f1 h | apply go_rf1 h | apply go_rel h); (case hi => omega); (try case hx => exact inferInstance); (try case hv => rfl))
 | ((with_reducible apply go_fa h); omega; omega)
))
    exact hK _ (h.got)
  · rw [hu] at hok hK
    obtain ⟨p, m, M, rfl, H, ok, h2⟩ := diskA_open h
    clear h
    have h := h2
    clear h2
    (repeat (first
 | (simp (disch := omega) only [evA, evB, evC, bAdd_i64, bSub_i64])
 | (with_reducible apply go_ld1 h)
 | ((with_reducible first | apply go_ldA h | apply go_rd h | apply go_rdN h | apply go_rlen h); rfl)
 | (with_reducible first | apply go_ldN h | apply go_lenL h)
 | ((with_reducible apply go_st h); intro _ h)
 | ((with_reducible apply go_stA h); rfl; rfl; (first | rfl | simp [OneV.o]); intro _ h)
 | ((with_reducible apply go_stN h); rfl; (first | rfl | simp [OneV.o]); intro _ h)
 | ((with_reducible apply go_box h); rfl; intro _ _ h)
 | ((with_reducible apply go_ix h); omega)
 | ((with_reducible first | apply go_elN h | apply go_f1 h | apply go_rf1 h | apply go_rel h); (case hi => omega); (try case hx => exact inferInstance); (try case hv => rfl))
 | ((with_reducible apply go_fa h); omega; omega)
))
    refine eMapSet_sat (h.drew.frt (A := MapH kSt fiV m M)) KST um78 f.name (f.s, f.safe) fun w h => ?_
    refine hK _ (diskA_close (d := { e with fs := fPut f e.fs }) (H.put STO.txt f) hok (h.got))
theorem used_loop {p : Nat} {it m : Value} (hu : usedF d.fs ≤ 1099511627776) (H : KInv ltS fKey fVal M d.fs) (hK : ∀ w', Sat w0 (MapH kSt fiV m M :: L) w' → K (.int .i64 (usedF d.fs : Nat)) w') :
    ∀ (k : Nat) (rem : List (List UInt8 × (List UInt8 × Nat))) (n : Nat) (w : World), rem.length < k → n + (rem.map fun x => x.2.1.length).sum = usedF d.fs → Sat w0 (ItH kSt fiV it m M rem :: L) w → F16_2L k (.int .i64 (n : Nat)) it w K := by
  intro k
  induction k with
  | zero => intro rem n w hd; omega
  | succ k ih =>
    intro rem n w hd hn h
    rw [F16_2L]
    unfold F16_2b
    refine eNext_sat2 h (fun hr w h => ?_) (fun x r1 r2 w hs h hen => ?_)
    · have h2 := it_map h
      rw [hr] at hn
      refine go_some (show pTuple over 0 = some (.bool false) from rfl) ?_
      (repeat (first
 | (simp (disch := omega) only [evA, evB, evC, bAdd_i64, bSub_i64])
 | (with_reducible apply go_ld1 h)
 | ((with_reducible first | apply go_ldA h | apply go_rd h | apply go_rdN h | apply go_rlen h); rfl)
 | (with_reducible first | apply go_ldN h | apply go_lenL h)
 | ((with_reducible apply go_st h); intro _ h)
 | ((with_reducible apply go_stA h); rfl; rfl; (first | rfl | simp [OneV.o]); intro _ h)
 | ((with_reducible apply go_stN h); rfl; (first | rfl | simp [OneV.o]); intro _ h)
 | ((with_reducible apply go_box h); rfl; intro _ _ h)
 | ((with_reducible apply go_ix h); omega)
 | ((with_reducible first | apply go_elN h | apply go_f1 h | apply go_rf1 h | apply go_rel h); (case hi => omega); (try case hx => exact inferInstance); (try case hv => rfl))
 | ((with_reducible apply go_fa h); omega; omega)
))
      unfold F16_3 F16_3b
      have : n = usedF d.fs := by simpa using hn
      rw [this]
      exact hK w h2
    · have hrm : rem.length = r1.length + r2.length + 1 := by rw [hs]; simp; omega
      refine go_some (show pTuple (.tuple #[.bool true, kSt x.1, fiV x.2]) 0 = some (.bool true) from rfl) ?_
      (repeat (first
 | (simp (disch := omega) only [evA, evB, evC, bAdd_i64, bSub_i64])
 | (with_reducible apply go_ld1 h)
 | ((with_reducible first | apply go_ldA h | apply go_rd h | apply go_rdN h | apply go_rlen h); rfl)
 | (with_reducible first | apply go_ldN h | apply go_lenL h)
 | ((with_reducible apply go_st h); intro _ h)
 | ((with_reducible apply go_stA h); rfl; rfl; (first | rfl | simp [OneV.o]); intro _ h)
 | ((with_reducible apply go_stN h); rfl; (first | rfl | simp [OneV.o]); intro _ h)
 | ((with_reducible apply go_box h); rfl; intro _ _ h)
 | ((with_reducible apply go_ix h); omega)
 | ((with_reducible first | apply go_elN h | apply go_f1 h | apply go_rf1 h | apply go_rel h); (case hi => omega); (try case hx => exact inferInstance); (try case hv => rfl))
 | ((with_reducible apply go_fa h); omega; omega)
))
      refine go_some hen ?_
      refine go_some (show pTuple (.tuple #[kSt x.1, fiV x.2]) 1 = some (fiV x.2) from rfl) ?_
      have hsum : n + x.2.1.length + ((r1 ++ r2).map fun x => x.2.1.length).sum = usedF d.fs := by
        rw [← hn, hs]; simp; omega
      refine go_alloc h zFi rfl fun _ _ h => ?_
      (repeat (first
 | (simp (disch := omega) only [evA, evB, evC, bAdd_i64, bSub_i64])
 | (with_reducible apply go_ld1 h)
 | ((with_reducible first | apply go_ldA h | apply go_rd h | apply go_rdN h | apply go_rlen h); rfl)
 | (with_reducible first | apply go_ldN h | apply go_lenL h)
 | ((with_reducible apply go_st h); intro _ h)
 | ((with_reducible apply go_stA h); rfl; rfl; (first | rfl | simp [OneV.o]); intro _ h)
 | ((with_reducible apply go_stN h); rfl; (first | rfl | simp [OneV.o]); intro _ h)
 | ((with_reducible apply go_box h); rfl; intro _ _ h)
 | ((with_reducible apply go_ix h); omega)
 | ((with_reducible first | apply go_elN h | apply go_f1 h | apply go_rf1 h | apply go_rel h); (case hi => omega); (try case hx => exact inferInstance); (try case hv => rfl))
 | ((with_reducible apply go_fa h); omega; omega)
))
      exact ih (r1 ++ r2) (n + x.2.1.length) _ (by simp; omega) hsum (h.got)
theorem used_spec (hc : d.fs.length ≤ 1073741824) (h : Sat w0 (DiskA v d :: L) w) (hK : ∀ w', Sat w0 (DiskA v d :: L) w' → K (.int .i64 (usedF d.fs : Nat)) w') : callP G16 [v] w K := by
  refine c16 ?_
  unfold F16 F16_1 F16_1b F16_2
  obtain ⟨p, m, M, rfl, H, ok, h2⟩ := diskA_open h
  clear h
  have h := h2
  clear h2
  (repeat (first
 | (simp (disch := omega) only [evA, evB, evC, bAdd_i64, bSub_i64])
 | (with_reducible apply go_ld1 h)
 | ((with_reducible first | apply go_ldA h | apply go_rd h | apply go_rdN h | apply go_rlen h); rfl)
 | (with_reducible first | apply go_ldN h | apply go_lenL h)
 | ((with_reducible apply go_st h); intro _ h)
 | ((with_reducible apply go_stA h); rfl; rfl; (first | rfl | simp [OneV.o]); intro _ h)
 | ((with_reducible apply go_stN h); rfl; (first | rfl | simp [OneV.o]); intro _ h)
 | ((with_reducible apply go_box h); rfl; intro _ _ h)
 | ((with_reducible apply go_ix h); omega)
 | ((with_reducible first | apply go_elN h | apply go_f1 h | apply go_rf1 h | apply go_rel h); (case hi => omega); (try case hx => exact inferInstance); (try case hv => rfl))
 | ((with_reducible apply go_fa h); omega; omega)
))
  have hu := ok.used
  have hr := ok.room
  refine eRange_sat (h.frt (A := MapH kSt fiV m M)) um78 fun it w h => ?_
  refine used_loop (p := p) (m := m) (M := M) (d := d) (L := Cl p #[.int .i64 d.room, m, .bool d.stop, .int .i64 d.left] 80 :: L) (by omega) H (fun w h => ?_) fuel M 0 w (by rw [H.len]; unfold fuel; omega) ?_ h
  · exact hK _ (diskA_close H ok (h.got))
  · rw [Nat.zero_add]
    have := (H.pm.map fun x => x.2.1.length).sum_nat
    rw [this, List.map_map]
    rfl
theorem look_file (H : KInv ltS fKey fVal M d.fs) : aGet n M = (fGet n d.fs).map fVal := H.get STO.txt n
theorem app_spec (hc : d.fs.length ≤ 1073741824) (hx : x.length ≤ 140737488355328) (h : Sat w0 (DiskA v d :: L) w) (hK : ∀ w', Sat w0 (DiskA v (appD n x d).2 :: L) w' → K (.int .i64 (appD n x d).1) w') : callP G19 [v, .string (bs n), .string (bs x)] w K := by
  have oka := appD_ok (diskA_ok h) n x
  unfold appD at oka hK
  refine c19 ?_
  unfold F19
  have h0 := h
  obtain ⟨p, m, M, rfl, H, ok, h2⟩ := diskA_open h
  clear h
  have h := h2
  clear h2
  have hu := ok.used
  have hr := ok.room
  (repeat (first
 | (simp (disch := omega) only [evA, evB, evC, bAdd_i64, bSub_i64])
 | (with_reducible apply go_ld1 h)
 | ((with_reducible first | apply go_ldA h | apply go_rd h | apply go_rdN h | apply go_rlen h); rfl)
 | (with_reducible first | apply go_ldN h | apply go_lenL h)
 | ((with_reducible apply go_st h); intro _ h)
 | ((with_reducible apply go_stA h); rfl; rfl; (first | rfl | simp [OneV.o]); intro _ h)
 | ((with_reducible apply go_stN h); rfl; (first | rfl | simp [OneV.o]); intro _ h)
 | ((with_reducible apply go_box h); rfl; intro _ _ h)
 | ((with_reducible apply go_ix h); omega)
 | ((with_reducible first | apply go_elN h | apply go_f1 h | apply go_rf1 h | apply go_rel h); (case hi => omega); (try case hx => exact inferInstance); (try case hv => rfl))
 | ((with_reducible apply go_fa h); omega; omega)
))
  refine go_look2 h (by repeat (first | exact .here | apply Fnt.there)) KST um78 zFi n ?_
  rw [look_file (n := n) H]
  cases hg : fGet n d.fs with
  | none =>
    rw [hg] at oka hK
    have e1 : (Option.map fVal (none : Option Fil)) = none := rfl
    rw [e1]
    simp only [Option.elim_none]
    (repeat (first
 | (simp (disch := omega) only [evA, evB, evC, bAdd_i64, bSub_i64])
 | (with_reducible apply go_ld1 h)
 | ((with_reducible first | apply go_ldA h | apply go_rd h | apply go_rdN h | apply go_rlen h); rfl)
 | (with_reducible first | apply go_ldN h | apply go_lenL h)
 | ((with_reducible apply go_st h); intro _ h)
 | ((with_reducible apply go_stA h); rfl; rfl; (first | rfl | simp [OneV.o]); intro _ h)
 | ((with_reducible apply go_stN h); rfl; (first | rfl | simp [OneV.o]); intro _ h)
 | ((with_reducible apply go_box h); rfl; intro _ _ h)
 | ((with_reducible apply go_ix h); omega)
 | ((with_reducible first | apply go_elN h | apply go_f1 h | apply go_rf1 h | apply go_rel h); (case hi => omega); (try case hx => exact inferInstance); (try case hv => rfl))
 | ((with_reducible apply go_fa h); omega; omega)
))
    refine go_alloc h zFi rfl fun _ _ h => ?_
    (repeat (first
 | (simp (disch := omega) only [evA, evB, evC, bAdd_i64, bSub_i64])
 | (with_reducible apply go_ld1 h)
 | ((with_reducible first | apply go_ldA h | apply go_rd h | apply go_rdN h | apply go_rlen h); rfl)
 | (with_reducible first | apply go_ldN h | apply go_lenL h)
 | ((with_reducible apply go_st h); intro _ h)
 | ((with_reducible apply go_stA h); rfl; rfl; (first | rfl | simp [OneV.o]); intro _ h)
 | ((with_reducible apply go_stN h); rfl; (first | rfl | simp [OneV.o]); intro _ h)
 | ((with_reducible apply go_box h); rfl; intro _ _ h)
 | ((with_reducible apply go_ix h); omega)
 | ((with_reducible first | apply go_elN h | apply go_f1 h | apply go_rf1 h | apply go_rel h); (case hi => omega); (try case hx => exact inferInstance); (try case hv => rfl))
 | ((with_reducible apply go_fa h); omega; omega)
))
    exact hK _ (diskA_close H ok (h.got))
  | some f =>
    rw [hg] at oka hK
    obtain ⟨hm, hn⟩ := kGet_mem hg
    have hfl := usedF_mem hm
    have e1 : Option.map fVal (some f) = some (f.s, f.safe) := rfl
    rw [e1]
    simp only [Option.elim_some]
    (repeat (first
 | (simp (disch := omega) only [evA, evB, evC, bAdd_i64, bSub_i64])
 | (with_reducible apply go_ld1 h)
 | ((with_reducible first | apply go_ldA h | apply go_rd h | apply go_rdN h | apply go_rlen h); rfl)
 | (with_reducible first | apply go_ldN h | apply go_lenL h)
 | ((with_reducible apply go_st h); intro _ h)
 | ((with_reducible apply go_stA h); rfl; rfl; (first | rfl | simp [OneV.o]); intro _ h)
 | ((with_reducible apply go_stN h); rfl; (first | rfl | simp [OneV.o]); intro _ h)
 | ((with_reducible apply go_box h); rfl; intro _ _ h)
 | ((with_reducible apply go_ix h); omega)
 | ((with_reducible first | apply go_elN h | apply go_f1 h | apply go_rf1 h | apply go_rel h); (case hi => omega); (try case hx => exact inferInstance); (try case hv => rfl))
 | ((with_reducible apply go_fa h); omega; omega)
))
    refine go_alloc h zFi rfl fun q _ h => ?_
    (repeat (first
 | (simp (disch := omega) only [evA, evB, evC, bAdd_i64, bSub_i64])
 | (with_reducible apply go_ld1 h)
 | ((with_reducible first | apply go_ldA h | apply go_rd h | apply go_rdN h | apply go_rlen h); rfl)
 | (with_reducible first | apply go_ldN h | apply go_lenL h)
 | ((with_reducible apply go_st h); intro _ h)
 | ((with_reducible apply go_stA h); rfl; rfl; (first | rfl | simp [OneV.o]); intro _ h)
 | ((with_reducible apply go_stN h); rfl; (first | rfl | simp [OneV.o]); intro _ h)
 | ((with_reducible apply go_box h); rfl; intro _ _ h)
 | ((with_reducible apply go_ix h); omega)
 | ((with_reducible first | apply go_elN h | apply go_f1 h | apply go_rf1 h | apply go_rel h); (case hi => omega); (try case hx => exact inferInstance); (try case hv => rfl))
 | ((with_reducible apply go_fa h); omega; omega)
))
    have h2 := diskA_close H ok (L := Cl q (cFi (f.s, f.safe)).toArray 86 :: L) (h.drew.got)
    refine used_spec (v := ptr p) (d := d) hc h2 fun w h => ?_
    obtain ⟨p', m, M, e, H, ok, h3⟩ := diskA_open h
    cases e
    clear h
    have h := h3
    clear h3
    simp only at hK oka
    by_cases g : d.room - usedF d.fs < (x.length : Int)
    · have g' : decide ((x.length : Int) > d.room - (usedF d.fs : Nat)) = true := by simpa using g
      rw [if_pos g] at hK
      (repeat (first
 | (simp (disch := omega) only [evA, evB, evC, bAdd_i64, bSub_i64, g'])
 | (with_reducible apply go_ld1 h)
 | ((with_reducible first | apply go_ldA h | apply go_rd h | apply go_rdN h | apply go_rlen h); rfl)
 | (with_reducible first | apply go_ldN h | apply go_lenL h)
 | ((with_reducible apply go_st h); intro _ h)
 | ((with_reducible apply go_stA h); rfl; rfl; (first | rfl | simp [OneV.o]); intro _ h)
 | ((with_reducible apply go_stN h); rfl; (first | rfl | simp [OneV.o]); intro _ h)
 | ((with_reducible apply go_box h); rfl; intro _ _ h)
 | ((with_reducible apply go_ix h); omega)
 | ((with_reducible first | apply go_elN h | apply go_f1 h | apply go_rf1 h | apply go_rel h); (case hi => omega); (try case hx => exact inferInstance); (try case hv => rfl))
 | ((with_reducible apply go_fa h); omega; omega)
))
      exact hK _ (diskA_close H ok (h.got))
    · have g' : decide ((x.length : Int) > d.room - (usedF d.fs : Nat)) = false := by simpa using g
      rw [if_neg g] at hK oka
      (repeat (first
 | (simp (disch := omega) only [evA, evB, evC, bAdd_i64, bSub_i64, g'])
 | (with_reducible apply go_ld1 h)
 | ((with_reducible first | apply go_ldA h | apply go_rd h | apply go_rdN h | apply go_rlen h); rfl)
 | (with_reducible first | apply go_ldN h | apply go_lenL h)
 | ((with_reducible apply go_st h); intro _ h)
 | ((with_reducible apply go_stA h); rfl; rfl; (first | rfl | simp [OneV.o]); intro _ h)
 | ((with_reducible apply go_stN h); rfl; (first | rfl | simp [OneV.o]); intro _ h)
 | ((with_reducible apply go_box h); rfl; intro _ _ h)
 | ((with_reducible apply go_ix h); omega)
 | ((with_reducible first | apply go_elN h | apply go_f1 h | apply go_rf1 h | apply go_rel h); (case hi => omega); (try case hx => exact inferInstance); (try case hv => rfl))
 | ((with_reducible apply go_fa h); omega; omega)
))
      refine go_some (add_txt (a := f.s) (b := x) (by omega)) ?_
      (repeat (first
 | (simp (disch := omega) only [evA, evB, evC, bAdd_i64, bSub_i64])
 | (with_reducible apply go_ld1 h)
 | ((with_reducible first | apply go_ldA h | apply go_rd h | apply go_rdN h | apply go_rlen h); rfl)
 | (with_reducible first | apply go_ldN h | apply go_lenL h)
 | ((with_reducible apply go_st h); intro _ h)
 | ((with_reducible apply go_stA h); rfl; rfl; (first | rfl | simp [OneV.o]); intro _ h)
 | ((with_reducible apply go_stN h); rfl; (first | rfl | simp [OneV.o]); intro _ h)
 | ((with_reducible apply go_box h); rfl; intro _ _ h)
 | ((with_reducible apply go_ix h); omega)
 | ((with_reducible first | apply go_elN h | apply go_f1 h | apply go_rf1 h | apply go_rel h); (case hi => omega); (try case hx => exact inferInstance); (try case hv => rfl))
 | ((with_reducible apply go_fa h); omega; omega)
))
      have h4 := diskA_close H ok (L := Cl q (cFi (f.s ++ x, f.safe)).toArray 86 :: L) (h.got)
      have e : n = ({ f with s := f.s ++ x } : Fil).name := hn.symm
      rw [e]
      refine turn_spec (f := { f with s := f.s ++ x }) oka h4 fun w h => hK w (h.got)
end
end Go.Proofs.Gong

/- Dk2 -/
namespace Go.Proofs.Gong
open Go Go.Sx Go.Proofs
set_option maxRecDepth 100000
instance : CodC cI 1 := ⟨CI⟩
instance (n : Int) : Nth (cI n) 0 (.int .i64 n) := ⟨rfl⟩
instance : CodC cSt 1 := ⟨⟨fun _ => rfl, fun _ => rfl, by omega⟩⟩
theorem fbFi (s : List UInt8) (n : Nat) : fBuild Try.prog 86 [(0, .string (bs s)), (1, .int .i64 (n : Nat))] = some (fiV (s, n)) := by kernel_rfl
attribute [local irreducible] fBuild fLook fZero eqv bEqv Cl MapH LsH SlH ld1 ldN st callP eBox eAlloc lenM lenL eMapSet eDelete eAppend eBuildSl eRange eNext
section
variable {w0 w : World} {L : List HP} {K : Value → World → Prop} {v : Value} {d : Dk} {n x : List UInt8} {M : List (List UInt8 × (List UInt8 × Nat))}
theorem dmake_spec (h : Sat w0 (DiskA v d :: L) w) (hK : ∀ w', Sat w0 (DiskA v (makeD n d).2 :: L) w' → K (.int .i64 (makeD n d).1) w') : callP G18 [v, .string (bs n)] w K := by
  have oka := makeD_ok (diskA_ok h) n
  unfold makeD at oka hK
  refine c18 ?_
  unfold F18
  refine isname_spec ?_
  cases hn : nameOk n
  · rw [if_pos hn] at hK
    (repeat (first
 | (simp (disch := omega) only [evA, evB, evC, bAdd_i64, bSub_i64])
 | (with_reducible apply go_ld1 h)
 | ((with_reducible first | apply go_ldA h | apply go_rd h | apply go_rdN h | apply go_rlen h); rfl)
 | (with_reducible first | apply go_ldN h | apply go_lenL h)
 | ((with_reducible apply go_st h); intro _ h)
 | ((with_reducible apply go_stA h); rfl; rfl; (first | rfl | simp [OneV.o]); intro _ h)
 | ((with_reducible apply go_stN h); rfl; (first | rfl | simp [OneV.o]); intro _ h)
 | ((with_reducible apply go_box h); rfl; intro _ _ h)
 | ((with_reducible apply go_ix h); omega)
 | ((with_reducible first | apply go_elN h | apply go_f1 h | apply go_rf1 h | apply go_rel h); (case hi => omega); (try case hx => exact inferInstance); (try case hv => rfl))
 | ((with_reducible apply go_fa h); omega; omega)
))
    exact hK _ h
  rw [if_neg (by rw [hn]; simp)] at oka hK
  obtain ⟨p, m, M, rfl, H, ok, h2⟩ := diskA_open h
  clear h
  have h := h2
  clear h2
  (repeat (first
 | (simp (disch := omega) only [evA, evB, evC, bAdd_i64, bSub_i64])
 | (with_reducible apply go_ld1 h)
 | ((with_reducible first | apply go_ldA h | apply go_rd h | apply go_rdN h | apply go_rlen h); rfl)
 | (with_reducible first | apply go_ldN h | apply go_lenL h)
 | ((with_reducible apply go_st h); intro _ h)
 | ((with_reducible apply go_stA h); rfl; rfl; (first | rfl | simp [OneV.o]); intro _ h)
 | ((with_reducible apply go_stN h); rfl; (first | rfl | simp [OneV.o]); intro _ h)
 | ((with_reducible apply go_box h); rfl; intro _ _ h)
 | ((with_reducible apply go_ix h); omega)
 | ((with_reducible first | apply go_elN h | apply go_f1 h | apply go_rf1 h | apply go_rel h); (case hi => omega); (try case hx => exact inferInstance); (try case hv => rfl))
 | ((with_reducible apply go_fa h); omega; omega)
))
  refine go_look2 h (by repeat (first | exact .here | apply Fnt.there)) KST um78 zFi n ?_
  rw [look_file (n := n) H]
  cases hg : fGet n d.fs with
  | none =>
    rw [hg] at oka hK
    have e1 : (Option.map fVal (none : Option Fil)) = none := rfl
    rw [e1]
    simp only [Option.elim_none]
    (repeat (first
 | (simp (disch := omega) only [evA, evB, evC, bAdd_i64, bSub_i64])
 | (with_reducible apply go_ld1 h)
 | ((with_reducible first | apply go_ldA h | apply go_rd h | apply go_rdN h | apply go_rlen h); rfl)
 | (with_reducible first | apply go_ldN h | apply go_lenL h)
 | ((with_reducible apply go_st h); intro _ h)
 | ((with_reducible apply go_stA h); rfl; rfl; (first | rfl | simp [OneV.o]); intro _ h)
 | ((with_reducible apply go_stN h); rfl; (first | rfl | simp [OneV.o]); intro _ h)
 | ((with_reducible apply go_box h); rfl; intro _ _ h)
 | ((with_reducible apply go_ix h); omega)
 | ((with_reducible first | apply go_elN h | apply go_f1 h | apply go_rf1 h | apply go_rel h); (case hi => omega); (try case hx => exact inferInstance); (try case hv => rfl))
 | ((with_reducible apply go_fa h); omega; omega)
))
    refine go_alloc h zFi rfl fun q _ h => ?_
    rw [if_neg (by simp)] at oka hK
    (repeat (first
 | (simp (disch := omega) only [evA, evB, evC, bAdd_i64, bSub_i64])
 | (with_reducible apply go_ld1 h)
 | ((with_reducible first | apply go_ldA h | apply go_rd h | apply go_rdN h | apply go_rlen h); rfl)
 | (with_reducible first | apply go_ldN h | apply go_lenL h)
 | ((with_reducible apply go_st h); intro _ h)
 | ((with_reducible apply go_stA h); rfl; rfl; (first | rfl | simp [OneV.o]); intro _ h)
 | ((with_reducible apply go_stN h); rfl; (first | rfl | simp [OneV.o]); intro _ h)
 | ((with_reducible apply go_box h); rfl; intro _ _ h)
 | ((with_reducible apply go_ix h); omega)
 | ((with_reducible first | apply go_elN h | apply go_f1 h | apply go_rf1 h | apply go_rel h); (case hi => omega); (try case hx => exact inferInstance); (try case hv => rfl))
 | ((with_reducible apply go_fa h); omega; omega)
))
    have e : fBuild Try.prog 86 [] = some (fiV ([], 0)) := by kernel_rfl
    (repeat (first
 | (simp (disch := omega) only [evA, evB, evC, bAdd_i64, bSub_i64])
 | (refine go_some (e ..) ?_)
 | (with_reducible apply go_ld1 h)
 | ((with_reducible first | apply go_ldA h | apply go_rd h | apply go_rdN h | apply go_rlen h); rfl)
 | (with_reducible first | apply go_ldN h | apply go_lenL h)
 | ((with_reducible apply go_st h); intro _ h)
 | ((with_reducible apply go_stA h); rfl; rfl; (first | rfl | simp [OneV.o]); intro _ h)
 | ((with_reducible apply go_stN h); rfl; (first | rfl | simp [OneV.o]); intro _ h)
 | ((with_reducible apply go_box h); rfl; intro _ _ h)
 | ((with_reducible apply go_ix h); omega)
 | ((with_reducible first | apply go_elN h | apply go_f1 h | apply go_rf1 h | apply go_rel h); (case hi => omega); (try case hx => exact inferInstance); (try case hv => rfl))
 | ((with_reducible apply go_fa h); omega; omega)
))
    have h4 := diskA_close H ok (L := Cl q (cFi ([], 0)).toArray 86 :: L) (h.got)
    exact turn_spec (f := ⟨n, [], 0⟩) oka h4 fun w h => hK w (h.got)
  | some f =>
    rw [hg] at oka hK
    have e1 : Option.map fVal (some f) = some (f.s, f.safe) := rfl
    rw [e1]
    simp only [Option.elim_some]
    (repeat (first
 | (simp (disch := omega) only [evA, evB, evC, bAdd_i64, bSub_i64])
 | (with_reducible apply go_ld1 h)
 | ((with_reducible first | apply go_ldA h | apply go_rd h | apply go_rdN h | apply go_rlen h); rfl)
 | (with_reducible first | apply go_ldN h | apply go_lenL h)
 | ((with_reducible apply go_st h); intro _ h)
 | ((with_reducible apply go_stA h); rfl; rfl; (first | rfl | simp [OneV.o]); intro _ h)
 | ((with_reducible apply go_stN h); rfl; (first | rfl | simp [OneV.o]); intro _ h)
 | ((with_reducible apply go_box h); rfl; intro _ _ h)
 | ((with_reducible apply go_ix h); omega)
 | ((with_reducible first | apply go_elN h | apply go_f1 h | apply go_rf1 h | apply go_rel h); (case hi => omega); (try case hx => exact inferInstance); (try case hv => rfl))
 | ((with_reducible apply go_fa h); omega; omega)
))
    refine go_alloc h zFi rfl fun q _ h => ?_
    rw [if_pos (by simp)] at oka hK
    (repeat (first
 | (simp (disch := omega) only [evA, evB, evC, bAdd_i64, bSub_i64])
 | (with_reducible apply go_ld1 h)
 | ((with_reducible first | apply go_ldA h | apply go_rd h | apply go_rdN h | apply go_rlen h); rfl)
 | (with_reducible first | apply go_ldN h | apply go_lenL h)
 | ((with_reducible apply go_st h); intro _ h)
 | ((with_reducible apply go_stA h); rfl; rfl; (first | rfl | simp [OneV.o]); intro _ h)
 | ((with_reducible apply go_stN h); rfl; (first | rfl | simp [OneV.o]); intro _ h)
 | ((with_reducible apply go_box h); rfl; intro _ _ h)
 | ((with_reducible apply go_ix h); omega)
 | ((with_reducible first | apply go_elN h | apply go_f1 h | apply go_rf1 h | apply go_rel h); (case hi => omega); (try case hx => exact inferInstance); (try case hv => rfl))
 | ((with_reducible apply go_fa h); omega; omega)
))
    exact hK _ (diskA_close H ok (h.got))
theorem dsync_spec (h : Sat w0 (DiskA v d :: L) w) (hK : ∀ w', Sat w0 (DiskA v (syncD n d).2 :: L) w' → K (.int .i64 (syncD n d).1) w') : callP G21 [v, .string (bs n)] w K := by
  have oka := syncD_ok (diskA_ok h) n
  unfold syncD at oka hK
  refine c21 ?_
  unfold F21
  obtain ⟨p, m, M, rfl, H, ok, h2⟩ := diskA_open h
  clear h
  have h := h2
  clear h2
  have hu := ok.used
  have hr := ok.room
  (repeat (first
 | (simp (disch := omega) only [evA, evB, evC, bAdd_i64, bSub_i64])
 | (with_reducible apply go_ld1 h)
 | ((with_reducible first | apply go_ldA h | apply go_rd h | apply go_rdN h | apply go_rlen h); rfl)
 | (with_reducible first | apply go_ldN h | apply go_lenL h)
 | ((with_reducible apply go_st h); intro _ h)
 | ((with_reducible apply go_stA h); rfl; rfl; (first | rfl | simp [OneV.o]); intro _ h)
 | ((with_reducible apply go_stN h); rfl; (first | rfl | simp [OneV.o]); intro _ h)
 | ((with_reducible apply go_box h); rfl; intro _ _ h)
 | ((with_reducible apply go_ix h); omega)
 | ((with_reducible first | apply go_elN h | apply go_f1 h | apply go_rf1 h | apply go_rel h); (case hi => omega); (try case hx => exact inferInstance); (try case hv => rfl))
 | ((with_reducible apply go_fa h); omega; omega)
))
  refine go_look2 h (by repeat (first | exact .here | apply Fnt.there)) KST um78 zFi n ?_
  rw [look_file (n := n) H]
  cases hg : fGet n d.fs with
  | none =>
    rw [hg] at oka hK
    have e1 : (Option.map fVal (none : Option Fil)) = none := rfl
    rw [e1]
    simp only [Option.elim_none]
    (repeat (first
 | (simp (disch := omega) only [evA, evB, evC, bAdd_i64, bSub_i64])
 | (with_reducible apply go_ld1 h)
 | ((with_reducible first | apply go_ldA h | apply go_rd h | apply go_rdN h | apply go_rlen h); rfl)
 | (with_reducible first | apply go_ldN h | apply go_lenL h)
 | ((with_reducible apply go_st h); intro _ h)
 | ((with_reducible apply go_stA h); rfl; rfl; (first | rfl | simp [OneV.o]); intro _ h)
 | ((with_reducible apply go_stN h); rfl; (first | rfl | simp [OneV.o]); intro _ h)
 | ((with_reducible apply go_box h); rfl; intro _ _ h)
 | ((with_reducible apply go_ix h); omega)
 | ((with_reducible first | apply go_elN h | apply go_f1 h | apply go_rf1 h | apply go_rel h); (case hi => omega); (try case hx => exact inferInstance); (try case hv => rfl))
 | ((with_reducible apply go_fa h); omega; omega)
))
    refine go_alloc h zFi rfl fun q _ h => ?_
    (repeat (first
 | (simp (disch := omega) only [evA, evB, evC, bAdd_i64, bSub_i64])
 | (with_reducible apply go_ld1 h)
 | ((with_reducible first | apply go_ldA h | apply go_rd h | apply go_rdN h | apply go_rlen h); rfl)
 | (with_reducible first | apply go_ldN h | apply go_lenL h)
 | ((with_reducible apply go_st h); intro _ h)
 | ((with_reducible apply go_stA h); rfl; rfl; (first | rfl | simp [OneV.o]); intro _ h)
 | ((with_reducible apply go_stN h); rfl; (first | rfl | simp [OneV.o]); intro _ h)
 | ((with_reducible apply go_box h); rfl; intro _ _ h)
 | ((with_reducible apply go_ix h); omega)
 | ((with_reducible first | apply go_elN h | apply go_f1 h | apply go_rf1 h | apply go_rel h); (case hi => omega); (try case hx => exact inferInstance); (try case hv => rfl))
 | ((with_reducible apply go_fa h); omega; omega)
))
    exact hK _ (diskA_close H ok (h.got))
  | some f =>
    rw [hg] at oka hK
    obtain ⟨hm, hn⟩ := kGet_mem hg
    have e1 : Option.map fVal (some f) = some (f.s, f.safe) := rfl
    rw [e1]
    simp only [Option.elim_some]
    (repeat (first
 | (simp (disch := omega) only [evA, evB, evC, bAdd_i64, bSub_i64])
 | (with_reducible apply go_ld1 h)
 | ((with_reducible first | apply go_ldA h | apply go_rd h | apply go_rdN h | apply go_rlen h); rfl)
 | (with_reducible first | apply go_ldN h | apply go_lenL h)
 | ((with_reducible apply go_st h); intro _ h)
 | ((with_reducible apply go_stA h); rfl; rfl; (first | rfl | simp [OneV.o]); intro _ h)
 | ((with_reducible apply go_stN h); rfl; (first | rfl | simp [OneV.o]); intro _ h)
 | ((with_reducible apply go_box h); rfl; intro _ _ h)
 | ((with_reducible apply go_ix h); omega)
 | ((with_reducible first | apply go_elN h | apply go_f1 h | apply go_rf1 h | apply go_rel h); (case hi => omega); (try case hx => exact inferInstance); (try case hv => rfl))
 | ((with_reducible apply go_fa h); omega; omega)
))
    refine go_alloc h zFi rfl fun q _ h => ?_
    (repeat (first
 | (simp (disch := omega) only [evA, evB, evC, bAdd_i64, bSub_i64])
 | (with_reducible apply go_ld1 h)
 | ((with_reducible first | apply go_ldA h | apply go_rd h | apply go_rdN h | apply go_rlen h); rfl)
 | (with_reducible first | apply go_ldN h | apply go_lenL h)
 | ((with_reducible apply go_st h); intro _ h)
 | ((with_reducible apply go_stA h); rfl; rfl; (first | rfl | simp [OneV.o]); intro _ h)
 | ((with_reducible apply go_stN h); rfl; (first | rfl | simp [OneV.o]); intro _ h)
 | ((with_reducible apply go_box h); rfl; intro _ _ h)
 | ((with_reducible apply go_ix h); omega)
 | ((with_reducible first | apply go_elN h | apply go_f1 h | apply go_rf1 h | apply go_rel h); (case hi => omega); (try case hx => exact inferInstance); (try case hv => rfl))
 | ((with_reducible apply go_fa h); omega; omega)
))
    have h4 := diskA_close H ok (L := Cl q (cFi (f.s, f.s.length)).toArray 86 :: L) (h.got)
    have e : n = ({ f with safe := f.s.length } : Fil).name := hn.symm
    rw [e]
    exact turn_spec (f := { f with safe := f.s.length }) oka h4 fun w h => hK w (h.got)
theorem dren_spec {b : List UInt8} (h : Sat w0 (DiskA v d :: L) w) (hK : ∀ w', Sat w0 (DiskA v (renD n b d).2 :: L) w' → K (.int .i64 (renD n b d).1) w') : callP G41 [v, .string (bs n), .string (bs b)] w K := by
  have oka := renD_ok (diskA_ok h) n b
  unfold renD at oka hK
  refine c41 ?_
  unfold F41
  obtain ⟨p, m, M, rfl, H, ok, h2⟩ := diskA_open h
  clear h
  have h := h2
  clear h2
  (repeat (first
 | (simp (disch := omega) only [evA, evB, evC, bAdd_i64, bSub_i64])
 | (with_reducible apply go_ld1 h)
 | ((with_reducible first | apply go_ldA h | apply go_rd h | apply go_rdN h | apply go_rlen h); rfl)
 | (with_reducible first | apply go_ldN h | apply go_lenL h)
 | ((with_reducible apply go_st h); intro _ h)
 | ((with_reducible apply go_stA h); rfl; rfl; (first | rfl | simp [OneV.o]); intro _ h)
 | ((with_reducible apply go_stN h); rfl; (first | rfl | simp [OneV.o]); intro _ h)
 | ((with_reducible apply go_box h); rfl; intro _ _ h)
 | ((with_reducible apply go_ix h); omega)
 | ((with_reducible first | apply go_elN h | apply go_f1 h | apply go_rf1 h | apply go_rel h); (case hi => omega); (try case hx => exact inferInstance); (try case hv => rfl))
 | ((with_reducible apply go_fa h); omega; omega)
))
  refine go_look2 h (by repeat (first | exact .here | apply Fnt.there)) KST um78 zFi n ?_
  rw [look_file (n := n) H]
  cases hg : fGet n d.fs with
  | none =>
    rw [hg] at oka hK
    have e1 : (Option.map fVal (none : Option Fil)) = none := rfl
    rw [e1]
    simp only [Option.elim_none]
    (repeat (first
 | (simp (disch := omega) only [evA, evB, evC, bAdd_i64, bSub_i64])
 | (with_reducible apply go_ld1 h)
 | ((with_reducible first | apply go_ldA h | apply go_rd h | apply go_rdN h | apply go_rlen h); rfl)
 | (with_reducible first | apply go_ldN h | apply go_lenL h)
 | ((with_reducible apply go_st h); intro _ h)
 | ((with_reducible apply go_stA h); rfl; rfl; (first | rfl | simp [OneV.o]); intro _ h)
 | ((with_reducible apply go_stN h); rfl; (first | rfl | simp [OneV.o]); intro _ h)
 | ((with_reducible apply go_box h); rfl; intro _ _ h)
 | ((with_reducible apply go_ix h); omega)
 | ((with_reducible first | apply go_elN h | apply go_f1 h | apply go_rf1 h | apply go_rel h); (case hi => omega); (try case hx => exact inferInstance); (try case hv => rfl))
 | ((with_reducible apply go_fa h); omega; omega)
))
    refine go_alloc h zFi rfl fun q _ h => ?_
    (repeat (first
 | (simp (disch := omega) only [evA, evB, evC, bAdd_i64, bSub_i64])
 | (with_reducible apply go_ld1 h)
 | ((with_reducible first | apply go_ldA h | apply go_rd h | apply go_rdN h | apply go_rlen h); rfl)
 | (with_reducible first | apply go_ldN h | apply go_lenL h)
 | ((with_reducible apply go_st h); intro _ h)
 | ((with_reducible apply go_stA h); rfl; rfl; (first | rfl | simp [OneV.o]); intro _ h)
 | ((with_reducible apply go_stN h); rfl; (first | rfl | simp [OneV.o]); intro _ h)
 | ((with_reducible apply go_box h); rfl; intro _ _ h)
 | ((with_reducible apply go_ix h); omega)
 | ((with_reducible first | apply go_elN h | apply go_f1 h | apply go_rf1 h | apply go_rel h); (case hi => omega); (try case hx => exact inferInstance); (try case hv => rfl))
 | ((with_reducible apply go_fa h); omega; omega)
))
    exact hK _ (diskA_close H ok (h.got))
  | some f =>
    rw [hg] at oka hK
    have e1 : Option.map fVal (some f) = some (f.s, f.safe) := rfl
    rw [e1]
    simp only [Option.elim_some] at hK oka ⊢
    (repeat (first
 | (simp (disch := omega) only [evA, evB, evC, bAdd_i64, bSub_i64])
 | (with_reducible apply go_ld1 h)
 | ((with_reducible first | apply go_ldA h | apply go_rd h | apply go_rdN h | apply go_rlen h); rfl)
 | (with_reducible first | apply go_ldN h | apply go_lenL h)
 | ((with_reducible apply go_st h); intro _ h)
 | ((with_reducible apply go_stA h); rfl; rfl; (first | rfl | simp [OneV.o]); intro _ h)
 | ((with_reducible apply go_stN h); rfl; (first | rfl | simp [OneV.o]); intro _ h)
 | ((with_reducible apply go_box h); rfl; intro _ _ h)
 | ((with_reducible apply go_ix h); omega)
 | ((with_reducible first | apply go_elN h | apply go_f1 h | apply go_rf1 h | apply go_rel h); (case hi => omega); (try case hx => exact inferInstance); (try case hv => rfl))
 | ((with_reducible apply go_fa h); omega; omega)
))
    refine go_alloc h zFi rfl fun q _ h => ?_
    (repeat (first
 | (simp (disch := omega) only [evA, evB, evC, bAdd_i64, bSub_i64])
 | (with_reducible apply go_ld1 h)
 | ((with_reducible first | apply go_ldA h | apply go_rd h | apply go_rdN h | apply go_rlen h); rfl)
 | (with_reducible first | apply go_ldN h | apply go_lenL h)
 | ((with_reducible apply go_st h); intro _ h)
 | ((with_reducible apply go_stA h); rfl; rfl; (first | rfl | simp [OneV.o]); intro _ h)
 | ((with_reducible apply go_stN h); rfl; (first | rfl | simp [OneV.o]); intro _ h)
 | ((with_reducible apply go_box h); rfl; intro _ _ h)
 | ((with_reducible apply go_ix h); omega)
 | ((with_reducible first | apply go_elN h | apply go_f1 h | apply go_rf1 h | apply go_rel h); (case hi => omega); (try case hx => exact inferInstance); (try case hv => rfl))
 | ((with_reducible apply go_fa h); omega; omega)
))
    refine isname_spec ?_
    cases hb : nameOk b
    · rw [if_pos hb] at hK
      (repeat (first
 | (simp (disch := omega) only [evA, evB, evC, bAdd_i64, bSub_i64])
 | (with_reducible apply go_ld1 h)
 | ((with_reducible first | apply go_ldA h | apply go_rd h | apply go_rdN h | apply go_rlen h); rfl)
 | (with_reducible first | apply go_ldN h | apply go_lenL h)
 | ((with_reducible apply go_st h); intro _ h)
 | ((with_reducible apply go_stA h); rfl; rfl; (first | rfl | simp [OneV.o]); intro _ h)
 | ((with_reducible apply go_stN h); rfl; (first | rfl | simp [OneV.o]); intro _ h)
 | ((with_reducible apply go_box h); rfl; intro _ _ h)
 | ((with_reducible apply go_ix h); omega)
 | ((with_reducible first | apply go_elN h | apply go_f1 h | apply go_rf1 h | apply go_rel h); (case hi => omega); (try case hx => exact inferInstance); (try case hv => rfl))
 | ((with_reducible apply go_fa h); omega; omega)
))
      exact hK _ (diskA_close H ok (h.got))
    rw [if_neg (by rw [hb]; simp)] at hK oka
    (repeat (first
 | (simp (disch := omega) only [evA, evB, evC, bAdd_i64, bSub_i64])
 | (with_reducible apply go_ld1 h)
 | ((with_reducible first | apply go_ldA h | apply go_rd h | apply go_rdN h | apply go_rlen h); rfl)
 | (with_reducible first | apply go_ldN h | apply go_lenL h)
 | ((with_reducible apply go_st h); intro _ h)
 | ((with_reducible apply go_stA h); rfl; rfl; (first | rfl | simp [OneV.o]); intro _ h)
 | ((with_reducible apply go_stN h); rfl; (first | rfl | simp [OneV.o]); intro _ h)
 | ((with_reducible apply go_box h); rfl; intro _ _ h)
 | ((with_reducible apply go_ix h); omega)
 | ((with_reducible first | apply go_elN h | apply go_f1 h | apply go_rf1 h | apply go_rel h); (case hi => omega); (try case hx => exact inferInstance); (try case hv => rfl))
 | ((with_reducible apply go_fa h); omega; omega)
))
    have h4 := diskA_close H ok (L := Cl q (cFi (f.s, f.safe)).toArray 86 :: L) (h.got)
    refine use_spec h4 (fun hu w h => ?_) (fun e hu w h => ?_)
    · rw [hu] at hK
      (repeat (first
 | (simp (disch := omega) only [evA, evB, evC, bAdd_i64, bSub_i64])
 | (with_reducible apply go_ld1 h)
 | ((with_reducible first | apply go_ldA h | apply go_rd h | apply go_rdN h | apply go_rlen h); rfl)
 | (with_reducible first | apply go_ldN h | apply go_lenL h)
 | ((with_reducible apply go_st h); intro _ h)
 | ((with_reducible apply go_stA h); rfl; rfl; (first | rfl | simp [OneV.o]); intro _ h)
 | ((with_reducible apply go_stN h); rfl; (first | rfl | simp [OneV.o]); intro _ h)
 | ((with_reducible apply go_box h); rfl; intro _ _ h)
 | ((with_reducible apply go_ix h); omega)
 | ((with_reducible first | apply go_elN h | apply go_f1 h | apply go_rf1 h | apply go_rel h); (case hi => omega); (try case hx => exact inferInstance); (try case hv => rfl))
 | ((with_reducible apply go_fa h); omega; omega)
))
      exact hK _ (h.got)
    · rw [hu] at hK oka
      obtain ⟨p', m, M, e', H, ok, h5⟩ := diskA_open h
      cases e'
      clear h
      have h := h5
      clear h5
      (repeat (first
 | (simp (disch := omega) only [evA, evB, evC, bAdd_i64, bSub_i64])
 | (with_reducible apply go_ld1 h)
 | ((with_reducible first | apply go_ldA h | apply go_rd h | apply go_rdN h | apply go_rlen h); rfl)
 | (with_reducible first | apply go_ldN h | apply go_lenL h)
 | ((with_reducible apply go_st h); intro _ h)
 | ((with_reducible apply go_stA h); rfl; rfl; (first | rfl | simp [OneV.o]); intro _ h)
 | ((with_reducible apply go_stN h); rfl; (first | rfl | simp [OneV.o]); intro _ h)
 | ((with_reducible apply go_box h); rfl; intro _ _ h)
 | ((with_reducible apply go_ix h); omega)
 | ((with_reducible first | apply go_elN h | apply go_f1 h | apply go_rf1 h | apply go_rel h); (case hi => omega); (try case hx => exact inferInstance); (try case hv => rfl))
 | ((with_reducible apply go_fa h); omega; omega)
))
      refine eDelete_sat (h.frt (A := MapH kSt fiV m M)) KST um78 n fun w h => ?_
      (repeat (first
 | (simp (disch := omega) only [evA, evB, evC, bAdd_i64, bSub_i64])
 | (with_reducible apply go_ld1 h)
 | ((with_reducible first | apply go_ldA h | apply go_rd h | apply go_rdN h | apply go_rlen h); rfl)
 | (with_reducible first | apply go_ldN h | apply go_lenL h)
 | ((with_reducible apply go_st h); intro _ h)
 | ((with_reducible apply go_stA h); rfl; rfl; (first | rfl | simp [OneV.o]); intro _ h)
 | ((with_reducible apply go_stN h); rfl; (first | rfl | simp [OneV.o]); intro _ h)
 | ((with_reducible apply go_box h); rfl; intro _ _ h)
 | ((with_reducible apply go_ix h); omega)
 | ((with_reducible first | apply go_elN h | apply go_f1 h | apply go_rf1 h | apply go_rel h); (case hi => omega); (try case hx => exact inferInstance); (try case hv => rfl))
 | ((with_reducible apply go_fa h); omega; omega)
))
      refine eMapSet_sat (h.drew.frt (A := MapH kSt fiV m (aDel n M))) KST um78 b (f.s, f.safe) fun w h => ?_
      exact hK _ (diskA_close (d := { e with fs := fPut { f with name := b } (fDel n e.fs) }) ((H.del STO.txt n).put STO.txt { f with name := b }) oka (h.got))
theorem dcut_spec {k : Int} (h : Sat w0 (DiskA v d :: L) w) (hK : ∀ w', Sat w0 (DiskA v (cutD n k d).2 :: L) w' → K (.int .i64 (cutD n k d).1) w') : callP G56 [v, .string (bs n), .int .i64 k] w K := by
  have oka := cutD_ok (diskA_ok h) n k
  unfold cutD at oka hK
  refine c56 ?_
  unfold F56
  obtain ⟨p, m, M, rfl, H, ok, h2⟩ := diskA_open h
  clear h
  have h := h2
  clear h2
  (repeat (first
 | (simp (disch := omega) only [evA, evB, evC, bAdd_i64, bSub_i64])
 | (with_reducible apply go_ld1 h)
 | ((with_reducible first | apply go_ldA h | apply go_rd h | apply go_rdN h | apply go_rlen h); rfl)
 | (with_reducible first | apply go_ldN h | apply go_lenL h)
 | ((with_reducible apply go_st h); intro _ h)
 | ((with_reducible apply go_stA h); rfl; rfl; (first | rfl | simp [OneV.o]); intro _ h)
 | ((with_reducible apply go_stN h); rfl; (first | rfl | simp [OneV.o]); intro _ h)
 | ((with_reducible apply go_box h); rfl; intro _ _ h)
 | ((with_reducible apply go_ix h); omega)
 | ((with_reducible first | apply go_elN h | apply go_f1 h | apply go_rf1 h | apply go_rel h); (case hi => omega); (try case hx => exact inferInstance); (try case hv => rfl))
 | ((with_reducible apply go_fa h); omega; omega)
))
  refine go_look2 h (by repeat (first | exact .here | apply Fnt.there)) KST um78 zFi n ?_
  rw [look_file (n := n) H]
  cases hg : fGet n d.fs with
  | none =>
    rw [hg] at oka hK
    have e1 : (Option.map fVal (none : Option Fil)) = none := rfl
    rw [e1]
    simp only [Option.elim_none]
    (repeat (first
 | (simp (disch := omega) only [evA, evB, evC, bAdd_i64, bSub_i64])
 | (with_reducible apply go_ld1 h)
 | ((with_reducible first | apply go_ldA h | apply go_rd h | apply go_rdN h | apply go_rlen h); rfl)
 | (with_reducible first | apply go_ldN h | apply go_lenL h)
 | ((with_reducible apply go_st h); intro _ h)
 | ((with_reducible apply go_stA h); rfl; rfl; (first | rfl | simp [OneV.o]); intro _ h)
 | ((with_reducible apply go_stN h); rfl; (first | rfl | simp [OneV.o]); intro _ h)
 | ((with_reducible apply go_box h); rfl; intro _ _ h)
 | ((with_reducible apply go_ix h); omega)
 | ((with_reducible first | apply go_elN h | apply go_f1 h | apply go_rf1 h | apply go_rel h); (case hi => omega); (try case hx => exact inferInstance); (try case hv => rfl))
 | ((with_reducible apply go_fa h); omega; omega)
))
    refine go_alloc h zFi rfl fun q _ h => ?_
    (repeat (first
 | (simp (disch := omega) only [evA, evB, evC, bAdd_i64, bSub_i64])
 | (with_reducible apply go_ld1 h)
 | ((with_reducible first | apply go_ldA h | apply go_rd h | apply go_rdN h | apply go_rlen h); rfl)
 | (with_reducible first | apply go_ldN h | apply go_lenL h)
 | ((with_reducible apply go_st h); intro _ h)
 | ((with_reducible apply go_stA h); rfl; rfl; (first | rfl | simp [OneV.o]); intro _ h)
 | ((with_reducible apply go_stN h); rfl; (first | rfl | simp [OneV.o]); intro _ h)
 | ((with_reducible apply go_box h); rfl; intro _ _ h)
 | ((with_reducible apply go_ix h); omega)
 | ((with_reducible first | apply go_elN h | apply go_f1 h | apply go_rf1 h | apply go_rel h); (case hi => omega); (try case hx => exact inferInstance); (try case hv => rfl))
 | ((with_reducible apply go_fa h); omega; omega)
))
    exact hK _ (diskA_close H ok (h.got))
  | some f =>
    rw [hg] at oka hK
    obtain ⟨hm, hn⟩ := kGet_mem hg
    have e1 : Option.map fVal (some f) = some (f.s, f.safe) := rfl
    rw [e1]
    simp only [Option.elim_some] at hK oka ⊢
    (repeat (first
 | (simp (disch := omega) only [evA, evB, evC, bAdd_i64, bSub_i64])
 | (with_reducible apply go_ld1 h)
 | ((with_reducible first | apply go_ldA h | apply go_rd h | apply go_rdN h | apply go_rlen h); rfl)
 | (with_reducible first | apply go_ldN h | apply go_lenL h)
 | ((with_reducible apply go_st h); intro _ h)
 | ((with_reducible apply go_stA h); rfl; rfl; (first | rfl | simp [OneV.o]); intro _ h)
 | ((with_reducible apply go_stN h); rfl; (first | rfl | simp [OneV.o]); intro _ h)
 | ((with_reducible apply go_box h); rfl; intro _ _ h)
 | ((with_reducible apply go_ix h); omega)
 | ((with_reducible first | apply go_elN h | apply go_f1 h | apply go_rf1 h | apply go_rel h); (case hi => omega); (try case hx => exact inferInstance); (try case hv => rfl))
 | ((with_reducible apply go_fa h); omega; omega)
))
    refine go_alloc h zFi rfl fun q _ h => ?_
    by_cases g1 : k < 0
    · have g1' : decide (k < 0) = true := by simpa using g1
      rw [if_pos (.inl g1)] at hK
      (repeat (first
 | (simp (disch := omega) only [evA, evB, evC, bAdd_i64, bSub_i64, g1'])
 | (with_reducible apply go_ld1 h)
 | ((with_reducible first | apply go_ldA h | apply go_rd h | apply go_rdN h | apply go_rlen h); rfl)
 | (with_reducible first | apply go_ldN h | apply go_lenL h)
 | ((with_reducible apply go_st h); intro _ h)
 | ((with_reducible apply go_stA h); rfl; rfl; (first | rfl | simp [OneV.o]); intro _ h)
 | ((with_reducible apply go_stN h); rfl; (first | rfl | simp [OneV.o]); intro _ h)
 | ((with_reducible apply go_box h); rfl; intro _ _ h)
 | ((with_reducible apply go_ix h); omega)
 | ((with_reducible first | apply go_elN h | apply go_f1 h | apply go_rf1 h | apply go_rel h); (case hi => omega); (try case hx => exact inferInstance); (try case hv => rfl))
 | ((with_reducible apply go_fa h); omega; omega)
))
      exact hK _ (diskA_close H ok (h.got))
    have g1' : decide (k < 0) = false := by simpa using g1
    by_cases g2 : (f.s.length : Int) < k
    · have g2' : decide (k > (f.s.length : Int)) = true := by simpa using g2
      rw [if_pos (.inr g2)] at hK
      (repeat (first
 | (simp (disch := omega) only [evA, evB, evC, bAdd_i64, bSub_i64, g1', g2'])
 | (with_reducible apply go_ld1 h)
 | ((with_reducible first | apply go_ldA h | apply go_rd h | apply go_rdN h | apply go_rlen h); rfl)
 | (with_reducible first | apply go_ldN h | apply go_lenL h)
 | ((with_reducible apply go_st h); intro _ h)
 | ((with_reducible apply go_stA h); rfl; rfl; (first | rfl | simp [OneV.o]); intro _ h)
 | ((with_reducible apply go_stN h); rfl; (first | rfl | simp [OneV.o]); intro _ h)
 | ((with_reducible apply go_box h); rfl; intro _ _ h)
 | ((with_reducible apply go_ix h); omega)
 | ((with_reducible first | apply go_elN h | apply go_f1 h | apply go_rf1 h | apply go_rel h); (case hi => omega); (try case hx => exact inferInstance); (try case hv => rfl))
 | ((with_reducible apply go_fa h); omega; omega)
))
      exact hK _ (diskA_close H ok (h.got))
    have g2' : decide (k > (f.s.length : Int)) = false := by simpa using g2
    rw [if_neg (by omega)] at hK oka
    obtain ⟨j, rfl⟩ : ∃ j : Nat, k = j := ⟨k.toNat, by omega⟩
    simp only [Int.toNat_natCast] at hK oka
    (repeat (first
 | (simp (disch := omega) only [evA, evB, evC, bAdd_i64, bSub_i64, g1', g2'])
 | (with_reducible apply go_ld1 h)
 | ((with_reducible first | apply go_ldA h | apply go_rd h | apply go_rdN h | apply go_rlen h); rfl)
 | (with_reducible first | apply go_ldN h | apply go_lenL h)
 | ((with_reducible apply go_st h); intro _ h)
 | ((with_reducible apply go_stA h); rfl; rfl; (first | rfl | simp [OneV.o]); intro _ h)
 | ((with_reducible apply go_stN h); rfl; (first | rfl | simp [OneV.o]); intro _ h)
 | ((with_reducible apply go_box h); rfl; intro _ _ h)
 | ((with_reducible apply go_ix h); omega)
 | ((with_reducible first | apply go_elN h | apply go_f1 h | apply go_rf1 h | apply go_rel h); (case hi => omega); (try case hx => exact inferInstance); (try case hv => rfl))
 | ((with_reducible apply go_fa h); omega; omega)
))
    refine go_some (sub_to (l := f.s) (i := j) (by omega)) ?_
    have emin : min ((f.safe : Nat) : Int) (j : Int) = ((min f.safe j : Nat) : Int) := by omega
    (repeat (first
 | (simp (disch := omega) only [evA, evB, evC, bAdd_i64, bSub_i64, emin])
 | (with_reducible apply go_ld1 h)
 | ((with_reducible first | apply go_ldA h | apply go_rd h | apply go_rdN h | apply go_rlen h); rfl)
 | (with_reducible first | apply go_ldN h | apply go_lenL h)
 | ((with_reducible apply go_st h); intro _ h)
 | ((with_reducible apply go_stA h); rfl; rfl; (first | rfl | simp [OneV.o]); intro _ h)
 | ((with_reducible apply go_stN h); rfl; (first | rfl | simp [OneV.o]); intro _ h)
 | ((with_reducible apply go_box h); rfl; intro _ _ h)
 | ((with_reducible apply go_ix h); omega)
 | ((with_reducible first | apply go_elN h | apply go_f1 h | apply go_rf1 h | apply go_rel h); (case hi => omega); (try case hx => exact inferInstance); (try case hv => rfl))
 | ((with_reducible apply go_fa h); omega; omega)
))
    refine go_some (fbFi _ _) ?_
    have h4 := diskA_close H ok (L := Cl q (cFi (f.s, f.safe)).toArray 86 :: L) (h.drew.got)
    have e : n = ({ f with s := f.s.take j, safe := min f.safe j } : Fil).name := hn.symm
    rw [e]
    exact turn_spec (f := { f with s := f.s.take j, safe := min f.safe j }) oka h4 fun w h => hK w (h.got)
theorem drem_spec (h : Sat w0 (DiskA v d :: L) w) (hK : ∀ w', Sat w0 (DiskA v (remD n d).2 :: L) w' → K (.int .i64 (remD n d).1) w') : callP G58 [v, .string (bs n)] w K := by
  have oka := remD_ok (diskA_ok h) n
  unfold remD at oka hK
  refine c58 ?_
  unfold F58
  obtain ⟨p, m, M, rfl, H, ok, h2⟩ := diskA_open h
  clear h
  have h := h2
  clear h2
  (repeat (first
 | (simp (disch := omega) only [evA, evB, evC, bAdd_i64, bSub_i64])
 | (with_reducible apply go_ld1 h)
 | ((with_reducible first | apply go_ldA h | apply go_rd h | apply go_rdN h | apply go_rlen h); rfl)
 | (with_reducible first | apply go_ldN h | apply go_lenL h)
 | ((with_reducible apply go_st h); intro _ h)
 | ((with_reducible apply go_stA h); rfl; rfl; (first | rfl | simp [OneV.o]); intro _ h)
 | ((with_reducible apply go_stN h); rfl; (first | rfl | simp [OneV.o]); intro _ h)
 | ((with_reducible apply go_box h); rfl; intro _ _ h)
 | ((with_reducible apply go_ix h); omega)
 | ((with_reducible first | apply go_elN h | apply go_f1 h | apply go_rf1 h | apply go_rel h); (case hi => omega); (try case hx => exact inferInstance); (try case hv => rfl))
 | ((with_reducible apply go_fa h); omega; omega)
))
  refine go_look2 h (by repeat (first | exact .here | apply Fnt.there)) KST um78 zFi n ?_
  rw [look_file (n := n) H]
  cases hg : fGet n d.fs with
  | none =>
    rw [hg] at oka hK
    have e1 : (Option.map fVal (none : Option Fil)) = none := rfl
    rw [e1]
    simp only [Option.elim_none]
    (repeat (first
 | (simp (disch := omega) only [evA, evB, evC, bAdd_i64, bSub_i64])
 | (with_reducible apply go_ld1 h)
 | ((with_reducible first | apply go_ldA h | apply go_rd h | apply go_rdN h | apply go_rlen h); rfl)
 | (with_reducible first | apply go_ldN h | apply go_lenL h)
 | ((with_reducible apply go_st h); intro _ h)
 | ((with_reducible apply go_stA h); rfl; rfl; (first | rfl | simp [OneV.o]); intro _ h)
 | ((with_reducible apply go_stN h); rfl; (first | rfl | simp [OneV.o]); intro _ h)
 | ((with_reducible apply go_box h); rfl; intro _ _ h)
 | ((with_reducible apply go_ix h); omega)
 | ((with_reducible first | apply go_elN h | apply go_f1 h | apply go_rf1 h | apply go_rel h); (case hi => omega); (try case hx => exact inferInstance); (try case hv => rfl))
 | ((with_reducible apply go_fa h); omega; omega)
))
    refine go_alloc h zFi rfl fun q _ h => ?_
    (repeat (first
 | (simp (disch := omega) only [evA, evB, evC, bAdd_i64, bSub_i64])
 | (with_reducible apply go_ld1 h)
 | ((with_reducible first | apply go_ldA h | apply go_rd h | apply go_rdN h | apply go_rlen h); rfl)
 | (with_reducible first | apply go_ldN h | apply go_lenL h)
 | ((with_reducible apply go_st h); intro _ h)
 | ((with_reducible apply go_stA h); rfl; rfl; (first | rfl | simp [OneV.o]); intro _ h)
 | ((with_reducible apply go_stN h); rfl; (first | rfl | simp [OneV.o]); intro _ h)
 | ((with_reducible apply go_box h); rfl; intro _ _ h)
 | ((with_reducible apply go_ix h); omega)
 | ((with_reducible first | apply go_elN h | apply go_f1 h | apply go_rf1 h | apply go_rel h); (case hi => omega); (try case hx => exact inferInstance); (try case hv => rfl))
 | ((with_reducible apply go_fa h); omega; omega)
))
    exact hK _ (diskA_close H ok (h.got))
  | some f =>
    rw [hg] at oka hK
    have e1 : Option.map fVal (some f) = some (f.s, f.safe) := rfl
    rw [e1]
    simp only [Option.elim_some] at hK oka ⊢
    (repeat (first
 | (simp (disch := omega) only [evA, evB, evC, bAdd_i64, bSub_i64])
 | (with_reducible apply go_ld1 h)
 | ((with_reducible first | apply go_ldA h | apply go_rd h | apply go_rdN h | apply go_rlen h); rfl)
 | (with_reducible first | apply go_ldN h | apply go_lenL h)
 | ((with_reducible apply go_st h); intro _ h)
 | ((with_reducible apply go_stA h); rfl; rfl; (first | rfl | simp [OneV.o]); intro _ h)
 | ((with_reducible apply go_stN h); rfl; (first | rfl | simp [OneV.o]); intro _ h)
 | ((with_reducible apply go_box h); rfl; intro _ _ h)
 | ((with_reducible apply go_ix h); omega)
 | ((with_reducible first | apply go_elN h | apply go_f1 h | apply go_rf1 h | apply go_rel h); (case hi => omega); (try case hx => exact inferInstance); (try case hv => rfl))
 | ((with_reducible apply go_fa h); omega; omega)
))
    refine go_alloc h zFi rfl fun q _ h => ?_
    (repeat (first
 | (simp (disch := omega) only [evA, evB, evC, bAdd_i64, bSub_i64])
 | (with_reducible apply go_ld1 h)
 | ((with_reducible first | apply go_ldA h | apply go_rd h | apply go_rdN h | apply go_rlen h); rfl)
 | (with_reducible first | apply go_ldN h | apply go_lenL h)
 | ((with_reducible apply go_st h); intro _ h)
 | ((with_reducible apply go_stA h); rfl; rfl; (first | rfl | simp [OneV.o]); intro _ h)
 | ((with_reducible apply go_stN h); rfl; (first | rfl | simp [OneV.o]); intro _ h)
 | ((with_reducible apply go_box h); rfl; intro _ _ h)
 | ((with_reducible apply go_ix h); omega)
 | ((with_reducible first | apply go_elN h | apply go_f1 h | apply go_rf1 h | apply go_rel h); (case hi => omega); (try case hx => exact inferInstance); (try case hv => rfl))
 | ((with_reducible apply go_fa h); omega; omega)
))
    have h4 := diskA_close H ok (L := Cl q (cFi (f.s, f.safe)).toArray 86 :: L) (h.got)
    refine use_spec h4 (fun hu w h => ?_) (fun e hu w h => ?_)
    · rw [hu] at hK
      (repeat (first
 | (simp (disch := omega) only [evA, evB, evC, bAdd_i64, bSub_i64])
 | (with_reducible apply go_ld1 h)
 | ((with_reducible first | apply go_ldA h | apply go_rd h | apply go_rdN h | apply go_rlen h); rfl)
 | (with_reducible first | apply go_ldN h | apply go_lenL h)
 | ((with_reducible apply go_st h); intro _ h)
 | ((with_reducible apply go_stA h); rfl; rfl; (first | rfl | simp [OneV.o]); intro _ h)
 | ((with_reducible apply go_stN h); rfl; (first | rfl | simp [OneV.o]); intro _ h)
 | ((with_reducible apply go_box h); rfl; intro _ _ h)
 | ((with_reducible apply go_ix h); omega)
 | ((with_reducible first | apply go_elN h | apply go_f1 h | apply go_rf1 h | apply go_rel h); (case hi => omega); (try case hx => exact inferInstance); (try case hv => rfl))
 | ((with_reducible apply go_fa h); omega; omega)
))
      exact hK _ (h.got)
    · rw [hu] at hK oka
      obtain ⟨p', m, M, e', H, ok, h5⟩ := diskA_open h
      cases e'
      clear h
      have h := h5
      clear h5
      (repeat (first
 | (simp (disch := omega) only [evA, evB, evC, bAdd_i64, bSub_i64])
 | (with_reducible apply go_ld1 h)
 | ((with_reducible first | apply go_ldA h | apply go_rd h | apply go_rdN h | apply go_rlen h); rfl)
 | (with_reducible first | apply go_ldN h | apply go_lenL h)
 | ((with_reducible apply go_st h); intro _ h)
 | ((with_reducible apply go_stA h); rfl; rfl; (first | rfl | simp [OneV.o]); intro _ h)
 | ((with_reducible apply go_stN h); rfl; (first | rfl | simp [OneV.o]); intro _ h)
 | ((with_reducible apply go_box h); rfl; intro _ _ h)
 | ((with_reducible apply go_ix h); omega)
 | ((with_reducible first | apply go_elN h | apply go_f1 h | apply go_rf1 h | apply go_rel h); (case hi => omega); (try case hx => exact inferInstance); (try case hv => rfl))
 | ((with_reducible apply go_fa h); omega; omega)
))
      refine eDelete_sat (h.frt (A := MapH kSt fiV m M)) KST um78 n fun w h => ?_
      (repeat (first
 | (simp (disch := omega) only [evA, evB, evC, bAdd_i64, bSub_i64])
 | (with_reducible apply go_ld1 h)
 | ((with_reducible first | apply go_ldA h | apply go_rd h | apply go_rdN h | apply go_rlen h); rfl)
 | (with_reducible first | apply go_ldN h | apply go_lenL h)
 | ((with_reducible apply go_st h); intro _ h)
 | ((with_reducible apply go_stA h); rfl; rfl; (first | rfl | simp [OneV.o]); intro _ h)
 | ((with_reducible apply go_stN h); rfl; (first | rfl | simp [OneV.o]); intro _ h)
 | ((with_reducible apply go_box h); rfl; intro _ _ h)
 | ((with_reducible apply go_ix h); omega)
 | ((with_reducible first | apply go_elN h | apply go_f1 h | apply go_rf1 h | apply go_rel h); (case hi => omega); (try case hx => exact inferInstance); (try case hv => rfl))
 | ((with_reducible apply go_fa h); omega; omega)
))
      exact hK _ (diskA_close (d := { e with fs := fDel n e.fs }) (H.del STO.txt n) oka (h.got))
theorem dread_spec (h : Sat w0 (DiskA v d :: L) w) (hK : ∀ w', Sat w0 (DiskA v d :: L) w' → K (.tuple #[.string (bs ((fGet n d.fs).elim [] (·.s))), .int .i64 ((fGet n d.fs).elim 5 fun _ => 0)]) w') : callP G23 [v, .string (bs n)] w K := by
  refine c23 ?_
  unfold F23
  obtain ⟨p, m, M, rfl, H, ok, h2⟩ := diskA_open h
  clear h
  have h := h2
  clear h2
  (repeat (first
 | (simp (disch := omega) only [evA, evB, evC, bAdd_i64, bSub_i64])
 | (with_reducible apply go_ld1 h)
 | ((with_reducible first | apply go_ldA h | apply go_rd h | apply go_rdN h | apply go_rlen h); rfl)
 | (with_reducible first | apply go_ldN h | apply go_lenL h)
 | ((with_reducible apply go_st h); intro _ h)
 | ((with_reducible apply go_stA h); rfl; rfl; (first | rfl | simp [OneV.o]); intro _ h)
 | ((with_reducible apply go_stN h); rfl; (first | rfl | simp [OneV.o]); intro _ h)
 | ((with_reducible apply go_box h); rfl; intro _ _ h)
 | ((with_reducible apply go_ix h); omega)
 | ((with_reducible first | apply go_elN h | apply go_f1 h | apply go_rf1 h | apply go_rel h); (case hi => omega); (try case hx => exact inferInstance); (try case hv => rfl))
 | ((with_reducible apply go_fa h); omega; omega)
))
  refine go_look2 h (by repeat (first | exact .here | apply Fnt.there)) KST um78 zFi n ?_
  rw [look_file (n := n) H]
  cases hg : fGet n d.fs with
  | none =>
    rw [hg] at hK
    have e1 : (Option.map fVal (none : Option Fil)) = none := rfl
    rw [e1]
    simp only [Option.elim_none]
    (repeat (first
 | (simp (disch := omega) only [evA, evB, evC, bAdd_i64, bSub_i64])
 | (with_reducible apply go_ld1 h)
 | ((with_reducible first | apply go_ldA h | apply go_rd h | apply go_rdN h | apply go_rlen h); rfl)
 | (with_reducible first | apply go_ldN h | apply go_lenL h)
 | ((with_reducible apply go_st h); intro _ h)
 | ((with_reducible apply go_stA h); rfl; rfl; (first | rfl | simp [OneV.o]); intro _ h)
 | ((with_reducible apply go_stN h); rfl; (first | rfl | simp [OneV.o]); intro _ h)
 | ((with_reducible apply go_box h); rfl; intro _ _ h)
 | ((with_reducible apply go_ix h); omega)
 | ((with_reducible first | apply go_elN h | apply go_f1 h | apply go_rf1 h | apply go_rel h); (case hi => omega); (try case hx => exact inferInstance); (try case hv => rfl))
 | ((with_reducible apply go_fa h); omega; omega)
))
    refine go_alloc h zFi rfl fun q _ h => ?_
    (repeat (first
 | (simp (disch := omega) only [evA, evB, evC, bAdd_i64, bSub_i64])
 | (with_reducible apply go_ld1 h)
 | ((with_reducible first | apply go_ldA h | apply go_rd h | apply go_rdN h | apply go_rlen h); rfl)
 | (with_reducible first | apply go_ldN h | apply go_lenL h)
 | ((with_reducible apply go_st h); intro _ h)
 | ((with_reducible apply go_stA h); rfl; rfl; (first | rfl | simp [OneV.o]); intro _ h)
 | ((with_reducible apply go_stN h); rfl; (first | rfl | simp [OneV.o]); intro _ h)
 | ((with_reducible apply go_box h); rfl; intro _ _ h)
 | ((with_reducible apply go_ix h); omega)
 | ((with_reducible first | apply go_elN h | apply go_f1 h | apply go_rf1 h | apply go_rel h); (case hi => omega); (try case hx => exact inferInstance); (try case hv => rfl))
 | ((with_reducible apply go_fa h); omega; omega)
))
    exact hK _ (diskA_close H ok (h.got))
  | some f =>
    rw [hg] at hK
    have e1 : Option.map fVal (some f) = some (f.s, f.safe) := rfl
    rw [e1]
    simp only [Option.elim_some]
    (repeat (first
 | (simp (disch := omega) only [evA, evB, evC, bAdd_i64, bSub_i64])
 | (with_reducible apply go_ld1 h)
 | ((with_reducible first | apply go_ldA h | apply go_rd h | apply go_rdN h | apply go_rlen h); rfl)
 | (with_reducible first | apply go_ldN h | apply go_lenL h)
 | ((with_reducible apply go_st h); intro _ h)
 | ((with_reducible apply go_stA h); rfl; rfl; (first | rfl | simp [OneV.o]); intro _ h)
 | ((with_reducible apply go_stN h); rfl; (first | rfl | simp [OneV.o]); intro _ h)
 | ((with_reducible apply go_box h); rfl; intro _ _ h)
 | ((with_reducible apply go_ix h); omega)
 | ((with_reducible first | apply go_elN h | apply go_f1 h | apply go_rf1 h | apply go_rel h); (case hi => omega); (try case hx => exact inferInstance); (try case hv => rfl))
 | ((with_reducible apply go_fa h); omega; omega)
))
    refine go_alloc h zFi rfl fun q _ h => ?_
    (repeat (first
 | (simp (disch := omega) only [evA, evB, evC, bAdd_i64, bSub_i64])
 | (with_reducible apply go_ld1 h)
 | ((with_reducible first | apply go_ldA h | apply go_rd h | apply go_rdN h | apply go_rlen h); rfl)
 | (with_reducible first | apply go_ldN h | apply go_lenL h)
 | ((with_reducible apply go_st h); intro _ h)
 | ((with_reducible apply go_stA h); rfl; rfl; (first | rfl | simp [OneV.o]); intro _ h)
 | ((with_reducible apply go_stN h); rfl; (first | rfl | simp [OneV.o]); intro _ h)
 | ((with_reducible apply go_box h); rfl; intro _ _ h)
 | ((with_reducible apply go_ix h); omega)
 | ((with_reducible first | apply go_elN h | apply go_f1 h | apply go_rf1 h | apply go_rel h); (case hi => omega); (try case hx => exact inferInstance); (try case hv => rfl))
 | ((with_reducible apply go_fa h); omega; omega)
))
    exact hK _ (diskA_close H ok (h.got))
theorem dsafe_spec (h : Sat w0 (DiskA v d :: L) w) (hK : ∀ w', Sat w0 (DiskA v d :: L) w' → K (.tuple #[.int .i64 (((fGet n d.fs).elim 0 (·.safe) : Nat)), .int .i64 ((fGet n d.fs).elim 5 fun _ => 0)]) w') : callP G24 [v, .string (bs n)] w K := by
  refine c24 ?_
  unfold F24
  obtain ⟨p, m, M, rfl, H, ok, h2⟩ := diskA_open h
  clear h
  have h := h2
  clear h2
  (repeat (first
 | (simp (disch := omega) only [evA, evB, evC, bAdd_i64, bSub_i64])
 | (with_reducible apply go_ld1 h)
 | ((with_reducible first | apply go_ldA h | apply go_rd h | apply go_rdN h | apply go_rlen h); rfl)
 | (with_reducible first | apply go_ldN h | apply go_lenL h)
 | ((with_reducible apply go_st h); intro _ h)
 | ((with_reducible apply go_stA h); rfl; rfl; (first | rfl | simp [OneV.o]); intro _ h)
 | ((with_reducible apply go_stN h); rfl; (first | rfl | simp [OneV.o]); intro _ h)
 | ((with_reducible apply go_box h); rfl; intro _ _ h)
 | ((with_reducible apply go_ix h); omega)
 | ((with_reducible first | apply go_elN h | apply go_f1 h | apply go_rf1 h | apply go_rel h); (case hi => omega); (try case hx => exact inferInstance); (try case hv => rfl))
 | ((with_reducible apply go_fa h); omega; omega)
))
  refine go_look2 h (by repeat (first | exact .here | apply Fnt.there)) KST um78 zFi n ?_
  rw [look_file (n := n) H]
  cases hg : fGet n d.fs with
  | none =>
    rw [hg] at hK
    have e1 : (Option.map fVal (none : Option Fil)) = none := rfl
    rw [e1]
    simp only [Option.elim_none]
    (repeat (first
 | (simp (disch := omega) only [evA, evB, evC, bAdd_i64, bSub_i64])
 | (with_reducible apply go_ld1 h)
 | ((with_reducible first | apply go_ldA h | apply go_rd h | apply go_rdN h | apply go_rlen h); rfl)
 | (with_reducible first | apply go_ldN h | apply go_lenL h)
 | ((with_reducible apply go_st h); intro _ h)
 | ((with_reducible apply go_stA h); rfl; rfl; (first | rfl | simp [OneV.o]); intro _ h)
 | ((with_reducible apply go_stN h); rfl; (first | rfl | simp [OneV.o]); intro _ h)
 | ((with_reducible apply go_box h); rfl; intro _ _ h)
 | ((with_reducible apply go_ix h); omega)
 | ((with_reducible first | apply go_elN h | apply go_f1 h | apply go_rf1 h | apply go_rel h); (case hi => omega); (try case hx => exact inferInstance); (try case hv => rfl))
 | ((with_reducible apply go_fa h); omega; omega)
))
    refine go_alloc h zFi rfl fun q _ h => ?_
    (repeat (first
 | (simp (disch := omega) only [evA, evB, evC, bAdd_i64, bSub_i64])
 | (with_reducible apply go_ld1 h)
 | ((with_reducible first | apply go_ldA h | apply go_rd h | apply go_rdN h | apply go_rlen h); rfl)
 | (with_reducible first | apply go_ldN h | apply go_lenL h)
 | ((with_reducible apply go_st h); intro _ h)
 | ((with_reducible apply go_stA h); rfl; rfl; (first | rfl | simp [OneV.o]); intro _ h)
 | ((with_reducible apply go_stN h); rfl; (first | rfl | simp [OneV.o]); intro _ h)
 | ((with_reducible apply go_box h); rfl; intro _ _ h)
 | ((with_reducible apply go_ix h); omega)
 | ((with_reducible first | apply go_elN h | apply go_f1 h | apply go_rf1 h | apply go_rel h); (case hi => omega); (try case hx => exact inferInstance); (try case hv => rfl))
 | ((with_reducible apply go_fa h); omega; omega)
))
    exact hK _ (diskA_close H ok (h.got))
  | some f =>
    rw [hg] at hK
    have e1 : Option.map fVal (some f) = some (f.s, f.safe) := rfl
    rw [e1]
    simp only [Option.elim_some]
    (repeat (first
 | (simp (disch := omega) only [evA, evB, evC, bAdd_i64, bSub_i64])
 | (with_reducible apply go_ld1 h)
 | ((with_reducible first | apply go_ldA h | apply go_rd h | apply go_rdN h | apply go_rlen h); rfl)
 | (with_reducible first | apply go_ldN h | apply go_lenL h)
 | ((with_reducible apply go_st h); intro _ h)
 | ((with_reducible apply go_stA h); rfl; rfl; (first | rfl | simp [OneV.o]); intro _ h)
 | ((with_reducible apply go_stN h); rfl; (first | rfl | simp [OneV.o]); intro _ h)
 | ((with_reducible apply go_box h); rfl; intro _ _ h)
 | ((with_reducible apply go_ix h); omega)
 | ((with_reducible first | apply go_elN h | apply go_f1 h | apply go_rf1 h | apply go_rel h); (case hi => omega); (try case hx => exact inferInstance); (try case hv => rfl))
 | ((with_reducible apply go_fa h); omega; omega)
))
    refine go_alloc h zFi rfl fun q _ h => ?_
    (repeat (first
 | (simp (disch := omega) only [evA, evB, evC, bAdd_i64, bSub_i64])
 | (with_reducible apply go_ld1 h)
 | ((with_reducible first | apply go_ldA h | apply go_rd h | apply go_rdN h | apply go_rlen h); rfl)
 | (with_reducible first | apply go_ldN h | apply go_lenL h)
 | ((with_reducible apply go_st h); intro _ h)
 | ((with_reducible apply go_stA h); rfl; rfl; (first | rfl | simp [OneV.o]); intro _ h)
 | ((with_reducible apply go_stN h); rfl; (first | rfl | simp [OneV.o]); intro _ h)
 | ((with_reducible apply go_box h); rfl; intro _ _ h)
 | ((with_reducible apply go_ix h); omega)
 | ((with_reducible first | apply go_elN h | apply go_f1 h | apply go_rf1 h | apply go_rel h); (case hi => omega); (try case hx => exact inferInstance); (try case hv => rfl))
 | ((with_reducible apply go_fa h); omega; omega)
))
    exact hK _ (diskA_close H ok (h.got))
end
end Go.Proofs.Gong
