/- A part of the proofs: what stands below it, told in lemmas. No condition. -/
import Derived.Test.YtbebhjcjncjooaaP1
set_option linter.all false

/- Outbox1 -/
namespace Go.Proofs.Gong
open Go Go.Sx Go.Proofs
set_option linter.all false
set_option maxRecDepth 100000
variable {kn kr : ET} {ke : JT}
def T26 : List (Nat × FnT) := []
def F26 (x0 x1 x2 : Value) (w : World) (K : V1) : Prop :=
bindP (bLt x0 (.int .i64 1)) fun v1 =>
stepM (gd false v1) x0 fun v2 =>
Sx.stepG (gd false v1) (bGt v2 (.int .i64 65536)) fun v3 =>
bindP (pPick v1 (.bool true) v3) fun v4 =>
stepM (gd false v4) x1 fun v5 =>
Sx.stepG (gd false v4) (bLt v5 (.int .i64 1)) fun v6 =>
bindP (pPick v4 (.bool true) v6) fun v7 =>
stepM (gd false v7) x1 fun v8 =>
stepM (gd false v7) x2 fun v9 =>
Sx.stepG (gd false v7) (bGt v8 v9) fun v10 =>
bindP (pPick v7 (.bool true) v10) fun v11 =>
stepM (gd false v11) x2 fun v12 =>
Sx.stepG (gd false v11) (bGt v12 (.int .i64 144115188075855872)) fun v13 =>
bindP (pPick v11 (.bool true) v13) fun v14 =>
ifB v14 (
K (.tuple #[(.pointer none), (.int .i64 1)]) w) (
eMakeMap none w fun v16 w15 =>
bindP (fBuild Try.prog 93 [(0, x0), (1, x1), (2, x2), (6, v16)]) fun v17 =>
eBox 93 v17 w15 fun v19 w18 =>
K (.tuple #[v19, (.int .i64 0)]) w18)
def G26 : FnT := fun args w K => on3 (fun x0 x1 x2 => F26 x0 x1 x2 w K) args
theorem c26 {x0 x1 x2 : Value} {w : World} {K : V1} (h : F26 x0 x1 x2 w K) : callP G26 [x0, x1, x2] w K := callP_intro (on3_mk (p := fun x0 x1 x2 => F26 x0 x1 x2 w K) h)
theorem ok26 : OkF Try.prog 26 G26 := by
  refine okF_of (tab_ok (l := T26) trivial) mixed (n := fuel) Try.func26 Try.call26 fun args w K h => ?_
  obtain ⟨x0, x1, x2, rfl, hh⟩ := of_on3 h
  exact fnD_list (c := bodyOf Try.f26) (by kernel_rfl) (by kernel_rfl) (Eq.mp (by kernel_rfl) hh)
def T50 : List (Nat × FnT) := []
def F50 (x0 x1 : Value) (w : World) (K : V1) : Prop :=
eBox 63 x1 w fun v2 w1 =>
bindP (pNil x0) fun v3 =>
bindP (pFieldAddr 6 v3) fun v4 =>
bindP (ld1 v4 w1.drew) fun v5 =>
bindP (pFieldAddr 0 v2) fun v6 =>
bindP (ld1 v6 w1.drew) fun v7 =>
bindP (ldN 13 v2 w1.drew) fun v8 =>
bindP (pNil x0) fun v9 =>
bindP (pFieldAddr 1 v9) fun v10 =>
bindP (ld1 v10 w1.drew) fun v11 =>
bindP (fBuild Try.prog 98 [(0, v8), (1, v11)]) fun v12 =>
eMapSet Try.prog 91 v5 v7 v12 w1.drew fun _ w13 =>
K (.tuple #[]) w13
def G50 : FnT := fun args w K => on2 (fun x0 x1 => F50 x0 x1 w K) args
theorem c50 {x0 x1 : Value} {w : World} {K : V1} (h : F50 x0 x1 w K) : callP G50 [x0, x1] w K := callP_intro (on2_mk (p := fun x0 x1 => F50 x0 x1 w K) h)
theorem ok50 : OkF Try.prog 50 G50 := by
  refine okF_of (tab_ok (l := T50) trivial) mixed (n := fuel) Try.func50 Try.call50 fun args w K h => ?_
  obtain ⟨x0, x1, rfl, hh⟩ := of_on2 h
  exact fnD_list (c := bodyOf Try.f50) (by kernel_rfl) (by kernel_rfl) (Eq.mp (by kernel_rfl) hh)
def T28 : List (Nat × FnT) := [(49, G49), (50, G50)]
def F28 (x0 x1 x2 : Value) (w : World) (K : V1) : Prop :=
eBox 55 x2 w fun v2 w1 =>
bindP (bLt x1 (.int .i64 1)) fun v3 =>
stepM (gd false v3) x1 fun v4 =>
Sx.stepG (gd false v3) (bGt v4 (.int .i64 5)) fun v5 =>
bindP (pPick v3 (.bool true) v5) fun v6 =>
Sx.stepG (gd false v6) (ldN 11 v2 w1) fun v7 =>
stepE (gd false v6) (fun k => callP G49 [v7] w1 k) w1 fun v9 w8 =>
Sx.stepG (gd false v6) (bNe Try.prog 24 (.tmp 17) (.const (.int .i64 0)) v9 (.int .i64 0)) fun v10 =>
bindP (pPick v6 (.bool true) v10) fun v11 =>
ifB v11 (
K (.tuple #[(.int .i64 0), (.int .i64 4)]) w8) (
bindP (pNil x0) fun v12 =>
bindP (pFieldAddr 6 v12) fun v13 =>
bindP (ld1 v13 w8.drew) fun v14 =>
bindP (lenM v14 w8.drew) fun v15 =>
bindP (pNil x0) fun v16 =>
bindP (pFieldAddr 0 v16) fun v17 =>
bindP (ld1 v17 w8.drew) fun v18 =>
bindP (bGe v15 v18) fun v19 =>
ifB v19 (
bindP (pNil x0) fun v20 =>
bindP (pFieldAddr 4 v20) fun v21 =>
bindP (ld1 v21 w8.drew) fun v22 =>
bindP (bAdd v22 (.int .i64 1)) fun v23 =>
bindP (pNil x0) fun v24 =>
bindP (pFieldAddr 4 v24) fun v25 =>
bindW (st 1 v25 v23 w8.drew) fun w26 =>
K (.tuple #[(.int .i64 0), (.int .i64 200)]) w26) (
bindP (pNil x0) fun v28 =>
bindP (pFieldAddr 3 v28) fun v29 =>
bindP (ld1 v29 w8.drew) fun v30 =>
bindP (bAdd v30 (.int .i64 1)) fun v31 =>
bindP (pNil x0) fun v32 =>
bindP (pFieldAddr 3 v32) fun v33 =>
bindW (st 1 v33 v31 w8.drew) fun w34 =>
bindP (pNil x0) fun v36 =>
bindP (pFieldAddr 3 v36) fun v37 =>
bindP (ld1 v37 w34.drew) fun v38 =>
bindP (ldN 11 v2 w34.drew) fun v39 =>
bindP (fBuild Try.prog 63 [(0, v38), (1, x1), (2, v39)]) fun v40 =>
callP G50 [x0, v40] w34.drew fun _ w41 =>
bindP (pNil x0) fun v43 =>
bindP (pFieldAddr 3 v43) fun v44 =>
bindP (ld1 v44 w41) fun v45 =>
K (.tuple #[v45, (.int .i64 0)]) w41))
def G28 : FnT := fun args w K => on3 (fun x0 x1 x2 => F28 x0 x1 x2 w K) args
theorem c28 {x0 x1 x2 : Value} {w : World} {K : V1} (h : F28 x0 x1 x2 w K) : callP G28 [x0, x1, x2] w K := callP_intro (on3_mk (p := fun x0 x1 x2 => F28 x0 x1 x2 w K) h)
theorem ok28 : OkF Try.prog 28 G28 := by
  refine okF_of (tab_ok (l := T28) ⟨ok49, ok50, trivial⟩) mixed (n := fuel) Try.func28 Try.call28 fun args w K h => ?_
  obtain ⟨x0, x1, x2, rfl, hh⟩ := of_on3 h
  exact fnD_list (c := bodyOf Try.f28) (by kernel_rfl) (by kernel_rfl) (Eq.mp (by kernel_rfl) hh)
def T29 : List (Nat × FnT) := [(10, G10)]
def F29 (x0 : Value) (w : World) (K : V1) : Prop :=
eAlloc Try.prog 55 w fun v2 w1 =>
callP G10 [x0, (.int .i64 50)] w1 fun v4 w3 =>
bindP (bAdd (.int .i64 1) v4) fun v5 =>
bindP (fBuild Try.prog 53 [(0, (.string ⟨#[110]⟩)), (1, (.string ⟨#[99]⟩)), (3, (.int .i64 3))]) fun v6 =>
bindP (bQuo x0 (.int .i64 50)) fun v7 =>
callP G10 [v7, (.int .i64 9)] w3 fun v9 w8 =>
bindP (bAdd (.int .i64 1) v9) fun v10 =>
bindP (fBuild Try.prog 55 [(0, v5), (1, v6), (2, v10)]) fun v11 =>
bindW (st 11 v2 v11 w8) fun w12 =>
bindP (ldN 11 v2 w12) fun v14 =>
K v14 w12
def G29 : FnT := fun args w K => on1 (fun x0 => F29 x0 w K) args
theorem c29 {x0 : Value} {w : World} {K : V1} (h : F29 x0 w K) : callP G29 [x0] w K := callP_intro (on1_mk (p := fun x0 => F29 x0 w K) h)
theorem ok29 : OkF Try.prog 29 G29 := by
  refine okF_of (tab_ok (l := T29) ⟨ok10, trivial⟩) mixed (n := fuel) Try.func29 Try.call29 fun args w K h => ?_
  obtain ⟨x0, rfl, hh⟩ := of_on1 h
  exact fnD_list (c := bodyOf Try.f29) (by kernel_rfl) (by kernel_rfl) (Eq.mp (by kernel_rfl) hh)
def T30 : List (Nat × FnT) := []
def F30 (x0 x1 : Value) (w : World) (K : V1) : Prop :=
bindP (pNil x0) fun v1 =>
bindP (pFieldAddr 5 v1) fun v2 =>
bindP (ld1 v2 w) fun v3 =>
bindP (bLt x1 v3) fun v4 =>
stepM (gd false v4) x1 fun v5 =>
stepM (gd false v4) x0 fun v6 =>
Sx.stepG (gd false v4) (pNil v6) fun v7 =>
Sx.stepG (gd false v4) (pFieldAddr 3 v7) fun v8 =>
Sx.stepG (gd false v4) (ld1 v8 w) fun v9 =>
Sx.stepG (gd false v4) (bGt v5 v9) fun v10 =>
bindP (pPick v4 (.bool true) v10) fun v11 =>
ifB v11 (
K (.int .i64 1) w) (
bindP (pNil x0) fun v12 =>
bindP (pFieldAddr 5 v12) fun v13 =>
bindW (st 1 v13 x1 w) fun w14 =>
K (.int .i64 0) w14)
def G30 : FnT := fun args w K => on2 (fun x0 x1 => F30 x0 x1 w K) args
theorem c30 {x0 x1 : Value} {w : World} {K : V1} (h : F30 x0 x1 w K) : callP G30 [x0, x1] w K := callP_intro (on2_mk (p := fun x0 x1 => F30 x0 x1 w K) h)
theorem ok30 : OkF Try.prog 30 G30 := by
  refine okF_of (tab_ok (l := T30) trivial) mixed (n := fuel) Try.func30 Try.call30 fun args w K h => ?_
  obtain ⟨x0, x1, rfl, hh⟩ := of_on2 h
  exact fnD_list (c := bodyOf Try.f30) (by kernel_rfl) (by kernel_rfl) (Eq.mp (by kernel_rfl) hh)
def LayK77_ren : Go.Shelf.Ren := ⟨fun | 7 => 77 | 10 => 89 | n => n, fun | 23 => 91 | 26 => 3 | 3 => 98 | 28 => 113 | 0 => 0 | 27 => 112 | 33 => 109 | 4 => 4 | n => n, fun | n => n⟩
theorem LayK77 : Go.Proofs.SlLaysZI.n7 Try.prog LayK77_ren := {
  mixed := by kernel_rfl
  f7 := ⟨Try.f77.name, by decide, Try.func77.trans (congrArg some (by kernel_rfl))⟩
  f10 := ⟨Try.f89.name, by decide, Try.func89.trans (congrArg some (by kernel_rfl))⟩
  t0 := Try.underlying0
  a0 := Try.isAgg0
  z0 := Try.sizeOf0
  v0 := Try.zeroValue0
  t4 := Try.underlying4
  a4 := Try.isAgg4
  z4 := Try.sizeOf4
  v4 := Try.zeroValue4
  t23 := Try.underlying91
  a23 := Try.isAgg91
  z23 := Try.sizeOf91
  v23 := Try.zeroValue91
  t26 := Try.underlying3
  a26 := Try.isAgg3
  z26 := Try.sizeOf3
  v26 := Try.zeroValue3
  t27 := Try.underlying112
  a27 := Try.isAgg112
  z27 := Try.sizeOf112
  v27 := Try.zeroValue112
  t28 := Try.underlying113
  a28 := Try.isAgg113
  z28 := Try.sizeOf113
  v28 := Try.zeroValue113
  t33 := Try.underlying109
  a33 := Try.isAgg109
  z33 := Try.sizeOf109
  v33 := Try.zeroValue109 }
def LayS76_ren : Go.Shelf.Ren := ⟨fun | 6 => 76 | 8 => 87 | 9 => 88 | 11 => 104 | 13 => 85 | 12 => 105 | 23 => 99 | 24 => 100 | 14 => 114 | 15 => 115 | 16 => 116 | 17 => 117 | 18 => 118 | 19 => 119 | 20 => 120 | 21 => 121 | 22 => 122 | 25 => 127 | 26 => 107 | 27 => 108 | 28 => 128 | 29 => 129 | 30 => 130 | 31 => 131 | n => n, fun | 26 => 3 | 28 => 113 | 24 => 22 | 0 => 0 | 3 => 3 | 37 => 121 | 48 => 131 | 50 => 133 | 4 => 4 | 40 => 125 | 39 => 124 | 45 => 60 | 5 => 5 | 9 => 9 | 51 => 139 | 55 => 143 | 57 => 154 | 58 => 155 | 33 => 109 | n => n, fun | n => n⟩
theorem LayS76 : Go.Proofs.SlLaysZI.n6 Try.prog LayS76_ren := {
  mixed := by kernel_rfl
  f6 := ⟨Try.f76.name, by decide, Try.func76.trans (congrArg some (by kernel_rfl))⟩
  f8 := ⟨Try.f87.name, by decide, Try.func87.trans (congrArg some (by kernel_rfl))⟩
  f11 := ⟨Try.f104.name, by decide, Try.func104.trans (congrArg some (by kernel_rfl))⟩
  t0 := Try.underlying0
  a0 := Try.isAgg0
  z0 := Try.sizeOf0
  v0 := Try.zeroValue0
  t24 := Try.underlying22
  a24 := Try.isAgg22
  z24 := Try.sizeOf22
  v24 := Try.zeroValue22
  t26 := Try.underlying3
  a26 := Try.isAgg3
  z26 := Try.sizeOf3
  v26 := Try.zeroValue3
  t28 := Try.underlying113
  a28 := Try.isAgg113
  z28 := Try.sizeOf113
  v28 := Try.zeroValue113
  i26 := by kernel_rfl }
def LayM88_ren : Go.Shelf.Ren := ⟨fun | 5 => 88 | 8 => 85 | 7 => 105 | 19 => 99 | 20 => 100 | 10 => 114 | 11 => 115 | 12 => 116 | 13 => 117 | 14 => 118 | 15 => 119 | 16 => 120 | 17 => 121 | 18 => 122 | 30 => 127 | 31 => 107 | 32 => 108 | 33 => 128 | 34 => 129 | 35 => 130 | 40 => 131 | n => n, fun | 23 => 22 | 25 => 3 | 3 => 3 | 32 => 121 | 22 => 22 | 0 => 0 | 44 => 131 | 46 => 133 | 4 => 4 | 36 => 125 | 35 => 124 | 41 => 60 | 5 => 5 | 9 => 9 | 53 => 139 | 57 => 143 | 63 => 154 | 64 => 155 | n => n, fun | n => n⟩
theorem LayM88 : Go.Proofs.SlLaysM.n5 Try.prog LayM88_ren := {
  mixed := by kernel_rfl
  f5 := ⟨Try.f88.name, by decide, Try.func88.trans (congrArg some (by kernel_rfl))⟩
  f7 := ⟨Try.f105.name, by decide, Try.func105.trans (congrArg some (by kernel_rfl))⟩
  f8 := Try.func85.trans (congrArg some (by kernel_rfl))
  f10 := ⟨Try.f114.name, by decide, Try.func114.trans (congrArg some (by kernel_rfl))⟩
  f11 := ⟨Try.f115.name, by decide, Try.func115.trans (congrArg some (by kernel_rfl))⟩
  f12 := ⟨Try.f116.name, by decide, Try.func116.trans (congrArg some (by kernel_rfl))⟩
  f13 := ⟨Try.f117.name, by decide, Try.func117.trans (congrArg some (by kernel_rfl))⟩
  f14 := ⟨Try.f118.name, by decide, Try.func118.trans (congrArg some (by kernel_rfl))⟩
  f15 := ⟨Try.f119.name, by decide, Try.func119.trans (congrArg some (by kernel_rfl))⟩
  f16 := ⟨Try.f120.name, by decide, Try.func120.trans (congrArg some (by kernel_rfl))⟩
  f17 := ⟨Try.f121.name, by decide, Try.func121.trans (congrArg some (by kernel_rfl))⟩
  f18 := ⟨Try.f122.name, by decide, Try.func122.trans (congrArg some (by kernel_rfl))⟩
  f19 := Try.func99.trans (congrArg some (by kernel_rfl))
  f20 := Try.func100.trans (congrArg some (by kernel_rfl))
  f30 := ⟨Try.f127.name, by decide, Try.func127.trans (congrArg some (by kernel_rfl))⟩
  f31 := Try.func107.trans (congrArg some (by kernel_rfl))
  f32 := Try.func108.trans (congrArg some (by kernel_rfl))
  f33 := ⟨Try.f128.name, by decide, Try.func128.trans (congrArg some (by kernel_rfl))⟩
  f34 := ⟨Try.f129.name, by decide, Try.func129.trans (congrArg some (by kernel_rfl))⟩
  f35 := ⟨Try.f130.name, by decide, Try.func130.trans (congrArg some (by kernel_rfl))⟩
  f40 := ⟨Try.f131.name, by decide, Try.func131.trans (congrArg some (by kernel_rfl))⟩
  t0 := Try.underlying0
  a0 := Try.isAgg0
  z0 := Try.sizeOf0
  v0 := Try.zeroValue0
  t3 := Try.underlying3
  a3 := Try.isAgg3
  z3 := Try.sizeOf3
  v3 := Try.zeroValue3
  t4 := Try.underlying4
  a4 := Try.isAgg4
  z4 := Try.sizeOf4
  v4 := Try.zeroValue4
  t5 := Try.underlying5
  a5 := Try.isAgg5
  z5 := Try.sizeOf5
  v5 := Try.zeroValue5
  t9 := Try.underlying9
  a9 := Try.isAgg9
  z9 := Try.sizeOf9
  v9 := Try.zeroValue9
  t22 := Try.underlying22
  a22 := Try.isAgg22
  z22 := Try.sizeOf22
  v22 := Try.zeroValue22
  t23 := Try.underlying22
  a23 := Try.isAgg22
  z23 := Try.sizeOf22
  v23 := Try.zeroValue22
  t25 := Try.underlying3
  a25 := Try.isAgg3
  z25 := Try.sizeOf3
  v25 := Try.zeroValue3
  t32 := Try.underlying121
  a32 := Try.isAgg121
  z32 := Try.sizeOf121
  v32 := Try.zeroValue121
  t35 := Try.underlying124
  a35 := Try.isAgg124
  z35 := Try.sizeOf124
  v35 := Try.zeroValue124
  t36 := Try.underlying125
  a36 := Try.isAgg125
  z36 := Try.sizeOf125
  v36 := Try.zeroValue125
  t41 := Try.underlying60
  a41 := Try.isAgg60
  z41 := Try.sizeOf60
  v41 := Try.zeroValue60
  t44 := Try.underlying131
  a44 := Try.isAgg131
  z44 := Try.sizeOf131
  v44 := Try.zeroValue131
  t46 := Try.underlying133
  a46 := Try.isAgg133
  z46 := Try.sizeOf133
  v46 := Try.zeroValue133
  t53 := Try.underlying139
  a53 := Try.isAgg139
  z53 := Try.sizeOf139
  v53 := Try.zeroValue139
  t57 := Try.underlying143
  a57 := Try.isAgg143
  z57 := Try.sizeOf143
  v57 := Try.zeroValue143
  t63 := Try.underlying154
  a63 := Try.isAgg154
  z63 := Try.sizeOf154
  v63 := Try.zeroValue154
  t64 := Try.underlying155
  a64 := Try.isAgg155
  z64 := Try.sizeOf155
  v64 := Try.zeroValue155 }
def G76 : FnT := gSortedI 89 3
theorem ok76 : OkF Try.prog 76 G76 := okSortedI (f := 76) (g := 89) (ty := 3) LayK77 LayS76 LayM88 rfl rfl rfl rfl Try.call76 Try.call88 Try.call89
def T77 : List (Nat × FnT) := []
def F77 (x0 : Value) (w : World) (K : V1) : Prop :=
eBox 91 x0 w fun v2 w1 =>
bindP (some (.func (.func 89) #[] #[v2])) fun v3 =>
K v3 w1
def G77 : FnT := fun args w K => on1 (fun x0 => F77 x0 w K) args
theorem c77 {x0 : Value} {w : World} {K : V1} (h : F77 x0 w K) : callP G77 [x0] w K := callP_intro (on1_mk (p := fun x0 => F77 x0 w K) h)
theorem ok77 : OkF Try.prog 77 G77 := by
  refine okF_of (tab_ok (l := T77) trivial) mixed (n := fuel) Try.func77 Try.call77 fun args w K h => ?_
  obtain ⟨x0, rfl, hh⟩ := of_on1 h
  exact fnD_list (c := bodyOf Try.f77) (by kernel_rfl) (by kernel_rfl) (Eq.mp (by kernel_rfl) hh)
def T51 : List (Nat × FnT) := [(76, G76), (77, G77)]
def F51 (x0 : Value) (w : World) (K : V1) : Prop :=
bindP (pNil x0) fun v1 =>
bindP (pFieldAddr 6 v1) fun v2 =>
bindP (ld1 v2 w) fun v3 =>
callP G77 [v3] w fun v5 w4 =>
callP G76 [v5] w4 fun v7 w6 =>
K v7 w6
def G51 : FnT := fun args w K => on1 (fun x0 => F51 x0 w K) args
theorem c51 {x0 : Value} {w : World} {K : V1} (h : F51 x0 w K) : callP G51 [x0] w K := callP_intro (on1_mk (p := fun x0 => F51 x0 w K) h)
theorem ok51 : OkF Try.prog 51 G51 := by
  refine okF_of (tab_ok (l := T51) ⟨ok76, ok77, trivial⟩) mixed (n := fuel) Try.func51 Try.call51 fun args w K h => ?_
  obtain ⟨x0, rfl, hh⟩ := of_on1 h
  exact fnD_list (c := bodyOf Try.f51) (by kernel_rfl) (by kernel_rfl) (Eq.mp (by kernel_rfl) hh)
def T31 : List (Nat × FnT) := [(51, G51)]
def F31_3b (s6 : Value) (w : World) (K : V1) : Prop :=
K (.tuple #[s6, (.int .i64 0)]) w
def F31_3 (s6 : Value) (w : World) (K : V1) : Prop := F31_3b s6 w K
theorem ok31_3 {K : V1}
    (hn : HN (fun e w => K (.tuple #[(e 4), (e 5)]) w) kn) (hr : HR Try.prog [.tmp 4, .tmp 5] K kr) (he : HE noE ke) :
    ∀ e w, F31_3 (e 6) w K → denL Try.prog (tabOf T31) 69 fuel ((flat (bodyOf Try.f31)).drop 6) e w kn kr ke := by
  intro e w h
  unfold F31_3 at h
  have e1 : ∀ (_ : Unit), F31_3b (e 6) w K = denL Try.prog (tabOf T31) 69 fuel ((flat (bodyOf Try.f31)).drop 6) e w (fun e w => K (.tuple #[(e 4), (e 5)]) w) (endD Try.prog [.tmp 4, .tmp 5] K) noE := by intro _; kernel_rfl
  exact seg_end (Eq.mp (e1 ()) h) hn hr he
def F31_5b (s0 s1 s6 s17 s18 s19 : Value) (w : World) (_K : V1) (R3 : V6) : Prop :=
bindP (bAdd s19 (.int .i64 1)) fun v1 =>
R3 s0 s1 s6 s17 s18 v1 w
def F31_5 (s0 s1 s6 s17 s18 s19 : Value) (w : World) (K : V1) (R3 : V6) : Prop := F31_5b s0 s1 s6 s17 s18 s19 w K R3
theorem ok31_5 (R3 : V6) {K : V1}
    (hn : HN (fun e w => R3 (e 0) (e 1) (e 6) (e 17) (e 18) (e 19) w) kn) (hr : HR Try.prog [.tmp 4, .tmp 5] K kr) (he : HE (blkK 0 (fun e w => F31_3 (e 6) w K) noE) ke) :
    ∀ e w, F31_5 (e 0) (e 1) (e 6) (e 17) (e 18) (e 19) w K R3 → denL Try.prog (tabOf T31) 69 fuel ((flat (loopB (blkB (nthC (flat (bodyOf Try.f31)) 5)))).drop 3) e w kn kr ke := by
  intro e w h
  unfold F31_5 at h
  have e1 : ∀ (_ : Unit), F31_5b (e 0) (e 1) (e 6) (e 17) (e 18) (e 19) w K R3 = denL Try.prog (tabOf T31) 69 fuel ((flat (loopB (blkB (nthC (flat (bodyOf Try.f31)) 5)))).drop 3) e w (fun e w => R3 (e 0) (e 1) (e 6) (e 17) (e 18) (e 19) w) (endD Try.prog [.tmp 4, .tmp 5] K) (blkK 0 (fun e w => F31_3 (e 6) w K) noE) := by intro _; kernel_rfl
  exact seg_end (Eq.mp (e1 ()) h) hn hr he
def F31_4b (s0 s1 s6 s17 s18 s19 : Value) (w : World) (_K : V1) (R3 : V6) (Y0 : V6) (Y1 : V1) : Prop :=
bindP (bLt s19 s18) fun v2 =>
ifB v2 (
bindP (pIndexL 1 s17 s19) fun v3 =>
bindP (ld1 v3 w) fun v4 =>
bindP (pNil s0) fun v5 =>
bindP (pFieldAddr 6 v5) fun v6 =>
bindP (ld1 v6 w) fun v7 =>
bindP (fLook Try.prog 91 v7 v4 false w) fun v8 =>
eAlloc Try.prog 98 w fun v10 w9 =>
bindW (st 15 v10 v8 w9) fun w11 =>
bindP (pNil s0) fun v13 =>
bindP (pFieldAddr 5 v13) fun v14 =>
bindP (ld1 v14 w11) fun v15 =>
bindP (bGt v4 v15) fun v16 =>
Sx.stepG (gd false v16) (pFieldAddr 14 v10) fun v17 =>
Sx.stepG (gd false v16) (ld1 v17 w11) fun v18 =>
stepM (gd false v16) s1 fun v19 =>
Sx.stepG (gd false v16) (bGt v18 v19) fun v20 =>
bindP (pPick v16 (.bool true) v20) fun v21 =>
ifB v21 (
Y0 s0 s1 s6 s17 s18 s19 w11) (
bindP (pFieldAddr 0 v10) fun v22 =>
bindP (ldN 13 v22 w11) fun v23 =>
eBuildSl Try.prog 57 1 [(0, v23)] w11 fun v25 w24 =>
eAppend Try.prog 57 57 s6 v25 w24 fun v27 w26 =>
bindP (pFieldAddr 13 v10) fun v28 =>
bindP (ld1 v28 w26) fun v29 =>
bindP (bAdd s1 v29) fun v30 =>
bindP (pMin v30 (.int .i64 2305843009213693952)) fun v31 =>
bindP (pFieldAddr 14 v10) fun v32 =>
bindW (st 1 v32 v31 w26) fun w33 =>
bindP (pFieldAddr 13 v10) fun v35 =>
bindP (ld1 v35 w33.drew) fun v36 =>
bindP (bMul (.int .i64 2) v36) fun v37 =>
bindP (pNil s0) fun v38 =>
bindP (pFieldAddr 2 v38) fun v39 =>
bindP (ld1 v39 w33.drew) fun v40 =>
bindP (pMin v37 v40) fun v41 =>
bindP (pFieldAddr 13 v10) fun v42 =>
bindW (st 1 v42 v41 w33.drew) fun w43 =>
bindP (pNil s0) fun v45 =>
bindP (pFieldAddr 6 v45) fun v46 =>
bindP (ld1 v46 w43.drew) fun v47 =>
bindP (ldN 15 v10 w43.drew) fun v48 =>
eMapSet Try.prog 91 v47 v4 v48 w43.drew fun _ w49 =>
Y0 s0 s1 v27 s17 s18 s19 w49)) (
Y1 s6 w)
def F31_4 (s0 s1 s6 s17 s18 s19 : Value) (w : World) (K : V1) (R3 : V6) : Prop := F31_4b s0 s1 s6 s17 s18 s19 w K R3 (fun a0 a1 a6 a17 a18 a19 w => F31_5 a0 a1 a6 a17 a18 a19 w K R3) (fun a6 w => F31_3 a6 w K)
theorem ok31_4 (R3 : V6) {K : V1}
    (hn : HN (fun e w => R3 (e 0) (e 1) (e 6) (e 17) (e 18) (e 19) w) kn) (hr : HR Try.prog [.tmp 4, .tmp 5] K kr) (he : HE (blkK 0 (fun e w => F31_3 (e 6) w K) noE) ke) :
    ∀ e w, F31_4 (e 0) (e 1) (e 6) (e 17) (e 18) (e 19) w K R3 → denL Try.prog (tabOf T31) 69 fuel ((flat (loopB (blkB (nthC (flat (bodyOf Try.f31)) 5)))).drop 0) e w kn kr ke := by
  intro e w h
  unfold F31_4 at h
  have e1 : ∀ (Y0 : V6) (Y1 : V1), F31_4b (e 0) (e 1) (e 6) (e 17) (e 18) (e 19) w K R3 Y0 Y1 = denL Try.prog (tabOf T31) 69 fuel (((flat (loopB (blkB (nthC (flat (bodyOf Try.f31)) 5)))).drop 0).take 3) e w (fun e w => Y0 (e 0) (e 1) (e 6) (e 17) (e 18) (e 19) w) (endD Try.prog [.tmp 4, .tmp 5] K) (blkK 0 (fun e w => Y1 (e 6) w) noE) := by intro Y0 Y1; kernel_rfl
  exact seg 3 (Eq.mp (e1 (fun a0 a1 a6 a17 a18 a19 w => F31_5 a0 a1 a6 a17 a18 a19 w K R3) (fun a6 w => F31_3 a6 w K)) h) (fun e w h => ok31_5 R3 hn hr he e w h) hr he
def F31_2L : Nat → Value → Value → Value → Value → Value → Value → World → (V1) → Prop
  | 0, _, _, _, _, _, _, _, _ => False
  | n + 1, s0, s1, s6, s17, s18, s19, w, K => F31_4 s0 s1 s6 s17 s18 s19 w K (fun a0 a1 a6 a17 a18 a19 w => F31_2L n a0 a1 a6 a17 a18 a19 w K)
def F31_2 (s0 s1 s6 s17 s18 s19 : Value) (w : World) (K : V1) : Prop := F31_2L fuel s0 s1 s6 s17 s18 s19 w K
theorem ok31_2 {K : V1}
    (hn : HN (fun e w => K (.tuple #[(e 4), (e 5)]) w) kn) (hr : HR Try.prog [.tmp 4, .tmp 5] K kr) (he : HE noE ke) :
    ∀ e w, F31_2 (e 0) (e 1) (e 6) (e 17) (e 18) (e 19) w K → denL Try.prog (tabOf T31) 69 fuel ((flat (bodyOf Try.f31)).drop 5) e w kn kr ke := by
  intro e w h
  unfold F31_2 at h
  refine seg_loop (id := 0) (body := (loopB (blkB (nthC (flat (bodyOf Try.f31)) 5)))) (l2 := (flat (bodyOf Try.f31)).drop 6) (by kernel_rfl) ?_
  refine loop_ok (FL := fun m e w => F31_2L m (e 0) (e 1) (e 6) (e 17) (e 18) (e 19) w K) (fr := endD Try.prog [.tmp 4, .tmp 5] K) (fe := (blkK 0 (fun e w => F31_3 (e 6) w K) noE)) (fun _ _ h => h) ?_ hr (blkK_mono (fun e w h => ok31_3 hn hr he e w h) he) fuel e w h
  intro m e w h
  have h : F31_2L (m + 1) (e 0) (e 1) (e 6) (e 17) (e 18) (e 19) w K := h
  rw [F31_2L] at h
  exact ok31_4 (fun a0 a1 a6 a17 a18 a19 w => F31_2L m a0 a1 a6 a17 a18 a19 w K) (fun _ _ h => h) (fun _ _ h => h) (fun _ _ _ h => h) e w h
def F31_1b (s0 s1 : Value) (w : World) (K : V1) (Y0 : V6) : Prop :=
bindP (bLt s1 (.int .i64 0)) fun v51 =>
stepM (gd false v51) s1 fun v52 =>
Sx.stepG (gd false v51) (bGt v52 (.int .i64 2305843009213693952)) fun v53 =>
bindP (pPick v51 (.bool true) v53) fun v54 =>
ifB v54 (
K (.tuple #[(.slice none 0 0), (.int .i64 1)]) w) (
callP G51 [s0] w fun v56 w55 =>
bindP (lenL v56) fun v57 =>
Y0 s0 s1 (.slice none 0 0) v56 v57 (.int .i64 0) w55)
def F31_1 (s0 s1 : Value) (w : World) (K : V1) : Prop := F31_1b s0 s1 w K (fun a0 a1 a6 a17 a18 a19 w => F31_2 a0 a1 a6 a17 a18 a19 w K)
theorem ok31_1 {K : V1}
    (hn : HN (fun e w => K (.tuple #[(e 4), (e 5)]) w) kn) (hr : HR Try.prog [.tmp 4, .tmp 5] K kr) (he : HE noE ke) :
    ∀ e w, F31_1 (e 0) (e 1) w K → denL Try.prog (tabOf T31) 69 fuel ((flat (bodyOf Try.f31)).drop 0) e w kn kr ke := by
  intro e w h
  unfold F31_1 at h
  have e1 : ∀ (Y0 : V6), F31_1b (e 0) (e 1) w K Y0 = denL Try.prog (tabOf T31) 69 fuel (((flat (bodyOf Try.f31)).drop 0).take 5) e w (fun e w => Y0 (e 0) (e 1) (e 6) (e 17) (e 18) (e 19) w) (endD Try.prog [.tmp 4, .tmp 5] K) noE := by intro Y0; kernel_rfl
  exact seg 5 (Eq.mp (e1 (fun a0 a1 a6 a17 a18 a19 w => F31_2 a0 a1 a6 a17 a18 a19 w K)) h) (fun e w h => ok31_2 hn hr he e w h) hr he
def F31 (x0 x1 : Value) (w : World) (K : V1) : Prop := F31_1 x0 x1 w K
def G31 : FnT := fun args w K => on2 (fun x0 x1 => F31 x0 x1 w K) args
theorem c31 {x0 x1 : Value} {w : World} {K : V1} (h : F31 x0 x1 w K) : callP G31 [x0, x1] w K := callP_intro (on2_mk (p := fun x0 x1 => F31 x0 x1 w K) h)
theorem ok31 : OkF Try.prog 31 G31 := by
  refine okF_of (tab_ok (l := T31) ⟨ok51, trivial⟩) mixed (n := fuel) Try.func31 Try.call31 fun args w K h => ?_
  obtain ⟨x0, x1, rfl, hh⟩ := of_on2 h
  unfold F31 at hh
  exact fnD_list (c := bodyOf Try.f31) (by kernel_rfl) (by kernel_rfl) (ok31_1 (fun _ _ h => h) (fun _ _ h => h) (fun _ _ _ h => h) (initE [x0, x1]) w hh)
def T27 : List (Nat × FnT) := [(26, G26), (28, G28), (29, G29), (30, G30), (31, G31)]
def F27_3b (w : World) (K : V1) : Prop :=
K (.bool true) w
def F27_3 (w : World) (K : V1) : Prop := F27_3b w K
theorem ok27_3 {K : V1}
    (hn : HN (fun e w => K (e 0) w) kn) (hr : HR Try.prog [.tmp 0] K kr) (he : HE noE ke) :
    ∀ e w, F27_3 w K → denL Try.prog (tabOf T27) 82 fuel ((flat (bodyOf Try.f27)).drop 10) e w kn kr ke := by
  intro e w h
  unfold F27_3 at h
  have e1 : ∀ (_ : Unit), F27_3b w K = denL Try.prog (tabOf T27) 82 fuel ((flat (bodyOf Try.f27)).drop 10) e w (fun e w => K (e 0) w) (endD Try.prog [.tmp 0] K) noE := by intro _; kernel_rfl
  exact seg_end (Eq.mp (e1 ()) h) hn hr he
def F27_2b (s1 s4 s38 s39 s40 : Value) (w : World) (K : V1) (Y0 : V5) (Y1 : V0) : Prop :=
bindP (bLt s40 s39) fun v1 =>
ifB v1 (
bindP (pIndexL 1 s38 s40) fun v2 =>
bindP (ld1 v2 w) fun v3 =>
bindP (bMul v3 (.int .i64 1000000000)) fun v4 =>
bindP (bAdd s4 v4) fun v5 =>
bindP (bSub v5 (.int .i64 1)) fun v6 =>
callP G31 [s1, v6] w fun v8 w7 =>
bindP (pTuple v8 0) fun v9 =>
bindP (pTuple v8 1) fun v10 =>
callP G31 [s1, v5] w7 fun v12 w11 =>
bindP (pTuple v12 0) fun v13 =>
bindP (pTuple v12 1) fun v14 =>
bindP (bGt v5 (.int .i64 0)) fun v15 =>
stepM (gd true v15) v9 fun v16 =>
Sx.stepG (gd true v15) (lenL v16) fun v17 =>
Sx.stepG (gd true v15) (bNe Try.prog 3 (.tmp 65) (.const (.int .i64 0)) v17 (.int .i64 0)) fun v18 =>
stepM (gd true v15) v18 fun v19 =>
stepM (gd false v19) v10 fun v20 =>
Sx.stepG (gd false v19) (bNe Try.prog 24 (.tmp 68) (.const (.int .i64 0)) v20 (.int .i64 0)) fun v21 =>
Sx.stepG (gd true v15) (pPick v19 (.bool true) v21) fun v22 =>
bindP (pPick v15 v22 (.bool false)) fun v23 =>
stepM (gd false v23) v13 fun v24 =>
Sx.stepG (gd false v23) (lenL v24) fun v25 =>
Sx.stepG (gd false v23) (bNe Try.prog 3 (.tmp 74) (.const (.int .i64 1)) v25 (.int .i64 1)) fun v26 =>
bindP (pPick v23 (.bool true) v26) fun v27 =>
stepM (gd false v27) v14 fun v28 =>
Sx.stepG (gd false v27) (bNe Try.prog 24 (.tmp 78) (.const (.int .i64 0)) v28 (.int .i64 0)) fun v29 =>
bindP (pPick v27 (.bool true) v29) fun v30 =>
ifB v30 (
K (.bool false) w11) (
bindP (bAdd s40 (.int .i64 1)) fun v31 =>
Y0 s1 v5 s38 s39 v31 w11)) (
Y1 w)
def F27_2L : Nat → Value → Value → Value → Value → Value → World → (V1) → Prop
  | 0, _, _, _, _, _, _, _ => False
  | n + 1, s1, s4, s38, s39, s40, w, K => F27_2b s1 s4 s38 s39 s40 w K (fun a1 a4 a38 a39 a40 w => F27_2L n a1 a4 a38 a39 a40 w K) (fun w => F27_3 w K)
def F27_2 (s1 s4 s38 s39 s40 : Value) (w : World) (K : V1) : Prop := F27_2L fuel s1 s4 s38 s39 s40 w K
theorem ok27_2 {K : V1}
    (hn : HN (fun e w => K (e 0) w) kn) (hr : HR Try.prog [.tmp 0] K kr) (he : HE noE ke) :
    ∀ e w, F27_2 (e 1) (e 4) (e 38) (e 39) (e 40) w K → denL Try.prog (tabOf T27) 82 fuel ((flat (bodyOf Try.f27)).drop 9) e w kn kr ke := by
  intro e w h
  unfold F27_2 at h
  refine seg_loop (id := 0) (body := (loopB (blkB (nthC (flat (bodyOf Try.f27)) 9)))) (l2 := (flat (bodyOf Try.f27)).drop 10) (by kernel_rfl) ?_
  refine loop_ok (FL := fun m e w => F27_2L m (e 1) (e 4) (e 38) (e 39) (e 40) w K) (fr := endD Try.prog [.tmp 0] K) (fe := (blkK 0 (fun e w => F27_3 w K) noE)) (fun _ _ h => h) ?_ hr (blkK_mono (fun e w h => ok27_3 hn hr he e w h) he) fuel e w h
  intro m e w h
  have h : F27_2L (m + 1) (e 1) (e 4) (e 38) (e 39) (e 40) w K := h
  rw [F27_2L] at h
  have e1 : ∀ (Y0 : V5) (Y1 : V0), F27_2b (e 1) (e 4) (e 38) (e 39) (e 40) w K Y0 Y1 = denL Try.prog (tabOf T27) 82 fuel (flat (loopB (blkB (nthC (flat (bodyOf Try.f27)) 9)))) e w (fun e w => Y0 (e 1) (e 4) (e 38) (e 39) (e 40) w) (endD Try.prog [.tmp 0] K) (blkK 0 (fun e w => Y1 w) noE) := by intro Y0 Y1; kernel_rfl
  exact Eq.mp (e1 (fun a1 a4 a38 a39 a40 w => F27_2L m a1 a4 a38 a39 a40 w K) (fun w => F27_3 w K)) h
def F27_1b (w : World) (K : V1) (Y0 : V5) : Prop :=
callP G26 [(.int .i64 5), (.int .i64 1000000000), (.int .i64 4000000000)] w fun v33 w32 =>
bindP (pTuple v33 0) fun v34 =>
bindP (pTuple v33 1) fun v35 =>
bindP (bEq Try.prog 48 (.tmp 15) (.const (.pointer none)) v34 (.pointer none)) fun v36 =>
stepM (gd false v36) v35 fun v37 =>
Sx.stepG (gd false v36) (bNe Try.prog 24 (.tmp 18) (.const (.int .i64 0)) v37 (.int .i64 0)) fun v38 =>
bindP (pPick v36 (.bool true) v38) fun v39 =>
ifB v39 (
K (.bool false) w32) (
callP G29 [(.int .i64 1)] w32 fun v41 w40 =>
callP G28 [v34, (.int .i64 1), v41] w40 fun v43 w42 =>
bindP (pTuple v43 0) fun v44 =>
bindP (pTuple v43 1) fun v45 =>
bindP (bNe Try.prog 3 (.tmp 27) (.const (.int .i64 1)) v44 (.int .i64 1)) fun v46 =>
stepM (gd false v46) v45 fun v47 =>
Sx.stepG (gd false v46) (bNe Try.prog 24 (.tmp 30) (.const (.int .i64 0)) v47 (.int .i64 0)) fun v48 =>
bindP (pPick v46 (.bool true) v48) fun v49 =>
stepM (gd false v49) v34 fun v50 =>
stepE (gd false v49) (fun k => callP G30 [v50, (.int .i64 1)] w42 k) w42 fun v52 w51 =>
Sx.stepG (gd false v49) (bNe Try.prog 24 (.tmp 35) (.const (.int .i64 0)) v52 (.int .i64 0)) fun v53 =>
bindP (pPick v49 (.bool true) v53) fun v54 =>
ifB v54 (
K (.bool false) w51) (
eBuildSl Try.prog 22 5 [(0, (.int .i64 0)), (1, (.int .i64 1)), (2, (.int .i64 2)), (3, (.int .i64 4)), (4, (.int .i64 4))] w51 fun v56 w55 =>
bindP (lenL v56) fun v57 =>
Y0 v34 (.int .i64 0) v56 v57 (.int .i64 0) w55))
def F27_1 (w : World) (K : V1) : Prop := F27_1b w K (fun a1 a4 a38 a39 a40 w => F27_2 a1 a4 a38 a39 a40 w K)
theorem ok27_1 {K : V1}
    (hn : HN (fun e w => K (e 0) w) kn) (hr : HR Try.prog [.tmp 0] K kr) (he : HE noE ke) :
    ∀ e w, F27_1 w K → denL Try.prog (tabOf T27) 82 fuel ((flat (bodyOf Try.f27)).drop 0) e w kn kr ke := by
  intro e w h
  unfold F27_1 at h
  have e1 : ∀ (Y0 : V5), F27_1b w K Y0 = denL Try.prog (tabOf T27) 82 fuel (((flat (bodyOf Try.f27)).drop 0).take 9) e w (fun e w => Y0 (e 1) (e 4) (e 38) (e 39) (e 40) w) (endD Try.prog [.tmp 0] K) noE := by intro Y0; kernel_rfl
  exact seg 9 (Eq.mp (e1 (fun a1 a4 a38 a39 a40 w => F27_2 a1 a4 a38 a39 a40 w K)) h) (fun e w h => ok27_2 hn hr he e w h) hr he
def F27 (w : World) (K : V1) : Prop := F27_1 w K
def G27 : FnT := fun args w K => on0 (F27 w K) args
theorem c27 {w : World} {K : V1} (h : F27 w K) : callP G27 [] w K := callP_intro (on0_mk (p := F27 w K) h)
theorem ok27 : OkF Try.prog 27 G27 := by
  refine okF_of (tab_ok (l := T27) ⟨ok26, ok28, ok29, ok30, ok31, trivial⟩) mixed (n := fuel) Try.func27 Try.call27 fun args w K h => ?_
  obtain ⟨rfl, hh⟩ := of_on0 h
  unfold F27 at hh
  exact fnD_list (c := bodyOf Try.f27) (by kernel_rfl) (by kernel_rfl) (ok27_1 (fun _ _ h => h) (fun _ _ h => h) (fun _ _ _ h => h) (initE []) w hh)
def T37 : List (Nat × FnT) := []
def F37 (x0 x1 : Value) (w : World) (K : V1) : Prop :=
bindP (pNil x0) fun v1 =>
bindP (pFieldAddr 6 v1) fun v2 =>
bindP (ld1 v2 w) fun v3 =>
bindP (fLook Try.prog 91 v3 x1 true w) fun v4 =>
bindP (pTuple v4 0) fun v5 =>
bindP (pTuple v4 1) fun v6 =>
eAlloc Try.prog 98 w fun v8 w7 =>
bindW (st 15 v8 v5 w7) fun w9 =>
bindP (uNot v6) fun v11 =>
ifB v11 (
K (.int .i64 5) w9) (
bindP (pNil x0) fun v12 =>
bindP (pFieldAddr 6 v12) fun v13 =>
bindP (ld1 v13 w9) fun v14 =>
eDelete Try.prog 91 v14 x1 w9 fun _ w15 =>
K (.int .i64 0) w15)
def G37 : FnT := fun args w K => on2 (fun x0 x1 => F37 x0 x1 w K) args
theorem c37 {x0 x1 : Value} {w : World} {K : V1} (h : F37 x0 x1 w K) : callP G37 [x0, x1] w K := callP_intro (on2_mk (p := fun x0 x1 => F37 x0 x1 w K) h)
theorem ok37 : OkF Try.prog 37 G37 := by
  refine okF_of (tab_ok (l := T37) trivial) mixed (n := fuel) Try.func37 Try.call37 fun args w K h => ?_
  obtain ⟨x0, x1, rfl, hh⟩ := of_on2 h
  exact fnD_list (c := bodyOf Try.f37) (by kernel_rfl) (by kernel_rfl) (Eq.mp (by kernel_rfl) hh)
def T38 : List (Nat × FnT) := [(51, G51)]
def F38_3b (s3 : Value) (w : World) (K : V1) : Prop :=
K s3 w
def F38_3 (s3 : Value) (w : World) (K : V1) : Prop := F38_3b s3 w K
theorem ok38_3 {K : V1}
    (hn : HN (fun e w => K (e 2) w) kn) (hr : HR Try.prog [.tmp 2] K kr) (he : HE noE ke) :
    ∀ e w, F38_3 (e 3) w K → denL Try.prog (tabOf T38) 25 fuel ((flat (bodyOf Try.f38)).drop 4) e w kn kr ke := by
  intro e w h
  unfold F38_3 at h
  have e1 : ∀ (_ : Unit), F38_3b (e 3) w K = denL Try.prog (tabOf T38) 25 fuel ((flat (bodyOf Try.f38)).drop 4) e w (fun e w => K (e 2) w) (endD Try.prog [.tmp 2] K) noE := by intro _; kernel_rfl
  exact seg_end (Eq.mp (e1 ()) h) hn hr he
def F38_2b (s0 s3 s7 s8 s9 : Value) (w : World) (_K : V1) (Y0 : V5) (Y1 : V1) : Prop :=
bindP (bLt s9 s8) fun v1 =>
ifB v1 (
bindP (pIndexL 1 s7 s9) fun v2 =>
bindP (ld1 v2 w) fun v3 =>
bindP (pNil s0) fun v4 =>
bindP (pFieldAddr 6 v4) fun v5 =>
bindP (ld1 v5 w) fun v6 =>
bindP (fLook Try.prog 91 v6 v3 false w) fun v7 =>
bindP (fField Try.prog 98 v7 0) fun v8 =>
eBuildSl Try.prog 57 1 [(0, v8)] w fun v10 w9 =>
eAppend Try.prog 57 57 s3 v10 w9 fun v12 w11 =>
bindP (bAdd s9 (.int .i64 1)) fun v13 =>
Y0 s0 v12 s7 s8 v13 w11) (
Y1 s3 w)
def F38_2L : Nat → Value → Value → Value → Value → Value → World → (V1) → Prop
  | 0, _, _, _, _, _, _, _ => False
  | n + 1, s0, s3, s7, s8, s9, w, K => F38_2b s0 s3 s7 s8 s9 w K (fun a0 a3 a7 a8 a9 w => F38_2L n a0 a3 a7 a8 a9 w K) (fun a3 w => F38_3 a3 w K)
def F38_2 (s0 s3 s7 s8 s9 : Value) (w : World) (K : V1) : Prop := F38_2L fuel s0 s3 s7 s8 s9 w K
theorem ok38_2 {K : V1}
    (hn : HN (fun e w => K (e 2) w) kn) (hr : HR Try.prog [.tmp 2] K kr) (he : HE noE ke) :
    ∀ e w, F38_2 (e 0) (e 3) (e 7) (e 8) (e 9) w K → denL Try.prog (tabOf T38) 25 fuel ((flat (bodyOf Try.f38)).drop 3) e w kn kr ke := by
  intro e w h
  unfold F38_2 at h
  refine seg_loop (id := 0) (body := (loopB (blkB (nthC (flat (bodyOf Try.f38)) 3)))) (l2 := (flat (bodyOf Try.f38)).drop 4) (by kernel_rfl) ?_
  refine loop_ok (FL := fun m e w => F38_2L m (e 0) (e 3) (e 7) (e 8) (e 9) w K) (fr := endD Try.prog [.tmp 2] K) (fe := (blkK 0 (fun e w => F38_3 (e 3) w K) noE)) (fun _ _ h => h) ?_ hr (blkK_mono (fun e w h => ok38_3 hn hr he e w h) he) fuel e w h
  intro m e w h
  have h : F38_2L (m + 1) (e 0) (e 3) (e 7) (e 8) (e 9) w K := h
  rw [F38_2L] at h
  have e1 : ∀ (Y0 : V5) (Y1 : V1), F38_2b (e 0) (e 3) (e 7) (e 8) (e 9) w K Y0 Y1 = denL Try.prog (tabOf T38) 25 fuel (flat (loopB (blkB (nthC (flat (bodyOf Try.f38)) 3)))) e w (fun e w => Y0 (e 0) (e 3) (e 7) (e 8) (e 9) w) (endD Try.prog [.tmp 2] K) (blkK 0 (fun e w => Y1 (e 3) w) noE) := by intro Y0 Y1; kernel_rfl
  exact Eq.mp (e1 (fun a0 a3 a7 a8 a9 w => F38_2L m a0 a3 a7 a8 a9 w K) (fun a3 w => F38_3 a3 w K)) h
def F38_1b (s0 : Value) (w : World) (_K : V1) (Y0 : V5) : Prop :=
callP G51 [s0] w fun v15 w14 =>
bindP (lenL v15) fun v16 =>
Y0 s0 (.slice none 0 0) v15 v16 (.int .i64 0) w14
def F38_1 (s0 : Value) (w : World) (K : V1) : Prop := F38_1b s0 w K (fun a0 a3 a7 a8 a9 w => F38_2 a0 a3 a7 a8 a9 w K)
theorem ok38_1 {K : V1}
    (hn : HN (fun e w => K (e 2) w) kn) (hr : HR Try.prog [.tmp 2] K kr) (he : HE noE ke) :
    ∀ e w, F38_1 (e 0) w K → denL Try.prog (tabOf T38) 25 fuel ((flat (bodyOf Try.f38)).drop 0) e w kn kr ke := by
  intro e w h
  unfold F38_1 at h
  have e1 : ∀ (Y0 : V5), F38_1b (e 0) w K Y0 = denL Try.prog (tabOf T38) 25 fuel (((flat (bodyOf Try.f38)).drop 0).take 3) e w (fun e w => Y0 (e 0) (e 3) (e 7) (e 8) (e 9) w) (endD Try.prog [.tmp 2] K) noE := by intro Y0; kernel_rfl
  exact seg 3 (Eq.mp (e1 (fun a0 a3 a7 a8 a9 w => F38_2 a0 a3 a7 a8 a9 w K)) h) (fun e w h => ok38_2 hn hr he e w h) hr he
def F38 (x0 : Value) (w : World) (K : V1) : Prop := F38_1 x0 w K
def G38 : FnT := fun args w K => on1 (fun x0 => F38 x0 w K) args
theorem c38 {x0 : Value} {w : World} {K : V1} (h : F38 x0 w K) : callP G38 [x0] w K := callP_intro (on1_mk (p := fun x0 => F38 x0 w K) h)
theorem ok38 : OkF Try.prog 38 G38 := by
  refine okF_of (tab_ok (l := T38) ⟨ok51, trivial⟩) mixed (n := fuel) Try.func38 Try.call38 fun args w K h => ?_
  obtain ⟨x0, rfl, hh⟩ := of_on1 h
  unfold F38 at hh
  exact fnD_list (c := bodyOf Try.f38) (by kernel_rfl) (by kernel_rfl) (ok38_1 (fun _ _ h => h) (fun _ _ h => h) (fun _ _ _ h => h) (initE [x0]) w hh)
def T39 : List (Nat × FnT) := []
def F39 (x0 : Value) (w : World) (K : V1) : Prop :=
bindP (pNil x0) fun v1 =>
bindP (pFieldAddr 3 v1) fun v2 =>
bindP (ld1 v2 w) fun v3 =>
K v3 w
def G39 : FnT := fun args w K => on1 (fun x0 => F39 x0 w K) args
theorem c39 {x0 : Value} {w : World} {K : V1} (h : F39 x0 w K) : callP G39 [x0] w K := callP_intro (on1_mk (p := fun x0 => F39 x0 w K) h)
theorem ok39 : OkF Try.prog 39 G39 := by
  refine okF_of (tab_ok (l := T39) trivial) mixed (n := fuel) Try.func39 Try.call39 fun args w K h => ?_
  obtain ⟨x0, rfl, hh⟩ := of_on1 h
  exact fnD_list (c := bodyOf Try.f39) (by kernel_rfl) (by kernel_rfl) (Eq.mp (by kernel_rfl) hh)
def T40 : List (Nat × FnT) := []
def F40 (x0 : Value) (w : World) (K : V1) : Prop :=
bindP (pNil x0) fun v1 =>
bindP (pFieldAddr 4 v1) fun v2 =>
bindP (ld1 v2 w) fun v3 =>
K v3 w
def G40 : FnT := fun args w K => on1 (fun x0 => F40 x0 w K) args
theorem c40 {x0 : Value} {w : World} {K : V1} (h : F40 x0 w K) : callP G40 [x0] w K := callP_intro (on1_mk (p := fun x0 => F40 x0 w K) h)
theorem ok40 : OkF Try.prog 40 G40 := by
  refine okF_of (tab_ok (l := T40) trivial) mixed (n := fuel) Try.func40 Try.call40 fun args w K h => ?_
  obtain ⟨x0, rfl, hh⟩ := of_on1 h
  exact fnD_list (c := bodyOf Try.f40) (by kernel_rfl) (by kernel_rfl) (Eq.mp (by kernel_rfl) hh)
def T7 : List (Nat × FnT) := [(10, G10), (26, G26), (27, G27), (28, G28), (29, G29), (37, G37), (38, G38), (39, G39), (40, G40)]
def F7_3b (w : World) (K : V1) : Prop :=
K (.bool true) w
def F7_3 (w : World) (K : V1) : Prop := F7_3b w K
theorem ok7_3 {K : V1}
    (hn : HN (fun e w => K (e 2) w) kn) (hr : HR Try.prog [.tmp 2] K kr) (he : HE noE ke) :
    ∀ e w, F7_3 w K → denL Try.prog (tabOf T7) 166 fuel ((flat (bodyOf Try.f7)).drop 8) e w kn kr ke := by
  intro e w h
  unfold F7_3 at h
  have e1 : ∀ (_ : Unit), F7_3b w K = denL Try.prog (tabOf T7) 166 fuel ((flat (bodyOf Try.f7)).drop 8) e w (fun e w => K (e 2) w) (endD Try.prog [.tmp 2] K) noE := by intro _; kernel_rfl
  exact seg_end (Eq.mp (e1 ()) h) hn hr he
def F7_6b (s0 s3 s5 s6 s7 s8 : Value) (w : World) (_K : V1) (R3 : V6) : Prop :=
bindP (bAdd s8 (.int .i64 1)) fun v1 =>
R3 s0 s3 s5 s6 s7 v1 w
def F7_6 (s0 s3 s5 s6 s7 s8 : Value) (w : World) (K : V1) (R3 : V6) : Prop := F7_6b s0 s3 s5 s6 s7 s8 w K R3
theorem ok7_6 (R3 : V6) {K : V1}
    (hn : HN (fun e w => R3 (e 0) (e 3) (e 5) (e 6) (e 7) (e 8) w) kn) (hr : HR Try.prog [.tmp 2] K kr) (he : HE (blkK 0 (fun e w => F7_3 w K) noE) ke) :
    ∀ e w, F7_6 (e 0) (e 3) (e 5) (e 6) (e 7) (e 8) w K R3 → denL Try.prog (tabOf T7) 166 fuel ((flat (loopB (blkB (nthC (flat (bodyOf Try.f7)) 7)))).drop 3) e w kn kr ke := by
  intro e w h
  unfold F7_6 at h
  have e1 : ∀ (_ : Unit), F7_6b (e 0) (e 3) (e 5) (e 6) (e 7) (e 8) w K R3 = denL Try.prog (tabOf T7) 166 fuel ((flat (loopB (blkB (nthC (flat (bodyOf Try.f7)) 7)))).drop 3) e w (fun e w => R3 (e 0) (e 3) (e 5) (e 6) (e 7) (e 8) w) (endD Try.prog [.tmp 2] K) (blkK 0 (fun e w => F7_3 w K) noE) := by intro _; kernel_rfl
  exact seg_end (Eq.mp (e1 ()) h) hn hr he
def F7_9b (s0 s3 s5 s6 s7 s8 s15 s137 s138 s139 : Value) (w : World) (K : V1) (R3 : V6) (Y0 : V10) (Y1 : V6) : Prop :=
bindP (bLt s139 s138) fun v2 =>
ifB v2 (
bindP (pIndexL 13 s137 s139) fun v3 =>
bindP (ldN 13 v3 w) fun v4 =>
eAlloc Try.prog 63 w fun v6 w5 =>
bindW (st 13 v6 v4 w5) fun w7 =>
bindP (pFieldAddr 0 v6) fun v9 =>
bindP (ld1 v9 w7.drew) fun v10 =>
bindP (fLook Try.prog 74 s5 v10 false w7.drew) fun v11 =>
bindP (ldN 13 v6 w7.drew) fun v12 =>
bindP (bNe Try.prog 63 (.tmp 147) (.tmp 148) v11 v12) fun v13 =>
stepM (gd false v13) s139 fun v14 =>
Sx.stepG (gd false v13) (bGt v14 (.int .i64 0)) fun v15 =>
stepM (gd false v13) v15 fun v16 =>
stepM (gd true v16) s15 fun v17 =>
stepM (gd true v16) s139 fun v18 =>
Sx.stepG (gd true v16) (bSub v18 (.int .i64 1)) fun v19 =>
Sx.stepG (gd true v16) (pIndexL 13 v17 v19) fun v20 =>
Sx.stepG (gd true v16) (pFieldAddr 0 v20) fun v21 =>
Sx.stepG (gd true v16) (ld1 v21 w7.drew) fun v22 =>
Sx.stepG (gd true v16) (pFieldAddr 0 v6) fun v23 =>
Sx.stepG (gd true v16) (ld1 v23 w7.drew) fun v24 =>
Sx.stepG (gd true v16) (bGe v22 v24) fun v25 =>
Sx.stepG (gd false v13) (pPick v16 v25 (.bool false)) fun v26 =>
bindP (pPick v13 (.bool true) v26) fun v27 =>
ifB v27 (
K (.bool false) w7.drew) (
bindP (bAdd s139 (.int .i64 1)) fun v28 =>
Y0 s0 s3 s5 s6 s7 s8 s15 s137 s138 v28 w7.drew)) (
Y1 s0 s3 s5 s6 s7 s8 w)
def F7_9L : Nat → Value → Value → Value → Value → Value → Value → Value → Value → Value → Value → World → (V1) → (V6) → Prop
  | 0, _, _, _, _, _, _, _, _, _, _, _, _, _ => False
  | n + 1, s0, s3, s5, s6, s7, s8, s15, s137, s138, s139, w, K, R3 => F7_9b s0 s3 s5 s6 s7 s8 s15 s137 s138 s139 w K R3 (fun a0 a3 a5 a6 a7 a8 a15 a137 a138 a139 w => F7_9L n a0 a3 a5 a6 a7 a8 a15 a137 a138 a139 w K R3) (fun a0 a3 a5 a6 a7 a8 w => F7_6 a0 a3 a5 a6 a7 a8 w K R3)
def F7_9 (s0 s3 s5 s6 s7 s8 s15 s137 s138 s139 : Value) (w : World) (K : V1) (R3 : V6) : Prop := F7_9L fuel s0 s3 s5 s6 s7 s8 s15 s137 s138 s139 w K R3
theorem ok7_9 (R3 : V6) {K : V1}
    (hn : HN (fun e w => F7_6 (e 0) (e 3) (e 5) (e 6) (e 7) (e 8) w K R3) kn) (hr : HR Try.prog [.tmp 2] K kr) (he : HE (blkK 1 (fun e w => F7_6 (e 0) (e 3) (e 5) (e 6) (e 7) (e 8) w K R3) (blkK 0 (fun e w => F7_3 w K) noE)) ke) :
    ∀ e w, F7_9 (e 0) (e 3) (e 5) (e 6) (e 7) (e 8) (e 15) (e 137) (e 138) (e 139) w K R3 → denL Try.prog (tabOf T7) 166 fuel ((flat (blkB (nthC (flat (loopB (blkB (nthC (flat (bodyOf Try.f7)) 7)))) 2))).drop 6) e w kn kr ke := by
  intro e w h
  unfold F7_9 at h
  refine seg_loop (id := 2) (body := (loopB (blkB (nthC (flat (blkB (nthC (flat (loopB (blkB (nthC (flat (bodyOf Try.f7)) 7)))) 2))) 6)))) (l2 := (flat (blkB (nthC (flat (loopB (blkB (nthC (flat (bodyOf Try.f7)) 7)))) 2))).drop 7) (by kernel_rfl) ?_
  refine loop_ok (FL := fun m e w => F7_9L m (e 0) (e 3) (e 5) (e 6) (e 7) (e 8) (e 15) (e 137) (e 138) (e 139) w K R3) (fr := endD Try.prog [.tmp 2] K) (fe := (blkK 2 (fun e w => F7_6 (e 0) (e 3) (e 5) (e 6) (e 7) (e 8) w K R3) (blkK 1 (fun e w => F7_6 (e 0) (e 3) (e 5) (e 6) (e 7) (e 8) w K R3) (blkK 0 (fun e w => F7_3 w K) noE)))) (fun _ _ h => h) ?_ hr (blkK_mono hn he) fuel e w h
  intro m e w h
  have h : F7_9L (m + 1) (e 0) (e 3) (e 5) (e 6) (e 7) (e 8) (e 15) (e 137) (e 138) (e 139) w K R3 := h
  rw [F7_9L] at h
  have e1 : ∀ (Y0 : V10) (Y1 : V6), F7_9b (e 0) (e 3) (e 5) (e 6) (e 7) (e 8) (e 15) (e 137) (e 138) (e 139) w K R3 Y0 Y1 = denL Try.prog (tabOf T7) 166 fuel (flat (loopB (blkB (nthC (flat (blkB (nthC (flat (loopB (blkB (nthC (flat (bodyOf Try.f7)) 7)))) 2))) 6)))) e w (fun e w => Y0 (e 0) (e 3) (e 5) (e 6) (e 7) (e 8) (e 15) (e 137) (e 138) (e 139) w) (endD Try.prog [.tmp 2] K) (blkK 2 (fun e w => Y1 (e 0) (e 3) (e 5) (e 6) (e 7) (e 8) w) (blkK 1 (fun e w => Y1 (e 0) (e 3) (e 5) (e 6) (e 7) (e 8) w) (blkK 0 (fun e w => F7_3 w K) noE))) := by intro Y0 Y1; kernel_rfl
  exact Eq.mp (e1 (fun a0 a3 a5 a6 a7 a8 a15 a137 a138 a139 w => F7_9L m a0 a3 a5 a6 a7 a8 a15 a137 a138 a139 w K R3) (fun a0 a3 a5 a6 a7 a8 w => F7_6 a0 a3 a5 a6 a7 a8 w K R3)) h
def F7_8b (s0 s3 s5 s6 s7 s8 : Value) (w : World) (K : V1) (R3 : V6) (Y0 : V10) : Prop :=
callP G38 [s3] w fun v30 w29 =>
bindP (lenL v30) fun v31 =>
bindP (lenM s5 w29) fun v32 =>
bindP (bNe Try.prog 3 (.tmp 121) (.tmp 123) v31 v32) fun v33 =>
stepM (gd false v33) s3 fun v34 =>
stepE (gd false v33) (fun k => callP G39 [v34] w29 k) w29 fun v36 w35 =>
stepM (gd false v33) s6 fun v37 =>
Sx.stepG (gd false v33) (bNe Try.prog 3 (.tmp 127) (.tmp 128) v36 v37) fun v38 =>
bindP (pPick v33 (.bool true) v38) fun v39 =>
stepM (gd false v39) s3 fun v40 =>
stepE (gd false v39) (fun k => callP G40 [v40] w35 k) w35 fun v42 w41 =>
stepM (gd false v39) s7 fun v43 =>
Sx.stepG (gd false v39) (bNe Try.prog 3 (.tmp 133) (.tmp 134) v42 v43) fun v44 =>
bindP (pPick v39 (.bool true) v44) fun v45 =>
ifB v45 (
K (.bool false) w41) (
bindP (lenL v30) fun v46 =>
Y0 s0 s3 s5 s6 s7 s8 v30 v30 v46 (.int .i64 0) w41)
def F7_8 (s0 s3 s5 s6 s7 s8 : Value) (w : World) (K : V1) (R3 : V6) : Prop := F7_8b s0 s3 s5 s6 s7 s8 w K R3 (fun a0 a3 a5 a6 a7 a8 a15 a137 a138 a139 w => F7_9 a0 a3 a5 a6 a7 a8 a15 a137 a138 a139 w K R3)
theorem ok7_8 (R3 : V6) {K : V1}
    (hn : HN (fun e w => F7_6 (e 0) (e 3) (e 5) (e 6) (e 7) (e 8) w K R3) kn) (hr : HR Try.prog [.tmp 2] K kr) (he : HE (blkK 1 (fun e w => F7_6 (e 0) (e 3) (e 5) (e 6) (e 7) (e 8) w K R3) (blkK 0 (fun e w => F7_3 w K) noE)) ke) :
    ∀ e w, F7_8 (e 0) (e 3) (e 5) (e 6) (e 7) (e 8) w K R3 → denL Try.prog (tabOf T7) 166 fuel ((flat (blkB (nthC (flat (loopB (blkB (nthC (flat (bodyOf Try.f7)) 7)))) 2))).drop 2) e w kn kr ke := by
  intro e w h
  unfold F7_8 at h
  have e1 : ∀ (Y0 : V10), F7_8b (e 0) (e 3) (e 5) (e 6) (e 7) (e 8) w K R3 Y0 = denL Try.prog (tabOf T7) 166 fuel (((flat (blkB (nthC (flat (loopB (blkB (nthC (flat (bodyOf Try.f7)) 7)))) 2))).drop 2).take 4) e w (fun e w => Y0 (e 0) (e 3) (e 5) (e 6) (e 7) (e 8) (e 15) (e 137) (e 138) (e 139) w) (endD Try.prog [.tmp 2] K) (blkK 1 (fun e w => F7_6 (e 0) (e 3) (e 5) (e 6) (e 7) (e 8) w K R3) (blkK 0 (fun e w => F7_3 w K) noE)) := by intro Y0; kernel_rfl
  exact seg 4 (Eq.mp (e1 (fun a0 a3 a5 a6 a7 a8 a15 a137 a138 a139 w => F7_9 a0 a3 a5 a6 a7 a8 a15 a137 a138 a139 w K R3)) h) (fun e w h => ok7_9 R3 hn hr he e w h) hr he
def F7_7b (s0 s3 s5 s6 s7 s8 : Value) (w : World) (K : V1) (R3 : V6) (Y0 : V6) : Prop :=
bindP (pIndexL 1 s0 s8) fun v47 =>
bindP (ld1 v47 w) fun v48 =>
bindP (bRem v48 (.int .i64 3)) fun v49 =>
bindP (bEq Try.prog 3 (.tmp 47) (.const (.int .i64 0)) v49 (.int .i64 0)) fun v50 =>
ifB v50 (
bindP (pIndexL 1 s0 s8) fun v51 =>
bindP (ld1 v51 w) fun v52 =>
bindP (bQuo v52 (.int .i64 3)) fun v53 =>
bindP (bAdd s6 (.int .i64 2)) fun v54 =>
callP G10 [v53, v54] w fun v56 w55 =>
bindP (fLook Try.prog 74 s5 v56 true w55) fun v57 =>
bindP (pTuple v57 0) fun v58 =>
bindP (pTuple v57 1) fun v59 =>
eAlloc Try.prog 63 w55 fun v61 w60 =>
bindW (st 13 v61 v58 w60) fun w62 =>
callP G37 [s3, v56] w62 fun v65 w64 =>
bindP (bEq Try.prog 24 (.tmp 65) (.const (.int .i64 0)) v65 (.int .i64 0)) fun v66 =>
bindP (bNe Try.prog 4 (.tmp 66) (.tmp 67) v66 v59) fun v67 =>
ifB v67 (
K (.bool false) w64) (
eDelete Try.prog 74 s5 v56 w64 fun _ w68 =>
Y0 s0 s3 s5 s6 s7 s8 w68)) (
bindP (pIndexL 1 s0 s8) fun v70 =>
bindP (ld1 v70 w) fun v71 =>
callP G10 [v71, (.int .i64 5)] w fun v73 w72 =>
bindP (bAdd (.int .i64 1) v73) fun v74 =>
bindP (pIndexL 1 s0 s8) fun v75 =>
bindP (ld1 v75 w72) fun v76 =>
callP G29 [v76] w72 fun v78 w77 =>
callP G28 [s3, v74, v78] w77 fun v80 w79 =>
bindP (pTuple v80 0) fun v81 =>
bindP (pTuple v80 1) fun v82 =>
bindP (lenM s5 w79) fun v83 =>
bindP (bEq Try.prog 3 (.tmp 89) (.const (.int .i64 6)) v83 (.int .i64 6)) fun v84 =>
ifB v84 (
bindP (bAdd s7 (.int .i64 1)) fun v85 =>
bindP (bNe Try.prog 3 (.tmp 93) (.const (.int .i64 0)) v81 (.int .i64 0)) fun v86 =>
stepM (gd false v86) v82 fun v87 =>
Sx.stepG (gd false v86) (bNe Try.prog 24 (.tmp 96) (.const (.int .i64 200)) v87 (.int .i64 200)) fun v88 =>
bindP (pPick v86 (.bool true) v88) fun v89 =>
ifB v89 (
K (.bool false) w79) (
Y0 s0 s3 s5 s6 v85 s8 w79)) (
bindP (bAdd s6 (.int .i64 1)) fun v90 =>
bindP (pIndexL 1 s0 s8) fun v91 =>
bindP (ld1 v91 w79) fun v92 =>
callP G29 [v92] w79 fun v94 w93 =>
bindP (fBuild Try.prog 63 [(0, v90), (1, v74), (2, v94)]) fun v95 =>
eMapSet Try.prog 74 s5 v90 v95 w93 fun _ w96 =>
bindP (bNe Try.prog 3 (.tmp 111) (.tmp 112) v81 v90) fun v98 =>
stepM (gd false v98) v82 fun v99 =>
Sx.stepG (gd false v98) (bNe Try.prog 24 (.tmp 115) (.const (.int .i64 0)) v99 (.int .i64 0)) fun v100 =>
bindP (pPick v98 (.bool true) v100) fun v101 =>
ifB v101 (
K (.bool false) w96) (
Y0 s0 s3 s5 v90 s7 s8 w96)))
def F7_7 (s0 s3 s5 s6 s7 s8 : Value) (w : World) (K : V1) (R3 : V6) : Prop := F7_7b s0 s3 s5 s6 s7 s8 w K R3 (fun a0 a3 a5 a6 a7 a8 w => F7_8 a0 a3 a5 a6 a7 a8 w K R3)
theorem ok7_7 (R3 : V6) {K : V1}
    (hn : HN (fun e w => F7_6 (e 0) (e 3) (e 5) (e 6) (e 7) (e 8) w K R3) kn) (hr : HR Try.prog [.tmp 2] K kr) (he : HE (blkK 1 (fun e w => F7_6 (e 0) (e 3) (e 5) (e 6) (e 7) (e 8) w K R3) (blkK 0 (fun e w => F7_3 w K) noE)) ke) :
    ∀ e w, F7_7 (e 0) (e 3) (e 5) (e 6) (e 7) (e 8) w K R3 → denL Try.prog (tabOf T7) 166 fuel ((flat (blkB (nthC (flat (loopB (blkB (nthC (flat (bodyOf Try.f7)) 7)))) 2))).drop 0) e w kn kr ke := by
  intro e w h
  unfold F7_7 at h
  have e1 : ∀ (Y0 : V6), F7_7b (e 0) (e 3) (e 5) (e 6) (e 7) (e 8) w K R3 Y0 = denL Try.prog (tabOf T7) 166 fuel (((flat (blkB (nthC (flat (loopB (blkB (nthC (flat (bodyOf Try.f7)) 7)))) 2))).drop 0).take 2) e w (fun e w => Y0 (e 0) (e 3) (e 5) (e 6) (e 7) (e 8) w) (endD Try.prog [.tmp 2] K) (blkK 1 (fun e w => F7_6 (e 0) (e 3) (e 5) (e 6) (e 7) (e 8) w K R3) (blkK 0 (fun e w => F7_3 w K) noE)) := by intro Y0; kernel_rfl
  exact seg 2 (Eq.mp (e1 (fun a0 a3 a5 a6 a7 a8 w => F7_8 a0 a3 a5 a6 a7 a8 w K R3)) h) (fun e w h => ok7_8 R3 hn hr he e w h) hr he
def F7_5 (s0 s3 s5 s6 s7 s8 : Value) (w : World) (K : V1) (R3 : V6) : Prop := F7_7 s0 s3 s5 s6 s7 s8 w K R3
theorem ok7_5 (R3 : V6) {K : V1}
    (hn : HN (fun e w => R3 (e 0) (e 3) (e 5) (e 6) (e 7) (e 8) w) kn) (hr : HR Try.prog [.tmp 2] K kr) (he : HE (blkK 0 (fun e w => F7_3 w K) noE) ke) :
    ∀ e w, F7_5 (e 0) (e 3) (e 5) (e 6) (e 7) (e 8) w K R3 → denL Try.prog (tabOf T7) 166 fuel ((flat (loopB (blkB (nthC (flat (bodyOf Try.f7)) 7)))).drop 2) e w kn kr ke := by
  intro e w h
  unfold F7_5 at h
  refine seg_block (id := 1) (body := (blkB (nthC (flat (loopB (blkB (nthC (flat (bodyOf Try.f7)) 7)))) 2))) (l2 := (flat (loopB (blkB (nthC (flat (bodyOf Try.f7)) 7)))).drop 3) (by kernel_rfl) ?_
  exact ok7_7 R3 (fun e w h => ok7_6 R3 hn hr he e w h) hr (blkK_mono (fun e w h => ok7_6 R3 hn hr he e w h) he) e w h
def F7_4b (s0 s3 s5 s6 s7 s8 : Value) (w : World) (_K : V1) (R3 : V6) (Y0 : V6) (Y1 : V0) : Prop :=
bindP (lenL s0) fun v102 =>
bindP (bLt s8 v102) fun v103 =>
stepM (gd true v103) s8 fun v104 =>
Sx.stepG (gd true v103) (bLt v104 (.int .i64 100)) fun v105 =>
bindP (pPick v103 v105 (.bool false)) fun v106 =>
ifB v106 (
Y0 s0 s3 s5 s6 s7 s8 w) (
Y1 w)
def F7_4 (s0 s3 s5 s6 s7 s8 : Value) (w : World) (K : V1) (R3 : V6) : Prop := F7_4b s0 s3 s5 s6 s7 s8 w K R3 (fun a0 a3 a5 a6 a7 a8 w => F7_5 a0 a3 a5 a6 a7 a8 w K R3) (fun w => F7_3 w K)
theorem ok7_4 (R3 : V6) {K : V1}
    (hn : HN (fun e w => R3 (e 0) (e 3) (e 5) (e 6) (e 7) (e 8) w) kn) (hr : HR Try.prog [.tmp 2] K kr) (he : HE (blkK 0 (fun e w => F7_3 w K) noE) ke) :
    ∀ e w, F7_4 (e 0) (e 3) (e 5) (e 6) (e 7) (e 8) w K R3 → denL Try.prog (tabOf T7) 166 fuel ((flat (loopB (blkB (nthC (flat (bodyOf Try.f7)) 7)))).drop 0) e w kn kr ke := by
  intro e w h
  unfold F7_4 at h
  have e1 : ∀ (Y0 : V6) (Y1 : V0), F7_4b (e 0) (e 3) (e 5) (e 6) (e 7) (e 8) w K R3 Y0 Y1 = denL Try.prog (tabOf T7) 166 fuel (((flat (loopB (blkB (nthC (flat (bodyOf Try.f7)) 7)))).drop 0).take 2) e w (fun e w => Y0 (e 0) (e 3) (e 5) (e 6) (e 7) (e 8) w) (endD Try.prog [.tmp 2] K) (blkK 0 (fun e w => Y1 w) noE) := by intro Y0 Y1; kernel_rfl
  exact seg 2 (Eq.mp (e1 (fun a0 a3 a5 a6 a7 a8 w => F7_5 a0 a3 a5 a6 a7 a8 w K R3) (fun w => F7_3 w K)) h) (fun e w h => ok7_5 R3 hn hr he e w h) hr he
def F7_2L : Nat → Value → Value → Value → Value → Value → Value → World → (V1) → Prop
  | 0, _, _, _, _, _, _, _, _ => False
  | n + 1, s0, s3, s5, s6, s7, s8, w, K => F7_4 s0 s3 s5 s6 s7 s8 w K (fun a0 a3 a5 a6 a7 a8 w => F7_2L n a0 a3 a5 a6 a7 a8 w K)
def F7_2 (s0 s3 s5 s6 s7 s8 : Value) (w : World) (K : V1) : Prop := F7_2L fuel s0 s3 s5 s6 s7 s8 w K
theorem ok7_2 {K : V1}
    (hn : HN (fun e w => K (e 2) w) kn) (hr : HR Try.prog [.tmp 2] K kr) (he : HE noE ke) :
    ∀ e w, F7_2 (e 0) (e 3) (e 5) (e 6) (e 7) (e 8) w K → denL Try.prog (tabOf T7) 166 fuel ((flat (bodyOf Try.f7)).drop 7) e w kn kr ke := by
  intro e w h
  unfold F7_2 at h
  refine seg_loop (id := 0) (body := (loopB (blkB (nthC (flat (bodyOf Try.f7)) 7)))) (l2 := (flat (bodyOf Try.f7)).drop 8) (by kernel_rfl) ?_
  refine loop_ok (FL := fun m e w => F7_2L m (e 0) (e 3) (e 5) (e 6) (e 7) (e 8) w K) (fr := endD Try.prog [.tmp 2] K) (fe := (blkK 0 (fun e w => F7_3 w K) noE)) (fun _ _ h => h) ?_ hr (blkK_mono (fun e w h => ok7_3 hn hr he e w h) he) fuel e w h
  intro m e w h
  have h : F7_2L (m + 1) (e 0) (e 3) (e 5) (e 6) (e 7) (e 8) w K := h
  rw [F7_2L] at h
  exact ok7_4 (fun a0 a3 a5 a6 a7 a8 w => F7_2L m a0 a3 a5 a6 a7 a8 w K) (fun _ _ h => h) (fun _ _ h => h) (fun _ _ _ h => h) e w h
def F7_1b (s0 : Value) (w : World) (K : V1) (Y0 : V6) : Prop :=
callP G26 [(.int .i64 6), (.int .i64 1), (.int .i64 1)] w fun v108 w107 =>
bindP (pTuple v108 0) fun v109 =>
bindP (pTuple v108 1) fun v110 =>
bindP (bEq Try.prog 48 (.tmp 22) (.const (.pointer none)) v109 (.pointer none)) fun v111 =>
stepM (gd false v111) v110 fun v112 =>
Sx.stepG (gd false v111) (bNe Try.prog 24 (.tmp 25) (.const (.int .i64 0)) v112 (.int .i64 0)) fun v113 =>
bindP (pPick v111 (.bool true) v113) fun v114 =>
stepE (gd false v114) (fun k => callP G27 [] w107 k) w107 fun v116 w115 =>
Sx.stepG (gd false v114) (uNot v116) fun v117 =>
bindP (pPick v114 (.bool true) v117) fun v118 =>
ifB v118 (
K (.bool false) w115) (
eMakeMap none w115 fun v120 w119 =>
Y0 s0 v109 v120 (.int .i64 0) (.int .i64 0) (.int .i64 0) w119)
def F7_1 (s0 : Value) (w : World) (K : V1) : Prop := F7_1b s0 w K (fun a0 a3 a5 a6 a7 a8 w => F7_2 a0 a3 a5 a6 a7 a8 w K)
theorem ok7_1 {K : V1}
    (hn : HN (fun e w => K (e 2) w) kn) (hr : HR Try.prog [.tmp 2] K kr) (he : HE noE ke) :
    ∀ e w, F7_1 (e 0) w K → denL Try.prog (tabOf T7) 166 fuel ((flat (bodyOf Try.f7)).drop 0) e w kn kr ke := by
  intro e w h
  unfold F7_1 at h
  have e1 : ∀ (Y0 : V6), F7_1b (e 0) w K Y0 = denL Try.prog (tabOf T7) 166 fuel (((flat (bodyOf Try.f7)).drop 0).take 7) e w (fun e w => Y0 (e 0) (e 3) (e 5) (e 6) (e 7) (e 8) w) (endD Try.prog [.tmp 2] K) noE := by intro Y0; kernel_rfl
  exact seg 7 (Eq.mp (e1 (fun a0 a3 a5 a6 a7 a8 w => F7_2 a0 a3 a5 a6 a7 a8 w K)) h) (fun e w h => ok7_2 hn hr he e w h) hr he
def F7 (x0 : Value) (w : World) (K : V1) : Prop := F7_1 x0 w K
def G7 : FnT := fun args w K => on1 (fun x0 => F7 x0 w K) args
theorem c7 {x0 : Value} {w : World} {K : V1} (h : F7 x0 w K) : callP G7 [x0] w K := callP_intro (on1_mk (p := fun x0 => F7 x0 w K) h)
theorem ok7 : OkF Try.prog 7 G7 := by
  refine okF_of (tab_ok (l := T7) ⟨ok10, ok26, ok27, ok28, ok29, ok37, ok38, ok39, ok40, trivial⟩) mixed (n := fuel) Try.func7 Try.call7 fun args w K h => ?_
  obtain ⟨x0, rfl, hh⟩ := of_on1 h
  unfold F7 at hh
  exact fnD_list (c := bodyOf Try.f7) (by kernel_rfl) (by kernel_rfl) (ok7_1 (fun _ _ h => h) (fun _ _ h => h) (fun _ _ _ h => h) (initE [x0]) w hh)
end Go.Proofs.Gong

/- Ob2 -/
namespace Go.Proofs.Gong
open Go Go.Sx Go.Proofs
set_option maxRecDepth 100000
abbrev kO (n : Int) : Value := .int .i64 n
theorem KIO : KeyT Try.prog 3 kO := KeyT.int (by kernel_rfl)
@[reducible] def cLt (y : Tk × Int × Int) : List Value := [.int .i64 y.1.seq, .int .i64 y.1.what, .int .i64 y.1.r.id, .string (bs y.1.r.e.node), .string (bs y.1.r.e.cls), .string (bs y.1.r.e.key), .int .i64 y.1.r.e.level, .string (bs y.1.r.e.text), .int .i64 y.1.r.tally, .int .i64 y.1.r.first, .int .i64 y.1.r.last, .bool y.1.r.acked, .string (bs y.1.r.who), .int .i64 y.2.1, .int .i64 y.2.2]
abbrev ltV (y : Tk × Int × Int) : Value := .agg (cLt y).toArray
abbrev zeroTk : Tk := ⟨0, 0, ⟨0, ⟨[], [], [], 0, []⟩, 0, 0, 0, false, []⟩⟩
abbrev zeroLt : Tk × Int × Int := (zeroTk, 0, 0)
theorem zLt : fZero Try.prog 98 = some (ltV zeroLt) := z98
def lVal (base top : Int) (x : Ltr) : Tk × Int × Int := (x.t, pauseN base top x.sent, x.at_)
abbrev LMap := List (Int × (Tk × Int × Int))
abbrev OCl (p : Nat) (o : Ob) (m : Value) : HP := Cl p #[.int .i64 o.most, .int .i64 o.base, .int .i64 o.top, .int .i64 o.last, .int .i64 o.refused, .int .i64 o.mark, m] 93
def OutA (v : Value) (o : Ob) : HP := HEx fun M => HEx fun p => HEx fun m => HPr (v = ptr p ∧ KInv ltI lKey (lVal o.base o.top) M o.ls ∧ OOk o) (HSt (OCl p o m) (MapH kO ltV m M))
theorem fbTk (n what : Int) (r : Row) : fBuild Try.prog 63 [(0, .int .i64 n), (1, .int .i64 what), (2, .agg (cRow r).toArray)] = some (tkV ⟨n, what, r⟩) := by kernel_rfl
theorem fbLt (t : Tk) (b : Int) : fBuild Try.prog 98 [(0, .agg (cTk t).toArray), (1, .int .i64 b)] = some (ltV (t, b, 0)) := by kernel_rfl
attribute [local irreducible] fBuild fLook fZero eqv bEqv Cl MapH LsH SlH ld1 ldN st callP eBox eAlloc lenM lenL eMapSet eDelete eAppend eBuildSl eRange eNext
section
variable {w0 w : World} {L : List HP} {K : Value → World → Prop} {v : Value} {o : Ob} {n : Int} {M : LMap}
theorem outA_iff : Sat w0 (OutA v o :: L) w ↔ ∃ M p m, (v = ptr p ∧ KInv ltI lKey (lVal o.base o.top) M o.ls ∧ OOk o) ∧ Sat w0 (OCl p o m :: MapH kO ltV m M :: L) w := by
  simp only [OutA, Sat.ex_iff, Sat.pr_iff, Sat.star_iff]
theorem outA_open (h : Sat w0 (OutA v o :: L) w) : ∃ p m M, v = ptr p ∧ KInv ltI lKey (lVal o.base o.top) M o.ls ∧ OOk o ∧ Sat w0 (OCl p o m :: MapH kO ltV m M :: L) w := by
  obtain ⟨M, p, m, ⟨h1, h2, h3⟩, h⟩ := outA_iff.1 h
  exact ⟨p, m, M, h1, h2, h3, h⟩
theorem outA_close {p : Nat} {m : Value} (H : KInv ltI lKey (lVal o.base o.top) M o.ls) (ok : OOk o) (h : Sat w0 (OCl p o m :: MapH kO ltV m M :: L) w) : Sat w0 (OutA (ptr p) o :: L) w :=
  outA_iff.2 ⟨M, p, m, ⟨rfl, H, ok⟩, h⟩
theorem outA_ok (h : Sat w0 (OutA v o :: L) w) : OOk o := by
  obtain ⟨_, _, _, _, _, h, _⟩ := outA_open h
  exact h
theorem onew_spec {m b t : Int} (h1 : 1 ≤ m ∧ m ≤ 65536) (h2 : 1 ≤ b ∧ b ≤ t ∧ t ≤ 144115188075855872) (h : Sat w0 L w) (hK : ∀ p w', Sat w0 (OutA (ptr p) (newO m b t) :: L) w' → K (.tuple #[ptr p, .int .i64 0]) w') : callP G26 [.int .i64 m, .int .i64 b, .int .i64 t] w K := by
  refine c26 ?_
  unfold F26
  have g1 : decide (m < 1) = false := by simp; omega
  have g2 : decide (m > 65536) = false := by simp; omega
  have g3 : decide (b < 1) = false := by simp; omega
  have g4 : decide (b > t) = false := by simp; omega
  have g5 : decide (t > 144115188075855872) = false := by simp; omega
  (repeat (first
 | (simp (disch := omega) only [evA, evB, evC, bAdd_i64, bSub_i64, g1, g2, g3, g4, g5])
 | (with_reducible apply go_ld1 h)
 | ((with_reducible first | apply go_ldA h | apply go_rd h | apply go_rdN h | apply go_rlen h); rfl)
 | (with_reducible first | apply go_ldN h | apply go_lenL h)
 | ((with_reducible apply go_st h); intro _ h)
 | ((with_reducible apply go_stA h); rfl; rfl; (first | rfl | simp [OneV.o]); intro _ h)
 | ((with_reducible apply go_stN h); rfl; (first | rfl | simp [OneV.o]); intro _ h)
 | ((with_reducible apply go_box h); rfl; intro _ _ h)
 | ((with_reducible apply go_ix h); omega)
 | ((with_reducible first | apply go_elN h | apply go_f1 h | apply go_rf1 h | apply go_rel h); (case hi => omega); (try case hx => exact inferInstance); (try case hv => rfl))
 | ((with_reducible apply go_fa h); omega; omega)
))
  refine eMakeMap_sat kO ltV h fun mv w h => ?_
  obtain ⟨r1, _, _, ⟨rfl, _⟩, _⟩ := map_iff.1 h
  have eb : fBuild Try.prog 93 [(0, .int .i64 m), (1, .int .i64 b), (2, .int .i64 t), (6, .map (some r1))] = some (.agg #[.int .i64 m, .int .i64 b, .int .i64 t, .int .i64 0, .int .i64 0, .int .i64 0, .map (some r1)]) := by kernel_rfl
  (repeat (first
 | (simp (disch := omega) only [evA, evB, evC, bAdd_i64, bSub_i64])
 | (refine go_some (eb ..) ?_)
 | (with_reducible apply go_ld1 h)
 | ((with_reducible first | apply go_ldA h | apply go_rd h | apply go_rdN h | apply go_rlen h); rfl)
 | (with_reducible first | apply go_ldN h | apply go_lenL h)
 | ((with_reducible apply go_st h); intro _ h)
 | ((with_reducible apply go_stA h); rfl; rfl; (first | rfl | simp [OneV.o]); intro _ h)
 | ((with_reducible apply go_stN h); rfl; (first | rfl | simp [OneV.o]); intro _ h)
 | ((with_reducible apply go_box h); rfl; intro _ _ h)
 | ((with_reducible apply go_ix h); omega)
 | ((with_reducible first | apply go_elN h | apply go_f1 h | apply go_rf1 h | apply go_rel h); (case hi => omega); (try case hx => exact inferInstance); (try case hv => rfl))
 | ((with_reducible apply go_fa h); omega; omega)
))
  exact hK _ _ (outA_close (o := newO m b t) .nil (newO_ok h1 h2) h)
theorem olast_spec (h : Sat w0 (OutA v o :: L) w) (hK : K (.int .i64 o.last) w) : callP G39 [v] w K := by
  obtain ⟨p, m, M, rfl, H, ok, h⟩ := outA_open h
  refine c39 ?_
  unfold F39
  (repeat (first
 | (simp (disch := omega) only [evA, evB, evC, bAdd_i64, bSub_i64])
 | (with_reducible apply go_ld1 h)
 | ((with_reducible first | apply go_ldA h | apply go_rd h | apply go_rdN h | apply go_rlen h); rfl)
 | (with_reducible first | apply go_ldN h | apply go_lenL h)
 | ((with_reducible apply go_st h); intro _ h)
 | ((with_reducible apply go_stA h); rfl; rfl; (first | rfl | simp [OneV.o]); intro _ h)
 | ((with_reducible apply go_stN h); rfl; (first | rfl | simp [OneV.o]); intro _ h)
 | ((with_reducible apply go_box h); rfl; intro _ _ h)
 | ((with_reducible apply go_ix h); omega)
 | ((with_reducible first | apply go_elN h | apply go_f1 h | apply go_rf1 h | apply go_rel h); (case hi => omega); (try case hx => exact inferInstance); (try case hv => rfl))
 | ((with_reducible apply go_fa h); omega; omega)
))
  exact hK
theorem orefused_spec (h : Sat w0 (OutA v o :: L) w) (hK : K (.int .i64 o.refused) w) : callP G40 [v] w K := by
  obtain ⟨p, m, M, rfl, H, ok, h⟩ := outA_open h
  refine c40 ?_
  unfold F40
  (repeat (first
 | (simp (disch := omega) only [evA, evB, evC, bAdd_i64, bSub_i64])
 | (with_reducible apply go_ld1 h)
 | ((with_reducible first | apply go_ldA h | apply go_rd h | apply go_rdN h | apply go_rlen h); rfl)
 | (with_reducible first | apply go_ldN h | apply go_lenL h)
 | ((with_reducible apply go_st h); intro _ h)
 | ((with_reducible apply go_stA h); rfl; rfl; (first | rfl | simp [OneV.o]); intro _ h)
 | ((with_reducible apply go_stN h); rfl; (first | rfl | simp [OneV.o]); intro _ h)
 | ((with_reducible apply go_box h); rfl; intro _ _ h)
 | ((with_reducible apply go_ix h); omega)
 | ((with_reducible first | apply go_elN h | apply go_f1 h | apply go_rf1 h | apply go_rel h); (case hi => omega); (try case hx => exact inferInstance); (try case hv => rfl))
 | ((with_reducible apply go_fa h); omega; omega)
))
  exact hK
theorem omark_spec (h : Sat w0 (OutA v o :: L) w) (hK : ∀ w', Sat w0 (OutA v (markO n o).2 :: L) w' → K (.int .i64 (markO n o).1) w') : callP G30 [v, .int .i64 n] w K := by
  have oka := markO_ok (outA_ok h) (n := n)
  unfold markO at oka hK
  obtain ⟨p, m, M, rfl, H, ok, h2⟩ := outA_open h
  refine c30 ?_
  unfold F30
  have h0 := h
  clear h
  have h := h2
  clear h2
  by_cases g1 : n < o.mark
  · have g1' : decide (n < o.mark) = true := by simpa using g1
    rw [if_pos (.inl g1)] at hK
    (repeat (first
 | (simp (disch := omega) only [evA, evB, evC, bAdd_i64, bSub_i64, g1'])
 | (with_reducible apply go_ld1 h)
 | ((with_reducible first | apply go_ldA h | apply go_rd h | apply go_rdN h | apply go_rlen h); rfl)
 | (with_reducible first | apply go_ldN h | apply go_lenL h)
 | ((with_reducible apply go_st h); intro _ h)
 | ((with_reducible apply go_stA h); rfl; rfl; (first | rfl | simp [OneV.o]); intro _ h)
 | ((with_reducible apply go_stN h); rfl; (first | rfl | simp [OneV.o]); intro _ h)
 | ((with_reducible apply go_box h); rfl; intro _ _ h)
 | ((with_reducible apply go_ix h); omega)
 | ((with_reducible first | apply go_elN h | apply go_f1 h | apply go_rf1 h | apply go_rel h); (case hi => omega); (try case hx => exact inferInstance); (try case hv => rfl))
 | ((with_reducible apply go_fa h); omega; omega)
))
    exact hK _ h0
  have g1' : decide (n < o.mark) = false := by simpa using g1
  by_cases g2 : o.last < n
  · have g2' : decide (n > o.last) = true := by simpa using g2
    rw [if_pos (.inr g2)] at hK
    (repeat (first
 | (simp (disch := omega) only [evA, evB, evC, bAdd_i64, bSub_i64, g1', g2'])
 | (with_reducible apply go_ld1 h)
 | ((with_reducible first | apply go_ldA h | apply go_rd h | apply go_rdN h | apply go_rlen h); rfl)
 | (with_reducible first | apply go_ldN h | apply go_lenL h)
 | ((with_reducible apply go_st h); intro _ h)
 | ((with_reducible apply go_stA h); rfl; rfl; (first | rfl | simp [OneV.o]); intro _ h)
 | ((with_reducible apply go_stN h); rfl; (first | rfl | simp [OneV.o]); intro _ h)
 | ((with_reducible apply go_box h); rfl; intro _ _ h)
 | ((with_reducible apply go_ix h); omega)
 | ((with_reducible first | apply go_elN h | apply go_f1 h | apply go_rf1 h | apply go_rel h); (case hi => omega); (try case hx => exact inferInstance); (try case hv => rfl))
 | ((with_reducible apply go_fa h); omega; omega)
))
    exact hK _ h0
  have g2' : decide (n > o.last) = false := by simpa using g2
  rw [if_neg (by omega)] at hK oka
  (repeat (first
 | (simp (disch := omega) only [evA, evB, evC, bAdd_i64, bSub_i64, g1', g2'])
 | (with_reducible apply go_ld1 h)
 | ((with_reducible first | apply go_ldA h | apply go_rd h | apply go_rdN h | apply go_rlen h); rfl)
 | (with_reducible first | apply go_ldN h | apply go_lenL h)
 | ((with_reducible apply go_st h); intro _ h)
 | ((with_reducible apply go_stA h); rfl; rfl; (first | rfl | simp [OneV.o]); intro _ h)
 | ((with_reducible apply go_stN h); rfl; (first | rfl | simp [OneV.o]); intro _ h)
 | ((with_reducible apply go_box h); rfl; intro _ _ h)
 | ((with_reducible apply go_ix h); omega)
 | ((with_reducible first | apply go_elN h | apply go_f1 h | apply go_rf1 h | apply go_rel h); (case hi => omega); (try case hx => exact inferInstance); (try case hv => rfl))
 | ((with_reducible apply go_fa h); omega; omega)
))
  exact hK _ (outA_close (o := { o with mark := n }) H oka (h.got))
theorem oack_spec (h : Sat w0 (OutA v o :: L) w) (hK : ∀ w', Sat w0 (OutA v (ackO n o).2 :: L) w' → K (.int .i64 (ackO n o).1) w') : callP G37 [v, .int .i64 n] w K := by
  have oka := ackO_ok (outA_ok h) (n := n)
  unfold ackO at oka hK
  obtain ⟨p, m, M, rfl, H, ok, h2⟩ := outA_open h
  refine c37 ?_
  unfold F37
  clear h
  have h := h2
  clear h2
  have := map_one (h.frt (A := MapH kO ltV m M))
  (repeat (first
 | (simp (disch := omega) only [evA, evB, evC, bAdd_i64, bSub_i64])
 | (with_reducible apply go_ld1 h)
 | ((with_reducible first | apply go_ldA h | apply go_rd h | apply go_rdN h | apply go_rlen h); rfl)
 | (with_reducible first | apply go_ldN h | apply go_lenL h)
 | ((with_reducible apply go_st h); intro _ h)
 | ((with_reducible apply go_stA h); rfl; rfl; (first | rfl | simp [OneV.o]); intro _ h)
 | ((with_reducible apply go_stN h); rfl; (first | rfl | simp [OneV.o]); intro _ h)
 | ((with_reducible apply go_box h); rfl; intro _ _ h)
 | ((with_reducible apply go_ix h); omega)
 | ((with_reducible first | apply go_elN h | apply go_f1 h | apply go_rf1 h | apply go_rel h); (case hi => omega); (try case hx => exact inferInstance); (try case hv => rfl))
 | ((with_reducible apply go_fa h); omega; omega)
))
  refine go_look2 h (by repeat (first | exact .here | apply Fnt.there)) KIO um91 zLt n ?_
  rw [show aGet n M = _ from H.get STO.int n]
  cases hg : kGet lKey n o.ls with
  | none =>
    rw [show lGet n o.ls = none from hg] at hK oka
    rw [show Option.map (lVal o.base o.top) (none : Option Ltr) = none from rfl]
    simp only [Option.elim_none]
    (repeat (first
 | (simp (disch := omega) only [evA, evB, evC, bAdd_i64, bSub_i64])
 | (with_reducible apply go_ld1 h)
 | ((with_reducible first | apply go_ldA h | apply go_rd h | apply go_rdN h | apply go_rlen h); rfl)
 | (with_reducible first | apply go_ldN h | apply go_lenL h)
 | ((with_reducible apply go_st h); intro _ h)
 | ((with_reducible apply go_stA h); rfl; rfl; (first | rfl | simp [OneV.o]); intro _ h)
 | ((with_reducible apply go_stN h); rfl; (first | rfl | simp [OneV.o]); intro _ h)
 | ((with_reducible apply go_box h); rfl; intro _ _ h)
 | ((with_reducible apply go_ix h); omega)
 | ((with_reducible first | apply go_elN h | apply go_f1 h | apply go_rf1 h | apply go_rel h); (case hi => omega); (try case hx => exact inferInstance); (try case hv => rfl))
 | ((with_reducible apply go_fa h); omega; omega)
))
    refine go_alloc h zLt rfl fun q _ h => ?_
    rw [if_neg (by simp)] at hK oka
    (repeat (first
 | (simp (disch := omega) only [evA, evB, evC, bAdd_i64, bSub_i64])
 | (with_reducible apply go_ld1 h)
 | ((with_reducible first | apply go_ldA h | apply go_rd h | apply go_rdN h | apply go_rlen h); rfl)
 | (with_reducible first | apply go_ldN h | apply go_lenL h)
 | ((with_reducible apply go_st h); intro _ h)
 | ((with_reducible apply go_stA h); rfl; rfl; (first | rfl | simp [OneV.o]); intro _ h)
 | ((with_reducible apply go_stN h); rfl; (first | rfl | simp [OneV.o]); intro _ h)
 | ((with_reducible apply go_box h); rfl; intro _ _ h)
 | ((with_reducible apply go_ix h); omega)
 | ((with_reducible first | apply go_elN h | apply go_f1 h | apply go_rf1 h | apply go_rel h); (case hi => omega); (try case hx => exact inferInstance); (try case hv => rfl))
 | ((with_reducible apply go_fa h); omega; omega)
))
    exact hK _ (outA_close H ok (h.got))
  | some x =>
    rw [show lGet n o.ls = some x from hg] at hK oka
    rw [show Option.map (lVal o.base o.top) (some x) = some (lVal o.base o.top x) from rfl]
    simp only [Option.elim_some]
    (repeat (first
 | (simp (disch := omega) only [evA, evB, evC, bAdd_i64, bSub_i64])
 | (with_reducible apply go_ld1 h)
 | ((with_reducible first | apply go_ldA h | apply go_rd h | apply go_rdN h | apply go_rlen h); rfl)
 | (with_reducible first | apply go_ldN h | apply go_lenL h)
 | ((with_reducible apply go_st h); intro _ h)
 | ((with_reducible apply go_stA h); rfl; rfl; (first | rfl | simp [OneV.o]); intro _ h)
 | ((with_reducible apply go_stN h); rfl; (first | rfl | simp [OneV.o]); intro _ h)
 | ((with_reducible apply go_box h); rfl; intro _ _ h)
 | ((with_reducible apply go_ix h); omega)
 | ((with_reducible first | apply go_elN h | apply go_f1 h | apply go_rf1 h | apply go_rel h); (case hi => omega); (try case hx => exact inferInstance); (try case hv => rfl))
 | ((with_reducible apply go_fa h); omega; omega)
))
    refine go_alloc h zLt rfl fun q _ h => ?_
    rw [if_pos (by simp)] at hK oka
    (repeat (first
 | (simp (disch := omega) only [evA, evB, evC, bAdd_i64, bSub_i64])
 | (with_reducible apply go_ld1 h)
 | ((with_reducible first | apply go_ldA h | apply go_rd h | apply go_rdN h | apply go_rlen h); rfl)
 | (with_reducible first | apply go_ldN h | apply go_lenL h)
 | ((with_reducible apply go_st h); intro _ h)
 | ((with_reducible apply go_stA h); rfl; rfl; (first | rfl | simp [OneV.o]); intro _ h)
 | ((with_reducible apply go_stN h); rfl; (first | rfl | simp [OneV.o]); intro _ h)
 | ((with_reducible apply go_box h); rfl; intro _ _ h)
 | ((with_reducible apply go_ix h); omega)
 | ((with_reducible first | apply go_elN h | apply go_f1 h | apply go_rf1 h | apply go_rel h); (case hi => omega); (try case hx => exact inferInstance); (try case hv => rfl))
 | ((with_reducible apply go_fa h); omega; omega)
))
    refine eDelete_sat (h.frt (A := MapH kO ltV m M)) KIO um91 n fun w h => ?_
    (repeat (first
 | (simp (disch := omega) only [evA, evB, evC, bAdd_i64, bSub_i64])
 | (with_reducible apply go_ld1 h)
 | ((with_reducible first | apply go_ldA h | apply go_rd h | apply go_rdN h | apply go_rlen h); rfl)
 | (with_reducible first | apply go_ldN h | apply go_lenL h)
 | ((with_reducible apply go_st h); intro _ h)
 | ((with_reducible apply go_stA h); rfl; rfl; (first | rfl | simp [OneV.o]); intro _ h)
 | ((with_reducible apply go_stN h); rfl; (first | rfl | simp [OneV.o]); intro _ h)
 | ((with_reducible apply go_box h); rfl; intro _ _ h)
 | ((with_reducible apply go_ix h); omega)
 | ((with_reducible first | apply go_elN h | apply go_f1 h | apply go_rf1 h | apply go_rel h); (case hi => omega); (try case hx => exact inferInstance); (try case hv => rfl))
 | ((with_reducible apply go_fa h); omega; omega)
))
    exact hK _ (outA_close (o := { o with ls := lDel n o.ls }) (H.del STO.int n) oka (h.got))
theorem oput_spec {what : Int} {r : Row} (hl : o.last < 2305843009213693952) (hr : o.refused < 2305843009213693952) (he : r.e.fits) (hw : r.who.length < 1073741824) (h : Sat w0 (OutA v o :: L) w)
    (hK : ∀ w', Sat w0 (OutA v (putO what r o).2 :: L) w' → K (.tuple #[.int .i64 (putO what r o).1.1, .int .i64 (putO what r o).1.2]) w') : callP G28 [v, .int .i64 what, rowV r] w K := by
  have oka := putO_ok (outA_ok h) hl hr (what := what) (r := r)
  unfold putO at oka hK
  obtain ⟨p, m, M, rfl, H, ok, h2⟩ := outA_open h
  refine c28 ?_
  unfold F28
  clear h
  have h := h2
  clear h2
  have := map_one (h.frt (A := MapH kO ltV m M))
  have hlb := ok.last
  have hrb := ok.refused
  have hln := ok.len
  have hmb := ok.most
  by_cases g1 : what < 1
  · have g1' : decide (what < 1) = true := by simpa using g1
    rw [if_pos (by rw [g1']; rfl)] at hK
    (repeat (first
 | (simp (disch := omega) only [evA, evB, evC, bAdd_i64, bSub_i64, g1'])
 | (with_reducible apply go_ld1 h)
 | ((with_reducible first | apply go_ldA h | apply go_rd h | apply go_rdN h | apply go_rlen h); rfl)
 | (with_reducible first | apply go_ldN h | apply go_lenL h)
 | ((with_reducible apply go_st h); intro _ h)
 | ((with_reducible apply go_stA h); rfl; rfl; (first | rfl | simp [OneV.o]); intro _ h)
 | ((with_reducible apply go_stN h); rfl; (first | rfl | simp [OneV.o]); intro _ h)
 | ((with_reducible apply go_box h); rfl; intro _ _ h)
 | ((with_reducible apply go_ix h); omega)
 | ((with_reducible first | apply go_elN h | apply go_f1 h | apply go_rf1 h | apply go_rel h); (case hi => omega); (try case hx => exact inferInstance); (try case hv => rfl))
 | ((with_reducible apply go_fa h); omega; omega)
))
    exact hK _ (outA_close H ok (h.got))
  have g1' : decide (what < 1) = false := by simpa using g1
  by_cases g2 : 5 < what
  · have g2' : decide (what > 5) = true := by simpa using g2
    rw [if_pos (by rw [show decide (5 < what) = true from g2']; simp)] at hK
    (repeat (first
 | (simp (disch := omega) only [evA, evB, evC, bAdd_i64, bSub_i64, g1', g2'])
 | (with_reducible apply go_ld1 h)
 | ((with_reducible first | apply go_ldA h | apply go_rd h | apply go_rdN h | apply go_rlen h); rfl)
 | (with_reducible first | apply go_ldN h | apply go_lenL h)
 | ((with_reducible apply go_st h); intro _ h)
 | ((with_reducible apply go_stA h); rfl; rfl; (first | rfl | simp [OneV.o]); intro _ h)
 | ((with_reducible apply go_stN h); rfl; (first | rfl | simp [OneV.o]); intro _ h)
 | ((with_reducible apply go_box h); rfl; intro _ _ h)
 | ((with_reducible apply go_ix h); omega)
 | ((with_reducible first | apply go_elN h | apply go_f1 h | apply go_rf1 h | apply go_rel h); (case hi => omega); (try case hx => exact inferInstance); (try case hv => rfl))
 | ((with_reducible apply go_fa h); omega; omega)
))
    exact hK _ (outA_close H ok (h.got))
  have g2' : decide (what > 5) = false := by simpa using g2
  (repeat (first
 | (simp (disch := omega) only [evA, evB, evC, bAdd_i64, bSub_i64, g1', g2'])
 | (with_reducible apply go_ld1 h)
 | ((with_reducible first | apply go_ldA h | apply go_rd h | apply go_rdN h | apply go_rlen h); rfl)
 | (with_reducible first | apply go_ldN h | apply go_lenL h)
 | ((with_reducible apply go_st h); intro _ h)
 | ((with_reducible apply go_stA h); rfl; rfl; (first | rfl | simp [OneV.o]); intro _ h)
 | ((with_reducible apply go_stN h); rfl; (first | rfl | simp [OneV.o]); intro _ h)
 | ((with_reducible apply go_box h); rfl; intro _ _ h)
 | ((with_reducible apply go_ix h); omega)
 | ((with_reducible first | apply go_elN h | apply go_f1 h | apply go_rf1 h | apply go_rel h); (case hi => omega); (try case hx => exact inferInstance); (try case hv => rfl))
 | ((with_reducible apply go_fa h); omega; omega)
))
  refine bcheck_spec he hw h fun w h => ?_
  unfold chkR
  cases g3 : okR r
  · rw [if_pos (by simp [g3])] at hK
    rw [if_neg (by simp)]
    (repeat (first
 | (simp (disch := omega) only [evA, evB, evC, bAdd_i64, bSub_i64, Int.reduceEq])
 | (with_reducible apply go_ld1 h)
 | ((with_reducible first | apply go_ldA h | apply go_rd h | apply go_rdN h | apply go_rlen h); rfl)
 | (with_reducible first | apply go_ldN h | apply go_lenL h)
 | ((with_reducible apply go_st h); intro _ h)
 | ((with_reducible apply go_stA h); rfl; rfl; (first | rfl | simp [OneV.o]); intro _ h)
 | ((with_reducible apply go_stN h); rfl; (first | rfl | simp [OneV.o]); intro _ h)
 | ((with_reducible apply go_box h); rfl; intro _ _ h)
 | ((with_reducible apply go_ix h); omega)
 | ((with_reducible first | apply go_elN h | apply go_f1 h | apply go_rf1 h | apply go_rel h); (case hi => omega); (try case hx => exact inferInstance); (try case hv => rfl))
 | ((with_reducible apply go_fa h); omega; omega)
))
    exact hK _ (outA_close H ok (h.got))
  rw [if_neg (by rw [g1', show decide (5 < what) = false from g2', g3]; simp)] at hK oka
  rw [if_pos rfl]
  (repeat (first
 | (simp (disch := omega) only [evA, evB, evC, bAdd_i64, bSub_i64, Int.reduceEq])
 | (with_reducible apply go_ld1 h)
 | ((with_reducible first | apply go_ldA h | apply go_rd h | apply go_rdN h | apply go_rlen h); rfl)
 | (with_reducible first | apply go_ldN h | apply go_lenL h)
 | ((with_reducible apply go_st h); intro _ h)
 | ((with_reducible apply go_stA h); rfl; rfl; (first | rfl | simp [OneV.o]); intro _ h)
 | ((with_reducible apply go_stN h); rfl; (first | rfl | simp [OneV.o]); intro _ h)
 | ((with_reducible apply go_box h); rfl; intro _ _ h)
 | ((with_reducible apply go_ix h); omega)
 | ((with_reducible first | apply go_elN h | apply go_f1 h | apply go_rf1 h | apply go_rel h); (case hi => omega); (try case hx => exact inferInstance); (try case hv => rfl))
 | ((with_reducible apply go_fa h); omega; omega)
))
  refine go_lenM h (by repeat (first | exact .here | apply Fnt.there)) ?_
  rw [H.len]
  (repeat (first
 | (simp (disch := omega) only [evA, evB, evC, bAdd_i64, bSub_i64])
 | (with_reducible apply go_ld1 h)
 | ((with_reducible first | apply go_ldA h | apply go_rd h | apply go_rdN h | apply go_rlen h); rfl)
 | (with_reducible first | apply go_ldN h | apply go_lenL h)
 | ((with_reducible apply go_st h); intro _ h)
 | ((with_reducible apply go_stA h); rfl; rfl; (first | rfl | simp [OneV.o]); intro _ h)
 | ((with_reducible apply go_stN h); rfl; (first | rfl | simp [OneV.o]); intro _ h)
 | ((with_reducible apply go_box h); rfl; intro _ _ h)
 | ((with_reducible apply go_ix h); omega)
 | ((with_reducible first | apply go_elN h | apply go_f1 h | apply go_rf1 h | apply go_rel h); (case hi => omega); (try case hx => exact inferInstance); (try case hv => rfl))
 | ((with_reducible apply go_fa h); omega; omega)
))
  by_cases g4 : o.most ≤ (o.ls.length : Int)
  · have g4' : decide ((o.ls.length : Int) ≥ o.most) = true := by simpa using g4
    rw [if_pos g4] at hK oka
    (repeat (first
 | (simp (disch := omega) only [evA, evB, evC, bAdd_i64, bSub_i64, g4'])
 | (with_reducible apply go_ld1 h)
 | ((with_reducible first | apply go_ldA h | apply go_rd h | apply go_rdN h | apply go_rlen h); rfl)
 | (with_reducible first | apply go_ldN h | apply go_lenL h)
 | ((with_reducible apply go_st h); intro _ h)
 | ((with_reducible apply go_stA h); rfl; rfl; (first | rfl | simp [OneV.o]); intro _ h)
 | ((with_reducible apply go_stN h); rfl; (first | rfl | simp [OneV.o]); intro _ h)
 | ((with_reducible apply go_box h); rfl; intro _ _ h)
 | ((with_reducible apply go_ix h); omega)
 | ((with_reducible first | apply go_elN h | apply go_f1 h | apply go_rf1 h | apply go_rel h); (case hi => omega); (try case hx => exact inferInstance); (try case hv => rfl))
 | ((with_reducible apply go_fa h); omega; omega)
))
    exact hK _ (outA_close (o := { o with refused := o.refused + 1 }) H oka (h.got))
  have g4' : decide ((o.ls.length : Int) ≥ o.most) = false := by simp; omega
  rw [if_neg g4] at hK oka
  (repeat (first
 | (simp (disch := omega) only [evA, evB, evC, bAdd_i64, bSub_i64, g4'])
 | (with_reducible apply go_ld1 h)
 | ((with_reducible first | apply go_ldA h | apply go_rd h | apply go_rdN h | apply go_rlen h); rfl)
 | (with_reducible first | apply go_ldN h | apply go_lenL h)
 | ((with_reducible apply go_st h); intro _ h)
 | ((with_reducible apply go_stA h); rfl; rfl; (first | rfl | simp [OneV.o]); intro _ h)
 | ((with_reducible apply go_stN h); rfl; (first | rfl | simp [OneV.o]); intro _ h)
 | ((with_reducible apply go_box h); rfl; intro _ _ h)
 | ((with_reducible apply go_ix h); omega)
 | ((with_reducible first | apply go_elN h | apply go_f1 h | apply go_rf1 h | apply go_rel h); (case hi => omega); (try case hx => exact inferInstance); (try case hv => rfl))
 | ((with_reducible apply go_fa h); omega; omega)
))
  refine go_some (fbTk (o.last + 1) what r) ?_
  refine c50 ?_
  unfold F50
  (repeat (first
 | (simp (disch := omega) only [evA, evB, evC, bAdd_i64, bSub_i64])
 | (with_reducible apply go_ld1 h)
 | ((with_reducible first | apply go_ldA h | apply go_rd h | apply go_rdN h | apply go_rlen h); rfl)
 | (with_reducible first | apply go_ldN h | apply go_lenL h)
 | ((with_reducible apply go_st h); intro _ h)
 | ((with_reducible apply go_stA h); rfl; rfl; (first | rfl | simp [OneV.o]); intro _ h)
 | ((with_reducible apply go_stN h); rfl; (first | rfl | simp [OneV.o]); intro _ h)
 | ((with_reducible apply go_box h); rfl; intro _ _ h)
 | ((with_reducible apply go_ix h); omega)
 | ((with_reducible first | apply go_elN h | apply go_f1 h | apply go_rf1 h | apply go_rel h); (case hi => omega); (try case hx => exact inferInstance); (try case hv => rfl))
 | ((with_reducible apply go_fa h); omega; omega)
))
  refine go_some (fbLt ⟨o.last + 1, what, r⟩ o.base) ?_
  refine eMapSet_sat (h.drew.frt (A := MapH kO ltV m M)) KIO um91 (o.last + 1) ((⟨o.last + 1, what, r⟩, o.base, 0) : Tk × Int × Int) fun w h => ?_
  (repeat (first
 | (simp (disch := omega) only [evA, evB, evC, bAdd_i64, bSub_i64])
 | (with_reducible apply go_ld1 h)
 | ((with_reducible first | apply go_ldA h | apply go_rd h | apply go_rdN h | apply go_rlen h); rfl)
 | (with_reducible first | apply go_ldN h | apply go_lenL h)
 | ((with_reducible apply go_st h); intro _ h)
 | ((with_reducible apply go_stA h); rfl; rfl; (first | rfl | simp [OneV.o]); intro _ h)
 | ((with_reducible apply go_stN h); rfl; (first | rfl | simp [OneV.o]); intro _ h)
 | ((with_reducible apply go_box h); rfl; intro _ _ h)
 | ((with_reducible apply go_ix h); omega)
 | ((with_reducible first | apply go_elN h | apply go_f1 h | apply go_rf1 h | apply go_rel h); (case hi => omega); (try case hx => exact inferInstance); (try case hv => rfl))
 | ((with_reducible apply go_fa h); omega; omega)
))
  refine hK _ (outA_close (o := { o with last := o.last + 1, ls := o.ls ++ [⟨⟨o.last + 1, what, r⟩, 0, 0⟩] }) ?_ oka (h.got))
  have h1 := H.put STO.int ⟨⟨o.last + 1, what, r⟩, 0, 0⟩
  rw [kPut_last STO.int fun d hd => by have := ok.ok d hd; simp [ltI, lKey]; omega] at h1
  exact h1
end
end Go.Proofs.Gong

/- Ob3 -/
namespace Go.Proofs.Gong
open Go Go.Sx Go.Proofs
set_option maxRecDepth 100000
theorem CTk : Cod cTk 13 := ⟨fun _ => rfl, fun _ => rfl, by omega⟩
instance : CodC cTk 13 := ⟨CTk⟩
theorem fbTkS (x : Tk) : fBuildSl Try.prog 63 1 [(0, .agg (cTk x).toArray)] = some (cTk x).toArray := by kernel_rfl
theorem ffLt (y : Tk × Int × Int) : fField Try.prog 98 (ltV y) 0 = some (tkV y.1) := by kernel_rfl
theorem lkey_at {l : List Ltr} {i : Nat} (hi : i < l.length) (h : i < (l.map lKey).length) : (l.map lKey)[i] = l[i].t.seq := by simp
attribute [local irreducible] fBuild fLook fZero eqv bEqv Cl MapH LsH SlH ld1 ldN st callP eBox eAlloc lenM lenL eMapSet eDelete eAppend eBuildSl eRange eNext
section
variable {w0 w : World} {L : List HP} {K : Value → World → Prop} {v : Value} {o : Ob} {n now : Int} {M : LMap}
theorem onums_spec (h : Sat w0 (OutA v o :: L) w) (hK : ∀ s w', Sat w0 (LsH cI 1 3 s (o.ls.map lKey) :: OutA v o :: L) w' → K s w') : callP G51 [v] w K := by
  obtain ⟨p, m, M, rfl, H, ok, h2⟩ := outA_open h
  refine c51 ?_
  unfold F51
  clear h
  have h := h2
  clear h2
  obtain ⟨r1, _, _, ⟨rfl, _⟩, _⟩ := map_iff.1 (h.frt (A := MapH kO ltV m M))
  (repeat (first
 | (simp (disch := omega) only [evA, evB, evC, bAdd_i64, bSub_i64])
 | (with_reducible apply go_ld1 h)
 | ((with_reducible first | apply go_ldA h | apply go_rd h | apply go_rdN h | apply go_rlen h); rfl)
 | (with_reducible first | apply go_ldN h | apply go_lenL h)
 | ((with_reducible apply go_st h); intro _ h)
 | ((with_reducible apply go_stA h); rfl; rfl; (first | rfl | simp [OneV.o]); intro _ h)
 | ((with_reducible apply go_stN h); rfl; (first | rfl | simp [OneV.o]); intro _ h)
 | ((with_reducible apply go_box h); rfl; intro _ _ h)
 | ((with_reducible apply go_ix h); omega)
 | ((with_reducible first | apply go_elN h | apply go_f1 h | apply go_rf1 h | apply go_rel h); (case hi => omega); (try case hx => exact inferInstance); (try case hv => rfl))
 | ((with_reducible apply go_fa h); omega; omega)
))
  refine c77 ?_
  unfold F77
  (repeat (first
 | (simp (disch := omega) only [evA, evB, evC, bAdd_i64, bSub_i64])
 | (with_reducible apply go_ld1 h)
 | ((with_reducible first | apply go_ldA h | apply go_rd h | apply go_rdN h | apply go_rlen h); rfl)
 | (with_reducible first | apply go_ldN h | apply go_lenL h)
 | ((with_reducible apply go_st h); intro _ h)
 | ((with_reducible apply go_stA h); rfl; rfl; (first | rfl | simp [OneV.o]); intro _ h)
 | ((with_reducible apply go_stN h); rfl; (first | rfl | simp [OneV.o]); intro _ h)
 | ((with_reducible apply go_box h); rfl; intro _ _ h)
 | ((with_reducible apply go_ix h); omega)
 | ((with_reducible first | apply go_elN h | apply go_f1 h | apply go_rf1 h | apply go_rel h); (case hi => omega); (try case hx => exact inferInstance); (try case hv => rfl))
 | ((with_reducible apply go_fa h); omega; omega)
))
  refine sortedI_sat (m := M) (ev := ltV) (L := OCl p o (.map (some r1)) :: L) (h.got) ?_ ?_ fun l s w hp hs h => ?_
  · intro x hx
    obtain ⟨y, hy, e⟩ := List.mem_map.1 (H.pm.mem_iff.1 hx)
    have h1 := ok.ok y hy
    have h2 := ok.last
    rw [← e]
    show -9223372036854775808 ≤ y.t.seq ∧ y.t.seq ≤ 9223372036854775807
    omega
  · rw [H.len]; have := ok.len; have := ok.most; omega
  have el : l = o.ls.map lKey := H.sorted STO.int hp (hs.imp fun h => by
    simp only [ltI, decide_eq_false_iff_not]; omega)
  subst el
  exact hK _ _ (Sat.f1 (outA_close H ok (h.got)))
theorem oall_loop {p : Nat} {m nv : Value} (H : KInv ltI lKey (lVal o.base o.top) M o.ls) (ok : OOk o) (hK : ∀ s w', Sat w0 (LsH cTk 13 63 s (allO o) :: OutA (ptr p) o :: L) w' → K s w') :
    ∀ (k i : Nat) (s3 : Value) (w : World), o.ls.length - i < k → i ≤ o.ls.length → Sat w0 (LsH cTk 13 63 s3 ((o.ls.take i).map (·.t)) :: OCl p o m :: MapH kO ltV m M :: LsH cI 1 3 nv (o.ls.map lKey) :: L) w →
      F38_2L k (ptr p) s3 nv (.int .i64 (o.ls.length : Nat)) (.int .i64 i) w K := by
  intro k
  induction k with
  | zero => intro i s3 w hd; omega
  | succ k ih =>
    intro i s3 w hd hi h
    rw [F38_2L]
    unfold F38_2b
    have hln := ok.len
    have hmb := ok.most
    have := map_one (h.frt (A := MapH kO ltV m M))
    by_cases g : i < o.ls.length
    · have g' : decide ((i : Int) < (o.ls.length : Int)) = true := by simpa using g
      have hil : i < (o.ls.map lKey).length := by simpa using g
      have hnm := lkey_at g hil
      have ht : (o.ls.take (i + 1)).map (·.t) = (o.ls.take i).map (·.t) ++ [o.ls[i].t] := by rw [List.take_succ_eq_append_getElem g, List.map_append]; rfl
      have hget : aGet o.ls[i].t.seq M = some (lVal o.base o.top o.ls[i]) := by
        rw [show aGet o.ls[i].t.seq M = _ from H.get STO.int _, show kGet lKey o.ls[i].t.seq _ = some o.ls[i] from kGet_of STO.int ok.asc (List.getElem_mem g)]
        rfl
      (repeat (first
 | (simp (disch := omega) only [evA, evB, evC, bAdd_i64, bSub_i64, g', hnm])
 | (with_reducible apply go_ld1 h)
 | ((with_reducible first | apply go_ldA h | apply go_rd h | apply go_rdN h); rfl)
 | (with_reducible first | apply go_ldN h | apply go_lenR h)
 | ((with_reducible apply go_st h); intro _ h)
 | ((with_reducible apply go_stA h); rfl; rfl; (first | rfl | simp [OneV.o]); intro _ h)
 | ((with_reducible apply go_stN h); rfl; (first | rfl | simp [OneV.o]); intro _ h)
 | ((with_reducible apply go_box h); rfl; intro _ _ h)
 | ((with_reducible apply go_ixR h); omega)
 | ((with_reducible first | apply go_elR h | apply go_f1R h | apply go_rf1R h | apply go_relR h | apply go_e1R h | apply go_re1R h); (case hc => exact inferInstance); (case hi => omega); (try case hx => exact inferInstance); (try case hv => rfl))
 | ((with_reducible apply go_fNR h); (case hc => exact inferInstance); (case hi => omega); (try case hp => exact inferInstance); (try case hv => rfl))
 | ((with_reducible apply go_faR h); (case hc => exact inferInstance); omega; omega)
 | ((with_reducible apply go_rlenR h); rfl)
))
      refine go_look1 h (by repeat (first | exact .here | apply Fnt.there)) KIO um91 zLt o.ls[i].t.seq ?_
      rw [hget]
      simp only [Option.elim_some]
      refine go_some (ffLt _) ?_
      refine go_lit1 (x := o.ls[i].t) CTk h u57 (fbTkS o.ls[i].t) rfl fun s1 w h => ?_
      (repeat (first
 | (simp (disch := omega) only [evA, evB, evC, bAdd_i64, bSub_i64])
 | (with_reducible apply go_ld1 h)
 | ((with_reducible first | apply go_ldA h | apply go_rd h | apply go_rdN h | apply go_rlen h); rfl)
 | (with_reducible first | apply go_ldN h | apply go_lenL h)
 | ((with_reducible apply go_st h); intro _ h)
 | ((with_reducible apply go_stA h); rfl; rfl; (first | rfl | simp [OneV.o]); intro _ h)
 | ((with_reducible apply go_stN h); rfl; (first | rfl | simp [OneV.o]); intro _ h)
 | ((with_reducible apply go_box h); rfl; intro _ _ h)
 | ((with_reducible apply go_ix h); omega)
 | ((with_reducible first | apply go_elN h | apply go_f1 h | apply go_rf1 h | apply go_rel h); (case hi => omega); (try case hx => exact inferInstance); (try case hv => rfl))
 | ((with_reducible apply go_fa h); omega; omega)
 | ((with_reducible first | apply go_lit0 CTk h u57 (by kernel_rfl) | apply go_lit1 CTk h u57 (fbTkS _) rfl); intro _ _ h)
 | ((with_reducible apply go_app h sl57 ss57); (case hm => repeat (first | exact .here | apply Fnt.there)); (case hb => first | omega | (simp; omega)); intro _ _ _ h)
))
      exact ih (i + 1) _ _ (by omega) (by omega) (by rw [ht]; exact h.got)
    · have g' : decide ((i : Int) < (o.ls.length : Int)) = false := by simpa using g
      have e : i = o.ls.length := by omega
      subst e
      rw [List.take_length] at h
      (repeat (first
 | (simp (disch := omega) only [evA, evB, evC, bAdd_i64, bSub_i64, g'])
 | (with_reducible apply go_ld1 h)
 | ((with_reducible first | apply go_ldA h | apply go_rd h | apply go_rdN h | apply go_rlen h); rfl)
 | (with_reducible first | apply go_ldN h | apply go_lenL h)
 | ((with_reducible apply go_st h); intro _ h)
 | ((with_reducible apply go_stA h); rfl; rfl; (first | rfl | simp [OneV.o]); intro _ h)
 | ((with_reducible apply go_stN h); rfl; (first | rfl | simp [OneV.o]); intro _ h)
 | ((with_reducible apply go_box h); rfl; intro _ _ h)
 | ((with_reducible apply go_ix h); omega)
 | ((with_reducible first | apply go_elN h | apply go_f1 h | apply go_rf1 h | apply go_rel h); (case hi => omega); (try case hx => exact inferInstance); (try case hv => rfl))
 | ((with_reducible apply go_fa h); omega; omega)
))
      unfold F38_3 F38_3b
      exact hK _ _ (Sat.f1 (outA_close H ok (h.got)))
theorem oall_spec (h : Sat w0 (OutA v o :: L) w) (hK : ∀ s w', Sat w0 (LsH cTk 13 63 s (allO o) :: OutA v o :: L) w' → K s w') : callP G38 [v] w K := by
  refine c38 ?_
  unfold F38 F38_1 F38_1b
  refine onums_spec h fun nv w h => ?_
  obtain ⟨p, m, M, rfl, H, ok, h2⟩ := outA_open (h.frt (A := OutA v o))
  clear h
  have h := h2
  clear h2
  (repeat (first
 | (simp (disch := omega) only [evA, evB, evC, bAdd_i64, bSub_i64])
 | (with_reducible apply go_ld1 h)
 | ((with_reducible first | apply go_ldA h | apply go_rd h | apply go_rdN h | apply go_rlen h); rfl)
 | (with_reducible first | apply go_ldN h | apply go_lenL h)
 | ((with_reducible apply go_st h); intro _ h)
 | ((with_reducible apply go_stA h); rfl; rfl; (first | rfl | simp [OneV.o]); intro _ h)
 | ((with_reducible apply go_stN h); rfl; (first | rfl | simp [OneV.o]); intro _ h)
 | ((with_reducible apply go_box h); rfl; intro _ _ h)
 | ((with_reducible apply go_ix h); omega)
 | ((with_reducible first | apply go_elN h | apply go_f1 h | apply go_rf1 h | apply go_rel h); (case hi => omega); (try case hx => exact inferInstance); (try case hv => rfl))
 | ((with_reducible apply go_fa h); omega; omega)
))
  rw [List.length_map]
  unfold F38_2
  have h := Sat.nilLs cTk 13 63 h
  exact oall_loop H ok hK fuel 0 _ _ (by have := ok.len; have := ok.most; unfold fuel; omega) (by omega) h
theorem odue_loop {p : Nat} {m nv : Value} (ht : 0 ≤ now ∧ now ≤ 2305843009213693952) (ok : OOk o) (hok : OOk { o with ls := o.ls.map (stepO o now) })
    (hK : ∀ s w', Sat w0 (LsH cTk 13 63 s ((o.ls.filter (mayO o now)).map (·.t)) :: OutA (ptr p) { o with ls := o.ls.map (stepO o now) } :: L) w' → K (.tuple #[s, .int .i64 0]) w') :
    ∀ (k i : Nat) (s6 : Value) (M : LMap) (w : World), o.ls.length - i < k → i ≤ o.ls.length → KInv ltI lKey (lVal o.base o.top) M ((o.ls.take i).map (stepO o now) ++ o.ls.drop i) →
      Sat w0 (LsH cTk 13 63 s6 (((o.ls.take i).filter (mayO o now)).map (·.t)) :: OCl p o m :: MapH kO ltV m M :: LsH cI 1 3 nv (o.ls.map lKey) :: L) w →
      F31_2L k (ptr p) (.int .i64 now) s6 nv (.int .i64 (o.ls.length : Nat)) (.int .i64 i) w K := by
  intro k
  induction k with
  | zero => intro i s6 M w hd; omega
  | succ k ih =>
    intro i s6 M w hd hi H h
    rw [F31_2L]
    unfold F31_4 F31_4b
    have hln := ok.len
    have hmb := ok.most
    have hbt := ok.base
    have hone := map_one (h.frt (A := MapH kO ltV m M))
    by_cases g : i < o.ls.length
    · have g' : decide ((i : Int) < (o.ls.length : Int)) = true := by simpa using g
      have hil : i < (o.ls.map lKey).length := by simpa using g
      have hnm := lkey_at g hil
      have hcur : (o.ls.take i).map (stepO o now) ++ o.ls.drop i = (o.ls.take i).map (stepO o now) ++ o.ls[i] :: o.ls.drop (i + 1) := by rw [List.drop_eq_getElem_cons g]
      rw [hcur] at H
      have hxo := ok.ok _ (List.getElem_mem g)
      have ht1 : (o.ls.take (i + 1)).map (stepO o now) ++ o.ls.drop (i + 1) = (o.ls.take i).map (stepO o now) ++ stepO o now o.ls[i] :: o.ls.drop (i + 1) := by
        rw [List.take_succ_eq_append_getElem g, List.map_append, List.append_assoc]; rfl
      have ht2 : ((o.ls.take (i + 1)).filter (mayO o now)).map (·.t) = ((o.ls.take i).filter (mayO o now)).map (·.t) ++ if mayO o now o.ls[i] = true then [o.ls[i].t] else [] := by
        rw [List.take_succ_eq_append_getElem g, List.filter_append, List.map_append]
        congr 1
        by_cases hm : mayO o now o.ls[i] = true <;> simp [hm]
      obtain ⟨x, hx⟩ : ∃ x, o.ls[i] = x := ⟨_, rfl⟩
      have hlen2 : (((o.ls.take i).filter (mayO o now)).map (·.t)).length ≤ 65536 := by
        rw [List.length_map]
        have := List.length_filter_le (mayO o now) (o.ls.take i)
        rw [List.length_take] at this
        omega
      have hlen3 : ((o.ls.take i).filter (mayO o now)).length ≤ 65536 := by rw [List.length_map] at hlen2; exact hlen2
      rw [hx] at hnm H hxo ht1 ht2
      have hget : aGet x.t.seq M = some (lVal o.base o.top x) := by
        rw [show aGet x.t.seq M = _ from H.get STO.int _, show kGet lKey x.t.seq _ = some x from kGet_of STO.int H.asc (by simp)]
        rfl
      have hp1 := pauseN_bd (base := o.base) (top := o.top) ⟨hbt.1, hbt.2.1⟩ x.sent
      (repeat (first
 | (simp (disch := omega) only [evA, evB, evC, bAdd_i64, bSub_i64, g', hnm])
 | (with_reducible apply go_ld1 h)
 | ((with_reducible first | apply go_ldA h | apply go_rd h | apply go_rdN h); rfl)
 | (with_reducible first | apply go_ldN h | apply go_lenR h)
 | ((with_reducible apply go_st h); intro _ h)
 | ((with_reducible apply go_stA h); rfl; rfl; (first | rfl | simp [OneV.o]); intro _ h)
 | ((with_reducible apply go_stN h); rfl; (first | rfl | simp [OneV.o]); intro _ h)
 | ((with_reducible apply go_box h); rfl; intro _ _ h)
 | ((with_reducible apply go_ixR h); omega)
 | ((with_reducible first | apply go_elR h | apply go_f1R h | apply go_rf1R h | apply go_relR h | apply go_e1R h | apply go_re1R h); (case hc => exact inferInstance); (case hi => omega); (try case hx => exact inferInstance); (try case hv => rfl))
 | ((with_reducible apply go_fNR h); (case hc => exact inferInstance); (case hi => omega); (try case hp => exact inferInstance); (try case hv => rfl))
 | ((with_reducible apply go_faR h); (case hc => exact inferInstance); omega; omega)
 | ((with_reducible apply go_rlenR h); rfl)
))
      refine go_look1 h (by repeat (first | exact .here | apply Fnt.there)) KIO um91 zLt x.t.seq ?_
      rw [hget]
      simp only [Option.elim_some]
      unfold lVal
      refine go_alloc h zLt rfl fun q _ h => ?_
      by_cases g1 : x.t.seq ≤ o.mark
      case neg =>
        have g1' : decide (x.t.seq > o.mark) = true := by simp; omega
        have hm : mayO o now x = false := by unfold mayO; rw [decide_eq_false g1]; rfl
        have es : stepO o now x = x := by unfold stepO; rw [if_neg (by simp [hm])]
        rw [es] at ht1
        rw [if_neg (by simp [hm]), List.append_nil] at ht2
        (repeat (first
 | (simp (disch := omega) only [evA, evB, evC, bAdd_i64, bSub_i64, g1'])
 | (with_reducible apply go_ld1 h)
 | ((with_reducible first | apply go_ldA h | apply go_rd h | apply go_rdN h | apply go_rlen h); rfl)
 | (with_reducible first | apply go_ldN h | apply go_lenL h)
 | ((with_reducible apply go_st h); intro _ h)
 | ((with_reducible apply go_stA h); rfl; rfl; (first | rfl | simp [OneV.o]); intro _ h)
 | ((with_reducible apply go_stN h); rfl; (first | rfl | simp [OneV.o]); intro _ h)
 | ((with_reducible apply go_box h); rfl; intro _ _ h)
 | ((with_reducible apply go_ix h); omega)
 | ((with_reducible first | apply go_elN h | apply go_f1 h | apply go_rf1 h | apply go_rel h); (case hi => omega); (try case hx => exact inferInstance); (try case hv => rfl))
 | ((with_reducible apply go_fa h); omega; omega)
))
        unfold F31_5 F31_5b
        (repeat (first
 | (simp (disch := omega) only [evA, evB, evC, bAdd_i64, bSub_i64])
 | (with_reducible apply go_ld1 h)
 | ((with_reducible first | apply go_ldA h | apply go_rd h | apply go_rdN h | apply go_rlen h); rfl)
 | (with_reducible first | apply go_ldN h | apply go_lenL h)
 | ((with_reducible apply go_st h); intro _ h)
 | ((with_reducible apply go_stA h); rfl; rfl; (first | rfl | simp [OneV.o]); intro _ h)
 | ((with_reducible apply go_stN h); rfl; (first | rfl | simp [OneV.o]); intro _ h)
 | ((with_reducible apply go_box h); rfl; intro _ _ h)
 | ((with_reducible apply go_ix h); omega)
 | ((with_reducible first | apply go_elN h | apply go_f1 h | apply go_rf1 h | apply go_rel h); (case hi => omega); (try case hx => exact inferInstance); (try case hv => rfl))
 | ((with_reducible apply go_fa h); omega; omega)
))
        exact ih (i + 1) _ M _ (by omega) (by omega) (by rw [ht1]; exact H) (by rw [ht2]; exact h.got)
      have g1' : decide (x.t.seq > o.mark) = false := by simp; omega
      by_cases g2 : x.at_ ≤ now
      case neg =>
        have g2' : decide (x.at_ > now) = true := by simp; omega
        have hm : mayO o now x = false := by unfold mayO; rw [decide_eq_false g2]; simp
        have es : stepO o now x = x := by unfold stepO; rw [if_neg (by simp [hm])]
        rw [es] at ht1
        rw [if_neg (by simp [hm]), List.append_nil] at ht2
        (repeat (first
 | (simp (disch := omega) only [evA, evB, evC, bAdd_i64, bSub_i64, g1', g2'])
 | (with_reducible apply go_ld1 h)
 | ((with_reducible first | apply go_ldA h | apply go_rd h | apply go_rdN h | apply go_rlen h); rfl)
 | (with_reducible first | apply go_ldN h | apply go_lenL h)
 | ((with_reducible apply go_st h); intro _ h)
 | ((with_reducible apply go_stA h); rfl; rfl; (first | rfl | simp [OneV.o]); intro _ h)
 | ((with_reducible apply go_stN h); rfl; (first | rfl | simp [OneV.o]); intro _ h)
 | ((with_reducible apply go_box h); rfl; intro _ _ h)
 | ((with_reducible apply go_ix h); omega)
 | ((with_reducible first | apply go_elN h | apply go_f1 h | apply go_rf1 h | apply go_rel h); (case hi => omega); (try case hx => exact inferInstance); (try case hv => rfl))
 | ((with_reducible apply go_fa h); omega; omega)
))
        unfold F31_5 F31_5b
        (repeat (first
 | (simp (disch := omega) only [evA, evB, evC, bAdd_i64, bSub_i64])
 | (with_reducible apply go_ld1 h)
 | ((with_reducible first | apply go_ldA h | apply go_rd h | apply go_rdN h | apply go_rlen h); rfl)
 | (with_reducible first | apply go_ldN h | apply go_lenL h)
 | ((with_reducible apply go_st h); intro _ h)
 | ((with_reducible apply go_stA h); rfl; rfl; (first | rfl | simp [OneV.o]); intro _ h)
 | ((with_reducible apply go_stN h); rfl; (first | rfl | simp [OneV.o]); intro _ h)
 | ((with_reducible apply go_box h); rfl; intro _ _ h)
 | ((with_reducible apply go_ix h); omega)
 | ((with_reducible first | apply go_elN h | apply go_f1 h | apply go_rf1 h | apply go_rel h); (case hi => omega); (try case hx => exact inferInstance); (try case hv => rfl))
 | ((with_reducible apply go_fa h); omega; omega)
))
        exact ih (i + 1) _ M _ (by omega) (by omega) (by rw [ht1]; exact H) (by rw [ht2]; exact h.got)
      have g2' : decide (x.at_ > now) = false := by simp; omega
      have hm : mayO o now x = true := by unfold mayO; rw [decide_eq_true g1, decide_eq_true g2]; rfl
      have es : stepO o now x = sendO o now x := by unfold stepO; rw [if_pos hm]
      rw [es] at ht1
      rw [if_pos hm] at ht2
      (repeat (first
 | (simp (disch := omega) only [evA, evB, evC, bAdd_i64, bSub_i64, g1', g2'])
 | (with_reducible apply go_ld1 h)
 | ((with_reducible first | apply go_ldA h | apply go_rd h | apply go_rdN h | apply go_rlen h); rfl)
 | (with_reducible first | apply go_ldN h | apply go_lenL h)
 | ((with_reducible apply go_st h); intro _ h)
 | ((with_reducible apply go_stA h); rfl; rfl; (first | rfl | simp [OneV.o]); intro _ h)
 | ((with_reducible apply go_stN h); rfl; (first | rfl | simp [OneV.o]); intro _ h)
 | ((with_reducible apply go_box h); rfl; intro _ _ h)
 | ((with_reducible apply go_ix h); omega)
 | ((with_reducible first | apply go_elN h | apply go_f1 h | apply go_rf1 h | apply go_rel h); (case hi => omega); (try case hx => exact inferInstance); (try case hv => rfl))
 | ((with_reducible apply go_fa h); omega; omega)
))
      refine go_lit1 (x := x.t) CTk h u57 (fbTkS x.t) rfl fun s1 w h => ?_
      have emul : bMul (.int .i64 2) (.int .i64 (pauseN o.base o.top x.sent)) = some (.int .i64 (2 * pauseN o.base o.top x.sent)) := by rw [bMul_int, wrap_id (by omega)]
      (repeat (first
 | (simp (disch := omega) only [evA, evB, evC, bAdd_i64, bSub_i64, emul])
 | (with_reducible apply go_ld1 h)
 | ((with_reducible first | apply go_ldA h | apply go_rd h | apply go_rdN h | apply go_rlen h); rfl)
 | (with_reducible first | apply go_ldN h | apply go_lenL h)
 | ((with_reducible apply go_st h); intro _ h)
 | ((with_reducible apply go_stA h); rfl; rfl; (first | rfl | simp [OneV.o]); intro _ h)
 | ((with_reducible apply go_stN h); rfl; (first | rfl | simp [OneV.o]); intro _ h)
 | ((with_reducible apply go_box h); rfl; intro _ _ h)
 | ((with_reducible apply go_ix h); omega)
 | ((with_reducible first | apply go_elN h | apply go_f1 h | apply go_rf1 h | apply go_rel h); (case hi => omega); (try case hx => exact inferInstance); (try case hv => rfl))
 | ((with_reducible apply go_fa h); omega; omega)
 | ((with_reducible first | apply go_lit0 CTk h u57 (by kernel_rfl) | apply go_lit1 CTk h u57 (fbTkS _) rfl); intro _ _ h)
 | ((with_reducible apply go_app h sl57 ss57); (case hm => repeat (first | exact .here | apply Fnt.there)); (case hb => first | omega | (simp; omega)); intro _ _ _ h)
))
      refine eMapSet_sat (h.drew.frt (A := MapH kO ltV m M)) KIO um91 x.t.seq ((x.t, min (2 * pauseN o.base o.top x.sent) o.top, min (now + pauseN o.base o.top x.sent) 2305843009213693952) : Tk × Int × Int) fun w h => ?_
      unfold F31_5 F31_5b
      (repeat (first
 | (simp (disch := omega) only [evA, evB, evC, bAdd_i64, bSub_i64])
 | (with_reducible apply go_ld1 h)
 | ((with_reducible first | apply go_ldA h | apply go_rd h | apply go_rdN h | apply go_rlen h); rfl)
 | (with_reducible first | apply go_ldN h | apply go_lenL h)
 | ((with_reducible apply go_st h); intro _ h)
 | ((with_reducible apply go_stA h); rfl; rfl; (first | rfl | simp [OneV.o]); intro _ h)
 | ((with_reducible apply go_stN h); rfl; (first | rfl | simp [OneV.o]); intro _ h)
 | ((with_reducible apply go_box h); rfl; intro _ _ h)
 | ((with_reducible apply go_ix h); omega)
 | ((with_reducible first | apply go_elN h | apply go_f1 h | apply go_rf1 h | apply go_rel h); (case hi => omega); (try case hx => exact inferInstance); (try case hv => rfl))
 | ((with_reducible apply go_fa h); omega; omega)
))
      refine ih (i + 1) _ _ w (by omega) (by omega) ?_ (by rw [ht2]; exact h.got)
      have h1 := H.put STO.int (sendO o now x)
      have hsp := H.asc.ne STO.int
      rw [List.pairwise_append, List.pairwise_cons] at hsp
      have e2 : kPut ltI lKey (sendO o now x) ((o.ls.take i).map (stepO o now) ++ x :: o.ls.drop (i + 1)) = (o.ls.take i).map (stepO o now) ++ sendO o now x :: o.ls.drop (i + 1) := by
        rw [kPut_rep STO.int H.asc (x := sendO o now x) (b := x) (by simp) rfl]
        exact kRep_split (b := x) rfl (fun d hd => hsp.2.2 d hd x (by simp)) (fun d hd e => hsp.2.1.1 d hd e.symm)
      rw [e2] at h1
      rw [ht1]
      exact h1
    · have g' : decide ((i : Int) < (o.ls.length : Int)) = false := by simpa using g
      have e : i = o.ls.length := by omega
      subst e
      rw [List.take_length] at h
      rw [List.take_length, List.drop_length, List.append_nil] at H
      (repeat (first
 | (simp (disch := omega) only [evA, evB, evC, bAdd_i64, bSub_i64, g'])
 | (with_reducible apply go_ld1 h)
 | ((with_reducible first | apply go_ldA h | apply go_rd h | apply go_rdN h | apply go_rlen h); rfl)
 | (with_reducible first | apply go_ldN h | apply go_lenL h)
 | ((with_reducible apply go_st h); intro _ h)
 | ((with_reducible apply go_stA h); rfl; rfl; (first | rfl | simp [OneV.o]); intro _ h)
 | ((with_reducible apply go_stN h); rfl; (first | rfl | simp [OneV.o]); intro _ h)
 | ((with_reducible apply go_box h); rfl; intro _ _ h)
 | ((with_reducible apply go_ix h); omega)
 | ((with_reducible first | apply go_elN h | apply go_f1 h | apply go_rf1 h | apply go_rel h); (case hi => omega); (try case hx => exact inferInstance); (try case hv => rfl))
 | ((with_reducible apply go_fa h); omega; omega)
))
      unfold F31_3 F31_3b
      exact hK _ _ (Sat.f1 (outA_close (o := { o with ls := o.ls.map (stepO o now) }) H hok (h.got)))
theorem odue_spec (h : Sat w0 (OutA v o :: L) w) (hK0 : timeP now = false → ∀ w', Sat w0 (OutA v o :: L) w' → K (.tuple #[.slice none 0 0, .int .i64 1]) w')
    (hK1 : timeP now = true → ∀ s w', Sat w0 (LsH cTk 13 63 s ((o.ls.filter (mayO o now)).map (·.t)) :: OutA v { o with ls := o.ls.map (stepO o now) } :: L) w' → K (.tuple #[s, .int .i64 0]) w') : callP G31 [v, .int .i64 now] w K := by
  refine c31 ?_
  unfold F31 F31_1 F31_1b
  by_cases g1 : now < 0
  · have g1' : decide (now < 0) = true := by simpa using g1
    (repeat (first
 | (simp (disch := omega) only [evA, evB, evC, bAdd_i64, bSub_i64, g1'])
 | (with_reducible apply go_ld1 h)
 | ((with_reducible first | apply go_ldA h | apply go_rd h | apply go_rdN h | apply go_rlen h); rfl)
 | (with_reducible first | apply go_ldN h | apply go_lenL h)
 | ((with_reducible apply go_st h); intro _ h)
 | ((with_reducible apply go_stA h); rfl; rfl; (first | rfl | simp [OneV.o]); intro _ h)
 | ((with_reducible apply go_stN h); rfl; (first | rfl | simp [OneV.o]); intro _ h)
 | ((with_reducible apply go_box h); rfl; intro _ _ h)
 | ((with_reducible apply go_ix h); omega)
 | ((with_reducible first | apply go_elN h | apply go_f1 h | apply go_rf1 h | apply go_rel h); (case hi => omega); (try case hx => exact inferInstance); (try case hv => rfl))
 | ((with_reducible apply go_fa h); omega; omega)
))
    exact hK0 (by unfold timeP; simp; omega) _ h
  have g1' : decide (now < 0) = false := by simpa using g1
  by_cases g2 : now > 2305843009213693952
  · have g2' : decide (now > 2305843009213693952) = true := by simpa using g2
    (repeat (first
 | (simp (disch := omega) only [evA, evB, evC, bAdd_i64, bSub_i64, g1', g2'])
 | (with_reducible apply go_ld1 h)
 | ((with_reducible first | apply go_ldA h | apply go_rd h | apply go_rdN h | apply go_rlen h); rfl)
 | (with_reducible first | apply go_ldN h | apply go_lenL h)
 | ((with_reducible apply go_st h); intro _ h)
 | ((with_reducible apply go_stA h); rfl; rfl; (first | rfl | simp [OneV.o]); intro _ h)
 | ((with_reducible apply go_stN h); rfl; (first | rfl | simp [OneV.o]); intro _ h)
 | ((with_reducible apply go_box h); rfl; intro _ _ h)
 | ((with_reducible apply go_ix h); omega)
 | ((with_reducible first | apply go_elN h | apply go_f1 h | apply go_rf1 h | apply go_rel h); (case hi => omega); (try case hx => exact inferInstance); (try case hv => rfl))
 | ((with_reducible apply go_fa h); omega; omega)
))
    exact hK0 (by unfold timeP; simp; omega) _ h
  have g2' : decide (now > 2305843009213693952) = false := by simpa using g2
  have htp : timeP now = true := by unfold timeP; simp; omega
  (repeat (first
 | (simp (disch := omega) only [evA, evB, evC, bAdd_i64, bSub_i64, g1', g2'])
 | (with_reducible apply go_ld1 h)
 | ((with_reducible first | apply go_ldA h | apply go_rd h | apply go_rdN h | apply go_rlen h); rfl)
 | (with_reducible first | apply go_ldN h | apply go_lenL h)
 | ((with_reducible apply go_st h); intro _ h)
 | ((with_reducible apply go_stA h); rfl; rfl; (first | rfl | simp [OneV.o]); intro _ h)
 | ((with_reducible apply go_stN h); rfl; (first | rfl | simp [OneV.o]); intro _ h)
 | ((with_reducible apply go_box h); rfl; intro _ _ h)
 | ((with_reducible apply go_ix h); omega)
 | ((with_reducible first | apply go_elN h | apply go_f1 h | apply go_rf1 h | apply go_rel h); (case hi => omega); (try case hx => exact inferInstance); (try case hv => rfl))
 | ((with_reducible apply go_fa h); omega; omega)
))
  have oka := dueO_ok (outA_ok h) (now := now)
  unfold dueO at oka
  rw [if_neg (by rw [htp]; simp)] at oka
  refine onums_spec h fun nv w h => ?_
  obtain ⟨p, m, M, rfl, H, ok, h2⟩ := outA_open (h.frt (A := OutA v o))
  clear h
  have h := h2
  clear h2
  (repeat (first
 | (simp (disch := omega) only [evA, evB, evC, bAdd_i64, bSub_i64])
 | (with_reducible apply go_ld1 h)
 | ((with_reducible first | apply go_ldA h | apply go_rd h | apply go_rdN h | apply go_rlen h); rfl)
 | (with_reducible first | apply go_ldN h | apply go_lenL h)
 | ((with_reducible apply go_st h); intro _ h)
 | ((with_reducible apply go_stA h); rfl; rfl; (first | rfl | simp [OneV.o]); intro _ h)
 | ((with_reducible apply go_stN h); rfl; (first | rfl | simp [OneV.o]); intro _ h)
 | ((with_reducible apply go_box h); rfl; intro _ _ h)
 | ((with_reducible apply go_ix h); omega)
 | ((with_reducible first | apply go_elN h | apply go_f1 h | apply go_rf1 h | apply go_rel h); (case hi => omega); (try case hx => exact inferInstance); (try case hv => rfl))
 | ((with_reducible apply go_fa h); omega; omega)
))
  rw [List.length_map]
  unfold F31_2
  have h := Sat.nilLs cTk 13 63 h
  exact odue_loop (by omega) ok oka (hK1 htp) fuel 0 _ M _ (by have := ok.len; have := ok.most; unfold fuel; omega) (by omega) (by simpa using H) h
end
end Go.Proofs.Gong

/- Ob4 -/
namespace Go.Proofs.Gong
open Go Go.Sx Go.Proofs
set_option maxRecDepth 100000
theorem tdiv50 {n : Int} (hn : -9223372036854775808 ≤ n ∧ n ≤ 9223372036854775807) : -9223372036854775808 ≤ n.tdiv 50 ∧ n.tdiv 50 ≤ 9223372036854775807 := by
  have e := Int.mul_tdiv_add_tmod n 50
  have h1 := Int.tmod_lt_of_pos n (b := 50) (by decide)
  have h2 := Int.lt_tmod_of_pos n (b := 50) (by decide)
  omega
attribute [local irreducible] fBuild fLook fZero eqv bEqv Cl MapH LsH SlH ld1 ldN st callP eBox eAlloc lenM lenL eMapSet eDelete eAppend eBuildSl eRange eNext
section
variable {w0 w : World} {L : List HP} {K : Value → World → Prop} {v : Value} {o : Ob} {n now : Int} {M : LMap}
theorem orow_spec (hn : -9223372036854775808 ≤ n ∧ n ≤ 9223372036854775807) (h : Sat w0 L w) (hK : ∀ w', Sat w0 L w' → K (rowV (rowO n)) w') : callP G29 [.int .i64 n] w K := by
  refine c29 ?_
  unfold F29
  have zRo : fZero Try.prog 55 = some (rowV zeroTk.r) := z55
  refine go_alloc h zRo rfl fun q _ h => ?_
  refine Below_spec (by decide) (by decide) fun r h1 h2 er => ?_
  have e1 : fBuild Try.prog 53 [(0, .string ⟨#[110]⟩), (1, .string ⟨#[99]⟩), (3, .int .i64 3)] = some (.agg (cEv evO1).toArray) := by kernel_rfl
  have hq := tdiv50 hn
  have e2 : bQuo (.int .i64 n) (.int .i64 50) = some (.int .i64 (n.tdiv 50)) := by rw [bQuo_int _ _ _ (by decide), wrap_id (by omega)]
  (repeat (first
 | (simp (disch := omega) only [evA, evB, evC, bAdd_i64, bSub_i64])
 | (refine go_some (e1 ..) ?_)
 | (refine go_some (e2 ..) ?_)
 | (with_reducible apply go_ld1 h)
 | ((with_reducible first | apply go_ldA h | apply go_rd h | apply go_rdN h | apply go_rlen h); rfl)
 | (with_reducible first | apply go_ldN h | apply go_lenL h)
 | ((with_reducible apply go_st h); intro _ h)
 | ((with_reducible apply go_stA h); rfl; rfl; (first | rfl | simp [OneV.o]); intro _ h)
 | ((with_reducible apply go_stN h); rfl; (first | rfl | simp [OneV.o]); intro _ h)
 | ((with_reducible apply go_box h); rfl; intro _ _ h)
 | ((with_reducible apply go_ix h); omega)
 | ((with_reducible first | apply go_elN h | apply go_f1 h | apply go_rf1 h | apply go_rel h); (case hi => omega); (try case hx => exact inferInstance); (try case hv => rfl))
 | ((with_reducible apply go_fa h); omega; omega)
))
  refine Below_spec (by decide) (by decide) fun s h3 h4 es => ?_
  have e3 : fBuild Try.prog 55 [(0, .int .i64 (1 + r)), (1, .agg (cEv evO1).toArray), (2, .int .i64 (1 + s))] = some (rowV (rowO n)) := by
    rw [er, es]; kernel_rfl
  (repeat (first
 | (simp (disch := omega) only [evA, evB, evC, bAdd_i64, bSub_i64])
 | (refine go_some (e3 ..) ?_)
 | (with_reducible apply go_ld1 h)
 | ((with_reducible first | apply go_ldA h | apply go_rd h | apply go_rdN h | apply go_rlen h); rfl)
 | (with_reducible first | apply go_ldN h | apply go_lenL h)
 | ((with_reducible apply go_st h); intro _ h)
 | ((with_reducible apply go_stA h); rfl; rfl; (first | rfl | simp [OneV.o]); intro _ h)
 | ((with_reducible apply go_stN h); rfl; (first | rfl | simp [OneV.o]); intro _ h)
 | ((with_reducible apply go_box h); rfl; intro _ _ h)
 | ((with_reducible apply go_ix h); omega)
 | ((with_reducible first | apply go_elN h | apply go_f1 h | apply go_rf1 h | apply go_rel h); (case hi => omega); (try case hx => exact inferInstance); (try case hv => rfl))
 | ((with_reducible apply go_fa h); omega; omega)
))
  exact hK _ (h.got)
end
end Go.Proofs.Gong

/- Ob5 -/
namespace Go.Proofs.Gong
open Go Go.Sx Go.Proofs
set_option maxRecDepth 100000
theorem neTk' (x y : Operand) (a : Tk) : bNe Try.prog 63 x y (tkV a) (tkV a) = some (.bool false) := by
  rw [ne63]; simp [bs_sEq]
def wTk : Tk := ⟨1, 1, rowO 1⟩
def wO (s : Nat) (a : Int) : Ob := ⟨5, 1000000000, 4000000000, 1, 0, 1, [⟨wTk, s, a⟩]⟩
theorem w_put : putO 1 (rowO 1) (newO 5 1000000000 4000000000) = ((1, 0), ⟨5, 1000000000, 4000000000, 1, 0, 0, [⟨wTk, 0, 0⟩]⟩) := by
  unfold putO newO
  rw [okR_O]
  rfl
theorem w_mark : markO 1 ⟨5, 1000000000, 4000000000, 1, 0, 0, [⟨wTk, 0, 0⟩]⟩ = (0, wO 0 0) := by
  unfold markO
  rw [if_neg (by simp)]
  rfl
theorem w_no {s : Nat} {a now : Int} (h : now < a) : ((wO s a).ls.filter (mayO (wO s a) now)).map (·.t) = [] ∧ ({ wO s a with ls := (wO s a).ls.map (stepO (wO s a) now) } : Ob) = wO s a := by
  have hm : mayO (wO s a) now ⟨wTk, s, a⟩ = false := by unfold mayO; simp [h]
  constructor
  · show ([⟨wTk, s, a⟩].filter (mayO (wO s a) now)).map (·.t) = _
    simp only [List.filter_cons, List.filter_nil, hm]
    rfl
  · show Ob.mk _ _ _ _ _ _ ([⟨wTk, s, a⟩].map (stepO (wO s a) now)) = _
    simp only [List.map_cons, List.map_nil, stepO, hm]
    rfl
theorem w_yes {s : Nat} {a now : Int} (h : a ≤ now) : ((wO s a).ls.filter (mayO (wO s a) now)).map (·.t) = [wTk] ∧
    ({ wO s a with ls := (wO s a).ls.map (stepO (wO s a) now) } : Ob) = wO (s + 1) (min (now + pauseN 1000000000 4000000000 s) 2305843009213693952) := by
  have hm : mayO (wO s a) now ⟨wTk, s, a⟩ = true := by unfold mayO; simp [wO, wTk]; omega
  constructor
  · show ([⟨wTk, s, a⟩].filter (mayO (wO s a) now)).map (·.t) = _
    simp only [List.filter_cons, List.filter_nil, hm, if_true]
    rfl
  · show Ob.mk _ _ _ _ _ _ ([⟨wTk, s, a⟩].map (stepO (wO s a) now)) = _
    simp only [List.map_cons, List.map_nil, stepO, hm]
    rfl
abbrev wGaps : List Int := [0, 1, 2, 4, 4]
attribute [local irreducible] fBuild fLook fZero eqv bEqv Cl MapH LsH SlH ld1 ldN st callP eBox eAlloc lenM lenL eMapSet eDelete eAppend eBuildSl eRange eNext
section
variable {w0 w : World} {L : List HP} {K : Value → World → Prop} {v : Value} {o : Ob} {n now : Int} {M : LMap}
theorem works24_round {p k i s : Nat} {nv : Value} {t a : Int} (hi : i < wGaps.length) (ha : 0 < a ∧ a ≤ 1000000000000) (ht : 0 ≤ t) (hg : t + wGaps[i] * 1000000000 = a) (hw : wGaps[i] * 1000000000 ≤ 10000000000 ∧ 0 ≤ wGaps[i] * 1000000000) (h : Sat w0 (LsH cI 1 3 nv wGaps :: OutA (ptr p) (wO s a) :: L) w)
    (hE : ∀ w', Sat w0 (LsH cI 1 3 nv wGaps :: OutA (ptr p) (wO (s + 1) (min (a + pauseN 1000000000 4000000000 s) 2305843009213693952)) :: L) w' → F27_2L k (ptr p) (.int .i64 a) nv (.int .i64 5) (.int .i64 ((i + 1 : Nat) : Int)) w' K) :
    F27_2L (k + 1) (ptr p) (.int .i64 t) nv (.int .i64 5) (.int .i64 (i : Nat)) w K := by
  rw [F27_2L]
  unfold F27_2b
  have hi5 : i < 5 := hi
  have g' : decide ((i : Int) < 5) = true := by simp; omega
  have emul : bMul (.int .i64 wGaps[i]) (.int .i64 1000000000) = some (.int .i64 (wGaps[i] * 1000000000)) := by rw [bMul_int, wrap_id (by omega)]
  have ga : decide (a > 0) = true := by simp; omega
  (repeat (first
 | (simp (disch := omega) only [evA, evB, evC, bAdd_i64, bSub_i64, g', emul, hg])
 | (with_reducible apply go_ld1 h)
 | ((with_reducible first | apply go_ldA h | apply go_rd h | apply go_rdN h); rfl)
 | (with_reducible first | apply go_ldN h | apply go_lenR h)
 | ((with_reducible apply go_st h); intro _ h)
 | ((with_reducible apply go_stA h); rfl; rfl; (first | rfl | simp [OneV.o]); intro _ h)
 | ((with_reducible apply go_stN h); rfl; (first | rfl | simp [OneV.o]); intro _ h)
 | ((with_reducible apply go_box h); rfl; intro _ _ h)
 | ((with_reducible apply go_ixR h); omega)
 | ((with_reducible first | apply go_elR h | apply go_f1R h | apply go_rf1R h | apply go_relR h | apply go_e1R h | apply go_re1R h); (case hc => exact inferInstance); (case hi => omega); (try case hx => exact inferInstance); (try case hv => rfl))
 | ((with_reducible apply go_fNR h); (case hc => exact inferInstance); (case hi => omega); (try case hp => exact inferInstance); (try case hv => rfl))
 | ((with_reducible apply go_faR h); (case hc => exact inferInstance); omega; omega)
 | ((with_reducible apply go_rlenR h); rfl)
))
  refine odue_spec (v := ptr p) (o := wO s a) (now := a - 1) (h.frt (A := OutA (ptr p) (wO s a))) (fun ht => ?_) (fun _ s1 w h => ?_)
  · exfalso; unfold timeP at ht; simp at ht; omega
  obtain ⟨e1, e2⟩ := w_no (s := s) (a := a) (now := a - 1) (by omega)
  rw [e1, e2] at h
  (repeat (first
 | (simp (disch := omega) only [evA, evB, evC, bAdd_i64, bSub_i64])
 | (with_reducible apply go_ld1 h)
 | ((with_reducible first | apply go_ldA h | apply go_rd h | apply go_rdN h | apply go_rlen h); rfl)
 | (with_reducible first | apply go_ldN h | apply go_lenL h)
 | ((with_reducible apply go_st h); intro _ h)
 | ((with_reducible apply go_stA h); rfl; rfl; (first | rfl | simp [OneV.o]); intro _ h)
 | ((with_reducible apply go_stN h); rfl; (first | rfl | simp [OneV.o]); intro _ h)
 | ((with_reducible apply go_box h); rfl; intro _ _ h)
 | ((with_reducible apply go_ix h); omega)
 | ((with_reducible first | apply go_elN h | apply go_f1 h | apply go_rf1 h | apply go_rel h); (case hi => omega); (try case hx => exact inferInstance); (try case hv => rfl))
 | ((with_reducible apply go_fa h); omega; omega)
))
  refine odue_spec (v := ptr p) (o := wO s a) (now := a) (h.frt (A := OutA (ptr p) (wO s a))) (fun ht => ?_) (fun _ s2 w h => ?_)
  · exfalso; unfold timeP at ht; simp at ht; omega
  obtain ⟨e1, e2⟩ := w_yes (s := s) (a := a) (now := a) (by omega)
  rw [e1, e2] at h
  have l0 : ((([] : List Tk).length : Nat) : Int) = 0 := rfl
  have l1 : ((([wTk] : List Tk).length : Nat) : Int) = 1 := rfl
  (repeat (first
 | (simp (disch := omega) only [evA, evB, evC, bAdd_i64, bSub_i64, ga, l0, l1, Int.reduceEq])
 | (with_reducible apply go_ld1 h)
 | ((with_reducible first | apply go_ldA h | apply go_rd h | apply go_rdN h | apply go_rlen h); rfl)
 | (with_reducible first | apply go_ldN h | apply go_lenL h)
 | ((with_reducible apply go_st h); intro _ h)
 | ((with_reducible apply go_stA h); rfl; rfl; (first | rfl | simp [OneV.o]); intro _ h)
 | ((with_reducible apply go_stN h); rfl; (first | rfl | simp [OneV.o]); intro _ h)
 | ((with_reducible apply go_box h); rfl; intro _ _ h)
 | ((with_reducible apply go_ix h); omega)
 | ((with_reducible first | apply go_elN h | apply go_f1 h | apply go_rf1 h | apply go_rel h); (case hi => omega); (try case hx => exact inferInstance); (try case hv => rfl))
 | ((with_reducible apply go_fa h); omega; omega)
))
  exact hE _ (h.got)
theorem works24_spec (h : Sat w0 L w) (hK : ∀ w', Sat w0 L w' → K (.bool true) w') : callP G27 [] w K := by
  refine c27 ?_
  unfold F27 F27_1 F27_1b
  refine onew_spec (m := 5) (b := 1000000000) (t := 4000000000) (by omega) (by omega) h fun p w h => ?_
  (repeat (first
 | (simp (disch := omega) only [evA, evB, evC, bAdd_i64, bSub_i64, Int.reduceEq])
 | (refine go_some (bEq_nilp up48   ..) ?_)
 | (with_reducible apply go_ld1 h)
 | ((with_reducible first | apply go_ldA h | apply go_rd h | apply go_rdN h | apply go_rlen h); rfl)
 | (with_reducible first | apply go_ldN h | apply go_lenL h)
 | ((with_reducible apply go_st h); intro _ h)
 | ((with_reducible apply go_stA h); rfl; rfl; (first | rfl | simp [OneV.o]); intro _ h)
 | ((with_reducible apply go_stN h); rfl; (first | rfl | simp [OneV.o]); intro _ h)
 | ((with_reducible apply go_box h); rfl; intro _ _ h)
 | ((with_reducible apply go_ix h); omega)
 | ((with_reducible first | apply go_elN h | apply go_f1 h | apply go_rf1 h | apply go_rel h); (case hi => omega); (try case hx => exact inferInstance); (try case hv => rfl))
 | ((with_reducible apply go_fa h); omega; omega)
))
  refine orow_spec (n := 1) (by omega) h fun w h => ?_
  refine oput_spec (v := ptr p) (what := 1) (r := rowO 1) (o := newO 5 1000000000 4000000000) (by simp [newO]) (by simp [newO]) (rowO_fits 1).1 (rowO_fits 1).2 h fun w h => ?_
  rw [w_put] at h ⊢
  (repeat (first
 | (simp (disch := omega) only [evA, evB, evC, bAdd_i64, bSub_i64, Int.reduceEq])
 | (with_reducible apply go_ld1 h)
 | ((with_reducible first | apply go_ldA h | apply go_rd h | apply go_rdN h | apply go_rlen h); rfl)
 | (with_reducible first | apply go_ldN h | apply go_lenL h)
 | ((with_reducible apply go_st h); intro _ h)
 | ((with_reducible apply go_stA h); rfl; rfl; (first | rfl | simp [OneV.o]); intro _ h)
 | ((with_reducible apply go_stN h); rfl; (first | rfl | simp [OneV.o]); intro _ h)
 | ((with_reducible apply go_box h); rfl; intro _ _ h)
 | ((with_reducible apply go_ix h); omega)
 | ((with_reducible first | apply go_elN h | apply go_f1 h | apply go_rf1 h | apply go_rel h); (case hi => omega); (try case hx => exact inferInstance); (try case hv => rfl))
 | ((with_reducible apply go_fa h); omega; omega)
))
  refine omark_spec (v := ptr p) (n := 1) h fun w h => ?_
  rw [w_mark] at h ⊢
  (repeat (first
 | (simp (disch := omega) only [evA, evB, evC, bAdd_i64, bSub_i64, Int.reduceEq])
 | (with_reducible apply go_ld1 h)
 | ((with_reducible first | apply go_ldA h | apply go_rd h | apply go_rdN h | apply go_rlen h); rfl)
 | (with_reducible first | apply go_ldN h | apply go_lenL h)
 | ((with_reducible apply go_st h); intro _ h)
 | ((with_reducible apply go_stA h); rfl; rfl; (first | rfl | simp [OneV.o]); intro _ h)
 | ((with_reducible apply go_stN h); rfl; (first | rfl | simp [OneV.o]); intro _ h)
 | ((with_reducible apply go_box h); rfl; intro _ _ h)
 | ((with_reducible apply go_ix h); omega)
 | ((with_reducible first | apply go_elN h | apply go_f1 h | apply go_rf1 h | apply go_rel h); (case hi => omega); (try case hx => exact inferInstance); (try case hv => rfl))
 | ((with_reducible apply go_fa h); omega; omega)
))
  refine ls_lit (m := wGaps) (f := cI) (es := 1) (c := #[.int .i64 0, .int .i64 1, .int .i64 2, .int .i64 4, .int .i64 4]) CI h u22 (by kernel_rfl) rfl fun nv w h => ?_
  have l5 : ((wGaps.length : Nat) : Int) = 5 := rfl
  (repeat (first
 | (simp (disch := omega) only [evA, evB, evC, bAdd_i64, bSub_i64, l5])
 | (with_reducible apply go_ld1 h)
 | ((with_reducible first | apply go_ldA h | apply go_rd h | apply go_rdN h | apply go_rlen h); rfl)
 | (with_reducible first | apply go_ldN h | apply go_lenL h)
 | ((with_reducible apply go_st h); intro _ h)
 | ((with_reducible apply go_stA h); rfl; rfl; (first | rfl | simp [OneV.o]); intro _ h)
 | ((with_reducible apply go_stN h); rfl; (first | rfl | simp [OneV.o]); intro _ h)
 | ((with_reducible apply go_box h); rfl; intro _ _ h)
 | ((with_reducible apply go_ix h); omega)
 | ((with_reducible first | apply go_elN h | apply go_f1 h | apply go_rf1 h | apply go_rel h); (case hi => omega); (try case hx => exact inferInstance); (try case hv => rfl))
 | ((with_reducible apply go_fa h); omega; omega)
))
  unfold F27_2
  show F27_2L ((fuel - 6) + 1 + 1 + 1 + 1 + 1 + 1) _ _ _ _ (.int .i64 ((0 : Nat) : Int)) _ _
  have first : ∀ w', Sat w0 (LsH cI 1 3 nv wGaps :: OutA (ptr p) (wO 1 1000000000) :: L) w' → F27_2L ((fuel - 6) + 1 + 1 + 1 + 1 + 1) (ptr p) (.int .i64 0) nv (.int .i64 5) (.int .i64 ((0 + 1 : Nat) : Int)) w' K := by
    intro w h
    refine works24_round (i := 1) (s := 1) (t := 0) (a := 1000000000) (by decide) (by decide) (by decide) (by decide) (by decide) h fun w h => ?_
    rw [show min ((1000000000 : Int) + pauseN 1000000000 4000000000 1) 2305843009213693952 = 3000000000 from by decide] at h
    refine works24_round (i := 2) (s := 2) (t := 1000000000) (a := 3000000000) (by decide) (by decide) (by decide) (by decide) (by decide) h fun w h => ?_
    rw [show min ((3000000000 : Int) + pauseN 1000000000 4000000000 2) 2305843009213693952 = 7000000000 from by decide] at h
    refine works24_round (i := 3) (s := 3) (t := 3000000000) (a := 7000000000) (by decide) (by decide) (by decide) (by decide) (by decide) h fun w h => ?_
    rw [show min ((7000000000 : Int) + pauseN 1000000000 4000000000 3) 2305843009213693952 = 11000000000 from by decide] at h
    refine works24_round (i := 4) (s := 4) (t := 7000000000) (a := 11000000000) (by decide) (by decide) (by decide) (by decide) (by decide) h fun w h => ?_
    rw [F27_2L]
    unfold F27_2b
    (repeat (first
 | (simp (disch := omega) only [evA, evB, evC, bAdd_i64, bSub_i64, Int.reduceLT, Int.cast_ofNat_Int, Nat.reduceAdd])
 | (with_reducible apply go_ld1 h)
 | ((with_reducible first | apply go_ldA h | apply go_rd h | apply go_rdN h | apply go_rlen h); rfl)
 | (with_reducible first | apply go_ldN h | apply go_lenL h)
 | ((with_reducible apply go_st h); intro _ h)
 | ((with_reducible apply go_stA h); rfl; rfl; (first | rfl | simp [OneV.o]); intro _ h)
 | ((with_reducible apply go_stN h); rfl; (first | rfl | simp [OneV.o]); intro _ h)
 | ((with_reducible apply go_box h); rfl; intro _ _ h)
 | ((with_reducible apply go_ix h); omega)
 | ((with_reducible first | apply go_elN h | apply go_f1 h | apply go_rf1 h | apply go_rel h); (case hi => omega); (try case hx => exact inferInstance); (try case hv => rfl))
 | ((with_reducible apply go_fa h); omega; omega)
))
    unfold F27_3 F27_3b
    exact hK _ (h.got)
  rw [F27_2L]
  unfold F27_2b
  have g0 : decide (((0 : Nat) : Int) < 5) = true := by decide
  have z0 : wGaps[0] = 0 := rfl
  have m0 : bMul (.int .i64 0) (.int .i64 1000000000) = some (.int .i64 0) := by rw [bMul_int, wrap_id (by omega)]; rfl
  have m1 : bAdd (.int .i64 0) (.int .i64 0) = some (.int .i64 0) := by rw [bAdd_int, wrap_id (by omega)]; rfl
  have m2 : bSub (.int .i64 0) (.int .i64 1) = some (.int .i64 (-1)) := by rw [bSub_int, wrap_id (by omega)]; rfl
  (repeat (first
 | (simp (disch := omega) only [evA, evB, evC, bAdd_i64, bSub_i64, g0, z0, m0, m1, m2])
 | (with_reducible apply go_ld1 h)
 | ((with_reducible first | apply go_ldA h | apply go_rd h | apply go_rdN h); rfl)
 | (with_reducible first | apply go_ldN h | apply go_lenR h)
 | ((with_reducible apply go_st h); intro _ h)
 | ((with_reducible apply go_stA h); rfl; rfl; (first | rfl | simp [OneV.o]); intro _ h)
 | ((with_reducible apply go_stN h); rfl; (first | rfl | simp [OneV.o]); intro _ h)
 | ((with_reducible apply go_box h); rfl; intro _ _ h)
 | ((with_reducible apply go_ixR h); omega)
 | ((with_reducible first | apply go_elR h | apply go_f1R h | apply go_rf1R h | apply go_relR h | apply go_e1R h | apply go_re1R h); (case hc => exact inferInstance); (case hi => omega); (try case hx => exact inferInstance); (try case hv => rfl))
 | ((with_reducible apply go_fNR h); (case hc => exact inferInstance); (case hi => omega); (try case hp => exact inferInstance); (try case hv => rfl))
 | ((with_reducible apply go_faR h); (case hc => exact inferInstance); omega; omega)
 | ((with_reducible apply go_rlenR h); rfl)
))
  refine odue_spec (v := ptr p) (o := wO 0 0) (now := -1) (h.frt (A := OutA (ptr p) (wO 0 0))) (fun _ w h => ?_) (fun ht => ?_)
  case refine_2 => exfalso; unfold timeP at ht; simp at ht
  (repeat (first
 | (simp (disch := omega) only [evA, evB, evC, bAdd_i64, bSub_i64])
 | (with_reducible apply go_ld1 h)
 | ((with_reducible first | apply go_ldA h | apply go_rd h | apply go_rdN h | apply go_rlen h); rfl)
 | (with_reducible first | apply go_ldN h | apply go_lenL h)
 | ((with_reducible apply go_st h); intro _ h)
 | ((with_reducible apply go_stA h); rfl; rfl; (first | rfl | simp [OneV.o]); intro _ h)
 | ((with_reducible apply go_stN h); rfl; (first | rfl | simp [OneV.o]); intro _ h)
 | ((with_reducible apply go_box h); rfl; intro _ _ h)
 | ((with_reducible apply go_ix h); omega)
 | ((with_reducible first | apply go_elN h | apply go_f1 h | apply go_rf1 h | apply go_rel h); (case hi => omega); (try case hx => exact inferInstance); (try case hv => rfl))
 | ((with_reducible apply go_fa h); omega; omega)
))
  refine odue_spec (v := ptr p) (o := wO 0 0) (now := 0) (h.frt (A := OutA (ptr p) (wO 0 0))) (fun ht => ?_) (fun _ s2 w h => ?_)
  · exfalso; unfold timeP at ht; simp at ht
  obtain ⟨e1, e2⟩ := w_yes (s := 0) (a := 0) (now := 0) (by omega)
  rw [e1, e2, show min ((0 : Int) + pauseN 1000000000 4000000000 0) 2305843009213693952 = 1000000000 from by decide] at h
  have l1 : ((([wTk] : List Tk).length : Nat) : Int) = 1 := rfl
  have ga : decide ((0 : Int) > 0) = false := by decide
  (repeat (first
 | (simp (disch := omega) only [evA, evB, evC, bAdd_i64, bSub_i64, ga, l1, Int.reduceEq])
 | (with_reducible apply go_ld1 h)
 | ((with_reducible first | apply go_ldA h | apply go_rd h | apply go_rdN h | apply go_rlen h); rfl)
 | (with_reducible first | apply go_ldN h | apply go_lenL h)
 | ((with_reducible apply go_st h); intro _ h)
 | ((with_reducible apply go_stA h); rfl; rfl; (first | rfl | simp [OneV.o]); intro _ h)
 | ((with_reducible apply go_stN h); rfl; (first | rfl | simp [OneV.o]); intro _ h)
 | ((with_reducible apply go_box h); rfl; intro _ _ h)
 | ((with_reducible apply go_ix h); omega)
 | ((with_reducible first | apply go_elN h | apply go_f1 h | apply go_rf1 h | apply go_rel h); (case hi => omega); (try case hx => exact inferInstance); (try case hv => rfl))
 | ((with_reducible apply go_fa h); omega; omega)
))
  exact first _ (h.got)
end
end Go.Proofs.Gong

/- Ob6 -/
namespace Go.Proofs.Gong
open Go Go.Sx Go.Proofs
set_option maxRecDepth 100000
theorem bNe_bo (x y : Operand) (a c : Bool) : bNe Try.prog 4 x y (.bool a) (.bool c) = some (.bool (!(a == c))) := bNe_bool (by kernel_rfl) a c
attribute [local irreducible] fBuild fLook fZero eqv bEqv Cl MapH LsH SlH ld1 ldN st callP eBox eAlloc lenM lenL eMapSet eDelete eAppend eBuildSl eRange eNext
section
variable {w0 w : World} {L : List HP} {K : Value → World → Prop} {s0 s1 s2 s9 : Value} {gaps : List Int} {p many mark : Nat}
end
theorem fit_intA {W : World} {B : Nat} {c : List Value} (h : FitL2 W B [.int .i64] c) : ∃ n : Int, c = cI n ∧ -9223372036854775808 ≤ n ∧ n ≤ 9223372036854775807 := by
  obtain ⟨n, vs, rfl, b, h2⟩ := fitL2_int h
  rw [fitL2_nil h2]
  simp [Lit.wf, IntKind.min, IntKind.max, IntKind.signed, IntKind.bits] at b
  exact ⟨n, rfl, by omega⟩
end Go.Proofs.Gong

/- Ob7 -/
namespace Go.Proofs.Gong
open Go Go.Sx Go.Proofs
set_option maxRecDepth 100000
theorem zTko : fZero Try.prog 63 = some (tkV zeroTk) := z63
abbrev TMap := List (Int × Tk)
abbrev lT (x : Ltr) : Tk := x.t
theorem elimTk {q : Option Tk} : q.elim (tkV zeroTk) tkV = tkV (q.getD zeroTk) := by cases q <;> rfl
structure Six (i : Nat) (o : Ob) : Prop where
  most : o.most = 6
  last : 0 ≤ o.last ∧ o.last ≤ i
  refused : 0 ≤ o.refused ∧ o.refused ≤ i
theorem tdiv3 {n : Int} (hn : -9223372036854775808 ≤ n ∧ n ≤ 9223372036854775807) : -9223372036854775808 ≤ n.tdiv 3 ∧ n.tdiv 3 ≤ 9223372036854775807 := by
  have e := Int.mul_tdiv_add_tmod n 3
  have h1 := Int.tmod_lt_of_pos n (b := 3) (by decide)
  have h2 := Int.lt_tmod_of_pos n (b := 3) (by decide)
  omega
attribute [local irreducible] fBuild fLook fZero eqv bEqv Cl MapH LsH SlH ld1 ldN st callP eBox eAlloc lenM lenL eMapSet eDelete eAppend eBuildSl eRange eNext
section
variable {w0 w : World} {L : List HP} {K : Value → World → Prop} {s0 s6 s7 s8 : Value} {l : List Int} {p : Nat} {o : Ob} {mv : Value} {T : TMap}
theorem stays_check {sa : Value} {R3 : Value → Value → Value → Value → Value → Value → World → Prop} (H : KInv ltI lKey lT T o.ls) (ok : OOk o) (h6 : o.ls.length ≤ 6)
    (hE : ∀ w', Sat w0 (LsH cTk 13 63 sa (allO o) :: MapH kO tkV mv T :: L) w' → F7_6 s0 (ptr p) mv s6 s7 s8 w' K R3) :
    ∀ (k i : Nat) (w : World), o.ls.length - i < k → i ≤ o.ls.length → Sat w0 (LsH cTk 13 63 sa (allO o) :: MapH kO tkV mv T :: L) w →
      F7_9L k s0 (ptr p) mv s6 s7 s8 sa sa (.int .i64 (o.ls.length : Nat)) (.int .i64 (i : Nat)) w K R3 := by
  intro k
  induction k with
  | zero => intro i w hd; omega
  | succ k ih =>
    intro i w hd hi h
    rw [F7_9L]
    unfold F7_9b
    have hal : (allO o).length = o.ls.length := by unfold allO; simp
    by_cases g : i < o.ls.length
    · have g' : decide ((i : Int) < (o.ls.length : Int)) = true := by simpa using g
      have hil : i < (allO o).length := by omega
      have et : (allO o)[i] = o.ls[i].t := List.getElem_map _
      have hget : aGet o.ls[i].t.seq T = some o.ls[i].t := by
        rw [show aGet o.ls[i].t.seq T = _ from H.get STO.int _, show kGet lKey o.ls[i].t.seq _ = some o.ls[i] from kGet_of STO.int ok.asc (List.getElem_mem g)]
        rfl
      obtain ⟨t, ht⟩ : ∃ t, o.ls[i].t = t := ⟨_, rfl⟩
      rw [ht] at hget et
      (repeat (first
 | (simp (disch := omega) only [evA, evB, evC, bAdd_i64, bSub_i64, g', et])
 | (with_reducible apply go_ld1 h)
 | ((with_reducible first | apply go_ldA h | apply go_rd h | apply go_rdN h | apply go_rlen h); rfl)
 | (with_reducible first | apply go_ldN h | apply go_lenL h)
 | ((with_reducible apply go_st h); intro _ h)
 | ((with_reducible apply go_stA h); rfl; rfl; (first | rfl | simp [OneV.o]); intro _ h)
 | ((with_reducible apply go_stN h); rfl; (first | rfl | simp [OneV.o]); intro _ h)
 | ((with_reducible apply go_box h); rfl; intro _ _ h)
 | ((with_reducible apply go_ix h); omega)
 | ((with_reducible first | apply go_elN h | apply go_f1 h | apply go_rf1 h | apply go_rel h); (case hi => omega); (try case hx => exact inferInstance); (try case hv => rfl))
 | ((with_reducible apply go_fa h); omega; omega)
))
      refine go_alloc h zTko rfl fun q _ h => ?_
      (repeat (first
 | (simp (disch := omega) only [evA, evB, evC, bAdd_i64, bSub_i64, et])
 | (with_reducible apply go_ld1 h)
 | ((with_reducible first | apply go_ldA h | apply go_rd h | apply go_rdN h | apply go_rlen h); rfl)
 | (with_reducible first | apply go_ldN h | apply go_lenL h)
 | ((with_reducible apply go_st h); intro _ h)
 | ((with_reducible apply go_stA h); rfl; rfl; (first | rfl | simp [OneV.o]); intro _ h)
 | ((with_reducible apply go_stN h); rfl; (first | rfl | simp [OneV.o]); intro _ h)
 | ((with_reducible apply go_box h); rfl; intro _ _ h)
 | ((with_reducible apply go_ix h); omega)
 | ((with_reducible first | apply go_elN h | apply go_f1 h | apply go_rf1 h | apply go_rel h); (case hi => omega); (try case hx => exact inferInstance); (try case hv => rfl))
 | ((with_reducible apply go_fa h); omega; omega)
))
      refine go_look1 h (by repeat (first | exact .here | apply Fnt.there)) KIO um74 zTko t.seq ?_
      rw [hget]
      simp only [Option.elim_some]
      (repeat (first
 | (simp (disch := omega) only [evA, evB, evC, bAdd_i64, bSub_i64, neTk'])
 | (with_reducible apply go_ld1 h)
 | ((with_reducible first | apply go_ldA h | apply go_rd h | apply go_rdN h | apply go_rlen h); rfl)
 | (with_reducible first | apply go_ldN h | apply go_lenL h)
 | ((with_reducible apply go_st h); intro _ h)
 | ((with_reducible apply go_stA h); rfl; rfl; (first | rfl | simp [OneV.o]); intro _ h)
 | ((with_reducible apply go_stN h); rfl; (first | rfl | simp [OneV.o]); intro _ h)
 | ((with_reducible apply go_box h); rfl; intro _ _ h)
 | ((with_reducible apply go_ix h); omega)
 | ((with_reducible first | apply go_elN h | apply go_f1 h | apply go_rf1 h | apply go_rel h); (case hi => omega); (try case hx => exact inferInstance); (try case hv => rfl))
 | ((with_reducible apply go_fa h); omega; omega)
))
      cases i with
      | zero =>
        have g0 : decide (((0 : Nat) : Int) > 0) = false := by decide
        (repeat (first
 | (simp (disch := omega) only [evA, evB, evC, bAdd_i64, bSub_i64, g0])
 | (with_reducible apply go_ld1 h)
 | ((with_reducible first | apply go_ldA h | apply go_rd h | apply go_rdN h | apply go_rlen h); rfl)
 | (with_reducible first | apply go_ldN h | apply go_lenL h)
 | ((with_reducible apply go_st h); intro _ h)
 | ((with_reducible apply go_stA h); rfl; rfl; (first | rfl | simp [OneV.o]); intro _ h)
 | ((with_reducible apply go_stN h); rfl; (first | rfl | simp [OneV.o]); intro _ h)
 | ((with_reducible apply go_box h); rfl; intro _ _ h)
 | ((with_reducible apply go_ix h); omega)
 | ((with_reducible first | apply go_elN h | apply go_f1 h | apply go_rf1 h | apply go_rel h); (case hi => omega); (try case hx => exact inferInstance); (try case hv => rfl))
 | ((with_reducible apply go_fa h); omega; omega)
))
        exact ih (0 + 1) _ (by omega) (by omega) (h.drew.got)
      | succ j =>
        have g0 : decide (((j + 1 : Nat) : Int) > 0) = true := decide_eq_true (by omega)
        have ej : (((j + 1 : Nat) : Int)) - 1 = (j : Int) := by omega
        have hj : j < o.ls.length := by omega
        have hjl : j < (allO o).length := by omega
        have etj : (allO o)[j] = o.ls[j].t := List.getElem_map _
        have hasc : o.ls[j].t.seq < t.seq := by
          have := List.pairwise_iff_getElem.1 ok.asc j (j + 1) hj g (by omega)
          rw [← ht]
          simpa [ltI] using this
        have g9 : decide (o.ls[j].t.seq ≥ t.seq) = false := by simp; omega
        (repeat (first
 | (simp (disch := omega) only [evA, evB, evC, bAdd_i64, bSub_i64, g0, ej, etj, g9])
 | (with_reducible apply go_ld1 h)
 | ((with_reducible first | apply go_ldA h | apply go_rd h | apply go_rdN h | apply go_rlen h); rfl)
 | (with_reducible first | apply go_ldN h | apply go_lenL h)
 | ((with_reducible apply go_st h); intro _ h)
 | ((with_reducible apply go_stA h); rfl; rfl; (first | rfl | simp [OneV.o]); intro _ h)
 | ((with_reducible apply go_stN h); rfl; (first | rfl | simp [OneV.o]); intro _ h)
 | ((with_reducible apply go_box h); rfl; intro _ _ h)
 | ((with_reducible apply go_ix h); omega)
 | ((with_reducible first | apply go_elN h | apply go_f1 h | apply go_rf1 h | apply go_rel h); (case hi => omega); (try case hx => exact inferInstance); (try case hv => rfl))
 | ((with_reducible apply go_fa h); omega; omega)
))
        exact ih (j + 1 + 1) _ (by omega) (by omega) (h.drew.got)
    · have g' : decide ((i : Int) < (o.ls.length : Int)) = false := by simpa using g
      (repeat (first
 | (simp (disch := omega) only [evA, evB, evC, bAdd_i64, bSub_i64, g'])
 | (with_reducible apply go_ld1 h)
 | ((with_reducible first | apply go_ldA h | apply go_rd h | apply go_rdN h | apply go_rlen h); rfl)
 | (with_reducible first | apply go_ldN h | apply go_lenL h)
 | ((with_reducible apply go_st h); intro _ h)
 | ((with_reducible apply go_stA h); rfl; rfl; (first | rfl | simp [OneV.o]); intro _ h)
 | ((with_reducible apply go_stN h); rfl; (first | rfl | simp [OneV.o]); intro _ h)
 | ((with_reducible apply go_box h); rfl; intro _ _ h)
 | ((with_reducible apply go_ix h); omega)
 | ((with_reducible first | apply go_elN h | apply go_f1 h | apply go_rf1 h | apply go_rel h); (case hi => omega); (try case hx => exact inferInstance); (try case hv => rfl))
 | ((with_reducible apply go_fa h); omega; omega)
))
      exact hE _ h
theorem stays_all {i : Nat} {R3 : Value → Value → Value → Value → Value → Value → World → Prop} (H : KInv ltI lKey lT T o.ls) (S : Six i o)
    (hE : ∀ w', Sat w0 (OutA (ptr p) o :: MapH kO tkV mv T :: L) w' → F7_6 s0 (ptr p) mv (.int .i64 o.last) (.int .i64 o.refused) s8 w' K R3) (h : Sat w0 (OutA (ptr p) o :: MapH kO tkV mv T :: L) w) :
    F7_8 s0 (ptr p) mv (.int .i64 o.last) (.int .i64 o.refused) s8 w K R3 := by
  unfold F7_8 F7_8b
  have ok := outA_ok h
  have h6 : o.ls.length ≤ 6 := by have := ok.len; have := S.most; omega
  have hal : (((allO o).length : Nat) : Int) = (o.ls.length : Int) := by unfold allO; simp
  refine oall_spec h fun sa w h => ?_
  (repeat (first
 | (simp (disch := omega) only [evA, evB, evC, bAdd_i64, bSub_i64])
 | (with_reducible apply go_ld1 h)
 | ((with_reducible first | apply go_ldA h | apply go_rd h | apply go_rdN h | apply go_rlen h); rfl)
 | (with_reducible first | apply go_ldN h | apply go_lenL h)
 | ((with_reducible apply go_st h); intro _ h)
 | ((with_reducible apply go_stA h); rfl; rfl; (first | rfl | simp [OneV.o]); intro _ h)
 | ((with_reducible apply go_stN h); rfl; (first | rfl | simp [OneV.o]); intro _ h)
 | ((with_reducible apply go_box h); rfl; intro _ _ h)
 | ((with_reducible apply go_ix h); omega)
 | ((with_reducible first | apply go_elN h | apply go_f1 h | apply go_rf1 h | apply go_rel h); (case hi => omega); (try case hx => exact inferInstance); (try case hv => rfl))
 | ((with_reducible apply go_fa h); omega; omega)
))
  refine go_lenM h (by repeat (first | exact .here | apply Fnt.there)) ?_
  rw [H.len]
  (repeat (first
 | (simp (disch := omega) only [evA, evB, evC, bAdd_i64, bSub_i64, hal])
 | (with_reducible apply go_ld1 h)
 | ((with_reducible first | apply go_ldA h | apply go_rd h | apply go_rdN h | apply go_rlen h); rfl)
 | (with_reducible first | apply go_ldN h | apply go_lenL h)
 | ((with_reducible apply go_st h); intro _ h)
 | ((with_reducible apply go_stA h); rfl; rfl; (first | rfl | simp [OneV.o]); intro _ h)
 | ((with_reducible apply go_stN h); rfl; (first | rfl | simp [OneV.o]); intro _ h)
 | ((with_reducible apply go_box h); rfl; intro _ _ h)
 | ((with_reducible apply go_ix h); omega)
 | ((with_reducible first | apply go_elN h | apply go_f1 h | apply go_rf1 h | apply go_rel h); (case hi => omega); (try case hx => exact inferInstance); (try case hv => rfl))
 | ((with_reducible apply go_fa h); omega; omega)
))
  refine olast_spec (v := ptr p) (o := o) (h.frt (A := OutA (ptr p) o)) ?_
  (repeat (first
 | (simp (disch := omega) only [evA, evB, evC, bAdd_i64, bSub_i64])
 | (with_reducible apply go_ld1 h)
 | ((with_reducible first | apply go_ldA h | apply go_rd h | apply go_rdN h | apply go_rlen h); rfl)
 | (with_reducible first | apply go_ldN h | apply go_lenL h)
 | ((with_reducible apply go_st h); intro _ h)
 | ((with_reducible apply go_stA h); rfl; rfl; (first | rfl | simp [OneV.o]); intro _ h)
 | ((with_reducible apply go_stN h); rfl; (first | rfl | simp [OneV.o]); intro _ h)
 | ((with_reducible apply go_box h); rfl; intro _ _ h)
 | ((with_reducible apply go_ix h); omega)
 | ((with_reducible first | apply go_elN h | apply go_f1 h | apply go_rf1 h | apply go_rel h); (case hi => omega); (try case hx => exact inferInstance); (try case hv => rfl))
 | ((with_reducible apply go_fa h); omega; omega)
))
  refine orefused_spec (v := ptr p) (o := o) (h.frt (A := OutA (ptr p) o)) ?_
  (repeat (first
 | (simp (disch := omega) only [evA, evB, evC, bAdd_i64, bSub_i64, hal])
 | (with_reducible apply go_ld1 h)
 | ((with_reducible first | apply go_ldA h | apply go_rd h | apply go_rdN h | apply go_rlen h); rfl)
 | (with_reducible first | apply go_ldN h | apply go_lenL h)
 | ((with_reducible apply go_st h); intro _ h)
 | ((with_reducible apply go_stA h); rfl; rfl; (first | rfl | simp [OneV.o]); intro _ h)
 | ((with_reducible apply go_stN h); rfl; (first | rfl | simp [OneV.o]); intro _ h)
 | ((with_reducible apply go_box h); rfl; intro _ _ h)
 | ((with_reducible apply go_ix h); omega)
 | ((with_reducible first | apply go_elN h | apply go_f1 h | apply go_rf1 h | apply go_rel h); (case hi => omega); (try case hx => exact inferInstance); (try case hv => rfl))
 | ((with_reducible apply go_fa h); omega; omega)
))
  unfold F7_9
  exact stays_check (L := OutA (ptr p) o :: L) H ok h6 (fun w h => hE w (h.got)) fuel 0 w (by unfold fuel; omega) (by omega) (h.got)
theorem stays_step {i : Nat} {R3 : Value → Value → Value → Value → Value → Value → World → Prop} [hrd : RdIn w0 L s0 Int cI 1 l] (hi : i < l.length) (hi2 : i < 100) (hx : -9223372036854775808 ≤ l[i] ∧ l[i] ≤ 9223372036854775807) (H : KInv ltI lKey lT T o.ls) (S : Six i o)
    (hE : ∀ o' T' w', KInv ltI lKey lT T' o'.ls → Six (i + 1) o' → Sat w0 (OutA (ptr p) o' :: MapH kO tkV mv T' :: L) w' → F7_6 s0 (ptr p) mv (.int .i64 o'.last) (.int .i64 o'.refused) (.int .i64 i) w' K R3) (h : Sat w0 (OutA (ptr p) o :: MapH kO tkV mv T :: L) w) :
    F7_7 s0 (ptr p) mv (.int .i64 o.last) (.int .i64 o.refused) (.int .i64 (i : Nat)) w K R3 := by
  unfold F7_7 F7_7b
  have ok := outA_ok h
  have hlb := S.last
  have hrb := S.refused
  have hmo := S.most
  have hlen := ok.len
  have e1 : bRem (.int .i64 l[i]) (.int .i64 3) = some (.int .i64 (l[i].tmod 3)) := bRem_int _ _ _ (by decide)
  cases g : decide (l[i].tmod 3 = 0)
  case true =>
    have hq := tdiv3 hx
    have e2 : bQuo (.int .i64 l[i]) (.int .i64 3) = some (.int .i64 (l[i].tdiv 3)) := by rw [bQuo_int _ _ _ (by decide), wrap_id (by omega)]
    (repeat (first
 | (simp (disch := omega) only [evA, evB, evC, bAdd_i64, bSub_i64, g])
 | (refine go_some (e1 ..) ?_)
 | (refine go_some (e2 ..) ?_)
 | (with_reducible apply go_ld1 h)
 | ((with_reducible first | apply go_ldA h | apply go_rd h | apply go_rdN h); rfl)
 | (with_reducible first | apply go_ldN h | apply go_lenR h)
 | ((with_reducible apply go_st h); intro _ h)
 | ((with_reducible apply go_stA h); rfl; rfl; (first | rfl | simp [OneV.o]); intro _ h)
 | ((with_reducible apply go_stN h); rfl; (first | rfl | simp [OneV.o]); intro _ h)
 | ((with_reducible apply go_box h); rfl; intro _ _ h)
 | ((with_reducible apply go_ixR h); omega)
 | ((with_reducible first | apply go_elR h | apply go_f1R h | apply go_rf1R h | apply go_relR h | apply go_e1R h | apply go_re1R h); (case hc => exact inferInstance); (case hi => omega); (try case hx => exact inferInstance); (try case hv => rfl))
 | ((with_reducible apply go_fNR h); (case hc => exact inferInstance); (case hi => omega); (try case hp => exact inferInstance); (try case hv => rfl))
 | ((with_reducible apply go_faR h); (case hc => exact inferInstance); omega; omega)
 | ((with_reducible apply go_rlenR h); rfl)
))
    refine Below_spec (by omega) (by omega) fun n h1 h2 _ => ?_
    refine go_look2 h (by repeat (first | exact .here | apply Fnt.there)) KIO um74 zTko n ?_
    rw [elimTk]
    (repeat (first
 | (simp (disch := omega) only [evA, evB, evC, bAdd_i64, bSub_i64])
 | (with_reducible apply go_ld1 h)
 | ((with_reducible first | apply go_ldA h | apply go_rd h | apply go_rdN h | apply go_rlen h); rfl)
 | (with_reducible first | apply go_ldN h | apply go_lenL h)
 | ((with_reducible apply go_st h); intro _ h)
 | ((with_reducible apply go_stA h); rfl; rfl; (first | rfl | simp [OneV.o]); intro _ h)
 | ((with_reducible apply go_stN h); rfl; (first | rfl | simp [OneV.o]); intro _ h)
 | ((with_reducible apply go_box h); rfl; intro _ _ h)
 | ((with_reducible apply go_ix h); omega)
 | ((with_reducible first | apply go_elN h | apply go_f1 h | apply go_rf1 h | apply go_rel h); (case hi => omega); (try case hx => exact inferInstance); (try case hv => rfl))
 | ((with_reducible apply go_fa h); omega; omega)
))
    refine go_alloc h zTko rfl fun q _ h => ?_
    (repeat (first
 | (simp (disch := omega) only [evA, evB, evC, bAdd_i64, bSub_i64])
 | (with_reducible apply go_ld1 h)
 | ((with_reducible first | apply go_ldA h | apply go_rd h | apply go_rdN h | apply go_rlen h); rfl)
 | (with_reducible first | apply go_ldN h | apply go_lenL h)
 | ((with_reducible apply go_st h); intro _ h)
 | ((with_reducible apply go_stA h); rfl; rfl; (first | rfl | simp [OneV.o]); intro _ h)
 | ((with_reducible apply go_stN h); rfl; (first | rfl | simp [OneV.o]); intro _ h)
 | ((with_reducible apply go_box h); rfl; intro _ _ h)
 | ((with_reducible apply go_ix h); omega)
 | ((with_reducible first | apply go_elN h | apply go_f1 h | apply go_rf1 h | apply go_rel h); (case hi => omega); (try case hx => exact inferInstance); (try case hv => rfl))
 | ((with_reducible apply go_fa h); omega; omega)
))
    refine oack_spec (v := ptr p) (o := o) (n := n) (h.frt (A := OutA (ptr p) o)) fun w h => ?_
    have hg : aGet n T = (kGet lKey n o.ls).map lT := H.get STO.int n
    have hE2 : ∀ w T', KInv ltI lKey lT T' (ackO n o).2.ls → Sat w0 (OutA (ptr p) (ackO n o).2 :: MapH kO tkV mv T' :: L) w → F7_8 s0 (ptr p) mv (.int .i64 o.last) (.int .i64 o.refused) (.int .i64 (i : Nat)) w K R3 := by
      intro w T' H' h
      have ea : (ackO n o).2.last = o.last ∧ (ackO n o).2.refused = o.refused ∧ (ackO n o).2.most = o.most := by unfold ackO; split <;> exact ⟨rfl, rfl, rfl⟩
      have S' : Six (i + 1) (ackO n o).2 := ⟨by rw [ea.2.2]; exact hmo, by rw [ea.1]; omega, by rw [ea.2.1]; omega⟩
      have := stays_all (s0 := s0) (s8 := .int .i64 (i : Nat)) (R3 := R3) H' S' (fun w h => hE _ _ w H' S' h) h
      rw [ea.1, ea.2.1] at this
      exact this
    cases hk : kGet lKey n o.ls with
    | none =>
      rw [hk] at hg
      have ea : ackO n o = (5, o) := by unfold ackO; rw [if_neg (by rw [show lGet n o.ls = none from hk]; simp)]
      have hdel : aDel n T = T := aDel_no hg
      rw [ea] at h hE2 ⊢
      rw [hg]
      have b1 : (decide ((5 : Int) = 0)) = false := by decide
      (repeat (first
 | (simp (disch := omega) only [evA, evB, evC, bAdd_i64, bSub_i64, b1, Option.map_none, bNe_bo, beq_self_eq_true, Option.isSome_none])
 | (with_reducible apply go_ld1 h)
 | ((with_reducible first | apply go_ldA h | apply go_rd h | apply go_rdN h | apply go_rlen h); rfl)
 | (with_reducible first | apply go_ldN h | apply go_lenL h)
 | ((with_reducible apply go_st h); intro _ h)
 | ((with_reducible apply go_stA h); rfl; rfl; (first | rfl | simp [OneV.o]); intro _ h)
 | ((with_reducible apply go_stN h); rfl; (first | rfl | simp [OneV.o]); intro _ h)
 | ((with_reducible apply go_box h); rfl; intro _ _ h)
 | ((with_reducible apply go_ix h); omega)
 | ((with_reducible first | apply go_elN h | apply go_f1 h | apply go_rf1 h | apply go_rel h); (case hi => omega); (try case hx => exact inferInstance); (try case hv => rfl))
 | ((with_reducible apply go_fa h); omega; omega)
))
      refine eDelete_sat (h.frt (A := MapH kO tkV mv T)) KIO um74 n fun w h => ?_
      rw [hdel] at h
      exact hE2 w T H (h.got)
    | some x =>
      rw [hk] at hg
      have ea : ackO n o = (0, { o with ls := lDel n o.ls }) := by unfold ackO; rw [if_pos (by rw [show lGet n o.ls = some x from hk]; simp)]
      rw [ea] at h hE2 ⊢
      rw [hg]
      (repeat (first
 | (simp (disch := omega) only [evA, evB, evC, bAdd_i64, bSub_i64, Option.map_some, bNe_bo, beq_self_eq_true, Option.isSome_some])
 | (with_reducible apply go_ld1 h)
 | ((with_reducible first | apply go_ldA h | apply go_rd h | apply go_rdN h | apply go_rlen h); rfl)
 | (with_reducible first | apply go_ldN h | apply go_lenL h)
 | ((with_reducible apply go_st h); intro _ h)
 | ((with_reducible apply go_stA h); rfl; rfl; (first | rfl | simp [OneV.o]); intro _ h)
 | ((with_reducible apply go_stN h); rfl; (first | rfl | simp [OneV.o]); intro _ h)
 | ((with_reducible apply go_box h); rfl; intro _ _ h)
 | ((with_reducible apply go_ix h); omega)
 | ((with_reducible first | apply go_elN h | apply go_f1 h | apply go_rf1 h | apply go_rel h); (case hi => omega); (try case hx => exact inferInstance); (try case hv => rfl))
 | ((with_reducible apply go_fa h); omega; omega)
))
      refine eDelete_sat (h.frt (A := MapH kO tkV mv T)) KIO um74 n fun w h => ?_
      exact hE2 w (aDel n T) (H.del STO.int n) (h.got)
  case false =>
    (repeat (first
 | (simp (disch := omega) only [evA, evB, evC, bAdd_i64, bSub_i64, g])
 | (refine go_some (e1 ..) ?_)
 | (with_reducible apply go_ld1 h)
 | ((with_reducible first | apply go_ldA h | apply go_rd h | apply go_rdN h); rfl)
 | (with_reducible first | apply go_ldN h | apply go_lenR h)
 | ((with_reducible apply go_st h); intro _ h)
 | ((with_reducible apply go_stA h); rfl; rfl; (first | rfl | simp [OneV.o]); intro _ h)
 | ((with_reducible apply go_stN h); rfl; (first | rfl | simp [OneV.o]); intro _ h)
 | ((with_reducible apply go_box h); rfl; intro _ _ h)
 | ((with_reducible apply go_ixR h); omega)
 | ((with_reducible first | apply go_elR h | apply go_f1R h | apply go_rf1R h | apply go_relR h | apply go_e1R h | apply go_re1R h); (case hc => exact inferInstance); (case hi => omega); (try case hx => exact inferInstance); (try case hv => rfl))
 | ((with_reducible apply go_fNR h); (case hc => exact inferInstance); (case hi => omega); (try case hp => exact inferInstance); (try case hv => rfl))
 | ((with_reducible apply go_faR h); (case hc => exact inferInstance); omega; omega)
 | ((with_reducible apply go_rlenR h); rfl)
))
    refine Below_spec (by decide) (by decide) fun r h1 h2 _ => ?_
    obtain ⟨what, hwhat⟩ : ∃ x, 1 + r = x := ⟨_, rfl⟩
    (repeat (first
 | (simp (disch := omega) only [evA, evB, evC, bAdd_i64, bSub_i64, hwhat])
 | (with_reducible apply go_ld1 h)
 | ((with_reducible first | apply go_ldA h | apply go_rd h | apply go_rdN h); rfl)
 | (with_reducible first | apply go_ldN h | apply go_lenR h)
 | ((with_reducible apply go_st h); intro _ h)
 | ((with_reducible apply go_stA h); rfl; rfl; (first | rfl | simp [OneV.o]); intro _ h)
 | ((with_reducible apply go_stN h); rfl; (first | rfl | simp [OneV.o]); intro _ h)
 | ((with_reducible apply go_box h); rfl; intro _ _ h)
 | ((with_reducible apply go_ixR h); omega)
 | ((with_reducible first | apply go_elR h | apply go_f1R h | apply go_rf1R h | apply go_relR h | apply go_e1R h | apply go_re1R h); (case hc => exact inferInstance); (case hi => omega); (try case hx => exact inferInstance); (try case hv => rfl))
 | ((with_reducible apply go_fNR h); (case hc => exact inferInstance); (case hi => omega); (try case hp => exact inferInstance); (try case hv => rfl))
 | ((with_reducible apply go_faR h); (case hc => exact inferInstance); omega; omega)
 | ((with_reducible apply go_rlenR h); rfl)
))
    refine orow_spec (n := l[i]) hx h fun w h => ?_
    refine oput_spec (v := ptr p) (what := what) (r := rowO l[i]) (o := o) (by omega) (by omega) (rowO_fits _).1 (rowO_fits _).2 h fun w h => ?_
    have hshape : (decide (what < 1) || decide (5 < what) || !okR (rowO l[i])) = false := by
      rw [okR_O, decide_eq_false (by omega), decide_eq_false (by omega)]; rfl
    (repeat (first
 | (simp (disch := omega) only [evA, evB, evC, bAdd_i64, bSub_i64])
 | (with_reducible apply go_ld1 h)
 | ((with_reducible first | apply go_ldA h | apply go_rd h | apply go_rdN h | apply go_rlen h); rfl)
 | (with_reducible first | apply go_ldN h | apply go_lenL h)
 | ((with_reducible apply go_st h); intro _ h)
 | ((with_reducible apply go_stA h); rfl; rfl; (first | rfl | simp [OneV.o]); intro _ h)
 | ((with_reducible apply go_stN h); rfl; (first | rfl | simp [OneV.o]); intro _ h)
 | ((with_reducible apply go_box h); rfl; intro _ _ h)
 | ((with_reducible apply go_ix h); omega)
 | ((with_reducible first | apply go_elN h | apply go_f1 h | apply go_rf1 h | apply go_rel h); (case hi => omega); (try case hx => exact inferInstance); (try case hv => rfl))
 | ((with_reducible apply go_fa h); omega; omega)
))
    refine go_lenM h (by repeat (first | exact .here | apply Fnt.there)) ?_
    rw [H.len]
    by_cases g6 : o.most ≤ (o.ls.length : Int)
    · have ep : putO what (rowO l[i]) o = ((0, 200), { o with refused := o.refused + 1 }) := by unfold putO; rw [if_neg (by rw [hshape]; simp), if_pos g6]
      have b6 : decide ((o.ls.length : Int) = 6) = true := by simp; omega
      rw [ep] at h ⊢
      (repeat (first
 | (simp (disch := omega) only [evA, evB, evC, bAdd_i64, bSub_i64, b6, Int.reduceEq])
 | (with_reducible apply go_ld1 h)
 | ((with_reducible first | apply go_ldA h | apply go_rd h | apply go_rdN h | apply go_rlen h); rfl)
 | (with_reducible first | apply go_ldN h | apply go_lenL h)
 | ((with_reducible apply go_st h); intro _ h)
 | ((with_reducible apply go_stA h); rfl; rfl; (first | rfl | simp [OneV.o]); intro _ h)
 | ((with_reducible apply go_stN h); rfl; (first | rfl | simp [OneV.o]); intro _ h)
 | ((with_reducible apply go_box h); rfl; intro _ _ h)
 | ((with_reducible apply go_ix h); omega)
 | ((with_reducible first | apply go_elN h | apply go_f1 h | apply go_rf1 h | apply go_rel h); (case hi => omega); (try case hx => exact inferInstance); (try case hv => rfl))
 | ((with_reducible apply go_fa h); omega; omega)
))
      have S' : Six (i + 1) { o with refused := o.refused + 1 } := ⟨hmo, by show 0 ≤ o.last ∧ o.last ≤ _; omega, by show 0 ≤ o.refused + 1 ∧ o.refused + 1 ≤ _; omega⟩
      exact stays_all (o := { o with refused := o.refused + 1 }) H S' (fun w h => hE _ _ w H S' h) h
    · have ep : putO what (rowO l[i]) o = ((o.last + 1, 0), { o with last := o.last + 1, ls := o.ls ++ [⟨⟨o.last + 1, what, rowO l[i]⟩, 0, 0⟩] }) := by unfold putO; rw [if_neg (by rw [hshape]; simp), if_neg g6]
      have b6 : decide ((o.ls.length : Int) = 6) = false := by simp; omega
      rw [ep] at h ⊢
      (repeat (first
 | (simp (disch := omega) only [evA, evB, evC, bAdd_i64, bSub_i64, b6])
 | (with_reducible apply go_ld1 h)
 | ((with_reducible first | apply go_ldA h | apply go_rd h | apply go_rdN h); rfl)
 | (with_reducible first | apply go_ldN h | apply go_lenR h)
 | ((with_reducible apply go_st h); intro _ h)
 | ((with_reducible apply go_stA h); rfl; rfl; (first | rfl | simp [OneV.o]); intro _ h)
 | ((with_reducible apply go_stN h); rfl; (first | rfl | simp [OneV.o]); intro _ h)
 | ((with_reducible apply go_box h); rfl; intro _ _ h)
 | ((with_reducible apply go_ixR h); omega)
 | ((with_reducible first | apply go_elR h | apply go_f1R h | apply go_rf1R h | apply go_relR h | apply go_e1R h | apply go_re1R h); (case hc => exact inferInstance); (case hi => omega); (try case hx => exact inferInstance); (try case hv => rfl))
 | ((with_reducible apply go_fNR h); (case hc => exact inferInstance); (case hi => omega); (try case hp => exact inferInstance); (try case hv => rfl))
 | ((with_reducible apply go_faR h); (case hc => exact inferInstance); omega; omega)
 | ((with_reducible apply go_rlenR h); rfl)
))
      refine orow_spec (n := l[i]) hx h fun w h => ?_
      refine go_some (fbTk (o.last + 1) what (rowO l[i])) ?_
      refine eMapSet_sat (h.frt (A := MapH kO tkV mv T)) KIO um74 (o.last + 1) (⟨o.last + 1, what, rowO l[i]⟩ : Tk) fun w h => ?_
      (repeat (first
 | (simp (disch := omega) only [evA, evB, evC, bAdd_i64, bSub_i64, Int.reduceEq])
 | (with_reducible apply go_ld1 h)
 | ((with_reducible first | apply go_ldA h | apply go_rd h | apply go_rdN h | apply go_rlen h); rfl)
 | (with_reducible first | apply go_ldN h | apply go_lenL h)
 | ((with_reducible apply go_st h); intro _ h)
 | ((with_reducible apply go_stA h); rfl; rfl; (first | rfl | simp [OneV.o]); intro _ h)
 | ((with_reducible apply go_stN h); rfl; (first | rfl | simp [OneV.o]); intro _ h)
 | ((with_reducible apply go_box h); rfl; intro _ _ h)
 | ((with_reducible apply go_ix h); omega)
 | ((with_reducible first | apply go_elN h | apply go_f1 h | apply go_rf1 h | apply go_rel h); (case hi => omega); (try case hx => exact inferInstance); (try case hv => rfl))
 | ((with_reducible apply go_fa h); omega; omega)
))
      have S' : Six (i + 1) { o with last := o.last + 1, ls := o.ls ++ [⟨⟨o.last + 1, what, rowO l[i]⟩, 0, 0⟩] } := ⟨hmo, by show 0 ≤ o.last + 1 ∧ o.last + 1 ≤ _; omega, by show 0 ≤ o.refused ∧ o.refused ≤ _; omega⟩
      have H' := H.put STO.int ⟨⟨o.last + 1, what, rowO l[i]⟩, 0, 0⟩
      rw [kPut_last STO.int fun d hd => by have := ok.ok d hd; simp [ltI, lKey]; omega] at H'
      exact stays_all (o := { o with last := o.last + 1, ls := o.ls ++ [⟨⟨o.last + 1, what, rowO l[i]⟩, 0, 0⟩] }) H' S' (fun w h => hE _ _ w H' S' h) (h.got)
theorem stays_loop [hrd : RdIn w0 L s0 Int cI 1 l] (hx : ∀ x ∈ l, -9223372036854775808 ≤ x ∧ x ≤ 9223372036854775807) (hK : ∀ w', Sat w0 L w' → K (.bool true) w') :
    ∀ (k i : Nat) (o : Ob) (T : TMap) (w : World), 100 - i < k → i ≤ 100 → KInv ltI lKey lT T o.ls → Six i o → Sat w0 (OutA (ptr p) o :: MapH kO tkV mv T :: L) w →
      F7_2L k s0 (ptr p) mv (.int .i64 o.last) (.int .i64 o.refused) (.int .i64 (i : Nat)) w K := by
  intro k
  induction k with
  | zero => intro i o T w hd; omega
  | succ k ih =>
    intro i o T w hd hi H S h
    rw [F7_2L]
    unfold F7_4 F7_4b
    have fin : F7_3 w K := by
      unfold F7_3 F7_3b
      exact hK _ (h.got)
    by_cases g : i < l.length
    case neg =>
      have g' : decide ((i : Int) < (l.length : Int)) = false := by simpa using g
      (repeat (first
 | (simp (disch := omega) only [evA, evB, evC, bAdd_i64, bSub_i64, g'])
 | (with_reducible apply go_ld1 h)
 | ((with_reducible first | apply go_ldA h | apply go_rd h | apply go_rdN h); rfl)
 | (with_reducible first | apply go_ldN h | apply go_lenR h)
 | ((with_reducible apply go_st h); intro _ h)
 | ((with_reducible apply go_stA h); rfl; rfl; (first | rfl | simp [OneV.o]); intro _ h)
 | ((with_reducible apply go_stN h); rfl; (first | rfl | simp [OneV.o]); intro _ h)
 | ((with_reducible apply go_box h); rfl; intro _ _ h)
 | ((with_reducible apply go_ixR h); omega)
 | ((with_reducible first | apply go_elR h | apply go_f1R h | apply go_rf1R h | apply go_relR h | apply go_e1R h | apply go_re1R h); (case hc => exact inferInstance); (case hi => omega); (try case hx => exact inferInstance); (try case hv => rfl))
 | ((with_reducible apply go_fNR h); (case hc => exact inferInstance); (case hi => omega); (try case hp => exact inferInstance); (try case hv => rfl))
 | ((with_reducible apply go_faR h); (case hc => exact inferInstance); omega; omega)
 | ((with_reducible apply go_rlenR h); rfl)
))
      exact fin
    have g' : decide ((i : Int) < (l.length : Int)) = true := by simpa using g
    by_cases g2 : i < 100
    case neg =>
      have g2' : decide ((i : Int) < 100) = false := by simp; omega
      (repeat (first
 | (simp (disch := omega) only [evA, evB, evC, bAdd_i64, bSub_i64, g', g2'])
 | (with_reducible apply go_ld1 h)
 | ((with_reducible first | apply go_ldA h | apply go_rd h | apply go_rdN h); rfl)
 | (with_reducible first | apply go_ldN h | apply go_lenR h)
 | ((with_reducible apply go_st h); intro _ h)
 | ((with_reducible apply go_stA h); rfl; rfl; (first | rfl | simp [OneV.o]); intro _ h)
 | ((with_reducible apply go_stN h); rfl; (first | rfl | simp [OneV.o]); intro _ h)
 | ((with_reducible apply go_box h); rfl; intro _ _ h)
 | ((with_reducible apply go_ixR h); omega)
 | ((with_reducible first | apply go_elR h | apply go_f1R h | apply go_rf1R h | apply go_relR h | apply go_e1R h | apply go_re1R h); (case hc => exact inferInstance); (case hi => omega); (try case hx => exact inferInstance); (try case hv => rfl))
 | ((with_reducible apply go_fNR h); (case hc => exact inferInstance); (case hi => omega); (try case hp => exact inferInstance); (try case hv => rfl))
 | ((with_reducible apply go_faR h); (case hc => exact inferInstance); omega; omega)
 | ((with_reducible apply go_rlenR h); rfl)
))
      exact fin
    have g2' : decide ((i : Int) < 100) = true := by simp; omega
    (repeat (first
 | (simp (disch := omega) only [evA, evB, evC, bAdd_i64, bSub_i64, g', g2'])
 | (with_reducible apply go_ld1 h)
 | ((with_reducible first | apply go_ldA h | apply go_rd h | apply go_rdN h); rfl)
 | (with_reducible first | apply go_ldN h | apply go_lenR h)
 | ((with_reducible apply go_st h); intro _ h)
 | ((with_reducible apply go_stA h); rfl; rfl; (first | rfl | simp [OneV.o]); intro _ h)
 | ((with_reducible apply go_stN h); rfl; (first | rfl | simp [OneV.o]); intro _ h)
 | ((with_reducible apply go_box h); rfl; intro _ _ h)
 | ((with_reducible apply go_ixR h); omega)
 | ((with_reducible first | apply go_elR h | apply go_f1R h | apply go_rf1R h | apply go_relR h | apply go_e1R h | apply go_re1R h); (case hc => exact inferInstance); (case hi => omega); (try case hx => exact inferInstance); (try case hv => rfl))
 | ((with_reducible apply go_fNR h); (case hc => exact inferInstance); (case hi => omega); (try case hp => exact inferInstance); (try case hv => rfl))
 | ((with_reducible apply go_faR h); (case hc => exact inferInstance); omega; omega)
 | ((with_reducible apply go_rlenR h); rfl)
))
    unfold F7_5
    refine stays_step g g2 (hx _ (List.getElem_mem g)) H S (fun o' T' w H' S' h => ?_) h
    unfold F7_6 F7_6b
    (repeat (first
 | (simp (disch := omega) only [evA, evB, evC, bAdd_i64, bSub_i64])
 | (with_reducible apply go_ld1 h)
 | ((with_reducible first | apply go_ldA h | apply go_rd h | apply go_rdN h | apply go_rlen h); rfl)
 | (with_reducible first | apply go_ldN h | apply go_lenL h)
 | ((with_reducible apply go_st h); intro _ h)
 | ((with_reducible apply go_stA h); rfl; rfl; (first | rfl | simp [OneV.o]); intro _ h)
 | ((with_reducible apply go_stN h); rfl; (first | rfl | simp [OneV.o]); intro _ h)
 | ((with_reducible apply go_box h); rfl; intro _ _ h)
 | ((with_reducible apply go_ix h); omega)
 | ((with_reducible first | apply go_elN h | apply go_f1 h | apply go_rf1 h | apply go_rel h); (case hi => omega); (try case hx => exact inferInstance); (try case hv => rfl))
 | ((with_reducible apply go_fa h); omega; omega)
))
    exact ih (i + 1) o' T' w (by omega) (by omega) H' S' h
theorem outboxStays_spec (hrd : Rd w0 1 s0 l.length (l.flatMap cI)) (hx : ∀ x ∈ l, -9223372036854775808 ≤ x ∧ x ≤ 9223372036854775807) (h : Sat w0 L w) (hK : ∀ w', Sat w0 L w' → K (.bool true) w') : callP G7 [s0] w K := by
  refine c7 ?_
  unfold F7 F7_1 F7_1b
  refine onew_spec (m := 6) (b := 1) (t := 1) (by omega) (by omega) h fun p w h => ?_
  (repeat (first
 | (simp (disch := omega) only [evA, evB, evC, bAdd_i64, bSub_i64, Int.reduceEq])
 | (refine go_some (bEq_nilp up48   ..) ?_)
 | (with_reducible apply go_ld1 h)
 | ((with_reducible first | apply go_ldA h | apply go_rd h | apply go_rdN h | apply go_rlen h); rfl)
 | (with_reducible first | apply go_ldN h | apply go_lenL h)
 | ((with_reducible apply go_st h); intro _ h)
 | ((with_reducible apply go_stA h); rfl; rfl; (first | rfl | simp [OneV.o]); intro _ h)
 | ((with_reducible apply go_stN h); rfl; (first | rfl | simp [OneV.o]); intro _ h)
 | ((with_reducible apply go_box h); rfl; intro _ _ h)
 | ((with_reducible apply go_ix h); omega)
 | ((with_reducible first | apply go_elN h | apply go_f1 h | apply go_rf1 h | apply go_rel h); (case hi => omega); (try case hx => exact inferInstance); (try case hv => rfl))
 | ((with_reducible apply go_fa h); omega; omega)
))
  refine works24_spec h fun w h => ?_
  (repeat (first
 | (simp (disch := omega) only [evA, evB, evC, bAdd_i64, bSub_i64])
 | (with_reducible apply go_ld1 h)
 | ((with_reducible first | apply go_ldA h | apply go_rd h | apply go_rdN h | apply go_rlen h); rfl)
 | (with_reducible first | apply go_ldN h | apply go_lenL h)
 | ((with_reducible apply go_st h); intro _ h)
 | ((with_reducible apply go_stA h); rfl; rfl; (first | rfl | simp [OneV.o]); intro _ h)
 | ((with_reducible apply go_stN h); rfl; (first | rfl | simp [OneV.o]); intro _ h)
 | ((with_reducible apply go_box h); rfl; intro _ _ h)
 | ((with_reducible apply go_ix h); omega)
 | ((with_reducible first | apply go_elN h | apply go_f1 h | apply go_rf1 h | apply go_rel h); (case hi => omega); (try case hx => exact inferInstance); (try case hv => rfl))
 | ((with_reducible apply go_fa h); omega; omega)
))
  refine eMakeMap_sat kO tkV h fun mv w h => ?_
  unfold F7_2
  have : RdIn w0 L s0 Int cI 1 l := RdIn.arg hrd
  exact stays_loop (l := l) hx hK fuel 0 (newO 6 1 1) [] w (by unfold fuel; omega) (by omega) .nil ⟨rfl, by simp [newO], by simp [newO]⟩ (h.got)
end
theorem lawOutboxStays {W : World} {v : Value} {n : Nat} {cs : List Value} (rd : Rd W 1 v n cs) (hn : n ≤ 140737488351232) (ft : ∀ i, i < n → FitL2 W 140737488351232 [.int .i64] ((cs.drop (i * 1)).take 1)) :
    callP G7 [v] W fun v w' => v = .bool true ∧ Sat W [] w' := by
  obtain ⟨l, rfl, rfl, hg⟩ := fit_list2 (fun c h => fit_intA h) n cs rd.length ft
  exact outboxStays_spec rd hg (Sat.start W) fun w' h => ⟨rfl, h⟩
end Go.Proofs.Gong
