/- A part of the proofs: what stands below it, told in lemmas. No condition. -/
import Derived.Test.YtippapgconnkiaaGreatDoorP1
import Derived.Shelf.Strconv.Itoa3
import Derived.Shelf.Strconv.Atoi
import Derived.Shelf.Strings.Split
import Derived.Shelf.Strings.Builder2
import Derived.Lib.UnsafeStr
import Derived.Shelf.Strings.Trim
import Derived.Shelf.Slices.Turned
import Derived.ProofKit
import Derived.WalkKit
set_option linter.all false

/- Board1 -/
namespace Go.Proofs.Gong
open Go Go.Sx Go.Proofs
set_option linter.all false
set_option maxRecDepth 100000
set_option maxHeartbeats 4000000
variable {kn kr : ET} {ke : JT}
def T64 : List (Nat × FnT) := []
def F64 (x0 : Value) (w : World) (K : V1) : Prop :=
aa (bGe x0 (.int .i64 0)) fun v1 =>
aS (gd true v1) x0 fun v2 =>
Sx.stepG (gd true v1) (bLe v2 (.int .i64 2305843009213693952)) fun v3 =>
aa (aG v1 v3 (.bool false)) fun v4 =>
K v4 w
def G64 : FnT := fun args w K => on1 (fun x0 => F64 x0 w K) args
theorem c64 {x0 : Value} {w : World} {K : V1} (h : F64 x0 w K) : ai G64 [x0] w K := aj (bL (p := fun x0 => F64 x0 w K) h)
theorem ok64 : OkF Tryz.prog 64 G64 := by
  refine aO (aN (l := T64) trivial) mixed (n := fuel) Tryz.func64 Tryz.call64 fun args w K h => ?_
  obtain ⟨x0, rfl, hh⟩ := bJ h
  exact az (c := ah Tryz.f64) (by kernel_rfl) (by kernel_rfl) (Eq.mp (by kernel_rfl) hh)
def T65 : List (Nat × FnT) := [(66, G66)]
def F65 (x0 : Value) (w : World) (K : V1) : Prop :=
aa (aD Tryz.prog 46 [(0, x0), (1, (.string ⟨#[99]⟩))]) fun v1 =>
ai G66 [v1] w fun v3 w2 =>
aa (bEq Tryz.prog 33 (.tmp 5) (.const (.int .i64 0)) v3 (.int .i64 0)) fun v4 =>
K v4 w2
def G65 : FnT := fun args w K => on1 (fun x0 => F65 x0 w K) args
theorem c65 {x0 : Value} {w : World} {K : V1} (h : F65 x0 w K) : ai G65 [x0] w K := aj (bL (p := fun x0 => F65 x0 w K) h)
theorem ok65 : OkF Tryz.prog 65 G65 := by
  refine aO (aN (l := T65) ⟨ok66, trivial⟩) mixed (n := fuel) Tryz.func65 Tryz.call65 fun args w K h => ?_
  obtain ⟨x0, rfl, hh⟩ := bJ h
  exact az (c := ah Tryz.f65) (by kernel_rfl) (by kernel_rfl) (Eq.mp (by kernel_rfl) hh)
def T38 : List (Nat × FnT) := [(64, G64), (65, G65), (66, G66)]
def F38 (x0 : Value) (w : World) (K : V1) : Prop :=
bT 48 x0 w fun v2 w1 =>
aa (ae 7 v2) fun v3 =>
aa (ld1 v3 w1) fun v4 =>
ai G64 [v4] w1 fun v6 w5 =>
Sx.stepG (gd true v6) (ae 8 v2) fun v7 =>
Sx.stepG (gd true v6) (ld1 v7 w5) fun v8 =>
dz (gd true v6) (fun k => ai G64 [v8] w5 k) w5 fun v10 w9 =>
aa (aG v6 v10 (.bool false)) fun v11 =>
Sx.stepG (gd true v11) (ae 7 v2) fun v12 =>
Sx.stepG (gd true v11) (ld1 v12 w9) fun v13 =>
Sx.stepG (gd true v11) (ae 8 v2) fun v14 =>
Sx.stepG (gd true v11) (ld1 v14 w9) fun v15 =>
Sx.stepG (gd true v11) (bLe v13 v15) fun v16 =>
aa (aG v11 v16 (.bool false)) fun v17 =>
aa (ae 9 v2) fun v18 =>
aa (ld1 v18 w9) fun v19 =>
Sx.stepG (gd true v19) (ae 10 v2) fun v20 =>
Sx.stepG (gd true v19) (ld1 v20 w9) fun v21 =>
dz (gd true v19) (fun k => ai G65 [v21] w9 k) w9 fun v23 w22 =>
aa (aG v19 v23 (.bool false)) fun v24 =>
Sx.stepG (gd false v24) (ae 9 v2) fun v25 =>
Sx.stepG (gd false v24) (ld1 v25 w22) fun v26 =>
Sx.stepG (gd false v24) (dN v26) fun v27 =>
aS (gd false v24) v27 fun v28 =>
Sx.stepG (gd true v28) (ae 10 v2) fun v29 =>
Sx.stepG (gd true v28) (ld1 v29 w22) fun v30 =>
Sx.stepG (gd true v28) (bEq Tryz.prog 9 (.tmp 33) (.const (.string ⟨#[]⟩)) v30 (.string ⟨#[]⟩)) fun v31 =>
Sx.stepG (gd false v24) (aG v28 v31 (.bool false)) fun v32 =>
aa (aG v24 (.bool true) v32) fun v33 =>
aa (ae 0 v2) fun v34 =>
aa (ld1 v34 w22) fun v35 =>
aa (bLt v35 (.int .i64 1)) fun v36 =>
Sx.stepG (gd false v36) (ae 1 v2) fun v37 =>
Sx.stepG (gd false v36) (ae 3 v37) fun v38 =>
Sx.stepG (gd false v36) (ld1 v38 w22) fun v39 =>
Sx.stepG (gd false v36) (bLt v39 (.int .i64 1)) fun v40 =>
aa (aG v36 (.bool true) v40) fun v41 =>
Sx.stepG (gd false v41) (ae 6 v2) fun v42 =>
Sx.stepG (gd false v41) (ld1 v42 w22) fun v43 =>
Sx.stepG (gd false v41) (bLt v43 (.int .i64 1)) fun v44 =>
aa (aG v41 (.bool true) v44) fun v45 =>
Sx.stepG (gd false v45) (ae 6 v2) fun v46 =>
Sx.stepG (gd false v45) (ld1 v46 w22) fun v47 =>
Sx.stepG (gd false v45) (bGt v47 (.int .i64 1099511627776)) fun v48 =>
aa (aG v45 (.bool true) v48) fun v49 =>
aS (gd false v49) v17 fun v50 =>
Sx.stepG (gd false v49) (dN v50) fun v51 =>
aa (aG v49 (.bool true) v51) fun v52 =>
aS (gd false v52) v33 fun v53 =>
Sx.stepG (gd false v52) (dN v53) fun v54 =>
aa (aG v52 (.bool true) v54) fun v55 =>
Sx.stepG (gd false v55) (ae 1 v2) fun v56 =>
Sx.stepG (gd false v55) (ldN 5 v56 w22) fun v57 =>
dz (gd false v55) (fun k => ai G66 [v57] w22 k) w22 fun v59 w58 =>
Sx.stepG (gd false v55) (bNe Tryz.prog 33 (.tmp 67) (.const (.int .i64 0)) v59 (.int .i64 0)) fun v60 =>
aa (aG v55 (.bool true) v60) fun v61 =>
ifB v61 (
K (.int .i64 4) w58) (
K (.int .i64 0) w58)
def G38 : FnT := fun args w K => on1 (fun x0 => F38 x0 w K) args
theorem c38 {x0 : Value} {w : World} {K : V1} (h : F38 x0 w K) : ai G38 [x0] w K := aj (bL (p := fun x0 => F38 x0 w K) h)
theorem ok38 : OkF Tryz.prog 38 G38 := by
  refine aO (aN (l := T38) ⟨ok64, ok65, ok66, trivial⟩) mixed (n := fuel) Tryz.func38 Tryz.call38 fun args w K h => ?_
  obtain ⟨x0, rfl, hh⟩ := bJ h
  exact az (c := ah Tryz.f38) (by kernel_rfl) (by kernel_rfl) (Eq.mp (by kernel_rfl) hh)
def T63 : List (Nat × FnT) := [(61, G61)]
def F63 (x0 : Value) (w : World) (K : V1) : Prop :=
aa (aD Tryz.prog 46 [(0, x0), (1, (.string ⟨#[120]⟩))]) fun v1 =>
ai G61 [v1] w fun v3 w2 =>
aa (bEq Tryz.prog 33 (.tmp 5) (.const (.int .i64 0)) v3 (.int .i64 0)) fun v4 =>
K v4 w2
def G63 : FnT := fun args w K => on1 (fun x0 => F63 x0 w K) args
theorem c63 {x0 : Value} {w : World} {K : V1} (h : F63 x0 w K) : ai G63 [x0] w K := aj (bL (p := fun x0 => F63 x0 w K) h)
theorem ok63 : OkF Tryz.prog 63 G63 := by
  refine aO (aN (l := T63) ⟨ok61, trivial⟩) mixed (n := fuel) Tryz.func63 Tryz.call63 fun args w K h => ?_
  obtain ⟨x0, rfl, hh⟩ := bJ h
  exact az (c := ah Tryz.f63) (by kernel_rfl) (by kernel_rfl) (Eq.mp (by kernel_rfl) hh)
def T35 : List (Nat × FnT) := [(61, G61), (62, G62), (63, G63)]
def F35 (x0 : Value) (w : World) (K : V1) : Prop :=
bT 48 x0 w fun v2 w1 =>
aa (ae 0 v2) fun v3 =>
aa (ld1 v3 w1) fun v4 =>
aa (bLt v4 (.int .i64 1)) fun v5 =>
Sx.stepG (gd false v5) (ae 1 v2) fun v6 =>
Sx.stepG (gd false v5) (ldN 5 v6 w1) fun v7 =>
dz (gd false v5) (fun k => ai G61 [v7] w1 k) w1 fun v9 w8 =>
Sx.stepG (gd false v5) (bNe Tryz.prog 33 (.tmp 9) (.const (.int .i64 0)) v9 (.int .i64 0)) fun v10 =>
aa (aG v5 (.bool true) v10) fun v11 =>
Sx.stepG (gd false v11) (ae 1 v2) fun v12 =>
Sx.stepG (gd false v11) (ae 3 v12) fun v13 =>
Sx.stepG (gd false v11) (ld1 v13 w8) fun v14 =>
Sx.stepG (gd false v11) (bLt v14 (.int .i64 1)) fun v15 =>
aa (aG v11 (.bool true) v15) fun v16 =>
Sx.stepG (gd false v16) (ae 6 v2) fun v17 =>
Sx.stepG (gd false v16) (ld1 v17 w8) fun v18 =>
Sx.stepG (gd false v16) (bLt v18 (.int .i64 1)) fun v19 =>
aa (aG v16 (.bool true) v19) fun v20 =>
Sx.stepG (gd false v20) (ae 6 v2) fun v21 =>
Sx.stepG (gd false v20) (ld1 v21 w8) fun v22 =>
Sx.stepG (gd false v20) (bGt v22 (.int .i64 1099511627776)) fun v23 =>
aa (aG v20 (.bool true) v23) fun v24 =>
Sx.stepG (gd false v24) (ae 7 v2) fun v25 =>
Sx.stepG (gd false v24) (ld1 v25 w8) fun v26 =>
dz (gd false v24) (fun k => ai G62 [v26] w8 k) w8 fun v28 w27 =>
Sx.stepG (gd false v24) (dN v28) fun v29 =>
aa (aG v24 (.bool true) v29) fun v30 =>
Sx.stepG (gd false v30) (ae 8 v2) fun v31 =>
Sx.stepG (gd false v30) (ld1 v31 w27) fun v32 =>
dz (gd false v30) (fun k => ai G62 [v32] w27 k) w27 fun v34 w33 =>
Sx.stepG (gd false v30) (dN v34) fun v35 =>
aa (aG v30 (.bool true) v35) fun v36 =>
Sx.stepG (gd false v36) (ae 7 v2) fun v37 =>
Sx.stepG (gd false v36) (ld1 v37 w33) fun v38 =>
Sx.stepG (gd false v36) (ae 8 v2) fun v39 =>
Sx.stepG (gd false v36) (ld1 v39 w33) fun v40 =>
Sx.stepG (gd false v36) (bGt v38 v40) fun v41 =>
aa (aG v36 (.bool true) v41) fun v42 =>
ifB v42 (
K (.int .i64 4) w33) (
aa (ae 9 v2) fun v43 =>
aa (ld1 v43 w33) fun v44 =>
Sx.stepG (gd true v44) (ae 10 v2) fun v45 =>
Sx.stepG (gd true v44) (ld1 v45 w33) fun v46 =>
dz (gd true v44) (fun k => ai G63 [v46] w33 k) w33 fun v48 w47 =>
Sx.stepG (gd true v44) (dN v48) fun v49 =>
aa (aG v44 v49 (.bool false)) fun v50 =>
Sx.stepG (gd false v50) (ae 9 v2) fun v51 =>
Sx.stepG (gd false v50) (ld1 v51 w47) fun v52 =>
Sx.stepG (gd false v50) (dN v52) fun v53 =>
aS (gd false v50) v53 fun v54 =>
Sx.stepG (gd true v54) (ae 10 v2) fun v55 =>
Sx.stepG (gd true v54) (ld1 v55 w47) fun v56 =>
Sx.stepG (gd true v54) (bNe Tryz.prog 9 (.tmp 61) (.const (.string ⟨#[]⟩)) v56 (.string ⟨#[]⟩)) fun v57 =>
Sx.stepG (gd false v50) (aG v54 v57 (.bool false)) fun v58 =>
aa (aG v50 (.bool true) v58) fun v59 =>
ifB v59 (
K (.int .i64 4) w47) (
K (.int .i64 0) w47))
def G35 : FnT := fun args w K => on1 (fun x0 => F35 x0 w K) args
theorem c35 {x0 : Value} {w : World} {K : V1} (h : F35 x0 w K) : ai G35 [x0] w K := aj (bL (p := fun x0 => F35 x0 w K) h)
theorem ok35 : OkF Tryz.prog 35 G35 := by
  refine aO (aN (l := T35) ⟨ok61, ok62, ok63, trivial⟩) mixed (n := fuel) Tryz.func35 Tryz.call35 fun args w K h => ?_
  obtain ⟨x0, rfl, hh⟩ := bJ h
  exact az (c := ah Tryz.f35) (by kernel_rfl) (by kernel_rfl) (Eq.mp (by kernel_rfl) hh)
def T55 : List (Nat × FnT) := []
def F55 (x0 : Value) (w : World) (K : V1) : Prop :=
aa (bLt x0 (.int .i64 1)) fun v1 =>
aS (gd false v1) x0 fun v2 =>
Sx.stepG (gd false v1) (bGt v2 (.int .i64 65536)) fun v3 =>
aa (aG v1 (.bool true) v3) fun v4 =>
ifB v4 (
K (.tuple #[(.pointer none), (.int .i64 1)]) w) (
eG none w fun v6 w5 =>
eG none w5 fun v8 w7 =>
aa (aD Tryz.prog 113 [(0, x0), (1, (.int .i64 1)), (2, v6), (3, v8)]) fun v9 =>
bT 113 v9 w7 fun v11 w10 =>
K (.tuple #[v11, (.int .i64 0)]) w10)
def G55 : FnT := fun args w K => on1 (fun x0 => F55 x0 w K) args
theorem c55 {x0 : Value} {w : World} {K : V1} (h : F55 x0 w K) : ai G55 [x0] w K := aj (bL (p := fun x0 => F55 x0 w K) h)
theorem ok55 : OkF Tryz.prog 55 G55 := by
  refine aO (aN (l := T55) trivial) mixed (n := fuel) Tryz.func55 Tryz.call55 fun args w K h => ?_
  obtain ⟨x0, rfl, hh⟩ := bJ h
  exact az (c := ah Tryz.f55) (by kernel_rfl) (by kernel_rfl) (Eq.mp (by kernel_rfl) hh)
def Ls : Go.Shelf.Ren := ⟨fun | 6 => 128 | 15 => 51 | 14 => 176 | 28 => 99 | 29 => 100 | 20 => 226 | 21 => 227 | 22 => 228 | 23 => 229 | 24 => 230 | 25 => 231 | 26 => 232 | 27 => 233 | 46 => 273 | 47 => 141 | 48 => 142 | 49 => 274 | 50 => 275 | 57 => 300 | n => n, fun | 22 => 22 | 24 => 48 | 25 => 133 | 3 => 3 | 39 => 144 | 0 => 0 | 53 => 193 | 55 => 178 | 4 => 4 | 46 => 186 | 45 => 185 | 50 => 115 | 5 => 5 | 9 => 9 | 66 => 254 | 70 => 258 | 76 => 299 | 77 => 300 | n => n, fun | n => n⟩
theorem Lay128 : Go.Proofs.SlLaysF0.n6 Tryz.prog Ls := {
  mixed := by kernel_rfl
  f6 := ⟨Tryz.f128.name, by decide, Tryz.func128.trans (congrArg some (by kernel_rfl))⟩
  f14 := ⟨Tryz.f176.name, by decide, Tryz.func176.trans (congrArg some (by kernel_rfl))⟩
  f15 := Tryz.func51.trans (congrArg some (by kernel_rfl))
  f20 := ⟨Tryz.f226.name, by decide, Tryz.func226.trans (congrArg some (by kernel_rfl))⟩
  f21 := ⟨Tryz.f227.name, by decide, Tryz.func227.trans (congrArg some (by kernel_rfl))⟩
  f22 := ⟨Tryz.f228.name, by decide, Tryz.func228.trans (congrArg some (by kernel_rfl))⟩
  f23 := ⟨Tryz.f229.name, by decide, Tryz.func229.trans (congrArg some (by kernel_rfl))⟩
  f24 := ⟨Tryz.f230.name, by decide, Tryz.func230.trans (congrArg some (by kernel_rfl))⟩
  f25 := ⟨Tryz.f231.name, by decide, Tryz.func231.trans (congrArg some (by kernel_rfl))⟩
  f26 := ⟨Tryz.f232.name, by decide, Tryz.func232.trans (congrArg some (by kernel_rfl))⟩
  f27 := ⟨Tryz.f233.name, by decide, Tryz.func233.trans (congrArg some (by kernel_rfl))⟩
  f28 := Tryz.func99.trans (congrArg some (by kernel_rfl))
  f29 := Tryz.func100.trans (congrArg some (by kernel_rfl))
  f46 := ⟨Tryz.f273.name, by decide, Tryz.func273.trans (congrArg some (by kernel_rfl))⟩
  f47 := Tryz.func141.trans (congrArg some (by kernel_rfl))
  f48 := Tryz.func142.trans (congrArg some (by kernel_rfl))
  f49 := ⟨Tryz.f274.name, by decide, Tryz.func274.trans (congrArg some (by kernel_rfl))⟩
  f50 := ⟨Tryz.f275.name, by decide, Tryz.func275.trans (congrArg some (by kernel_rfl))⟩
  f57 := ⟨Tryz.f300.name, by decide, Tryz.func300.trans (congrArg some (by kernel_rfl))⟩
  t0 := Tryz.underlying0
  a0 := Tryz.isAgg0
  z0 := Tryz.sizeOf0
  v0 := Tryz.zeroValue0
  t3 := Tryz.underlying3
  a3 := Tryz.isAgg3
  z3 := Tryz.sizeOf3
  v3 := Tryz.zeroValue3
  t4 := Tryz.underlying4
  a4 := Tryz.isAgg4
  z4 := Tryz.sizeOf4
  v4 := Tryz.zeroValue4
  t5 := Tryz.underlying5
  a5 := Tryz.isAgg5
  z5 := Tryz.sizeOf5
  v5 := Tryz.zeroValue5
  t9 := Tryz.underlying9
  a9 := Tryz.isAgg9
  z9 := Tryz.sizeOf9
  v9 := Tryz.zeroValue9
  t22 := Tryz.underlying22
  a22 := Tryz.isAgg22
  z22 := Tryz.sizeOf22
  v22 := Tryz.zeroValue22
  t25 := Tryz.underlying133
  a25 := Tryz.isAgg133
  z25 := Tryz.sizeOf133
  v25 := Tryz.zeroValue133
  t39 := Tryz.underlying144
  a39 := Tryz.isAgg144
  z39 := Tryz.sizeOf144
  v39 := Tryz.zeroValue144
  t45 := Tryz.underlying185
  a45 := Tryz.isAgg185
  z45 := Tryz.sizeOf185
  v45 := Tryz.zeroValue185
  t46 := Tryz.underlying186
  a46 := Tryz.isAgg186
  z46 := Tryz.sizeOf186
  v46 := Tryz.zeroValue186
  t50 := Tryz.underlying115
  a50 := Tryz.isAgg115
  z50 := Tryz.sizeOf115
  v50 := Tryz.zeroValue115
  t53 := Tryz.underlying193
  a53 := Tryz.isAgg193
  z53 := Tryz.sizeOf193
  v53 := Tryz.zeroValue193
  t55 := Tryz.underlying178
  a55 := Tryz.isAgg178
  z55 := Tryz.sizeOf178
  v55 := Tryz.zeroValue178
  t66 := Tryz.underlying254
  a66 := Tryz.isAgg254
  z66 := Tryz.sizeOf254
  v66 := Tryz.zeroValue254
  t70 := Tryz.underlying258
  a70 := Tryz.isAgg258
  z70 := Tryz.sizeOf258
  v70 := Tryz.zeroValue258
  t76 := Tryz.underlying299
  a76 := Tryz.isAgg299
  z76 := Tryz.sizeOf299
  v76 := Tryz.zeroValue299
  t77 := Tryz.underlying300
  a77 := Tryz.isAgg300
  z77 := Tryz.sizeOf300
  v77 := Tryz.zeroValue300 }
def LA : FnT := Dt Tryz.prog 11 48
theorem ZK : OkF Tryz.prog 128 LA := Vv Lay128 (fun w => by kernel_rfl) (fun w => by kernel_rfl) Tryz.call128
noncomputable def Nt := ah Tryz.f234
noncomputable def aF234 := bi (sB (sA (sB Nt)))
noncomputable def Zn := ah Tryz.f178
noncomputable def Zm := aU (bi (sB Zn))
noncomputable def FX := bi (sB (sB Zm))
def G234 : FnT := Z5 Tryz.prog 48 178 11 128
theorem ok234 : OkF Tryz.prog 234 G234 := by
  intro args w K ⟨κ, ν, ek, ev, fv, m, mv, bx, mt, w0, L, ha, C, hev, hfb, hbd, hs, hk⟩
  subst ha
  refine .inl ⟨Tryz.call234 _ _, ?_⟩
  refine (DK (fnF := Tryz.f234) (f := 234) (g := 178) (tS := 22) (tV := 48) (i0 := 0) (i1 := 1) (i2 := 2) (i3 := 3) (i4 := 4) (ops0 := opsOf (sA Nt)) (ops1 := opsOf (sA (sA (sB Nt)))) (opsA := opsOf (rfA aF234)) (opsB := opsOf (bi (rfB aF234))) (ops4 := opsOf (sA (sB (sB Nt)))) C Tryz.func234 (by kernel_rfl) (by kernel_rfl) (by kernel_rfl) (fun e w k => by kernel_rfl) (fun e w k => by kernel_rfl) (fun e w k => by kernel_rfl) (fun e w k => by kernel_rfl) (fun e w k => by kernel_rfl) u22 Oj Qj hbd hfb _ z48 (by kernel_rfl) Tryz.call178 hev ?_ hs).mono ?_
  · intro l J W L' hY h
    exact N8 (fn := Tryz.f178) (f := 178) (es := 11) (tM := 110) (tV := 48) (fv := fv) (i0 := 0) (i1 := 1) (i2 := 2) (i3 := 3) (ops0 := opsOf (sA Zn)) (ops1 := opsOf (sA Zm)) (ops2 := opsOf (sA FX)) (q1 := opAt (opsOf (sA (sB FX))) 0) (q2 := opAt (opsOf (sA (sB FX))) 1) (q3 := opAt (opsOf (sA (sB FX))) 2) (q4 := opAt (opsOf (sA (sB FX))) 3) (ats := #[48]) Tryz.func178 (by kernel_rfl) (by kernel_rfl) (by kernel_rfl) (fun e w k => by kernel_rfl) (fun e w k => by kernel_rfl) (fun e w k => by kernel_rfl) (fun e w k => by kernel_rfl) (fun e w k => by kernel_rfl) (by kernel_rfl) (by kernel_rfl) (by kernel_rfl) FY (fun x => ⟨hev x, C.len x, C.one x⟩) _ z48 (by kernel_rfl) J hY h
  · rintro e w' ⟨v, rfl, xs, hp, h⟩
    exact ⟨v, rfl, hk xs v w' hp h⟩
def T177 : List (Nat × FnT) := [(234, G234)]
def YR (x0 : Value) (w : World) (K : V1) : Prop :=
ai G234 [(.slice none 0 0), x0] w fun v2 w1 =>
K v2 w1
def Yl : FnT := fun args w K => on1 (fun x0 => YR x0 w K) args
theorem c177 {x0 : Value} {w : World} {K : V1} (h : YR x0 w K) : ai Yl [x0] w K := aj (bL (p := fun x0 => YR x0 w K) h)
theorem ok177 : OkF Tryz.prog 177 Yl := by
  refine aO (aN (l := T177) ⟨ok234, trivial⟩) mixed (n := fuel) Tryz.func177 Tryz.call177 fun args w K h => ?_
  obtain ⟨x0, rfl, hh⟩ := bJ h
  exact az (c := ah Tryz.f177) (by kernel_rfl) (by kernel_rfl) (Eq.mp (by kernel_rfl) hh)
def T129 : List (Nat × FnT) := [(128, LA), (177, Yl)]
def Y6 (x0 x1 : Value) (w : World) (K : V1) : Prop :=
ai Yl [x0] w fun v2 w1 =>
ai LA [v2, x1] w1 fun _ w3 =>
K v2 w3
def Yo : FnT := fun args w K => on2 (fun x0 x1 => Y6 x0 x1 w K) args
theorem c129 {x0 x1 : Value} {w : World} {K : V1} (h : Y6 x0 x1 w K) : ai Yo [x0, x1] w K := aj (dm (p := fun x0 x1 => Y6 x0 x1 w K) h)
theorem ok129 : OkF Tryz.prog 129 Yo := by
  refine aO (aN (l := T129) ⟨ZK, ok177, trivial⟩) mixed (n := fuel) Tryz.func129 Tryz.call129 fun args w K h => ?_
  obtain ⟨x0, x1, rfl, hh⟩ := dn h
  exact az (c := ah Tryz.f129) (by kernel_rfl) (by kernel_rfl) (Eq.mp (by kernel_rfl) hh)
def T130 : List (Nat × FnT) := []
def Y5 (x0 : Value) (w : World) (K : V1) : Prop :=
bT 110 x0 w fun v2 w1 =>
aa (some (.func (.func 178) #[] #[v2])) fun v3 =>
K v3 w1
def Yn : FnT := fun args w K => on1 (fun x0 => Y5 x0 w K) args
theorem c130 {x0 : Value} {w : World} {K : V1} (h : Y5 x0 w K) : ai Yn [x0] w K := aj (bL (p := fun x0 => Y5 x0 w K) h)
theorem ok130 : OkF Tryz.prog 130 Yn := by
  refine aO (aN (l := T130) trivial) mixed (n := fuel) Tryz.func130 Tryz.call130 fun args w K h => ?_
  obtain ⟨x0, rfl, hh⟩ := bJ h
  exact az (c := ah Tryz.f130) (by kernel_rfl) (by kernel_rfl) (Eq.mp (by kernel_rfl) hh)
def T73 : List (Nat × FnT) := [(129, Yo), (130, Yn)]
def F73 (x0 : Value) (w : World) (K : V1) : Prop :=
aa (cZ x0) fun v1 =>
aa (ae 2 v1) fun v2 =>
aa (ld1 v2 w) fun v3 =>
ai Yn [v3] w fun v5 w4 =>
ai Yo [v5, (.func (.func 131) #[] #[])] w4 fun v7 w6 =>
K v7 w6
def G73 : FnT := fun args w K => on1 (fun x0 => F73 x0 w K) args
theorem c73 {x0 : Value} {w : World} {K : V1} (h : F73 x0 w K) : ai G73 [x0] w K := aj (bL (p := fun x0 => F73 x0 w K) h)
theorem ok73 : OkF Tryz.prog 73 G73 := by
  refine aO (aN (l := T73) ⟨ok129, ok130, trivial⟩) mixed (n := fuel) Tryz.func73 Tryz.call73 fun args w K h => ?_
  obtain ⟨x0, rfl, hh⟩ := bJ h
  exact az (c := ah Tryz.f73) (by kernel_rfl) (by kernel_rfl) (Eq.mp (by kernel_rfl) hh)
def T37 : List (Nat × FnT) := []
def F37 (x0 : Value) (w : World) (K : V1) : Prop :=
bT 46 x0 w fun v2 w1 =>
aY Tryz.prog 117 w1 fun v4 w3 =>
aa (ae 0 v2) fun v5 =>
aa (ld1 v5 w3) fun v6 =>
aa (ae 1 v2) fun v7 =>
aa (ld1 v7 w3) fun v8 =>
aa (ae 2 v2) fun v9 =>
aa (ld1 v9 w3) fun v10 =>
aa (aD Tryz.prog 117 [(0, v6), (1, v8), (2, v10)]) fun v11 =>
bF (st 3 v4 v11 w3) fun w12 =>
aa (ldN 3 v4 w12) fun v14 =>
K v14 w12
def G37 : FnT := fun args w K => on1 (fun x0 => F37 x0 w K) args
theorem c37 {x0 : Value} {w : World} {K : V1} (h : F37 x0 w K) : ai G37 [x0] w K := aj (bL (p := fun x0 => F37 x0 w K) h)
theorem ok37 : OkF Tryz.prog 37 G37 := by
  refine aO (aN (l := T37) trivial) mixed (n := fuel) Tryz.func37 Tryz.call37 fun args w K h => ?_
  obtain ⟨x0, rfl, hh⟩ := bJ h
  exact az (c := ah Tryz.f37) (by kernel_rfl) (by kernel_rfl) (Eq.mp (by kernel_rfl) hh)
def T39 : List (Nat × FnT) := [(37, G37)]
def F39 (x0 x1 : Value) (w : World) (K : V1) : Prop :=
bT 48 x1 w fun v2 w1 =>
aa (cZ x0) fun v3 =>
aa (ae 2 v3) fun v4 =>
aa (ld1 v4 w1.drew) fun v5 =>
aa (ae 0 v2) fun v6 =>
aa (ld1 v6 w1.drew) fun v7 =>
aa (ldN 11 v2 w1.drew) fun v8 =>
bz Tryz.prog 110 v5 v7 v8 w1.drew fun _ w9 =>
aa (cZ x0) fun v11 =>
aa (ae 3 v11) fun v12 =>
aa (ld1 v12 w9.drew) fun v13 =>
aa (ae 1 v2) fun v14 =>
aa (ldN 5 v14 w9.drew) fun v15 =>
aa (ae 0 v2) fun v16 =>
aa (ld1 v16 w9.drew) fun v17 =>
ai G37 [v15] w9.drew fun v19 w18 =>
(fok true (ld1 v12 w18) v13 ∧ fok true (ld1 v16 w18) v17) ∧ (bz Tryz.prog 111 v13 v19 v17 w18 fun _ w20 =>
K (.tuple #[]) w20)
def G39 : FnT := fun args w K => on2 (fun x0 x1 => F39 x0 x1 w K) args
theorem c39 {x0 x1 : Value} {w : World} {K : V1} (h : F39 x0 x1 w K) : ai G39 [x0, x1] w K := aj (dm (p := fun x0 x1 => F39 x0 x1 w K) h)
theorem ok39 : OkF Tryz.prog 39 G39 := by
  refine aO (aN (l := T39) ⟨ok37, trivial⟩) mixed (n := fuel) Tryz.func39 Tryz.call39 fun args w K h => ?_
  obtain ⟨x0, x1, rfl, hh⟩ := dn h
  exact az (c := ah Tryz.f39) (by kernel_rfl) (by kernel_rfl) (Eq.mp (by kernel_rfl) hh)
def T21 : List (Nat × FnT) := [(37, G37), (38, G38), (39, G39)]
def Mr (s0 s2 : Value) (w : World) (K : V1) : Prop :=
aa (cZ s0) fun v1 =>
aa (ae 1 v1) fun v2 =>
bF (st 1 v2 s2 w) fun w3 =>
K (.int .i64 0) w3
def CF (s0 s2 : Value) (w : World) (K : V1) : Prop := Mr s0 s2 w K
theorem ok21_5 {K : V1}
    (hn : HN (fun e w => K (e 6) w) kn) (hr : HR Tryz.prog [.tmp 6] K kr) (he : HE noE ke) :
    ∀ e w, CF (e 0) (e 2) w K → aA Tryz.prog (au T21) 106 fuel ((flat (ah Tryz.f21)).drop 12) e w kn kr ke := by
  intro e w h
  unfold CF at h
  have e1 : ∀ (_ : Unit), Mr (e 0) (e 2) w K = aA Tryz.prog (au T21) 106 fuel ((flat (ah Tryz.f21)).drop 12) e w (fun e w => K (e 6) w) (aW Tryz.prog [.tmp 6] K) noE := by intro _; kernel_rfl
  exact bQ (Eq.mp (e1 ()) h) hn hr he
def Ms (s0 s2 s92 s93 s94 : Value) (w : World) (_K : V1) (Y0 : V5) (Y1 : V2) : Prop :=
aa (bLt s94 s93) fun v5 =>
ifB v5 (
aa (bq 11 s92 s94) fun v6 =>
aa (ldN 11 v6 w) fun v7 =>
aY Tryz.prog 48 w fun v9 w8 =>
bF (st 11 v9 v7 w8) fun w10 =>
aa (ldN 11 v9 w10) fun v12 =>
ai G39 [s0, v12] w10 fun _ w13 =>
aa (bH s94 (.int .i64 1)) fun v15 =>
Y0 s0 s2 s92 s93 v15 w13) (
Y1 s0 s2 w)
def o5 : Nat → Value → Value → Value → Value → Value → World → (V1) → Prop
  | 0, _, _, _, _, _, _, _ => False
  | n + 1, s0, s2, s92, s93, s94, w, K => Ms s0 s2 s92 s93 s94 w K (fun a0 a2 a92 a93 a94 w => o5 n a0 a2 a92 a93 a94 w K) (fun a0 a2 w => CF a0 a2 w K)
def Jn (s0 s2 s92 s93 s94 : Value) (w : World) (K : V1) : Prop := o5 fuel s0 s2 s92 s93 s94 w K
theorem ok21_4 {K : V1}
    (hn : HN (fun e w => K (e 6) w) kn) (hr : HR Tryz.prog [.tmp 6] K kr) (he : HE noE ke) :
    ∀ e w, Jn (e 0) (e 2) (e 92) (e 93) (e 94) w K → aA Tryz.prog (au T21) 106 fuel ((flat (ah Tryz.f21)).drop 11) e w kn kr ke := by
  intro e w h
  unfold Jn at h
  refine bM (id := 2) (body := (aU (bi (aV (flat (ah Tryz.f21)) 11)))) (l2 := (flat (ah Tryz.f21)).drop 12) (by kernel_rfl) ?_
  refine bV (FL := fun m e w => o5 m (e 0) (e 2) (e 92) (e 93) (e 94) w K) (fr := aW Tryz.prog [.tmp 6] K) (fe := (bB 2 (fun e w => CF (e 0) (e 2) w K) noE)) (fun _ _ h => h) ?_ hr (bD (fun e w h => ok21_5 hn hr he e w h) he) fuel e w h
  intro m e w h
  have h : o5 (m + 1) (e 0) (e 2) (e 92) (e 93) (e 94) w K := h
  rw [o5] at h
  have e1 : ∀ (Y0 : V5) (Y1 : V2), Ms (e 0) (e 2) (e 92) (e 93) (e 94) w K Y0 Y1 = aA Tryz.prog (au T21) 106 fuel (flat (aU (bi (aV (flat (ah Tryz.f21)) 11)))) e w (fun e w => Y0 (e 0) (e 2) (e 92) (e 93) (e 94) w) (aW Tryz.prog [.tmp 6] K) (bB 2 (fun e w => Y1 (e 0) (e 2) w) noE) := by intro Y0 Y1; kernel_rfl
  exact Eq.mp (e1 (fun a0 a2 a92 a93 a94 w => o5 m a0 a2 a92 a93 a94 w K) (fun a0 a2 w => CF a0 a2 w K)) h
def Mt (s0 s1 s2 : Value) (w : World) (K : V1) (Y0 : V5) : Prop :=
aa (bI s1) fun v16 =>
aa (cZ s0) fun v17 =>
aa (ae 0 v17) fun v18 =>
aa (ld1 v18 w) fun v19 =>
aa (bGt v16 v19) fun v20 =>
ifB v20 (
K (.int .i64 200) w) (
aa (cZ s0) fun v21 =>
aa (ae 2 v21) fun v22 =>
aa (ld1 v22 w) fun v23 =>
l5 Tryz.prog 110 v23 w fun _ w24 =>
aa (cZ s0) fun v26 =>
aa (ae 3 v26) fun v27 =>
aa (ld1 v27 w24) fun v28 =>
l5 Tryz.prog 111 v28 w24 fun _ w29 =>
aa (bI s1) fun v31 =>
Y0 s0 s2 s1 v31 (.int .i64 0) w29)
def zV (s0 s1 s2 : Value) (w : World) (K : V1) : Prop := Mt s0 s1 s2 w K (fun a0 a2 a92 a93 a94 w => Jn a0 a2 a92 a93 a94 w K)
theorem ok21_3 {K : V1}
    (hn : HN (fun e w => K (e 6) w) kn) (hr : HR Tryz.prog [.tmp 6] K kr) (he : HE noE ke) :
    ∀ e w, zV (e 0) (e 1) (e 2) w K → aA Tryz.prog (au T21) 106 fuel ((flat (ah Tryz.f21)).drop 6) e w kn kr ke := by
  intro e w h
  unfold zV at h
  have e1 : ∀ (Y0 : V5), Mt (e 0) (e 1) (e 2) w K Y0 = aA Tryz.prog (au T21) 106 fuel (((flat (ah Tryz.f21)).drop 6).take 5) e w (fun e w => Y0 (e 0) (e 2) (e 92) (e 93) (e 94) w) (aW Tryz.prog [.tmp 6] K) noE := by intro Y0; kernel_rfl
  exact seg 5 (Eq.mp (e1 (fun a0 a2 a92 a93 a94 w => Jn a0 a2 a92 a93 a94 w K)) h) (fun e w h => ok21_4 hn hr he e w h) hr he
def Mv (s0 s1 s2 s7 s31 s32 s33 : Value) (w : World) (K : V1) (Y0 : V7) (Y1 : V3) : Prop :=
aa (bLt s33 s32) fun v32 =>
ifB v32 (
aa (bq 11 s31 s33) fun v33 =>
aa (ldN 11 v33 w) fun v34 =>
aY Tryz.prog 48 w fun v36 w35 =>
bF (st 11 v36 v34 w35) fun w37 =>
aa (cZ s7) fun v39 =>
aa (ae 2 v39) fun v40 =>
aa (ld1 v40 w37.drew) fun v41 =>
aa (ae 0 v36) fun v42 =>
aa (ld1 v42 w37.drew) fun v43 =>
aa (bY Tryz.prog 110 v41 v43 true w37.drew) fun v44 =>
aa (aK v44 0) fun v45 =>
aa (aK v44 1) fun v46 =>
aY Tryz.prog 48 w37.drew fun v48 w47 =>
(fok true (ld1 v40 w47) v41 ∧ fok true (ld1 v42 w47) v43 ∧ fok true (bY Tryz.prog 110 v41 v43 true w47) v44) ∧ (bF (st 11 v48 v45 w47) fun w49 =>
aa (cZ s7) fun v51 =>
aa (ae 3 v51) fun v52 =>
aa (ld1 v52 w49.drew) fun v53 =>
aa (ae 1 v36) fun v54 =>
aa (ldN 5 v54 w49.drew) fun v55 =>
ai G37 [v55] w49.drew fun v57 w56 =>
fok true (ld1 v52 w56) v53 ∧ (aa (bY Tryz.prog 111 v53 v57 true w56) fun v58 =>
aa (aK v58 0) fun _ =>
aa (aK v58 1) fun v60 =>
aa (ldN 11 v36 w56) fun v61 =>
ai G38 [v61] w56 fun v63 w62 =>
aa (bNe Tryz.prog 33 (.tmp 59) (.const (.int .i64 0)) v63 (.int .i64 0)) fun v64 =>
Sx.stepG (gd false v64) (ae 0 v36) fun v65 =>
Sx.stepG (gd false v64) (ld1 v65 w62) fun v66 =>
aS (gd false v64) s2 fun v67 =>
Sx.stepG (gd false v64) (bGe v66 v67) fun v68 =>
aa (aG v64 (.bool true) v68) fun v69 =>
aS (gd false v69) v46 fun v70 =>
aa (aG v69 (.bool true) v70) fun v71 =>
aS (gd false v71) v60 fun v72 =>
aa (aG v71 (.bool true) v72) fun v73 =>
ifB v73 (
K (.int .i64 4) w62) (
aa (ldN 11 v36 w62) fun v74 =>
ai G39 [s7, v74] w62 fun _ w75 =>
aa (bH s33 (.int .i64 1)) fun v77 =>
Y0 s0 s1 s2 s7 s31 s32 v77 w75)))) (
Y1 s0 s1 s2 w)
def o6 : Nat → Value → Value → Value → Value → Value → Value → Value → World → (V1) → Prop
  | 0, _, _, _, _, _, _, _, _, _ => False
  | n + 1, s0, s1, s2, s7, s31, s32, s33, w, K => Mv s0 s1 s2 s7 s31 s32 s33 w K (fun a0 a1 a2 a7 a31 a32 a33 w => o6 n a0 a1 a2 a7 a31 a32 a33 w K) (fun a0 a1 a2 w => zV a0 a1 a2 w K)
def Jo (s0 s1 s2 s7 s31 s32 s33 : Value) (w : World) (K : V1) : Prop := o6 fuel s0 s1 s2 s7 s31 s32 s33 w K
theorem ok21_2 {K : V1}
    (hn : HN (fun e w => K (e 6) w) kn) (hr : HR Tryz.prog [.tmp 6] K kr) (he : HE noE ke) :
    ∀ e w, Jo (e 0) (e 1) (e 2) (e 7) (e 31) (e 32) (e 33) w K → aA Tryz.prog (au T21) 106 fuel ((flat (ah Tryz.f21)).drop 5) e w kn kr ke := by
  intro e w h
  unfold Jo at h
  refine bM (id := 0) (body := (aU (bi (aV (flat (ah Tryz.f21)) 5)))) (l2 := (flat (ah Tryz.f21)).drop 6) (by kernel_rfl) ?_
  refine bV (FL := fun m e w => o6 m (e 0) (e 1) (e 2) (e 7) (e 31) (e 32) (e 33) w K) (fr := aW Tryz.prog [.tmp 6] K) (fe := (bB 0 (fun e w => zV (e 0) (e 1) (e 2) w K) noE)) (fun _ _ h => h) ?_ hr (bD (fun e w h => ok21_3 hn hr he e w h) he) fuel e w h
  intro m e w h
  have h : o6 (m + 1) (e 0) (e 1) (e 2) (e 7) (e 31) (e 32) (e 33) w K := h
  rw [o6] at h
  have e1 : ∀ (Y0 : V7) (Y1 : V3), Mv (e 0) (e 1) (e 2) (e 7) (e 31) (e 32) (e 33) w K Y0 Y1 = aA Tryz.prog (au T21) 106 fuel (flat (aU (bi (aV (flat (ah Tryz.f21)) 5)))) e w (fun e w => Y0 (e 0) (e 1) (e 2) (e 7) (e 31) (e 32) (e 33) w) (aW Tryz.prog [.tmp 6] K) (bB 0 (fun e w => Y1 (e 0) (e 1) (e 2) w) noE) := by intro Y0 Y1; kernel_rfl
  exact Eq.mp (e1 (fun a0 a1 a2 a7 a31 a32 a33 w => o6 m a0 a1 a2 a7 a31 a32 a33 w K) (fun a0 a1 a2 w => zV a0 a1 a2 w K)) h
def Mw (s0 s1 s2 : Value) (w : World) (K : V1) (Y0 : V7) : Prop :=
aa (bLt s2 (.int .i64 1)) fun v78 =>
aS (gd false v78) s2 fun v79 =>
Sx.stepG (gd false v78) (bGt v79 (.int .i64 1152921504606846976)) fun v80 =>
aa (aG v78 (.bool true) v80) fun v81 =>
ifB v81 (
K (.int .i64 4) w) (
aa (cZ s0) fun v82 =>
aa (ae 0 v82) fun v83 =>
aa (ld1 v83 w) fun v84 =>
eG none w fun v86 w85 =>
eG none w85 fun v88 w87 =>
aa (aD Tryz.prog 113 [(0, v84), (1, s2), (2, v86), (3, v88)]) fun v89 =>
bT 113 v89 w87 fun v91 w90 =>
aa (bI s1) fun v92 =>
Y0 s0 s1 s2 v91 s1 v92 (.int .i64 0) w90)
def NS (s0 s1 s2 : Value) (w : World) (K : V1) : Prop := Mw s0 s1 s2 w K (fun a0 a1 a2 a7 a31 a32 a33 w => Jo a0 a1 a2 a7 a31 a32 a33 w K)
theorem ok21_1 {K : V1}
    (hn : HN (fun e w => K (e 6) w) kn) (hr : HR Tryz.prog [.tmp 6] K kr) (he : HE noE ke) :
    ∀ e w, NS (e 0) (e 1) (e 2) w K → aA Tryz.prog (au T21) 106 fuel ((flat (ah Tryz.f21)).drop 0) e w kn kr ke := by
  intro e w h
  unfold NS at h
  have e1 : ∀ (Y0 : V7), Mw (e 0) (e 1) (e 2) w K Y0 = aA Tryz.prog (au T21) 106 fuel (((flat (ah Tryz.f21)).drop 0).take 5) e w (fun e w => Y0 (e 0) (e 1) (e 2) (e 7) (e 31) (e 32) (e 33) w) (aW Tryz.prog [.tmp 6] K) noE := by intro Y0; kernel_rfl
  exact seg 5 (Eq.mp (e1 (fun a0 a1 a2 a7 a31 a32 a33 w => Jo a0 a1 a2 a7 a31 a32 a33 w K)) h) (fun e w h => ok21_2 hn hr he e w h) hr he
def F21 (x0 x1 x2 : Value) (w : World) (K : V1) : Prop := NS x0 x1 x2 w K
def G21 : FnT := fun args w K => on3 (fun x0 x1 x2 => F21 x0 x1 x2 w K) args
theorem c21 {x0 x1 x2 : Value} {w : World} {K : V1} (h : F21 x0 x1 x2 w K) : ai G21 [x0, x1, x2] w K := aj (kT (p := fun x0 x1 x2 => F21 x0 x1 x2 w K) h)
theorem ok21 : OkF Tryz.prog 21 G21 := by
  refine aO (aN (l := T21) ⟨ok37, ok38, ok39, trivial⟩) mixed (n := fuel) Tryz.func21 Tryz.call21 fun args w K h => ?_
  obtain ⟨x0, x1, x2, rfl, hh⟩ := kV h
  unfold F21 at hh
  exact az (c := ah Tryz.f21) (by kernel_rfl) (by kernel_rfl) (ok21_1 (fun _ _ h => h) (fun _ _ h => h) (fun _ _ _ h => h) (dD [x0, x1, x2]) w hh)
def T59 : List (Nat × FnT) := []
def F59 (x0 : Value) (w : World) (K : V1) : Prop :=
aa (bLt x0 (.int .i64 1)) fun v1 =>
aS (gd false v1) x0 fun v2 =>
Sx.stepG (gd false v1) (bGt v2 (.int .i64 65536)) fun v3 =>
aa (aG v1 (.bool true) v3) fun v4 =>
ifB v4 (
K (.tuple #[(.pointer none), (.int .i64 1)]) w) (
aa (aD Tryz.prog 104 [(0, x0), (1, (.int .i64 1))]) fun v5 =>
bT 104 v5 w fun v7 w6 =>
K (.tuple #[v7, (.int .i64 0)]) w6)
def G59 : FnT := fun args w K => on1 (fun x0 => F59 x0 w K) args
theorem c59 {x0 : Value} {w : World} {K : V1} (h : F59 x0 w K) : ai G59 [x0] w K := aj (bL (p := fun x0 => F59 x0 w K) h)
theorem ok59 : OkF Tryz.prog 59 G59 := by
  refine aO (aN (l := T59) trivial) mixed (n := fuel) Tryz.func59 Tryz.call59 fun args w K h => ?_
  obtain ⟨x0, rfl, hh⟩ := bJ h
  exact az (c := ah Tryz.f59) (by kernel_rfl) (by kernel_rfl) (Eq.mp (by kernel_rfl) hh)
def T36 : List (Nat × FnT) := []
def F36 (x0 x1 : Value) (w : World) (K : V1) : Prop :=
bT 46 x0 w fun v2 w1 =>
bT 46 x1 w1 fun v4 w3 =>
aa (ae 0 v2) fun v5 =>
aa (ld1 v5 w3) fun v6 =>
aa (ae 0 v4) fun v7 =>
aa (ld1 v7 w3) fun v8 =>
aa (bEq Tryz.prog 9 (.tmp 6) (.tmp 8) v6 v8) fun v9 =>
Sx.stepG (gd true v9) (ae 1 v2) fun v10 =>
Sx.stepG (gd true v9) (ld1 v10 w3) fun v11 =>
Sx.stepG (gd true v9) (ae 1 v4) fun v12 =>
Sx.stepG (gd true v9) (ld1 v12 w3) fun v13 =>
Sx.stepG (gd true v9) (bEq Tryz.prog 9 (.tmp 12) (.tmp 14) v11 v13) fun v14 =>
aa (aG v9 v14 (.bool false)) fun v15 =>
Sx.stepG (gd true v15) (ae 2 v2) fun v16 =>
Sx.stepG (gd true v15) (ld1 v16 w3) fun v17 =>
Sx.stepG (gd true v15) (ae 2 v4) fun v18 =>
Sx.stepG (gd true v15) (ld1 v18 w3) fun v19 =>
Sx.stepG (gd true v15) (bEq Tryz.prog 9 (.tmp 19) (.tmp 21) v17 v19) fun v20 =>
aa (aG v15 v20 (.bool false)) fun v21 =>
K v21 w3
def G36 : FnT := fun args w K => on2 (fun x0 x1 => F36 x0 x1 w K) args
theorem c36 {x0 x1 : Value} {w : World} {K : V1} (h : F36 x0 x1 w K) : ai G36 [x0, x1] w K := aj (dm (p := fun x0 x1 => F36 x0 x1 w K) h)
theorem ok36 : OkF Tryz.prog 36 G36 := by
  refine aO (aN (l := T36) trivial) mixed (n := fuel) Tryz.func36 Tryz.call36 fun args w K h => ?_
  obtain ⟨x0, x1, rfl, hh⟩ := dn h
  exact az (c := ah Tryz.f36) (by kernel_rfl) (by kernel_rfl) (Eq.mp (by kernel_rfl) hh)
def T19 : List (Nat × FnT) := [(35, G35), (36, G36)]
def MG (s0 s1 s2 s7 : Value) (w : World) (K : V1) : Prop :=
aa (bI s1) fun v1 =>
aa (cZ s0) fun v2 =>
aa (ae 0 v2) fun v3 =>
aa (ld1 v3 w) fun v4 =>
aa (bGt v1 v4) fun v5 =>
ifB v5 (
K (.int .i64 200) w) (
aa (cZ s0) fun v6 =>
aa (ae 2 v6) fun v7 =>
bF (st 1 v7 s7 w) fun w8 =>
aa (cZ s0) fun v10 =>
aa (ae 1 v10) fun v11 =>
bF (st 1 v11 s2 w8) fun w12 =>
K (.int .i64 0) w12)
def ic (s0 s1 s2 s7 : Value) (w : World) (K : V1) : Prop := MG s0 s1 s2 s7 w K
theorem ok19_3 {K : V1}
    (hn : HN (fun e w => K (e 6) w) kn) (hr : HR Tryz.prog [.tmp 6] K kr) (he : HE noE ke) :
    ∀ e w, ic (e 0) (e 1) (e 2) (e 7) w K → aA Tryz.prog (au T19) 119 fuel ((flat (ah Tryz.f19)).drop 6) e w kn kr ke := by
  intro e w h
  unfold ic at h
  have e1 : ∀ (_ : Unit), MG (e 0) (e 1) (e 2) (e 7) w K = aA Tryz.prog (au T19) 119 fuel ((flat (ah Tryz.f19)).drop 6) e w (fun e w => K (e 6) w) (aW Tryz.prog [.tmp 6] K) noE := by intro _; kernel_rfl
  exact bQ (Eq.mp (e1 ()) h) hn hr he
def ME (s0 s1 s2 s7 s8 : Value) (w : World) (_K : V1) (R3 : V5) : Prop :=
aa (bH s8 (.int .i64 1)) fun v14 =>
R3 s0 s1 s2 s7 v14 w
def gT (s0 s1 s2 s7 s8 : Value) (w : World) (K : V1) (R3 : V5) : Prop := ME s0 s1 s2 s7 s8 w K R3
theorem QU (R3 : V5) {K : V1}
    (hn : HN (fun e w => R3 (e 0) (e 1) (e 2) (e 7) (e 8) w) kn) (hr : HR Tryz.prog [.tmp 6] K kr) (he : HE (bB 0 (fun e w => ic (e 0) (e 1) (e 2) (e 7) w K) noE) ke) :
    ∀ e w, gT (e 0) (e 1) (e 2) (e 7) (e 8) w K R3 → aA Tryz.prog (au T19) 119 fuel ((flat (aU (bi (aV (flat (ah Tryz.f19)) 5)))).drop 3) e w kn kr ke := by
  intro e w h
  unfold gT at h
  have e1 : ∀ (_ : Unit), ME (e 0) (e 1) (e 2) (e 7) (e 8) w K R3 = aA Tryz.prog (au T19) 119 fuel ((flat (aU (bi (aV (flat (ah Tryz.f19)) 5)))).drop 3) e w (fun e w => R3 (e 0) (e 1) (e 2) (e 7) (e 8) w) (aW Tryz.prog [.tmp 6] K) (bB 0 (fun e w => ic (e 0) (e 1) (e 2) (e 7) w K) noE) := by intro _; kernel_rfl
  exact bQ (Eq.mp (e1 ()) h) hn hr he
def EG (s0 s1 s2 s7 s8 s10 : Value) (w : World) (_K : V1) (R3 : V5) (Y0 : V5) : Prop :=
aa (dZ 11 s7 none (some s10) none) fun v15 =>
aJ Tryz.prog 22 22 (.slice none 0 0) v15 w fun v17 w16 =>
aa (bq 11 s1 s8) fun v18 =>
aa (ldN 11 v18 w16) fun v19 =>
aB Tryz.prog 22 1 [(0, v19)] w16 fun v21 w20 =>
aJ Tryz.prog 22 22 v17 v21 w20 fun v23 w22 =>
aa (dZ 11 s7 (some s10) none none) fun v24 =>
aJ Tryz.prog 22 22 v23 v24 w22 fun v26 w25 =>
Y0 s0 s1 s2 v26 s8 w25
def rG (s0 s1 s2 s7 s8 s10 : Value) (w : World) (K : V1) (R3 : V5) : Prop := EG s0 s1 s2 s7 s8 s10 w K R3 (fun a0 a1 a2 a7 a8 w => gT a0 a1 a2 a7 a8 w K R3)
theorem Wh (R3 : V5) {K : V1}
    (hn : HN (fun e w => gT (e 0) (e 1) (e 2) (e 7) (e 8) w K R3) kn) (hr : HR Tryz.prog [.tmp 6] K kr) (he : HE (bB 1 (fun e w => gT (e 0) (e 1) (e 2) (e 7) (e 8) w K R3) (bB 0 (fun e w => ic (e 0) (e 1) (e 2) (e 7) w K) noE)) ke) :
    ∀ e w, rG (e 0) (e 1) (e 2) (e 7) (e 8) (e 10) w K R3 → aA Tryz.prog (au T19) 119 fuel ((flat (bi (aV (flat (aU (bi (aV (flat (ah Tryz.f19)) 5)))) 2))).drop 6) e w kn kr ke := by
  intro e w h
  unfold rG at h
  have e1 : ∀ (Y0 : V5), EG (e 0) (e 1) (e 2) (e 7) (e 8) (e 10) w K R3 Y0 = aA Tryz.prog (au T19) 119 fuel ((flat (bi (aV (flat (aU (bi (aV (flat (ah Tryz.f19)) 5)))) 2))).drop 6) e w (fun e w => Y0 (e 0) (e 1) (e 2) (e 7) (e 8) w) (aW Tryz.prog [.tmp 6] K) (bB 1 (fun e w => Y0 (e 0) (e 1) (e 2) (e 7) (e 8) w) (bB 0 (fun e w => ic (e 0) (e 1) (e 2) (e 7) w K) noE)) := by intro Y0; kernel_rfl
  exact bQ (Eq.mp (e1 (fun a0 a1 a2 a7 a8 w => gT a0 a1 a2 a7 a8 w K R3)) h) hn hr he
def EH (s0 s1 s2 s7 s8 s10 : Value) (w : World) (_K : V1) (R3 : V5) (Y0 : V6) (Y1 : V6) : Prop :=
aa (bI s7) fun v27 =>
aa (bLt s10 v27) fun v28 =>
aS (gd true v28) s7 fun v29 =>
aS (gd true v28) s10 fun v30 =>
Sx.stepG (gd true v28) (bq 11 v29 v30) fun v31 =>
Sx.stepG (gd true v28) (ae 0 v31) fun v32 =>
Sx.stepG (gd true v28) (ld1 v32 w.drew) fun v33 =>
aS (gd true v28) s1 fun v34 =>
aS (gd true v28) s8 fun v35 =>
Sx.stepG (gd true v28) (bq 11 v34 v35) fun v36 =>
Sx.stepG (gd true v28) (ae 0 v36) fun v37 =>
Sx.stepG (gd true v28) (ld1 v37 w.drew) fun v38 =>
Sx.stepG (gd true v28) (bLt v33 v38) fun v39 =>
aa (aG v28 v39 (.bool false)) fun v40 =>
ifB v40 (
aa (bH s10 (.int .i64 1)) fun v41 =>
Y0 s0 s1 s2 s7 s8 v41 w.drew) (
Y1 s0 s1 s2 s7 s8 s10 w.drew)
def lN : Nat → Value → Value → Value → Value → Value → Value → World → (V1) → (V5) → Prop
  | 0, _, _, _, _, _, _, _, _, _ => False
  | n + 1, s0, s1, s2, s7, s8, s10, w, K, R3 => EH s0 s1 s2 s7 s8 s10 w K R3 (fun a0 a1 a2 a7 a8 a10 w => lN n a0 a1 a2 a7 a8 a10 w K R3) (fun a0 a1 a2 a7 a8 a10 w => rG a0 a1 a2 a7 a8 a10 w K R3)
def z8 (s0 s1 s2 s7 s8 s10 : Value) (w : World) (K : V1) (R3 : V5) : Prop := lN fuel s0 s1 s2 s7 s8 s10 w K R3
theorem Wi (R3 : V5) {K : V1}
    (hn : HN (fun e w => gT (e 0) (e 1) (e 2) (e 7) (e 8) w K R3) kn) (hr : HR Tryz.prog [.tmp 6] K kr) (he : HE (bB 1 (fun e w => gT (e 0) (e 1) (e 2) (e 7) (e 8) w K R3) (bB 0 (fun e w => ic (e 0) (e 1) (e 2) (e 7) w K) noE)) ke) :
    ∀ e w, z8 (e 0) (e 1) (e 2) (e 7) (e 8) (e 10) w K R3 → aA Tryz.prog (au T19) 119 fuel ((flat (bi (aV (flat (aU (bi (aV (flat (ah Tryz.f19)) 5)))) 2))).drop 5) e w kn kr ke := by
  intro e w h
  unfold z8 at h
  refine bM (id := 4) (body := (aU (bi (aV (flat (bi (aV (flat (aU (bi (aV (flat (ah Tryz.f19)) 5)))) 2))) 5)))) (l2 := (flat (bi (aV (flat (aU (bi (aV (flat (ah Tryz.f19)) 5)))) 2))).drop 6) (by kernel_rfl) ?_
  refine bV (FL := fun m e w => lN m (e 0) (e 1) (e 2) (e 7) (e 8) (e 10) w K R3) (fr := aW Tryz.prog [.tmp 6] K) (fe := (bB 4 (fun e w => rG (e 0) (e 1) (e 2) (e 7) (e 8) (e 10) w K R3) (bB 1 (fun e w => gT (e 0) (e 1) (e 2) (e 7) (e 8) w K R3) (bB 0 (fun e w => ic (e 0) (e 1) (e 2) (e 7) w K) noE)))) (fun _ _ h => h) ?_ hr (bD (fun e w h => Wh R3 hn hr he e w h) he) fuel e w h
  intro m e w h
  have h : lN (m + 1) (e 0) (e 1) (e 2) (e 7) (e 8) (e 10) w K R3 := h
  rw [lN] at h
  have e1 : ∀ (Y0 : V6) (Y1 : V6), EH (e 0) (e 1) (e 2) (e 7) (e 8) (e 10) w K R3 Y0 Y1 = aA Tryz.prog (au T19) 119 fuel (flat (aU (bi (aV (flat (bi (aV (flat (aU (bi (aV (flat (ah Tryz.f19)) 5)))) 2))) 5)))) e w (fun e w => Y0 (e 0) (e 1) (e 2) (e 7) (e 8) (e 10) w) (aW Tryz.prog [.tmp 6] K) (bB 4 (fun e w => Y1 (e 0) (e 1) (e 2) (e 7) (e 8) (e 10) w) (bB 1 (fun e w => gT (e 0) (e 1) (e 2) (e 7) (e 8) w K R3) (bB 0 (fun e w => ic (e 0) (e 1) (e 2) (e 7) w K) noE))) := by intro Y0 Y1; kernel_rfl
  exact Eq.mp (e1 (fun a0 a1 a2 a7 a8 a10 w => lN m a0 a1 a2 a7 a8 a10 w K R3) (fun a0 a1 a2 a7 a8 a10 w => rG a0 a1 a2 a7 a8 a10 w K R3)) h
def Mx (s0 s1 s2 s7 s8 : Value) (w : World) (_K : V1) (R3 : V5) (Y0 : V6) : Prop :=
Y0 s0 s1 s2 s7 s8 (.int .i64 0) w
def zZ (s0 s1 s2 s7 s8 : Value) (w : World) (K : V1) (R3 : V5) : Prop := Mx s0 s1 s2 s7 s8 w K R3 (fun a0 a1 a2 a7 a8 a10 w => z8 a0 a1 a2 a7 a8 a10 w K R3)
theorem ok19_9 (R3 : V5) {K : V1}
    (hn : HN (fun e w => gT (e 0) (e 1) (e 2) (e 7) (e 8) w K R3) kn) (hr : HR Tryz.prog [.tmp 6] K kr) (he : HE (bB 1 (fun e w => gT (e 0) (e 1) (e 2) (e 7) (e 8) w K R3) (bB 0 (fun e w => ic (e 0) (e 1) (e 2) (e 7) w K) noE)) ke) :
    ∀ e w, zZ (e 0) (e 1) (e 2) (e 7) (e 8) w K R3 → aA Tryz.prog (au T19) 119 fuel ((flat (bi (aV (flat (aU (bi (aV (flat (ah Tryz.f19)) 5)))) 2))).drop 4) e w kn kr ke := by
  intro e w h
  unfold zZ at h
  have e1 : ∀ (Y0 : V6), Mx (e 0) (e 1) (e 2) (e 7) (e 8) w K R3 Y0 = aA Tryz.prog (au T19) 119 fuel (((flat (bi (aV (flat (aU (bi (aV (flat (ah Tryz.f19)) 5)))) 2))).drop 4).take 1) e w (fun e w => Y0 (e 0) (e 1) (e 2) (e 7) (e 8) (e 10) w) (aW Tryz.prog [.tmp 6] K) (bB 1 (fun e w => gT (e 0) (e 1) (e 2) (e 7) (e 8) w K R3) (bB 0 (fun e w => ic (e 0) (e 1) (e 2) (e 7) w K) noE)) := by intro Y0; kernel_rfl
  exact seg 1 (Eq.mp (e1 (fun a0 a1 a2 a7 a8 a10 w => z8 a0 a1 a2 a7 a8 a10 w K R3)) h) (fun e w h => Wi R3 hn hr he e w h) hr he
def MB (s0 s1 s2 s7 s8 s9 : Value) (w : World) (K : V1) (R3 : V5) (Y0 : V6) (Y1 : V5) : Prop :=
aa (bLt s9 s8) fun v42 =>
ifB v42 (
aa (bq 11 s1 s9) fun v43 =>
aa (ae 0 v43) fun v44 =>
aa (ld1 v44 w.drew) fun v45 =>
aa (bq 11 s1 s8) fun v46 =>
aa (ae 0 v46) fun v47 =>
aa (ld1 v47 w.drew) fun v48 =>
aa (bEq Tryz.prog 3 (.tmp 48) (.tmp 53) v45 v48) fun v49 =>
aS (gd false v49) s1 fun v50 =>
aS (gd false v49) s9 fun v51 =>
Sx.stepG (gd false v49) (bq 11 v50 v51) fun v52 =>
Sx.stepG (gd false v49) (ae 1 v52) fun v53 =>
Sx.stepG (gd false v49) (ldN 5 v53 w.drew) fun v54 =>
aS (gd false v49) s1 fun v55 =>
aS (gd false v49) s8 fun v56 =>
Sx.stepG (gd false v49) (bq 11 v55 v56) fun v57 =>
Sx.stepG (gd false v49) (ae 1 v57) fun v58 =>
Sx.stepG (gd false v49) (ldN 5 v58 w.drew) fun v59 =>
dz (gd false v49) (fun k => ai G36 [v54, v59] w.drew k) w.drew fun v61 w60 =>
aa (aG v49 (.bool true) v61) fun v62 =>
ifB v62 (
K (.int .i64 4) w60) (
aa (bH s9 (.int .i64 1)) fun v63 =>
Y0 s0 s1 s2 s7 s8 v63 w60)) (
Y1 s0 s1 s2 s7 s8 w)
def o7 : Nat → Value → Value → Value → Value → Value → Value → World → (V1) → (V5) → Prop
  | 0, _, _, _, _, _, _, _, _, _ => False
  | n + 1, s0, s1, s2, s7, s8, s9, w, K, R3 => MB s0 s1 s2 s7 s8 s9 w K R3 (fun a0 a1 a2 a7 a8 a9 w => o7 n a0 a1 a2 a7 a8 a9 w K R3) (fun a0 a1 a2 a7 a8 w => zZ a0 a1 a2 a7 a8 w K R3)
def Jp (s0 s1 s2 s7 s8 s9 : Value) (w : World) (K : V1) (R3 : V5) : Prop := o7 fuel s0 s1 s2 s7 s8 s9 w K R3
theorem ok19_8 (R3 : V5) {K : V1}
    (hn : HN (fun e w => gT (e 0) (e 1) (e 2) (e 7) (e 8) w K R3) kn) (hr : HR Tryz.prog [.tmp 6] K kr) (he : HE (bB 1 (fun e w => gT (e 0) (e 1) (e 2) (e 7) (e 8) w K R3) (bB 0 (fun e w => ic (e 0) (e 1) (e 2) (e 7) w K) noE)) ke) :
    ∀ e w, Jp (e 0) (e 1) (e 2) (e 7) (e 8) (e 9) w K R3 → aA Tryz.prog (au T19) 119 fuel ((flat (bi (aV (flat (aU (bi (aV (flat (ah Tryz.f19)) 5)))) 2))).drop 3) e w kn kr ke := by
  intro e w h
  unfold Jp at h
  refine bM (id := 2) (body := (aU (bi (aV (flat (bi (aV (flat (aU (bi (aV (flat (ah Tryz.f19)) 5)))) 2))) 3)))) (l2 := (flat (bi (aV (flat (aU (bi (aV (flat (ah Tryz.f19)) 5)))) 2))).drop 4) (by kernel_rfl) ?_
  refine bV (FL := fun m e w => o7 m (e 0) (e 1) (e 2) (e 7) (e 8) (e 9) w K R3) (fr := aW Tryz.prog [.tmp 6] K) (fe := (bB 2 (fun e w => zZ (e 0) (e 1) (e 2) (e 7) (e 8) w K R3) (bB 1 (fun e w => gT (e 0) (e 1) (e 2) (e 7) (e 8) w K R3) (bB 0 (fun e w => ic (e 0) (e 1) (e 2) (e 7) w K) noE)))) (fun _ _ h => h) ?_ hr (bD (fun e w h => ok19_9 R3 hn hr he e w h) he) fuel e w h
  intro m e w h
  have h : o7 (m + 1) (e 0) (e 1) (e 2) (e 7) (e 8) (e 9) w K R3 := h
  rw [o7] at h
  have e1 : ∀ (Y0 : V6) (Y1 : V5), MB (e 0) (e 1) (e 2) (e 7) (e 8) (e 9) w K R3 Y0 Y1 = aA Tryz.prog (au T19) 119 fuel (flat (aU (bi (aV (flat (bi (aV (flat (aU (bi (aV (flat (ah Tryz.f19)) 5)))) 2))) 3)))) e w (fun e w => Y0 (e 0) (e 1) (e 2) (e 7) (e 8) (e 9) w) (aW Tryz.prog [.tmp 6] K) (bB 2 (fun e w => Y1 (e 0) (e 1) (e 2) (e 7) (e 8) w) (bB 1 (fun e w => gT (e 0) (e 1) (e 2) (e 7) (e 8) w K R3) (bB 0 (fun e w => ic (e 0) (e 1) (e 2) (e 7) w K) noE))) := by intro Y0 Y1; kernel_rfl
  exact Eq.mp (e1 (fun a0 a1 a2 a7 a8 a9 w => o7 m a0 a1 a2 a7 a8 a9 w K R3) (fun a0 a1 a2 a7 a8 w => zZ a0 a1 a2 a7 a8 w K R3)) h
def MC (s0 s1 s2 s7 s8 : Value) (w : World) (K : V1) (R3 : V5) (Y0 : V6) : Prop :=
aa (bq 11 s1 s8) fun v64 =>
aa (ldN 11 v64 w) fun v65 =>
ai G35 [v65] w fun v67 w66 =>
aa (bNe Tryz.prog 33 (.tmp 28) (.const (.int .i64 0)) v67 (.int .i64 0)) fun v68 =>
aS (gd false v68) s1 fun v69 =>
aS (gd false v68) s8 fun v70 =>
Sx.stepG (gd false v68) (bq 11 v69 v70) fun v71 =>
Sx.stepG (gd false v68) (ae 0 v71) fun v72 =>
Sx.stepG (gd false v68) (ld1 v72 w66) fun v73 =>
aS (gd false v68) s2 fun v74 =>
Sx.stepG (gd false v68) (bGe v73 v74) fun v75 =>
aa (aG v68 (.bool true) v75) fun v76 =>
ifB v76 (
K (.int .i64 4) w66) (
Y0 s0 s1 s2 s7 s8 (.int .i64 0) w66)
def NT (s0 s1 s2 s7 s8 : Value) (w : World) (K : V1) (R3 : V5) : Prop := MC s0 s1 s2 s7 s8 w K R3 (fun a0 a1 a2 a7 a8 a9 w => Jp a0 a1 a2 a7 a8 a9 w K R3)
theorem ok19_7 (R3 : V5) {K : V1}
    (hn : HN (fun e w => gT (e 0) (e 1) (e 2) (e 7) (e 8) w K R3) kn) (hr : HR Tryz.prog [.tmp 6] K kr) (he : HE (bB 1 (fun e w => gT (e 0) (e 1) (e 2) (e 7) (e 8) w K R3) (bB 0 (fun e w => ic (e 0) (e 1) (e 2) (e 7) w K) noE)) ke) :
    ∀ e w, NT (e 0) (e 1) (e 2) (e 7) (e 8) w K R3 → aA Tryz.prog (au T19) 119 fuel ((flat (bi (aV (flat (aU (bi (aV (flat (ah Tryz.f19)) 5)))) 2))).drop 0) e w kn kr ke := by
  intro e w h
  unfold NT at h
  have e1 : ∀ (Y0 : V6), MC (e 0) (e 1) (e 2) (e 7) (e 8) w K R3 Y0 = aA Tryz.prog (au T19) 119 fuel (((flat (bi (aV (flat (aU (bi (aV (flat (ah Tryz.f19)) 5)))) 2))).drop 0).take 3) e w (fun e w => Y0 (e 0) (e 1) (e 2) (e 7) (e 8) (e 9) w) (aW Tryz.prog [.tmp 6] K) (bB 1 (fun e w => gT (e 0) (e 1) (e 2) (e 7) (e 8) w K R3) (bB 0 (fun e w => ic (e 0) (e 1) (e 2) (e 7) w K) noE)) := by intro Y0; kernel_rfl
  exact seg 3 (Eq.mp (e1 (fun a0 a1 a2 a7 a8 a9 w => Jp a0 a1 a2 a7 a8 a9 w K R3)) h) (fun e w h => ok19_8 R3 hn hr he e w h) hr he
def Jq (s0 s1 s2 s7 s8 : Value) (w : World) (K : V1) (R3 : V5) : Prop := NT s0 s1 s2 s7 s8 w K R3
theorem ok19_5 (R3 : V5) {K : V1}
    (hn : HN (fun e w => R3 (e 0) (e 1) (e 2) (e 7) (e 8) w) kn) (hr : HR Tryz.prog [.tmp 6] K kr) (he : HE (bB 0 (fun e w => ic (e 0) (e 1) (e 2) (e 7) w K) noE) ke) :
    ∀ e w, Jq (e 0) (e 1) (e 2) (e 7) (e 8) w K R3 → aA Tryz.prog (au T19) 119 fuel ((flat (aU (bi (aV (flat (ah Tryz.f19)) 5)))).drop 2) e w kn kr ke := by
  intro e w h
  unfold Jq at h
  refine pE (id := 1) (body := (bi (aV (flat (aU (bi (aV (flat (ah Tryz.f19)) 5)))) 2))) (l2 := (flat (aU (bi (aV (flat (ah Tryz.f19)) 5)))).drop 3) (by kernel_rfl) ?_
  exact ok19_7 R3 (fun e w h => QU R3 hn hr he e w h) hr (bD (fun e w h => QU R3 hn hr he e w h) he) e w h
def MF (s0 s1 s2 s7 s8 : Value) (w : World) (_K : V1) (R3 : V5) (Y0 : V5) (Y1 : V4) : Prop :=
aa (bI s1) fun v77 =>
aa (bLt s8 v77) fun v78 =>
ifB v78 (
Y0 s0 s1 s2 s7 s8 w) (
Y1 s0 s1 s2 s7 w)
def NU (s0 s1 s2 s7 s8 : Value) (w : World) (K : V1) (R3 : V5) : Prop := MF s0 s1 s2 s7 s8 w K R3 (fun a0 a1 a2 a7 a8 w => Jq a0 a1 a2 a7 a8 w K R3) (fun a0 a1 a2 a7 w => ic a0 a1 a2 a7 w K)
theorem ok19_4 (R3 : V5) {K : V1}
    (hn : HN (fun e w => R3 (e 0) (e 1) (e 2) (e 7) (e 8) w) kn) (hr : HR Tryz.prog [.tmp 6] K kr) (he : HE (bB 0 (fun e w => ic (e 0) (e 1) (e 2) (e 7) w K) noE) ke) :
    ∀ e w, NU (e 0) (e 1) (e 2) (e 7) (e 8) w K R3 → aA Tryz.prog (au T19) 119 fuel ((flat (aU (bi (aV (flat (ah Tryz.f19)) 5)))).drop 0) e w kn kr ke := by
  intro e w h
  unfold NU at h
  have e1 : ∀ (Y0 : V5) (Y1 : V4), MF (e 0) (e 1) (e 2) (e 7) (e 8) w K R3 Y0 Y1 = aA Tryz.prog (au T19) 119 fuel (((flat (aU (bi (aV (flat (ah Tryz.f19)) 5)))).drop 0).take 2) e w (fun e w => Y0 (e 0) (e 1) (e 2) (e 7) (e 8) w) (aW Tryz.prog [.tmp 6] K) (bB 0 (fun e w => Y1 (e 0) (e 1) (e 2) (e 7) w) noE) := by intro Y0 Y1; kernel_rfl
  exact seg 2 (Eq.mp (e1 (fun a0 a1 a2 a7 a8 w => Jq a0 a1 a2 a7 a8 w K R3) (fun a0 a1 a2 a7 w => ic a0 a1 a2 a7 w K)) h) (fun e w h => ok19_5 R3 hn hr he e w h) hr he
def o8 : Nat → Value → Value → Value → Value → Value → World → (V1) → Prop
  | 0, _, _, _, _, _, _, _ => False
  | n + 1, s0, s1, s2, s7, s8, w, K => NU s0 s1 s2 s7 s8 w K (fun a0 a1 a2 a7 a8 w => o8 n a0 a1 a2 a7 a8 w K)
def Jr (s0 s1 s2 s7 s8 : Value) (w : World) (K : V1) : Prop := o8 fuel s0 s1 s2 s7 s8 w K
theorem ok19_2 {K : V1}
    (hn : HN (fun e w => K (e 6) w) kn) (hr : HR Tryz.prog [.tmp 6] K kr) (he : HE noE ke) :
    ∀ e w, Jr (e 0) (e 1) (e 2) (e 7) (e 8) w K → aA Tryz.prog (au T19) 119 fuel ((flat (ah Tryz.f19)).drop 5) e w kn kr ke := by
  intro e w h
  unfold Jr at h
  refine bM (id := 0) (body := (aU (bi (aV (flat (ah Tryz.f19)) 5)))) (l2 := (flat (ah Tryz.f19)).drop 6) (by kernel_rfl) ?_
  refine bV (FL := fun m e w => o8 m (e 0) (e 1) (e 2) (e 7) (e 8) w K) (fr := aW Tryz.prog [.tmp 6] K) (fe := (bB 0 (fun e w => ic (e 0) (e 1) (e 2) (e 7) w K) noE)) (fun _ _ h => h) ?_ hr (bD (fun e w h => ok19_3 hn hr he e w h) he) fuel e w h
  intro m e w h
  have h : o8 (m + 1) (e 0) (e 1) (e 2) (e 7) (e 8) w K := h
  rw [o8] at h
  exact ok19_4 (fun a0 a1 a2 a7 a8 w => o8 m a0 a1 a2 a7 a8 w K) (fun _ _ h => h) (fun _ _ h => h) (fun _ _ _ h => h) e w h
def MH (s0 s1 s2 : Value) (w : World) (K : V1) (Y0 : V5) : Prop :=
aa (bLt s2 (.int .i64 1)) fun v79 =>
aS (gd false v79) s2 fun v80 =>
Sx.stepG (gd false v79) (bGt v80 (.int .i64 1152921504606846976)) fun v81 =>
aa (aG v79 (.bool true) v81) fun v82 =>
ifB v82 (
K (.int .i64 4) w) (
Y0 s0 s1 s2 (.slice none 0 0) (.int .i64 0) w)
def NV (s0 s1 s2 : Value) (w : World) (K : V1) : Prop := MH s0 s1 s2 w K (fun a0 a1 a2 a7 a8 w => Jr a0 a1 a2 a7 a8 w K)
theorem ok19_1 {K : V1}
    (hn : HN (fun e w => K (e 6) w) kn) (hr : HR Tryz.prog [.tmp 6] K kr) (he : HE noE ke) :
    ∀ e w, NV (e 0) (e 1) (e 2) w K → aA Tryz.prog (au T19) 119 fuel ((flat (ah Tryz.f19)).drop 0) e w kn kr ke := by
  intro e w h
  unfold NV at h
  have e1 : ∀ (Y0 : V5), MH (e 0) (e 1) (e 2) w K Y0 = aA Tryz.prog (au T19) 119 fuel (((flat (ah Tryz.f19)).drop 0).take 5) e w (fun e w => Y0 (e 0) (e 1) (e 2) (e 7) (e 8) w) (aW Tryz.prog [.tmp 6] K) noE := by intro Y0; kernel_rfl
  exact seg 5 (Eq.mp (e1 (fun a0 a1 a2 a7 a8 w => Jr a0 a1 a2 a7 a8 w K)) h) (fun e w h => ok19_2 hn hr he e w h) hr he
def F19 (x0 x1 x2 : Value) (w : World) (K : V1) : Prop := NV x0 x1 x2 w K
def G19 : FnT := fun args w K => on3 (fun x0 x1 x2 => F19 x0 x1 x2 w K) args
theorem c19 {x0 x1 x2 : Value} {w : World} {K : V1} (h : F19 x0 x1 x2 w K) : ai G19 [x0, x1, x2] w K := aj (kT (p := fun x0 x1 x2 => F19 x0 x1 x2 w K) h)
theorem ok19 : OkF Tryz.prog 19 G19 := by
  refine aO (aN (l := T19) ⟨ok35, ok36, trivial⟩) mixed (n := fuel) Tryz.func19 Tryz.call19 fun args w K h => ?_
  obtain ⟨x0, x1, x2, rfl, hh⟩ := kV h
  unfold F19 at hh
  exact az (c := ah Tryz.f19) (by kernel_rfl) (by kernel_rfl) (ok19_1 (fun _ _ h => h) (fun _ _ h => h) (fun _ _ _ h => h) (dD [x0, x1, x2]) w hh)
def T166 : List (Nat × FnT) := []
def YX (x0 : Value) (w : World) (K : V1) : Prop :=
aa (bNe Tryz.prog 3 (.tmp 3) (.tmp 4) x0 x0) fun v1 =>
K v1 w
def P6 : FnT := fun args w K => on1 (fun x0 => YX x0 w K) args
theorem c166 {x0 : Value} {w : World} {K : V1} (h : YX x0 w K) : ai P6 [x0] w K := aj (bL (p := fun x0 => YX x0 w K) h)
theorem ok166 : OkF Tryz.prog 166 P6 := by
  refine aO (aN (l := T166) trivial) mixed (n := fuel) Tryz.func166 Tryz.call166 fun args w K h => ?_
  obtain ⟨x0, rfl, hh⟩ := bJ h
  exact az (c := ah Tryz.f166) (by kernel_rfl) (by kernel_rfl) (Eq.mp (by kernel_rfl) hh)
def T120 : List (Nat × FnT) := [(166, P6)]
def Zd (x0 x1 : Value) (w : World) (K : V1) : Prop :=
ai P6 [x0] w fun v2 w1 =>
ai P6 [x1] w1 fun v4 w3 =>
ifB v2 (
ifB v4 (
K (.int .i64 0) w3) (
K (.int .i64 (-1)) w3)) (
ifB v4 (
K (.int .i64 1) w3) (
aa (bLt x0 x1) fun v5 =>
ifB v5 (
K (.int .i64 (-1)) w3) (
aa (bGt x0 x1) fun v6 =>
ifB v6 (
K (.int .i64 1) w3) (
K (.int .i64 0) w3))))
def IY : FnT := fun args w K => on2 (fun x0 x1 => Zd x0 x1 w K) args
theorem c120 {x0 x1 : Value} {w : World} {K : V1} (h : Zd x0 x1 w K) : ai IY [x0, x1] w K := aj (dm (p := fun x0 x1 => Zd x0 x1 w K) h)
theorem ZN : OkF Tryz.prog 120 IY := by
  refine aO (aN (l := T120) ⟨ok166, trivial⟩) mixed (n := fuel) Tryz.func120 Tryz.call120 fun args w K h => ?_
  obtain ⟨x0, x1, rfl, hh⟩ := dn h
  exact az (c := ah Tryz.f120) (by kernel_rfl) (by kernel_rfl) (Eq.mp (by kernel_rfl) hh)
def T131 : List (Nat × FnT) := [(120, IY)]
def Y4 (x0 x1 : Value) (w : World) (K : V1) : Prop :=
bT 48 x0 w fun v2 w1 =>
bT 48 x1 w1 fun v4 w3 =>
aa (ae 0 v2) fun v5 =>
aa (ld1 v5 w3) fun v6 =>
aa (ae 0 v4) fun v7 =>
aa (ld1 v7 w3) fun v8 =>
ai IY [v6, v8] w3 fun v10 w9 =>
K v10 w9
def G131 : FnT := fun args w K => on2 (fun x0 x1 => Y4 x0 x1 w K) args
theorem c131 {x0 x1 : Value} {w : World} {K : V1} (h : Y4 x0 x1 w K) : ai G131 [x0, x1] w K := aj (dm (p := fun x0 x1 => Y4 x0 x1 w K) h)
theorem ok131 : OkF Tryz.prog 131 G131 := by
  refine aO (aN (l := T131) ⟨ZN, trivial⟩) mixed (n := fuel) Tryz.func131 Tryz.call131 fun args w K h => ?_
  obtain ⟨x0, x1, rfl, hh⟩ := dn h
  exact az (c := ah Tryz.f131) (by kernel_rfl) (by kernel_rfl) (Eq.mp (by kernel_rfl) hh)
end Go.Proofs.Gong

/- Glob -/
namespace Go.Proofs.Gong
open Go Go.Sx Go.Proofs
set_option linter.all false
set_option maxRecDepth 100000
set_option maxHeartbeats 4000000
variable {kn kr : ET} {ke : JT}
def T195 : List (Nat × FnT) := []
def UN (x0 : Value) (w : World) (K : V1) : Prop :=
aa (cZ x0) fun v1 =>
aa (ae 0 v1) fun v2 =>
aa (ld1 v2 w) fun v3 =>
aa (bEq Tryz.prog 9 (.tmp 7) (.const (.string ⟨#[]⟩)) v3 (.string ⟨#[]⟩)) fun v4 =>
ifB v4 (
aa (cZ x0) fun v5 =>
aa (ae 1 v5) fun v6 =>
bF (st 1 v6 (.bool true) w) fun w7 =>
K (.int .u8 0) w7) (
aa (cZ x0) fun v9 =>
aa (ae 0 v9) fun v10 =>
aa (ld1 v10 w) fun v11 =>
aa (dG v11 (.int .i64 0)) fun v12 =>
aa (cZ x0) fun v13 =>
aa (ae 0 v13) fun v14 =>
aa (ld1 v14 w) fun v15 =>
aa (di v15 (some (.int .i64 1)) none) fun v16 =>
aa (cZ x0) fun v17 =>
aa (ae 0 v17) fun v18 =>
bF (st 1 v18 v16 w) fun w19 =>
K v12 w19)
def qi : FnT := fun args w K => on1 (fun x0 => UN x0 w K) args
theorem c195 {x0 : Value} {w : World} {K : V1} (h : UN x0 w K) : ai qi [x0] w K := aj (bL (p := fun x0 => UN x0 w K) h)
theorem QX : OkF Tryz.prog 195 qi := by
  refine aO (aN (l := T195) trivial) mixed (n := fuel) Tryz.func195 Tryz.call195 fun args w K h => ?_
  obtain ⟨x0, rfl, hh⟩ := bJ h
  exact az (c := ah Tryz.f195) (by kernel_rfl) (by kernel_rfl) (Eq.mp (by kernel_rfl) hh)
def Td : List (Nat × FnT) := []
def xG (s0 s4 s5 : Value) (w : World) (K : V1) (Y0 : V3) : Prop :=
aa (bLt s5 (.int .i64 256)) fun v1 =>
ifB v1 (
aa (cZ s4) fun v2 =>
aa (iq 256 1 v2 s5) fun v3 =>
aa (ld1 v3 w.drew) fun v4 =>
aa (dN v4) fun v5 =>
aa (cZ s0) fun v6 =>
aa (iq 256 1 v6 s5) fun v7 =>
bF (st 1 v7 v5 w.drew) fun w8 =>
aa (bH s5 (.int .i64 1)) fun v10 =>
Y0 s0 s4 v10 w8) (
K (.tuple #[]) w)
def jV : Nat → Value → Value → Value → World → (V1) → Prop
  | 0, _, _, _, _, _ => False
  | n + 1, s0, s4, s5, w, K => xG s0 s4 s5 w K (fun a0 a4 a5 w => jV n a0 a4 a5 w K)
def Ac (s0 s4 s5 : Value) (w : World) (K : V1) : Prop := jV fuel s0 s4 s5 w K
theorem Ww {K : V1}
    (hn : HN (fun e w => K (.tuple #[]) w) kn) (hr : HR Tryz.prog [] K kr) (he : HE noE ke) :
    ∀ e w, Ac (e 0) (e 4) (e 5) w K → aA Tryz.prog (au Td) 18 fuel ((flat (ah Tryz.f196)).drop 1) e w kn kr ke := by
  intro e w h
  unfold Ac at h
  refine bM (id := 0) (body := (aU (bi (aV (flat (ah Tryz.f196)) 1)))) (l2 := (flat (ah Tryz.f196)).drop 2) (by kernel_rfl) ?_
  refine bV (FL := fun m e w => jV m (e 0) (e 4) (e 5) w K) (fr := aW Tryz.prog [] K) (fe := (bB 0 (fun e w => K (.tuple #[]) w) noE)) (fun _ _ h => h) ?_ hr (bD hn he) fuel e w h
  intro m e w h
  have h : jV (m + 1) (e 0) (e 4) (e 5) w K := h
  rw [jV] at h
  have e1 : ∀ (Y0 : V3), xG (e 0) (e 4) (e 5) w K Y0 = aA Tryz.prog (au Td) 18 fuel (flat (aU (bi (aV (flat (ah Tryz.f196)) 1)))) e w (fun e w => Y0 (e 0) (e 4) (e 5) w) (aW Tryz.prog [] K) (bB 0 (fun e w => K (.tuple #[]) w) noE) := by intro Y0; kernel_rfl
  exact Eq.mp (e1 (fun a0 a4 a5 w => jV m a0 a4 a5 w K)) h
def EO (s0 : Value) (w : World) (_K : V1) (Y0 : V3) : Prop :=
Y0 s0 s0 (.int .i64 0) w
def EP (s0 : Value) (w : World) (K : V1) : Prop := EO s0 w K (fun a0 a4 a5 w => Ac a0 a4 a5 w K)
theorem Wx {K : V1}
    (hn : HN (fun e w => K (.tuple #[]) w) kn) (hr : HR Tryz.prog [] K kr) (he : HE noE ke) :
    ∀ e w, EP (e 0) w K → aA Tryz.prog (au Td) 18 fuel ((flat (ah Tryz.f196)).drop 0) e w kn kr ke := by
  intro e w h
  unfold EP at h
  have e1 : ∀ (Y0 : V3), EO (e 0) w K Y0 = aA Tryz.prog (au Td) 18 fuel (((flat (ah Tryz.f196)).drop 0).take 1) e w (fun e w => Y0 (e 0) (e 4) (e 5) w) (aW Tryz.prog [] K) noE := by intro Y0; kernel_rfl
  exact seg 1 (Eq.mp (e1 (fun a0 a4 a5 w => Ac a0 a4 a5 w K)) h) (fun e w h => Ww hn hr he e w h) hr he
def UM (x0 : Value) (w : World) (K : V1) : Prop := EP x0 w K
def IW : FnT := fun args w K => on1 (fun x0 => UM x0 w K) args
theorem c196 {x0 : Value} {w : World} {K : V1} (h : UM x0 w K) : ai IW [x0] w K := aj (bL (p := fun x0 => UM x0 w K) h)
theorem ZE : OkF Tryz.prog 196 IW := by
  refine aO (aN (l := Td) trivial) mixed (n := fuel) Tryz.func196 Tryz.call196 fun args w K h => ?_
  obtain ⟨x0, rfl, hh⟩ := bJ h
  unfold UM at hh
  exact az (c := ah Tryz.f196) (by kernel_rfl) (by kernel_rfl) (Wx (fun _ _ h => h) (fun _ _ h => h) (fun _ _ _ h => h) (dD [x0]) w hh)
def Tc : List (Nat × FnT) := []
def xC (s0 s2 s6 : Value) (w : World) (K : V1) (Y0 : V3) : Prop :=
aa (iG .i64 s2) fun v1 =>
aa (bLe s6 v1) fun v2 =>
ifB v2 (
aa (cZ s0) fun v3 =>
aa (iq 256 1 v3 s6) fun v4 =>
bF (st 1 v4 (.bool true) w) fun w5 =>
aa (bH s6 (.int .i64 1)) fun v7 =>
Y0 s0 s2 v7 w5) (
K (.tuple #[]) w)
def jU : Nat → Value → Value → Value → World → (V1) → Prop
  | 0, _, _, _, _, _ => False
  | n + 1, s0, s2, s6, w, K => xC s0 s2 s6 w K (fun a0 a2 a6 w => jU n a0 a2 a6 w K)
def Aa (s0 s2 s6 : Value) (w : World) (K : V1) : Prop := jU fuel s0 s2 s6 w K
theorem Wj {K : V1}
    (hn : HN (fun e w => K (.tuple #[]) w) kn) (hr : HR Tryz.prog [] K kr) (he : HE noE ke) :
    ∀ e w, Aa (e 0) (e 2) (e 6) w K → aA Tryz.prog (au Tc) 19 fuel ((flat (ah Tryz.f198)).drop 1) e w kn kr ke := by
  intro e w h
  unfold Aa at h
  refine bM (id := 0) (body := (aU (bi (aV (flat (ah Tryz.f198)) 1)))) (l2 := (flat (ah Tryz.f198)).drop 2) (by kernel_rfl) ?_
  refine bV (FL := fun m e w => jU m (e 0) (e 2) (e 6) w K) (fr := aW Tryz.prog [] K) (fe := (bB 0 (fun e w => K (.tuple #[]) w) noE)) (fun _ _ h => h) ?_ hr (bD hn he) fuel e w h
  intro m e w h
  have h : jU (m + 1) (e 0) (e 2) (e 6) w K := h
  rw [jU] at h
  have e1 : ∀ (Y0 : V3), xC (e 0) (e 2) (e 6) w K Y0 = aA Tryz.prog (au Tc) 19 fuel (flat (aU (bi (aV (flat (ah Tryz.f198)) 1)))) e w (fun e w => Y0 (e 0) (e 2) (e 6) w) (aW Tryz.prog [] K) (bB 0 (fun e w => K (.tuple #[]) w) noE) := by intro Y0; kernel_rfl
  exact Eq.mp (e1 (fun a0 a2 a6 w => jU m a0 a2 a6 w K)) h
def EI (s0 s1 s2 : Value) (w : World) (_K : V1) (Y0 : V3) : Prop :=
aa (iG .i64 s1) fun v8 =>
Y0 s0 s2 v8 w
def EJ (s0 s1 s2 : Value) (w : World) (K : V1) : Prop := EI s0 s1 s2 w K (fun a0 a2 a6 w => Aa a0 a2 a6 w K)
theorem Wl {K : V1}
    (hn : HN (fun e w => K (.tuple #[]) w) kn) (hr : HR Tryz.prog [] K kr) (he : HE noE ke) :
    ∀ e w, EJ (e 0) (e 1) (e 2) w K → aA Tryz.prog (au Tc) 19 fuel ((flat (ah Tryz.f198)).drop 0) e w kn kr ke := by
  intro e w h
  unfold EJ at h
  have e1 : ∀ (Y0 : V3), EI (e 0) (e 1) (e 2) w K Y0 = aA Tryz.prog (au Tc) 19 fuel (((flat (ah Tryz.f198)).drop 0).take 1) e w (fun e w => Y0 (e 0) (e 2) (e 6) w) (aW Tryz.prog [] K) noE := by intro Y0; kernel_rfl
  exact seg 1 (Eq.mp (e1 (fun a0 a2 a6 w => Aa a0 a2 a6 w K)) h) (fun e w h => Wj hn hr he e w h) hr he
def UK (x0 x1 x2 : Value) (w : World) (K : V1) : Prop := EJ x0 x1 x2 w K
def Lx : FnT := fun args w K => on3 (fun x0 x1 x2 => UK x0 x1 x2 w K) args
theorem c198 {x0 x1 x2 : Value} {w : World} {K : V1} (h : UK x0 x1 x2 w K) : ai Lx [x0, x1, x2] w K := aj (kT (p := fun x0 x1 x2 => UK x0 x1 x2 w K) h)
theorem ZC : OkF Tryz.prog 198 Lx := by
  refine aO (aN (l := Tc) trivial) mixed (n := fuel) Tryz.func198 Tryz.call198 fun args w K h => ?_
  obtain ⟨x0, x1, x2, rfl, hh⟩ := kV h
  unfold UK at hh
  exact az (c := ah Tryz.f198) (by kernel_rfl) (by kernel_rfl) (Wl (fun _ _ h => h) (fun _ _ h => h) (fun _ _ _ h => h) (dD [x0, x1, x2]) w hh)
def T244 : List (Nat × FnT) := []
def YJ (x0 x1 : Value) (w : World) (K : V1) : Prop :=
aa (cZ x0) fun v1 =>
aa (ae 1 v1) fun v2 =>
aa (ld1 v2 w) fun v3 =>
aa (dN v3) fun v4 =>
aS (gd true v4) x0 fun v5 =>
Sx.stepG (gd true v4) (cZ v5) fun v6 =>
Sx.stepG (gd true v4) (ae 0 v6) fun v7 =>
Sx.stepG (gd true v4) (ld1 v7 w) fun v8 =>
Sx.stepG (gd true v4) (bNe Tryz.prog 9 (.tmp 14) (.const (.string ⟨#[]⟩)) v8 (.string ⟨#[]⟩)) fun v9 =>
aa (aG v4 v9 (.bool false)) fun v10 =>
aS (gd true v10) x0 fun v11 =>
Sx.stepG (gd true v10) (cZ v11) fun v12 =>
Sx.stepG (gd true v10) (ae 0 v12) fun v13 =>
Sx.stepG (gd true v10) (ld1 v13 w) fun v14 =>
Sx.stepG (gd true v10) (dG v14 (.int .i64 0)) fun v15 =>
aS (gd true v10) x1 fun v16 =>
Sx.stepG (gd true v10) (bEq Tryz.prog 5 (.tmp 22) (.tmp 23) v15 v16) fun v17 =>
aa (aG v10 v17 (.bool false)) fun v18 =>
K v18 w
def Bj : FnT := fun args w K => on2 (fun x0 x1 => YJ x0 x1 w K) args
theorem c244 {x0 x1 : Value} {w : World} {K : V1} (h : YJ x0 x1 w K) : ai Bj [x0, x1] w K := aj (dm (p := fun x0 x1 => YJ x0 x1 w K) h)
theorem ZA : OkF Tryz.prog 244 Bj := by
  refine aO (aN (l := T244) trivial) mixed (n := fuel) Tryz.func244 Tryz.call244 fun args w K h => ?_
  obtain ⟨x0, x1, rfl, hh⟩ := dn h
  exact az (c := ah Tryz.f244) (by kernel_rfl) (by kernel_rfl) (Eq.mp (by kernel_rfl) hh)
def S9 : List (Nat × FnT) := [(195, qi), (244, Bj)]
def Ee (s3 : Value) (w : World) (K : V1) : Prop :=
K s3 w
def vB (s3 : Value) (w : World) (K : V1) : Prop := Ee s3 w K
theorem VF {K : V1}
    (hn : HN (fun e w => K (e 2) w) kn) (hr : HR Tryz.prog [.tmp 2] K kr) (he : HE noE ke) :
    ∀ e w, vB (e 3) w K → aA Tryz.prog (au S9) 20 fuel ((flat (ah Tryz.f245)).drop 6) e w kn kr ke := by
  intro e w h
  unfold vB at h
  have e1 : ∀ (_ : Unit), Ee (e 3) w K = aA Tryz.prog (au S9) 20 fuel ((flat (ah Tryz.f245)).drop 6) e w (fun e w => K (e 2) w) (aW Tryz.prog [.tmp 2] K) noE := by intro _; kernel_rfl
  exact bQ (Eq.mp (e1 ()) h) hn hr he
def Ef (s0 : Value) (w : World) (K : V1) (Y0 : V1) : Prop :=
ai Bj [s0, (.int .u8 93)] w fun v2 w1 =>
aS (gd false v2) s0 fun v3 =>
dz (gd false v2) (fun k => ai Bj [v3, (.int .u8 45)] w1 k) w1 fun v5 w4 =>
aa (aG v2 (.bool true) v5) fun v6 =>
ifB v6 (
aa (cZ s0) fun v7 =>
aa (ae 1 v7) fun v8 =>
bF (st 1 v8 (.bool true) w4) fun w9 =>
K (.int .u8 0) w9) (
ai qi [s0] w4 fun v12 w11 =>
aa (bEq Tryz.prog 5 (.tmp 15) (.const (.int .u8 92)) v12 (.int .u8 92)) fun v13 =>
ifB v13 (
ai qi [s0] w11 fun v15 w14 =>
Y0 v15 w14) (
Y0 v12 w11))
def Eg (s0 : Value) (w : World) (K : V1) : Prop := Ef s0 w K (fun a3 w => vB a3 w K)
theorem VG {K : V1}
    (hn : HN (fun e w => K (e 2) w) kn) (hr : HR Tryz.prog [.tmp 2] K kr) (he : HE noE ke) :
    ∀ e w, Eg (e 0) w K → aA Tryz.prog (au S9) 20 fuel ((flat (ah Tryz.f245)).drop 0) e w kn kr ke := by
  intro e w h
  unfold Eg at h
  have e1 : ∀ (Y0 : V1), Ef (e 0) w K Y0 = aA Tryz.prog (au S9) 20 fuel (((flat (ah Tryz.f245)).drop 0).take 6) e w (fun e w => Y0 (e 3) w) (aW Tryz.prog [.tmp 2] K) noE := by intro Y0; kernel_rfl
  exact seg 6 (Eq.mp (e1 (fun a3 w => vB a3 w K)) h) (fun e w h => VF hn hr he e w h) hr he
def UC (x0 : Value) (w : World) (K : V1) : Prop := Eg x0 w K
def PY : FnT := fun args w K => on1 (fun x0 => UC x0 w K) args
theorem c245 {x0 : Value} {w : World} {K : V1} (h : UC x0 w K) : ai PY [x0] w K := aj (bL (p := fun x0 => UC x0 w K) h)
theorem ok245 : OkF Tryz.prog 245 PY := by
  refine aO (aN (l := S9) ⟨QX, ZA, trivial⟩) mixed (n := fuel) Tryz.func245 Tryz.call245 fun args w K h => ?_
  obtain ⟨x0, rfl, hh⟩ := bJ h
  unfold UC at hh
  exact az (c := ah Tryz.f245) (by kernel_rfl) (by kernel_rfl) (VG (fun _ _ h => h) (fun _ _ h => h) (fun _ _ _ h => h) (dD [x0]) w hh)
def nA : List (Nat × FnT) := [(195, qi), (196, IW), (198, Lx), (244, Bj), (245, PY)]
def qg (s3 : Value) (w : World) (K : V1) : Prop :=
K s3 w
def l7 (s3 : Value) (w : World) (K : V1) : Prop := qg s3 w K
theorem Wq {K : V1}
    (hn : HN (fun e w => K (e 2) w) kn) (hr : HR Tryz.prog [.tmp 2] K kr) (he : HE noE ke) :
    ∀ e w, l7 (e 3) w K → aA Tryz.prog (au nA) 74 fuel ((flat (ah Tryz.f197)).drop 11) e w kn kr ke := by
  intro e w h
  unfold l7 at h
  have e1 : ∀ (_ : Unit), qg (e 3) w K = aA Tryz.prog (au nA) 74 fuel ((flat (ah Tryz.f197)).drop 11) e w (fun e w => K (e 2) w) (aW Tryz.prog [.tmp 2] K) noE := by intro _; kernel_rfl
  exact bQ (Eq.mp (e1 ()) h) hn hr he
def xD (s0 s3 s4 s5 : Value) (w : World) (_K : V1) (Y0 : V1) : Prop :=
aa (cZ s0) fun v1 =>
aa (ae 1 v1) fun v2 =>
aa (ld1 v2 w) fun v3 =>
aS (gd false v3) s5 fun v4 =>
Sx.stepG (gd false v3) (bEq Tryz.prog 3 (.tmp 63) (.const (.int .i64 0)) v4 (.int .i64 0)) fun v5 =>
aa (aG v3 (.bool true) v5) fun v6 =>
aa (cZ s0) fun v7 =>
aa (ae 1 v7) fun v8 =>
bF (st 1 v8 v6 w) fun w9 =>
ai qi [s0] w9 fun _ w11 =>
ifB s4 (
ai IW [s3] w11 fun _ w13 =>
Y0 s3 w13) (
Y0 s3 w11)
def gU (s0 s3 s4 s5 : Value) (w : World) (K : V1) : Prop := xD s0 s3 s4 s5 w K (fun a3 w => l7 a3 w K)
theorem Ws {K : V1}
    (hn : HN (fun e w => K (e 2) w) kn) (hr : HR Tryz.prog [.tmp 2] K kr) (he : HE noE ke) :
    ∀ e w, gU (e 0) (e 3) (e 4) (e 5) w K → aA Tryz.prog (au nA) 74 fuel ((flat (ah Tryz.f197)).drop 7) e w kn kr ke := by
  intro e w h
  unfold gU at h
  have e1 : ∀ (Y0 : V1), xD (e 0) (e 3) (e 4) (e 5) w K Y0 = aA Tryz.prog (au nA) 74 fuel (((flat (ah Tryz.f197)).drop 7).take 4) e w (fun e w => Y0 (e 3) w) (aW Tryz.prog [.tmp 2] K) noE := by intro Y0; kernel_rfl
  exact seg 4 (Eq.mp (e1 (fun a3 w => l7 a3 w K)) h) (fun e w h => Wq hn hr he e w h) hr he
def o9 (s0 s3 s4 s5 : Value) (w : World) (_K : V1) (R5 : V4) : Prop :=
aa (bH s5 (.int .i64 1)) fun v15 =>
R5 s0 s3 s4 v15 w
def nJ (s0 s3 s4 s5 : Value) (w : World) (K : V1) (R5 : V4) : Prop := o9 s0 s3 s4 s5 w K R5
theorem QV (R5 : V4) {K : V1}
    (hn : HN (fun e w => R5 (e 0) (e 3) (e 4) (e 5) w) kn) (hr : HR Tryz.prog [.tmp 2] K kr) (he : HE (bB 1 (fun e w => R5 (e 0) (e 3) (e 4) (e 5) w) (bB 0 (fun e w => gU (e 0) (e 3) (e 4) (e 5) w K) noE)) ke) :
    ∀ e w, nJ (e 0) (e 3) (e 4) (e 5) w K R5 → aA Tryz.prog (au nA) 74 fuel ((flat (bi (aV (flat (aU (bi (aV (flat (ah Tryz.f197)) 6)))) 2))).drop 7) e w kn kr ke := by
  intro e w h
  unfold nJ at h
  have e1 : ∀ (_ : Unit), o9 (e 0) (e 3) (e 4) (e 5) w K R5 = aA Tryz.prog (au nA) 74 fuel ((flat (bi (aV (flat (aU (bi (aV (flat (ah Tryz.f197)) 6)))) 2))).drop 7) e w (fun e w => R5 (e 0) (e 3) (e 4) (e 5) w) (aW Tryz.prog [.tmp 2] K) (bB 1 (fun e w => R5 (e 0) (e 3) (e 4) (e 5) w) (bB 0 (fun e w => gU (e 0) (e 3) (e 4) (e 5) w K) noE)) := by intro _; kernel_rfl
  exact bQ (Eq.mp (e1 ()) h) hn hr he
def uj (s0 s3 s4 s5 s6 s7 : Value) (w : World) (_K : V1) (R5 : V4) (Y0 : V4) : Prop :=
aa (cZ s0) fun v16 =>
aa (ae 1 v16) fun v17 =>
aa (ld1 v17 w) fun v18 =>
aS (gd false v18) s6 fun v19 =>
aS (gd false v18) s7 fun v20 =>
Sx.stepG (gd false v18) (bGt v19 v20) fun v21 =>
aa (aG v18 (.bool true) v21) fun v22 =>
aa (cZ s0) fun v23 =>
aa (ae 1 v23) fun v24 =>
bF (st 1 v24 v22 w) fun w25 =>
aa (cZ s0) fun v27 =>
aa (ae 1 v27) fun v28 =>
aa (ld1 v28 w25) fun v29 =>
aa (dN v29) fun v30 =>
ifB v30 (
ai Lx [s3, s6, s7] w25 fun _ w31 =>
Y0 s0 s3 s4 s5 w31) (
Y0 s0 s3 s4 s5 w25)
def nI (s0 s3 s4 s5 s6 s7 : Value) (w : World) (K : V1) (R5 : V4) : Prop := uj s0 s3 s4 s5 s6 s7 w K R5 (fun a0 a3 a4 a5 w => nJ a0 a3 a4 a5 w K R5)
theorem Wm (R5 : V4) {K : V1}
    (hn : HN (fun e w => R5 (e 0) (e 3) (e 4) (e 5) w) kn) (hr : HR Tryz.prog [.tmp 2] K kr) (he : HE (bB 1 (fun e w => R5 (e 0) (e 3) (e 4) (e 5) w) (bB 0 (fun e w => gU (e 0) (e 3) (e 4) (e 5) w K) noE)) ke) :
    ∀ e w, nI (e 0) (e 3) (e 4) (e 5) (e 6) (e 7) w K R5 → aA Tryz.prog (au nA) 74 fuel ((flat (bi (aV (flat (aU (bi (aV (flat (ah Tryz.f197)) 6)))) 2))).drop 4) e w kn kr ke := by
  intro e w h
  unfold nI at h
  have e1 : ∀ (Y0 : V4), uj (e 0) (e 3) (e 4) (e 5) (e 6) (e 7) w K R5 Y0 = aA Tryz.prog (au nA) 74 fuel (((flat (bi (aV (flat (aU (bi (aV (flat (ah Tryz.f197)) 6)))) 2))).drop 4).take 3) e w (fun e w => Y0 (e 0) (e 3) (e 4) (e 5) w) (aW Tryz.prog [.tmp 2] K) (bB 1 (fun e w => R5 (e 0) (e 3) (e 4) (e 5) w) (bB 0 (fun e w => gU (e 0) (e 3) (e 4) (e 5) w K) noE)) := by intro Y0; kernel_rfl
  exact seg 3 (Eq.mp (e1 (fun a0 a3 a4 a5 w => nJ a0 a3 a4 a5 w K R5)) h) (fun e w h => QV R5 hn hr he e w h) hr he
def EK (s0 s3 s4 s5 : Value) (w : World) (_K : V1) (R5 : V4) (Y0 : V6) : Prop :=
ai PY [s0] w fun v34 w33 =>
ai Bj [s0, (.int .u8 45)] w33 fun v36 w35 =>
ifB v36 (
ai qi [s0] w35 fun _ w37 =>
ai PY [s0] w37 fun v40 w39 =>
Y0 s0 s3 s4 s5 v34 v40 w39) (
Y0 s0 s3 s4 s5 v34 v34 w35)
def EL (s0 s3 s4 s5 : Value) (w : World) (K : V1) (R5 : V4) : Prop := EK s0 s3 s4 s5 w K R5 (fun a0 a3 a4 a5 a6 a7 w => nI a0 a3 a4 a5 a6 a7 w K R5)
theorem Wn (R5 : V4) {K : V1}
    (hn : HN (fun e w => R5 (e 0) (e 3) (e 4) (e 5) w) kn) (hr : HR Tryz.prog [.tmp 2] K kr) (he : HE (bB 1 (fun e w => R5 (e 0) (e 3) (e 4) (e 5) w) (bB 0 (fun e w => gU (e 0) (e 3) (e 4) (e 5) w K) noE)) ke) :
    ∀ e w, EL (e 0) (e 3) (e 4) (e 5) w K R5 → aA Tryz.prog (au nA) 74 fuel ((flat (bi (aV (flat (aU (bi (aV (flat (ah Tryz.f197)) 6)))) 2))).drop 0) e w kn kr ke := by
  intro e w h
  unfold EL at h
  have e1 : ∀ (Y0 : V6), EK (e 0) (e 3) (e 4) (e 5) w K R5 Y0 = aA Tryz.prog (au nA) 74 fuel (((flat (bi (aV (flat (aU (bi (aV (flat (ah Tryz.f197)) 6)))) 2))).drop 0).take 4) e w (fun e w => Y0 (e 0) (e 3) (e 4) (e 5) (e 6) (e 7) w) (aW Tryz.prog [.tmp 2] K) (bB 1 (fun e w => R5 (e 0) (e 3) (e 4) (e 5) w) (bB 0 (fun e w => gU (e 0) (e 3) (e 4) (e 5) w K) noE)) := by intro Y0; kernel_rfl
  exact seg 4 (Eq.mp (e1 (fun a0 a3 a4 a5 a6 a7 w => nI a0 a3 a4 a5 a6 a7 w K R5)) h) (fun e w h => Wm R5 hn hr he e w h) hr he
def Ab (s0 s3 s4 s5 : Value) (w : World) (K : V1) (R5 : V4) : Prop := EL s0 s3 s4 s5 w K R5
theorem Wo (R5 : V4) {K : V1}
    (hn : HN (fun e w => R5 (e 0) (e 3) (e 4) (e 5) w) kn) (hr : HR Tryz.prog [.tmp 2] K kr) (he : HE (bB 0 (fun e w => gU (e 0) (e 3) (e 4) (e 5) w K) noE) ke) :
    ∀ e w, Ab (e 0) (e 3) (e 4) (e 5) w K R5 → aA Tryz.prog (au nA) 74 fuel ((flat (aU (bi (aV (flat (ah Tryz.f197)) 6)))).drop 2) e w kn kr ke := by
  intro e w h
  unfold Ab at h
  refine pE (id := 1) (body := (bi (aV (flat (aU (bi (aV (flat (ah Tryz.f197)) 6)))) 2))) (l2 := (flat (aU (bi (aV (flat (ah Tryz.f197)) 6)))).drop 3) (by kernel_rfl) ?_
  exact Wn R5 hn hr (bD hn he) e w h
def uk (s0 s3 s4 s5 : Value) (w : World) (_K : V1) (R5 : V4) (Y0 : V4) (Y1 : V4) : Prop :=
aa (cZ s0) fun v41 =>
aa (ae 1 v41) fun v42 =>
aa (ld1 v42 w) fun v43 =>
aa (dN v43) fun v44 =>
aS (gd true v44) s0 fun v45 =>
dz (gd true v44) (fun k => ai Bj [v45, (.int .u8 93)] w k) w fun v47 w46 =>
Sx.stepG (gd true v44) (dN v47) fun v48 =>
aa (aG v44 v48 (.bool false)) fun v49 =>
ifB v49 (
Y0 s0 s3 s4 s5 w46) (
Y1 s0 s3 s4 s5 w46)
def vE (s0 s3 s4 s5 : Value) (w : World) (K : V1) (R5 : V4) : Prop := uk s0 s3 s4 s5 w K R5 (fun a0 a3 a4 a5 w => Ab a0 a3 a4 a5 w K R5) (fun a0 a3 a4 a5 w => gU a0 a3 a4 a5 w K)
theorem Wp (R5 : V4) {K : V1}
    (hn : HN (fun e w => R5 (e 0) (e 3) (e 4) (e 5) w) kn) (hr : HR Tryz.prog [.tmp 2] K kr) (he : HE (bB 0 (fun e w => gU (e 0) (e 3) (e 4) (e 5) w K) noE) ke) :
    ∀ e w, vE (e 0) (e 3) (e 4) (e 5) w K R5 → aA Tryz.prog (au nA) 74 fuel ((flat (aU (bi (aV (flat (ah Tryz.f197)) 6)))).drop 0) e w kn kr ke := by
  intro e w h
  unfold vE at h
  have e1 : ∀ (Y0 : V4) (Y1 : V4), uk (e 0) (e 3) (e 4) (e 5) w K R5 Y0 Y1 = aA Tryz.prog (au nA) 74 fuel (((flat (aU (bi (aV (flat (ah Tryz.f197)) 6)))).drop 0).take 2) e w (fun e w => Y0 (e 0) (e 3) (e 4) (e 5) w) (aW Tryz.prog [.tmp 2] K) (bB 0 (fun e w => Y1 (e 0) (e 3) (e 4) (e 5) w) noE) := by intro Y0 Y1; kernel_rfl
  exact seg 2 (Eq.mp (e1 (fun a0 a3 a4 a5 w => Ab a0 a3 a4 a5 w K R5) (fun a0 a3 a4 a5 w => gU a0 a3 a4 a5 w K)) h) (fun e w h => Wo R5 hn hr he e w h) hr he
def iA : Nat → Value → Value → Value → Value → World → (V1) → Prop
  | 0, _, _, _, _, _, _ => False
  | n + 1, s0, s3, s4, s5, w, K => vE s0 s3 s4 s5 w K (fun a0 a3 a4 a5 w => iA n a0 a3 a4 a5 w K)
def vF (s0 s3 s4 s5 : Value) (w : World) (K : V1) : Prop := iA fuel s0 s3 s4 s5 w K
theorem Wt {K : V1}
    (hn : HN (fun e w => K (e 2) w) kn) (hr : HR Tryz.prog [.tmp 2] K kr) (he : HE noE ke) :
    ∀ e w, vF (e 0) (e 3) (e 4) (e 5) w K → aA Tryz.prog (au nA) 74 fuel ((flat (ah Tryz.f197)).drop 6) e w kn kr ke := by
  intro e w h
  unfold vF at h
  refine bM (id := 0) (body := (aU (bi (aV (flat (ah Tryz.f197)) 6)))) (l2 := (flat (ah Tryz.f197)).drop 7) (by kernel_rfl) ?_
  refine bV (FL := fun m e w => iA m (e 0) (e 3) (e 4) (e 5) w K) (fr := aW Tryz.prog [.tmp 2] K) (fe := (bB 0 (fun e w => gU (e 0) (e 3) (e 4) (e 5) w K) noE)) (fun _ _ h => h) ?_ hr (bD (fun e w h => Ws hn hr he e w h) he) fuel e w h
  intro m e w h
  have h : iA (m + 1) (e 0) (e 3) (e 4) (e 5) w K := h
  rw [iA] at h
  exact Wp (fun a0 a3 a4 a5 w => iA m a0 a3 a4 a5 w K) (fun _ _ h => h) (fun _ _ h => h) (fun _ _ _ h => h) e w h
def xE (s0 s3 s4 : Value) (w : World) (_K : V1) (Y0 : V4) : Prop :=
Y0 s0 s3 s4 (.int .i64 0) w
def vG (s0 s3 s4 : Value) (w : World) (K : V1) : Prop := xE s0 s3 s4 w K (fun a0 a3 a4 a5 w => vF a0 a3 a4 a5 w K)
theorem Wu {K : V1}
    (hn : HN (fun e w => K (e 2) w) kn) (hr : HR Tryz.prog [.tmp 2] K kr) (he : HE noE ke) :
    ∀ e w, vG (e 0) (e 3) (e 4) w K → aA Tryz.prog (au nA) 74 fuel ((flat (ah Tryz.f197)).drop 5) e w kn kr ke := by
  intro e w h
  unfold vG at h
  have e1 : ∀ (Y0 : V4), xE (e 0) (e 3) (e 4) w K Y0 = aA Tryz.prog (au nA) 74 fuel (((flat (ah Tryz.f197)).drop 5).take 1) e w (fun e w => Y0 (e 0) (e 3) (e 4) (e 5) w) (aW Tryz.prog [.tmp 2] K) noE := by intro Y0; kernel_rfl
  exact seg 1 (Eq.mp (e1 (fun a0 a3 a4 a5 w => vF a0 a3 a4 a5 w K)) h) (fun e w h => Wt hn hr he e w h) hr he
def EM (s0 : Value) (w : World) (_K : V1) (Y0 : V3) : Prop :=
aa (aD Tryz.prog 318 []) fun v50 =>
bT 318 v50 w fun v52 w51 =>
ai Bj [s0, (.int .u8 33)] w51 fun v54 w53 =>
ifB v54 (
ai qi [s0] w53 fun _ w55 =>
Y0 s0 v52 v54 w55) (
Y0 s0 v52 v54 w53)
def EN (s0 : Value) (w : World) (K : V1) : Prop := EM s0 w K (fun a0 a3 a4 w => vG a0 a3 a4 w K)
theorem Wv {K : V1}
    (hn : HN (fun e w => K (e 2) w) kn) (hr : HR Tryz.prog [.tmp 2] K kr) (he : HE noE ke) :
    ∀ e w, EN (e 0) w K → aA Tryz.prog (au nA) 74 fuel ((flat (ah Tryz.f197)).drop 0) e w kn kr ke := by
  intro e w h
  unfold EN at h
  have e1 : ∀ (Y0 : V3), EM (e 0) w K Y0 = aA Tryz.prog (au nA) 74 fuel (((flat (ah Tryz.f197)).drop 0).take 5) e w (fun e w => Y0 (e 0) (e 3) (e 4) w) (aW Tryz.prog [.tmp 2] K) noE := by intro Y0; kernel_rfl
  exact seg 5 (Eq.mp (e1 (fun a0 a3 a4 w => vG a0 a3 a4 w K)) h) (fun e w h => Wu hn hr he e w h) hr he
def UL (x0 : Value) (w : World) (K : V1) : Prop := EN x0 w K
def TE : FnT := fun args w K => on1 (fun x0 => UL x0 w K) args
theorem c197 {x0 : Value} {w : World} {K : V1} (h : UL x0 w K) : ai TE [x0] w K := aj (bL (p := fun x0 => UL x0 w K) h)
theorem ok197 : OkF Tryz.prog 197 TE := by
  refine aO (aN (l := nA) ⟨QX, ZE, ZC, ZA, ok245, trivial⟩) mixed (n := fuel) Tryz.func197 Tryz.call197 fun args w K h => ?_
  obtain ⟨x0, rfl, hh⟩ := bJ h
  unfold UL at hh
  exact az (c := ah Tryz.f197) (by kernel_rfl) (by kernel_rfl) (Wv (fun _ _ h => h) (fun _ _ h => h) (fun _ _ _ h => h) (dD [x0]) w hh)
def Tf : List (Nat × FnT) := [(195, qi), (196, IW), (197, TE), (198, Lx)]
def Fe (s2 s3 : Value) (w : World) (K : V1) : Prop :=
aa (aD Tryz.prog 318 []) fun v1 =>
bT 318 v1 w fun v3 w2 =>
ai Lx [v3, s3, s3] w2 fun _ w4 =>
aa (aD Tryz.prog 277 [(0, v3), (2, (.bool true)), (3, s3)]) fun v6 =>
bF (st 4 s2 v6 w4) fun w7 =>
aa (ldN 4 s2 w7) fun v9 =>
K v9 w7
def vJ (s2 s3 : Value) (w : World) (K : V1) : Prop := Fe s2 s3 w K
theorem WO {K : V1}
    (hn : ∀ e w, (fun e w => aa (ldN 4 (e 2) w) fun v11 =>
K v11 w) e w → kn e w) (hr : ∀ e w, aW Tryz.prog [.cell 2 277] K e w → kr e w) (he : ∀ i e w, noE i e w → ke i e w) :
    ∀ e w, vJ (e 2) (e 3) w K → aA Tryz.prog (au Tf) 38 fuel ((flat (ah Tryz.f153)).drop 4) e w kn kr ke := by
  intro e w h
  unfold vJ at h
  have e1 : ∀ (_ : Unit), Fe (e 2) (e 3) w K = aA Tryz.prog (au Tf) 38 fuel ((flat (ah Tryz.f153)).drop 4) e w (fun e w => aa (ldN 4 (e 2) w) fun v10 =>
K v10 w) (aW Tryz.prog [.cell 2 277] K) noE := by intro _; kernel_rfl
  exact bQ (Eq.mp (e1 ()) h) hn hr he
def Ff (s0 : Value) (w : World) (K : V1) (Y0 : V2) : Prop :=
aY Tryz.prog 277 w fun v13 w12 =>
ai qi [s0] w12 fun v15 w14 =>
aa (bEq Tryz.prog 5 (.tmp 8) (.const (.int .u8 42)) v15 (.int .u8 42)) fun v16 =>
ifB v16 (
aa (aD Tryz.prog 277 [(1, (.bool true))]) fun v17 =>
bF (st 4 v13 v17 w14) fun w18 =>
aa (ldN 4 v13 w18) fun v20 =>
K v20 w18) (
aa (bEq Tryz.prog 5 (.tmp 8) (.const (.int .u8 63)) v15 (.int .u8 63)) fun v21 =>
ifB v21 (
aa (aD Tryz.prog 318 []) fun v22 =>
bT 318 v22 w14 fun v24 w23 =>
ai IW [v24] w23 fun _ w25 =>
aa (aD Tryz.prog 277 [(0, v24)]) fun v27 =>
bF (st 4 v13 v27 w25) fun w28 =>
aa (ldN 4 v13 w28) fun v30 =>
K v30 w28) (
aa (bEq Tryz.prog 5 (.tmp 8) (.const (.int .u8 91)) v15 (.int .u8 91)) fun v31 =>
ifB v31 (
ai TE [s0] w14 fun v33 w32 =>
aa (aD Tryz.prog 277 [(0, v33)]) fun v34 =>
bF (st 4 v13 v34 w32) fun w35 =>
aa (ldN 4 v13 w35) fun v37 =>
K v37 w35) (
aa (bEq Tryz.prog 5 (.tmp 8) (.const (.int .u8 92)) v15 (.int .u8 92)) fun v38 =>
ifB v38 (
ai qi [s0] w14 fun v40 w39 =>
Y0 v13 v40 w39) (
Y0 v13 v15 w14))))
def Fg (s0 : Value) (w : World) (K : V1) : Prop := Ff s0 w K (fun a2 a3 w => vJ a2 a3 w K)
theorem WP {K : V1}
    (hn : ∀ e w, (fun e w => aa (ldN 4 (e 2) w) fun v41 =>
K v41 w) e w → kn e w) (hr : ∀ e w, aW Tryz.prog [.cell 2 277] K e w → kr e w) (he : ∀ i e w, noE i e w → ke i e w) :
    ∀ e w, Fg (e 0) w K → aA Tryz.prog (au Tf) 38 fuel ((flat (ah Tryz.f153)).drop 0) e w kn kr ke := by
  intro e w h
  unfold Fg at h
  have e1 : ∀ (Y0 : V2), Ff (e 0) w K Y0 = aA Tryz.prog (au Tf) 38 fuel (((flat (ah Tryz.f153)).drop 0).take 4) e w (fun e w => Y0 (e 2) (e 3) w) (aW Tryz.prog [.cell 2 277] K) noE := by intro Y0; kernel_rfl
  exact seg 4 (Eq.mp (e1 (fun a2 a3 w => vJ a2 a3 w K)) h) (fun e w h => WO hn hr he e w h) hr he
def UV (x0 : Value) (w : World) (K : V1) : Prop := Fg x0 w K
def TT : FnT := fun args w K => on1 (fun x0 => UV x0 w K) args
theorem c153 {x0 : Value} {w : World} {K : V1} (h : UV x0 w K) : ai TT [x0] w K := aj (bL (p := fun x0 => UV x0 w K) h)
theorem ok153 : OkF Tryz.prog 153 TT := by
  refine aO (aN (l := Tf) ⟨QX, ZE, ok197, ZC, trivial⟩) mixed (n := fuel) Tryz.func153 Tryz.call153 fun args w K h => ?_
  obtain ⟨x0, rfl, hh⟩ := bJ h
  unfold UV at hh
  exact az (c := ah Tryz.f153) (by kernel_rfl) (by kernel_rfl) (WP (fun _ _ h => h) (fun _ _ h => h) (fun _ _ _ h => h) (dD [x0]) w hh)
def Lj : List (Nat × FnT) := [(153, TT)]
def uw (s4 s5 : Value) (w : World) (K : V1) : Prop :=
aa (cZ s4) fun v1 =>
aa (ae 1 v1) fun v2 =>
aa (ld1 v2 w) fun v3 =>
ifB v3 (
K (.tuple #[(.pointer none), (.int .i64 130)]) w) (
K (.tuple #[s5, (.int .i64 0)]) w)
def pu (s4 s5 : Value) (w : World) (K : V1) : Prop := uw s4 s5 w K
theorem Xp {K : V1}
    (hn : HN (fun e w => K (.tuple #[(e 2), (e 3)]) w) kn) (hr : HR Tryz.prog [.tmp 2, .tmp 3] K kr) (he : HE noE ke) :
    ∀ e w, pu (e 4) (e 5) w K → aA Tryz.prog (au Lj) 43 fuel ((flat (ah Tryz.f107)).drop 6) e w kn kr ke := by
  intro e w h
  unfold pu at h
  have e1 : ∀ (_ : Unit), uw (e 4) (e 5) w K = aA Tryz.prog (au Lj) 43 fuel ((flat (ah Tryz.f107)).drop 6) e w (fun e w => K (.tuple #[(e 2), (e 3)]) w) (aW Tryz.prog [.tmp 2, .tmp 3] K) noE := by intro _; kernel_rfl
  exact bQ (Eq.mp (e1 ()) h) hn hr he
def xV (s4 s5 : Value) (w : World) (_K : V1) (Y0 : V2) (Y1 : V2) : Prop :=
aa (cZ s4) fun v4 =>
aa (ae 0 v4) fun v5 =>
aa (ld1 v5 w) fun v6 =>
aa (bNe Tryz.prog 9 (.tmp 18) (.const (.string ⟨#[]⟩)) v6 (.string ⟨#[]⟩)) fun v7 =>
aS (gd true v7) s4 fun v8 =>
Sx.stepG (gd true v7) (cZ v8) fun v9 =>
Sx.stepG (gd true v7) (ae 1 v9) fun v10 =>
Sx.stepG (gd true v7) (ld1 v10 w) fun v11 =>
Sx.stepG (gd true v7) (dN v11) fun v12 =>
aa (aG v7 v12 (.bool false)) fun v13 =>
ifB v13 (
aa (cZ s5) fun v14 =>
aa (ae 1 v14) fun v15 =>
aa (ld1 v15 w.drew) fun v16 =>
ai TT [s4] w.drew fun v18 w17 =>
fok true (ld1 v15 w17) v16 ∧ (aB Tryz.prog 272 1 [(0, v18)] w17 fun v20 w19 =>
fok true (ld1 v15 w19) v16 ∧ (aJ Tryz.prog 272 272 v16 v20 w19 fun v22 w21 =>
aa (cZ s5) fun v23 =>
aa (ae 1 v23) fun v24 =>
bF (st 1 v24 v22 w21) fun w25 =>
Y0 s4 s5 w25))) (
Y1 s4 s5 w)
def ky : Nat → Value → Value → World → (V1) → Prop
  | 0, _, _, _, _ => False
  | n + 1, s4, s5, w, K => xV s4 s5 w K (fun a4 a5 w => ky n a4 a5 w K) (fun a4 a5 w => pu a4 a5 w K)
def AA (s4 s5 : Value) (w : World) (K : V1) : Prop := ky fuel s4 s5 w K
theorem Xq {K : V1}
    (hn : HN (fun e w => K (.tuple #[(e 2), (e 3)]) w) kn) (hr : HR Tryz.prog [.tmp 2, .tmp 3] K kr) (he : HE noE ke) :
    ∀ e w, AA (e 4) (e 5) w K → aA Tryz.prog (au Lj) 43 fuel ((flat (ah Tryz.f107)).drop 5) e w kn kr ke := by
  intro e w h
  unfold AA at h
  refine bM (id := 0) (body := (aU (bi (aV (flat (ah Tryz.f107)) 5)))) (l2 := (flat (ah Tryz.f107)).drop 6) (by kernel_rfl) ?_
  refine bV (FL := fun m e w => ky m (e 4) (e 5) w K) (fr := aW Tryz.prog [.tmp 2, .tmp 3] K) (fe := (bB 0 (fun e w => pu (e 4) (e 5) w K) noE)) (fun _ _ h => h) ?_ hr (bD (fun e w h => Xp hn hr he e w h) he) fuel e w h
  intro m e w h
  have h : ky (m + 1) (e 4) (e 5) w K := h
  rw [ky] at h
  have e1 : ∀ (Y0 : V2) (Y1 : V2), xV (e 4) (e 5) w K Y0 Y1 = aA Tryz.prog (au Lj) 43 fuel (flat (aU (bi (aV (flat (ah Tryz.f107)) 5)))) e w (fun e w => Y0 (e 4) (e 5) w) (aW Tryz.prog [.tmp 2, .tmp 3] K) (bB 0 (fun e w => Y1 (e 4) (e 5) w) noE) := by intro Y0 Y1; kernel_rfl
  exact Eq.mp (e1 (fun a4 a5 w => ky m a4 a5 w K) (fun a4 a5 w => pu a4 a5 w K)) h
def FO (s0 : Value) (w : World) (K : V1) (Y0 : V2) : Prop :=
aa (ik s0) fun v27 =>
aa (bGt v27 (.int .i64 256)) fun v28 =>
ifB v28 (
K (.tuple #[(.pointer none), (.int .i64 2)]) w) (
aa (aD Tryz.prog 271 [(0, s0)]) fun v29 =>
bT 271 v29 w fun v31 w30 =>
aa (aD Tryz.prog 274 [(0, s0)]) fun v32 =>
bT 274 v32 w30 fun v34 w33 =>
Y0 v31 v34 w33)
def FQ (s0 : Value) (w : World) (K : V1) : Prop := FO s0 w K (fun a4 a5 w => AA a4 a5 w K)
theorem Xr {K : V1}
    (hn : HN (fun e w => K (.tuple #[(e 2), (e 3)]) w) kn) (hr : HR Tryz.prog [.tmp 2, .tmp 3] K kr) (he : HE noE ke) :
    ∀ e w, FQ (e 0) w K → aA Tryz.prog (au Lj) 43 fuel ((flat (ah Tryz.f107)).drop 0) e w kn kr ke := by
  intro e w h
  unfold FQ at h
  have e1 : ∀ (Y0 : V2), FO (e 0) w K Y0 = aA Tryz.prog (au Lj) 43 fuel (((flat (ah Tryz.f107)).drop 0).take 5) e w (fun e w => Y0 (e 4) (e 5) w) (aW Tryz.prog [.tmp 2, .tmp 3] K) noE := by intro Y0; kernel_rfl
  exact seg 5 (Eq.mp (e1 (fun a4 a5 w => AA a4 a5 w K)) h) (fun e w h => Xq hn hr he e w h) hr he
def U1 (x0 : Value) (w : World) (K : V1) : Prop := FQ x0 w K
def I4 : FnT := fun args w K => on1 (fun x0 => U1 x0 w K) args
theorem c107 {x0 : Value} {w : World} {K : V1} (h : U1 x0 w K) : ai I4 [x0] w K := aj (bL (p := fun x0 => U1 x0 w K) h)
theorem ZT : OkF Tryz.prog 107 I4 := by
  refine aO (aN (l := Lj) ⟨ok153, trivial⟩) mixed (n := fuel) Tryz.func107 Tryz.call107 fun args w K h => ?_
  obtain ⟨x0, rfl, hh⟩ := bJ h
  unfold U1 at hh
  exact az (c := ah Tryz.f107) (by kernel_rfl) (by kernel_rfl) (Xr (fun _ _ h => h) (fun _ _ h => h) (fun _ _ _ h => h) (dD [x0]) w hh)
def T220 : List (Nat × FnT) := []
def YN (x0 x1 : Value) (w : World) (K : V1) : Prop :=
aa (cZ x0) fun v1 =>
aa (iq 256 1 v1 x1) fun v2 =>
aa (ld1 v2 w) fun v3 =>
K v3 w
def TB : FnT := fun args w K => on2 (fun x0 x1 => YN x0 x1 w K) args
theorem c220 {x0 x1 : Value} {w : World} {K : V1} (h : YN x0 x1 w K) : ai TB [x0, x1] w K := aj (dm (p := fun x0 x1 => YN x0 x1 w K) h)
theorem ok220 : OkF Tryz.prog 220 TB := by
  refine aO (aN (l := T220) trivial) mixed (n := fuel) Tryz.func220 Tryz.call220 fun args w K h => ?_
  obtain ⟨x0, x1, rfl, hh⟩ := dn h
  exact az (c := ah Tryz.f220) (by kernel_rfl) (by kernel_rfl) (Eq.mp (by kernel_rfl) hh)
def DT : List (Nat × FnT) := [(220, TB)]
def NY (s0 s6 : Value) (w : World) (K : V1) : Prop :=
aa (cZ s0) fun v1 =>
aa (ae 1 v1) fun v2 =>
aa (ld1 v2 w) fun v3 =>
aa (bI v3) fun v4 =>
aa (bEq Tryz.prog 3 (.tmp 88) (.tmp 93) s6 v4) fun v5 =>
K v5 w
def Af (s0 s6 : Value) (w : World) (K : V1) : Prop := NY s0 s6 w K
theorem WE {K : V1}
    (hn : HN (fun e w => K (e 4) w) kn) (hr : HR Tryz.prog [.tmp 4] K kr) (he : HE noE ke) :
    ∀ e w, Af (e 0) (e 6) w K → aA Tryz.prog (au DT) 95 fuel ((flat (ah Tryz.f170)).drop 5) e w kn kr ke := by
  intro e w h
  unfold Af at h
  have e1 : ∀ (_ : Unit), NY (e 0) (e 6) w K = aA Tryz.prog (au DT) 95 fuel ((flat (ah Tryz.f170)).drop 5) e w (fun e w => K (e 4) w) (aW Tryz.prog [.tmp 4] K) noE := by intro _; kernel_rfl
  exact bQ (Eq.mp (e1 ()) h) hn hr he
def xI (s0 s6 : Value) (w : World) (_K : V1) (Y0 : V2) (Y1 : V2) : Prop :=
aa (cZ s0) fun v6 =>
aa (ae 1 v6) fun v7 =>
aa (ld1 v7 w) fun v8 =>
aa (bI v8) fun v9 =>
aa (bLt s6 v9) fun v10 =>
aS (gd true v10) s0 fun v11 =>
Sx.stepG (gd true v10) (cZ v11) fun v12 =>
Sx.stepG (gd true v10) (ae 1 v12) fun v13 =>
Sx.stepG (gd true v10) (ld1 v13 w) fun v14 =>
aS (gd true v10) s6 fun v15 =>
Sx.stepG (gd true v10) (bq 4 v14 v15) fun v16 =>
Sx.stepG (gd true v10) (ae 1 v16) fun v17 =>
Sx.stepG (gd true v10) (ld1 v17 w) fun v18 =>
aa (aG v10 v18 (.bool false)) fun v19 =>
ifB v19 (
aa (bH s6 (.int .i64 1)) fun v20 =>
Y0 s0 v20 w) (
Y1 s0 s6 w)
def jX : Nat → Value → Value → World → (V1) → Prop
  | 0, _, _, _, _ => False
  | n + 1, s0, s6, w, K => xI s0 s6 w K (fun a0 a6 w => jX n a0 a6 w K) (fun a0 a6 w => Af a0 a6 w K)
def vI (s0 s6 : Value) (w : World) (K : V1) : Prop := jX fuel s0 s6 w K
theorem WF {K : V1}
    (hn : HN (fun e w => K (e 4) w) kn) (hr : HR Tryz.prog [.tmp 4] K kr) (he : HE noE ke) :
    ∀ e w, vI (e 0) (e 6) w K → aA Tryz.prog (au DT) 95 fuel ((flat (ah Tryz.f170)).drop 4) e w kn kr ke := by
  intro e w h
  unfold vI at h
  refine bM (id := 3) (body := (aU (bi (aV (flat (ah Tryz.f170)) 4)))) (l2 := (flat (ah Tryz.f170)).drop 5) (by kernel_rfl) ?_
  refine bV (FL := fun m e w => jX m (e 0) (e 6) w K) (fr := aW Tryz.prog [.tmp 4] K) (fe := (bB 3 (fun e w => Af (e 0) (e 6) w K) noE)) (fun _ _ h => h) ?_ hr (bD (fun e w h => WE hn hr he e w h) he) fuel e w h
  intro m e w h
  have h : jX (m + 1) (e 0) (e 6) w K := h
  rw [jX] at h
  have e1 : ∀ (Y0 : V2) (Y1 : V2), xI (e 0) (e 6) w K Y0 Y1 = aA Tryz.prog (au DT) 95 fuel (flat (aU (bi (aV (flat (ah Tryz.f170)) 4)))) e w (fun e w => Y0 (e 0) (e 6) w) (aW Tryz.prog [.tmp 4] K) (bB 3 (fun e w => Y1 (e 0) (e 6) w) noE) := by intro Y0 Y1; kernel_rfl
  exact Eq.mp (e1 (fun a0 a6 w => jX m a0 a6 w K) (fun a0 a6 w => Af a0 a6 w K)) h
def EY (s0 s1 s5 s6 s7 s8 : Value) (w : World) (K : V1) (Y0 : V6) (Y1 : V2) : Prop :=
aa (ik s1) fun v21 =>
aa (bLt s5 v21) fun v22 =>
ifB v22 (
aa (cZ s0) fun v23 =>
aa (ae 1 v23) fun v24 =>
aa (ld1 v24 w) fun v25 =>
aa (bI v25) fun v26 =>
aa (bLt s6 v26) fun v27 =>
aS (gd true v27) s0 fun v28 =>
Sx.stepG (gd true v27) (cZ v28) fun v29 =>
Sx.stepG (gd true v27) (ae 1 v29) fun v30 =>
Sx.stepG (gd true v27) (ld1 v30 w) fun v31 =>
aS (gd true v27) s6 fun v32 =>
Sx.stepG (gd true v27) (bq 4 v31 v32) fun v33 =>
Sx.stepG (gd true v27) (ae 1 v33) fun v34 =>
Sx.stepG (gd true v27) (ld1 v34 w) fun v35 =>
aa (aG v27 v35 (.bool false)) fun v36 =>
ifB v36 (
aa (bH s6 (.int .i64 1)) fun v37 =>
Y0 s0 s1 s5 v37 s6 s5 w) (
aa (cZ s0) fun v38 =>
aa (ae 1 v38) fun v39 =>
aa (ld1 v39 w.drew) fun v40 =>
aa (bI v40) fun v41 =>
aa (bLt s6 v41) fun v42 =>
aS (gd true v42) s0 fun v43 =>
Sx.stepG (gd true v42) (cZ v43) fun v44 =>
Sx.stepG (gd true v42) (ae 1 v44) fun v45 =>
Sx.stepG (gd true v42) (ld1 v45 w.drew) fun v46 =>
aS (gd true v42) s6 fun v47 =>
Sx.stepG (gd true v42) (bq 4 v46 v47) fun v48 =>
Sx.stepG (gd true v42) (ae 0 v48) fun v49 =>
Sx.stepG (gd true v42) (ld1 v49 w.drew) fun v50 =>
aS (gd true v42) s1 fun v51 =>
aS (gd true v42) s5 fun v52 =>
Sx.stepG (gd true v42) (dG v51 v52) fun v53 =>
dz (gd true v42) (fun k => ai TB [v50, v53] w.drew k) w.drew fun v55 w54 =>
aa (aG v42 v55 (.bool false)) fun v56 =>
ifB v56 (
aa (bH s5 (.int .i64 1)) fun v57 =>
aa (bH s6 (.int .i64 1)) fun v58 =>
Y0 s0 s1 v57 v58 s7 s8 w54) (
aa (bLt s7 (.int .i64 0)) fun v59 =>
ifB v59 (
K (.bool false) w54) (
aa (bH s8 (.int .i64 1)) fun v60 =>
aa (bH s7 (.int .i64 1)) fun v61 =>
Y0 s0 s1 v60 v61 s7 v60 w54)))) (
Y1 s0 s6 w)
def jY : Nat → Value → Value → Value → Value → Value → Value → World → (V1) → Prop
  | 0, _, _, _, _, _, _, _, _ => False
  | n + 1, s0, s1, s5, s6, s7, s8, w, K => EY s0 s1 s5 s6 s7 s8 w K (fun a0 a1 a5 a6 a7 a8 w => jY n a0 a1 a5 a6 a7 a8 w K) (fun a0 a6 w => vI a0 a6 w K)
def Ag (s0 s1 s5 s6 s7 s8 : Value) (w : World) (K : V1) : Prop := jY fuel s0 s1 s5 s6 s7 s8 w K
theorem WG {K : V1}
    (hn : HN (fun e w => K (e 4) w) kn) (hr : HR Tryz.prog [.tmp 4] K kr) (he : HE noE ke) :
    ∀ e w, Ag (e 0) (e 1) (e 5) (e 6) (e 7) (e 8) w K → aA Tryz.prog (au DT) 95 fuel ((flat (ah Tryz.f170)).drop 3) e w kn kr ke := by
  intro e w h
  unfold Ag at h
  refine bM (id := 0) (body := (aU (bi (aV (flat (ah Tryz.f170)) 3)))) (l2 := (flat (ah Tryz.f170)).drop 4) (by kernel_rfl) ?_
  refine bV (FL := fun m e w => jY m (e 0) (e 1) (e 5) (e 6) (e 7) (e 8) w K) (fr := aW Tryz.prog [.tmp 4] K) (fe := (bB 0 (fun e w => vI (e 0) (e 6) w K) noE)) (fun _ _ h => h) ?_ hr (bD (fun e w h => WF hn hr he e w h) he) fuel e w h
  intro m e w h
  have h : jY (m + 1) (e 0) (e 1) (e 5) (e 6) (e 7) (e 8) w K := h
  rw [jY] at h
  have e1 : ∀ (Y0 : V6) (Y1 : V2), EY (e 0) (e 1) (e 5) (e 6) (e 7) (e 8) w K Y0 Y1 = aA Tryz.prog (au DT) 95 fuel (flat (aU (bi (aV (flat (ah Tryz.f170)) 3)))) e w (fun e w => Y0 (e 0) (e 1) (e 5) (e 6) (e 7) (e 8) w) (aW Tryz.prog [.tmp 4] K) (bB 0 (fun e w => Y1 (e 0) (e 6) w) noE) := by intro Y0 Y1; kernel_rfl
  exact Eq.mp (e1 (fun a0 a1 a5 a6 a7 a8 w => jY m a0 a1 a5 a6 a7 a8 w K) (fun a0 a6 w => vI a0 a6 w K)) h
def EZ (s0 s1 : Value) (w : World) (_K : V1) (Y0 : V6) : Prop :=
Y0 s0 s1 (.int .i64 0) (.int .i64 0) (.int .i64 (-1)) (.int .i64 0) w
def E5 (s0 s1 : Value) (w : World) (K : V1) : Prop := EZ s0 s1 w K (fun a0 a1 a5 a6 a7 a8 w => Ag a0 a1 a5 a6 a7 a8 w K)
theorem WH {K : V1}
    (hn : HN (fun e w => K (e 4) w) kn) (hr : HR Tryz.prog [.tmp 4] K kr) (he : HE noE ke) :
    ∀ e w, E5 (e 0) (e 1) w K → aA Tryz.prog (au DT) 95 fuel ((flat (ah Tryz.f170)).drop 0) e w kn kr ke := by
  intro e w h
  unfold E5 at h
  have e1 : ∀ (Y0 : V6), EZ (e 0) (e 1) w K Y0 = aA Tryz.prog (au DT) 95 fuel (((flat (ah Tryz.f170)).drop 0).take 3) e w (fun e w => Y0 (e 0) (e 1) (e 5) (e 6) (e 7) (e 8) w) (aW Tryz.prog [.tmp 4] K) noE := by intro Y0; kernel_rfl
  exact seg 3 (Eq.mp (e1 (fun a0 a1 a5 a6 a7 a8 w => Ag a0 a1 a5 a6 a7 a8 w K)) h) (fun e w h => WG hn hr he e w h) hr he
def UR (x0 x1 : Value) (w : World) (K : V1) : Prop := E5 x0 x1 w K
def P5 : FnT := fun args w K => on2 (fun x0 x1 => UR x0 x1 w K) args
theorem c170 {x0 x1 : Value} {w : World} {K : V1} (h : UR x0 x1 w K) : ai P5 [x0, x1] w K := aj (dm (p := fun x0 x1 => UR x0 x1 w K) h)
theorem ok170 : OkF Tryz.prog 170 P5 := by
  refine aO (aN (l := DT) ⟨ok220, trivial⟩) mixed (n := fuel) Tryz.func170 Tryz.call170 fun args w K h => ?_
  obtain ⟨x0, x1, rfl, hh⟩ := dn h
  unfold UR at hh
  exact az (c := ah Tryz.f170) (by kernel_rfl) (by kernel_rfl) (WH (fun _ _ h => h) (fun _ _ h => h) (fun _ _ _ h => h) (dD [x0, x1]) w hh)
end Go.Proofs.Gong

/- Heap -/
namespace Go.Proofs.Gong
open Go Go.Sx Go.Proofs
set_option linter.all false
set_option maxRecDepth 100000
set_option maxHeartbeats 4000000
variable {kn kr : ET} {ke : JT}
def T152 : List (Nat × FnT) := []
def Y2 (x0 : Value) (w : World) (K : V1) : Prop :=
aa (bLt x0 (.int .i64 1)) fun v1 =>
aS (gd false v1) x0 fun v2 =>
Sx.stepG (gd false v1) (bGt v2 (.int .i64 65536)) fun v3 =>
aa (aG v1 (.bool true) v3) fun v4 =>
ifB v4 (
K (.tuple #[(.pointer none), (.int .i64 1)]) w) (
eG none w fun v6 w5 =>
aa (aD Tryz.prog 315 [(0, x0), (2, v6)]) fun v7 =>
bT 315 v7 w5 fun v9 w8 =>
K (.tuple #[v9, (.int .i64 0)]) w8)
def TU : FnT := fun args w K => on1 (fun x0 => Y2 x0 w K) args
theorem c152 {x0 : Value} {w : World} {K : V1} (h : Y2 x0 w K) : ai TU [x0] w K := aj (bL (p := fun x0 => Y2 x0 w K) h)
theorem ok152 : OkF Tryz.prog 152 TU := by
  refine aO (aN (l := T152) trivial) mixed (n := fuel) Tryz.func152 Tryz.call152 fun args w K h => ?_
  obtain ⟨x0, rfl, hh⟩ := bJ h
  exact az (c := ah Tryz.f152) (by kernel_rfl) (by kernel_rfl) (Eq.mp (by kernel_rfl) hh)
end Go.Proofs.Gong

/- Hold1 -/
namespace Go.Proofs.Gong
open Go Go.Sx Go.Proofs
set_option linter.all false
set_option maxRecDepth 100000
set_option maxHeartbeats 4000000
variable {kn kr : ET} {ke : JT}
def T106 : List (Nat × FnT) := [(152, TU)]
def Zk (x0 x1 : Value) (w : World) (K : V1) : Prop :=
ai TU [x0] w fun v2 w1 =>
aa (aK v2 0) fun v3 =>
aa (aK v2 1) fun _ =>
aa (aD Tryz.prog 245 [(0, v3)]) fun v5 =>
eG none w1 fun v7 w6 =>
eG none w6 fun v9 w8 =>
aa (aD Tryz.prog 249 [(0, v5), (1, x0), (2, x1), (3, v7), (4, v9)]) fun v10 =>
bT 249 v10 w8 fun v12 w11 =>
K v12 w11
def Uj : FnT := fun args w K => on2 (fun x0 x1 => Zk x0 x1 w K) args
theorem c106 {x0 x1 : Value} {w : World} {K : V1} (h : Zk x0 x1 w K) : ai Uj [x0, x1] w K := aj (dm (p := fun x0 x1 => Zk x0 x1 w K) h)
theorem ok106 : OkF Tryz.prog 106 Uj := by
  refine aO (aN (l := T106) ⟨ok152, trivial⟩) mixed (n := fuel) Tryz.func106 Tryz.call106 fun args w K h => ?_
  obtain ⟨x0, x1, rfl, hh⟩ := dn h
  exact az (c := ah Tryz.f106) (by kernel_rfl) (by kernel_rfl) (Eq.mp (by kernel_rfl) hh)
def T56 : List (Nat × FnT) := [(106, Uj)]
def F56 (x0 : Value) (w : World) (K : V1) : Prop :=
aa (bLt x0 (.int .i64 1)) fun v1 =>
aS (gd false v1) x0 fun v2 =>
Sx.stepG (gd false v1) (bGt v2 (.int .i64 65536)) fun v3 =>
aa (aG v1 (.bool true) v3) fun v4 =>
ifB v4 (
K (.tuple #[(.pointer none), (.int .i64 1)]) w) (
ai Uj [x0, (.int .i64 1)] w fun v6 w5 =>
K (.tuple #[v6, (.int .i64 0)]) w5)
def G56 : FnT := fun args w K => on1 (fun x0 => F56 x0 w K) args
theorem c56 {x0 : Value} {w : World} {K : V1} (h : F56 x0 w K) : ai G56 [x0] w K := aj (bL (p := fun x0 => F56 x0 w K) h)
theorem ok56 : OkF Tryz.prog 56 G56 := by
  refine aO (aN (l := T56) ⟨ok106, trivial⟩) mixed (n := fuel) Tryz.func56 Tryz.call56 fun args w K h => ?_
  obtain ⟨x0, rfl, hh⟩ := bJ h
  exact az (c := ah Tryz.f56) (by kernel_rfl) (by kernel_rfl) (Eq.mp (by kernel_rfl) hh)
def T60 : List (Nat × FnT) := []
def F60 (x0 : Value) (w : World) (K : V1) : Prop :=
aa (bLt x0 (.int .i64 1)) fun v1 =>
aS (gd false v1) x0 fun v2 =>
Sx.stepG (gd false v1) (bGt v2 (.int .i64 65536)) fun v3 =>
aa (aG v1 (.bool true) v3) fun v4 =>
ifB v4 (
K (.tuple #[(.pointer none), (.int .i64 1)]) w) (
aa (aD Tryz.prog 222 [(0, x0), (1, (.int .i64 1))]) fun v5 =>
bT 222 v5 w fun v7 w6 =>
K (.tuple #[v7, (.int .i64 0)]) w6)
def G60 : FnT := fun args w K => on1 (fun x0 => F60 x0 w K) args
theorem c60 {x0 : Value} {w : World} {K : V1} (h : F60 x0 w K) : ai G60 [x0] w K := aj (bL (p := fun x0 => F60 x0 w K) h)
theorem ok60 : OkF Tryz.prog 60 G60 := by
  refine aO (aN (l := T60) trivial) mixed (n := fuel) Tryz.func60 Tryz.call60 fun args w K h => ?_
  obtain ⟨x0, rfl, hh⟩ := bJ h
  exact az (c := ah Tryz.f60) (by kernel_rfl) (by kernel_rfl) (Eq.mp (by kernel_rfl) hh)
end Go.Proofs.Gong

/- Outbox1 -/
namespace Go.Proofs.Gong
open Go Go.Sx Go.Proofs
set_option linter.all false
set_option maxRecDepth 100000
set_option maxHeartbeats 4000000
variable {kn kr : ET} {ke : JT}
def T32 : List (Nat × FnT) := []
def F32 (x0 x1 x2 : Value) (w : World) (K : V1) : Prop :=
aa (bLt x0 (.int .i64 1)) fun v1 =>
aS (gd false v1) x0 fun v2 =>
Sx.stepG (gd false v1) (bGt v2 (.int .i64 65536)) fun v3 =>
aa (aG v1 (.bool true) v3) fun v4 =>
aS (gd false v4) x1 fun v5 =>
Sx.stepG (gd false v4) (bLt v5 (.int .i64 1)) fun v6 =>
aa (aG v4 (.bool true) v6) fun v7 =>
aS (gd false v7) x1 fun v8 =>
aS (gd false v7) x2 fun v9 =>
Sx.stepG (gd false v7) (bGt v8 v9) fun v10 =>
aa (aG v7 (.bool true) v10) fun v11 =>
aS (gd false v11) x2 fun v12 =>
Sx.stepG (gd false v11) (bGt v12 (.int .i64 144115188075855872)) fun v13 =>
aa (aG v11 (.bool true) v13) fun v14 =>
ifB v14 (
K (.tuple #[(.pointer none), (.int .i64 1)]) w) (
eG none w fun v16 w15 =>
aa (aD Tryz.prog 122 [(0, x0), (1, x1), (2, x2), (6, v16)]) fun v17 =>
bT 122 v17 w15 fun v19 w18 =>
K (.tuple #[v19, (.int .i64 0)]) w18)
def G32 : FnT := fun args w K => on3 (fun x0 x1 x2 => F32 x0 x1 x2 w K) args
theorem c32 {x0 x1 x2 : Value} {w : World} {K : V1} (h : F32 x0 x1 x2 w K) : ai G32 [x0, x1, x2] w K := aj (kT (p := fun x0 x1 x2 => F32 x0 x1 x2 w K) h)
theorem ok32 : OkF Tryz.prog 32 G32 := by
  refine aO (aN (l := T32) trivial) mixed (n := fuel) Tryz.func32 Tryz.call32 fun args w K h => ?_
  obtain ⟨x0, x1, x2, rfl, hh⟩ := kV h
  exact az (c := ah Tryz.f32) (by kernel_rfl) (by kernel_rfl) (Eq.mp (by kernel_rfl) hh)
def T40 : List (Nat × FnT) := []
def F40 (x0 x1 : Value) (w : World) (K : V1) : Prop :=
bT 125 x1 w fun v2 w1 =>
aa (cZ x0) fun v3 =>
aa (ae 6 v3) fun v4 =>
aa (ld1 v4 w1.drew) fun v5 =>
aa (ae 0 v2) fun v6 =>
aa (ld1 v6 w1.drew) fun v7 =>
aa (ldN 13 v2 w1.drew) fun v8 =>
aa (cZ x0) fun v9 =>
aa (ae 1 v9) fun v10 =>
aa (ld1 v10 w1.drew) fun v11 =>
aa (aD Tryz.prog 159 [(0, v8), (1, v11)]) fun v12 =>
bz Tryz.prog 120 v5 v7 v12 w1.drew fun _ w13 =>
K (.tuple #[]) w13
def G40 : FnT := fun args w K => on2 (fun x0 x1 => F40 x0 x1 w K) args
theorem c40 {x0 x1 : Value} {w : World} {K : V1} (h : F40 x0 x1 w K) : ai G40 [x0, x1] w K := aj (dm (p := fun x0 x1 => F40 x0 x1 w K) h)
theorem ok40 : OkF Tryz.prog 40 G40 := by
  refine aO (aN (l := T40) trivial) mixed (n := fuel) Tryz.func40 Tryz.call40 fun args w K h => ?_
  obtain ⟨x0, x1, rfl, hh⟩ := dn h
  exact az (c := ah Tryz.f40) (by kernel_rfl) (by kernel_rfl) (Eq.mp (by kernel_rfl) hh)
def T22 : List (Nat × FnT) := [(38, G38), (40, G40)]
def F22 (x0 x1 x2 : Value) (w : World) (K : V1) : Prop :=
bT 48 x2 w fun v2 w1 =>
aa (bLt x1 (.int .i64 1)) fun v3 =>
aS (gd false v3) x1 fun v4 =>
Sx.stepG (gd false v3) (bGt v4 (.int .i64 5)) fun v5 =>
aa (aG v3 (.bool true) v5) fun v6 =>
Sx.stepG (gd false v6) (ldN 11 v2 w1) fun v7 =>
dz (gd false v6) (fun k => ai G38 [v7] w1 k) w1 fun v9 w8 =>
Sx.stepG (gd false v6) (bNe Tryz.prog 33 (.tmp 17) (.const (.int .i64 0)) v9 (.int .i64 0)) fun v10 =>
aa (aG v6 (.bool true) v10) fun v11 =>
ifB v11 (
K (.tuple #[(.int .i64 0), (.int .i64 4)]) w8) (
aa (cZ x0) fun v12 =>
aa (ae 6 v12) fun v13 =>
aa (ld1 v13 w8.drew) fun v14 =>
aa (dF v14 w8.drew) fun v15 =>
aa (cZ x0) fun v16 =>
aa (ae 0 v16) fun v17 =>
aa (ld1 v17 w8.drew) fun v18 =>
aa (bGe v15 v18) fun v19 =>
ifB v19 (
aa (cZ x0) fun v20 =>
aa (ae 4 v20) fun v21 =>
aa (ld1 v21 w8.drew) fun v22 =>
aa (bH v22 (.int .i64 1)) fun v23 =>
aa (cZ x0) fun v24 =>
aa (ae 4 v24) fun v25 =>
bF (st 1 v25 v23 w8.drew) fun w26 =>
K (.tuple #[(.int .i64 0), (.int .i64 200)]) w26) (
aa (cZ x0) fun v28 =>
aa (ae 3 v28) fun v29 =>
aa (ld1 v29 w8.drew) fun v30 =>
aa (bH v30 (.int .i64 1)) fun v31 =>
aa (cZ x0) fun v32 =>
aa (ae 3 v32) fun v33 =>
bF (st 1 v33 v31 w8.drew) fun w34 =>
aa (cZ x0) fun v36 =>
aa (ae 3 v36) fun v37 =>
aa (ld1 v37 w34.drew) fun v38 =>
aa (ldN 11 v2 w34.drew) fun v39 =>
aa (aD Tryz.prog 125 [(0, v38), (1, x1), (2, v39)]) fun v40 =>
ai G40 [x0, v40] w34.drew fun _ w41 =>
aa (cZ x0) fun v43 =>
aa (ae 3 v43) fun v44 =>
aa (ld1 v44 w41) fun v45 =>
K (.tuple #[v45, (.int .i64 0)]) w41))
def G22 : FnT := fun args w K => on3 (fun x0 x1 x2 => F22 x0 x1 x2 w K) args
theorem c22 {x0 x1 x2 : Value} {w : World} {K : V1} (h : F22 x0 x1 x2 w K) : ai G22 [x0, x1, x2] w K := aj (kT (p := fun x0 x1 x2 => F22 x0 x1 x2 w K) h)
theorem ok22 : OkF Tryz.prog 22 G22 := by
  refine aO (aN (l := T22) ⟨ok38, ok40, trivial⟩) mixed (n := fuel) Tryz.func22 Tryz.call22 fun args w K h => ?_
  obtain ⟨x0, x1, x2, rfl, hh⟩ := kV h
  exact az (c := ah Tryz.f22) (by kernel_rfl) (by kernel_rfl) (Eq.mp (by kernel_rfl) hh)
def T34 : List (Nat × FnT) := []
def F34 (x0 x1 x2 : Value) (w : World) (K : V1) : Prop :=
aa (bLt x0 (.int .i64 1)) fun v1 =>
aS (gd false v1) x0 fun v2 =>
Sx.stepG (gd false v1) (bGt v2 (.int .i64 65536)) fun v3 =>
aa (aG v1 (.bool true) v3) fun v4 =>
aS (gd false v4) x1 fun v5 =>
Sx.stepG (gd false v4) (bLt v5 (.int .i64 1)) fun v6 =>
aa (aG v4 (.bool true) v6) fun v7 =>
aS (gd false v7) x1 fun v8 =>
aS (gd false v7) x2 fun v9 =>
Sx.stepG (gd false v7) (bGt v8 v9) fun v10 =>
aa (aG v7 (.bool true) v10) fun v11 =>
aS (gd false v11) x2 fun v12 =>
Sx.stepG (gd false v11) (bGt v12 (.int .i64 144115188075855872)) fun v13 =>
aa (aG v11 (.bool true) v13) fun v14 =>
ifB v14 (
K (.tuple #[(.pointer none), (.int .i64 1)]) w) (
aa (aD Tryz.prog 128 [(0, x0), (1, x1), (2, x2)]) fun v15 =>
bT 128 v15 w fun v17 w16 =>
K (.tuple #[v17, (.int .i64 0)]) w16)
def G34 : FnT := fun args w K => on3 (fun x0 x1 x2 => F34 x0 x1 x2 w K) args
theorem c34 {x0 x1 x2 : Value} {w : World} {K : V1} (h : F34 x0 x1 x2 w K) : ai G34 [x0, x1, x2] w K := aj (kT (p := fun x0 x1 x2 => F34 x0 x1 x2 w K) h)
theorem ok34 : OkF Tryz.prog 34 G34 := by
  refine aO (aN (l := T34) trivial) mixed (n := fuel) Tryz.func34 Tryz.call34 fun args w K h => ?_
  obtain ⟨x0, x1, x2, rfl, hh⟩ := kV h
  exact az (c := ah Tryz.f34) (by kernel_rfl) (by kernel_rfl) (Eq.mp (by kernel_rfl) hh)
def T23 : List (Nat × FnT) := [(35, G35)]
def F23 (x0 x1 x2 : Value) (w : World) (K : V1) : Prop :=
bT 48 x2 w fun v2 w1 =>
aa (bLt x1 (.int .i64 1)) fun v3 =>
aS (gd false v3) x1 fun v4 =>
Sx.stepG (gd false v3) (bGt v4 (.int .i64 5)) fun v5 =>
aa (aG v3 (.bool true) v5) fun v6 =>
Sx.stepG (gd false v6) (ldN 11 v2 w1) fun v7 =>
dz (gd false v6) (fun k => ai G35 [v7] w1 k) w1 fun v9 w8 =>
Sx.stepG (gd false v6) (bNe Tryz.prog 33 (.tmp 16) (.const (.int .i64 0)) v9 (.int .i64 0)) fun v10 =>
aa (aG v6 (.bool true) v10) fun v11 =>
ifB v11 (
K (.tuple #[(.int .i64 0), (.int .i64 4)]) w8) (
aa (cZ x0) fun v12 =>
aa (ae 6 v12) fun v13 =>
aa (ld1 v13 w8.drew) fun v14 =>
aa (bI v14) fun v15 =>
aa (cZ x0) fun v16 =>
aa (ae 0 v16) fun v17 =>
aa (ld1 v17 w8.drew) fun v18 =>
aa (bGe v15 v18) fun v19 =>
ifB v19 (
aa (cZ x0) fun v20 =>
aa (ae 4 v20) fun v21 =>
aa (ld1 v21 w8.drew) fun v22 =>
aa (bH v22 (.int .i64 1)) fun v23 =>
aa (cZ x0) fun v24 =>
aa (ae 4 v24) fun v25 =>
bF (st 1 v25 v23 w8.drew) fun w26 =>
K (.tuple #[(.int .i64 0), (.int .i64 200)]) w26) (
aa (cZ x0) fun v28 =>
aa (ae 3 v28) fun v29 =>
aa (ld1 v29 w8.drew) fun v30 =>
aa (bH v30 (.int .i64 1)) fun v31 =>
aa (cZ x0) fun v32 =>
aa (ae 3 v32) fun v33 =>
bF (st 1 v33 v31 w8.drew) fun w34 =>
aa (cZ x0) fun v36 =>
aa (ae 6 v36) fun v37 =>
aa (ld1 v37 w34.drew) fun v38 =>
aa (cZ x0) fun v39 =>
aa (ae 3 v39) fun v40 =>
aa (ld1 v40 w34.drew) fun v41 =>
aa (ldN 11 v2 w34.drew) fun v42 =>
aa (aD Tryz.prog 125 [(0, v41), (1, x1), (2, v42)]) fun v43 =>
aa (aD Tryz.prog 130 [(0, v43)]) fun v44 =>
(aB Tryz.prog 126 0 [] w34.drew fun v46 w45 =>
(fok true (ld1 v37 w45) v38 ∧ fok true (ld1 v40 w45) v41 ∧ fok true (ldN 11 v2 w45) v42) ∧ ((aJ Tryz.prog 126 126 v46 v38 w45 fun v48 w47 =>
(fok true (ld1 v40 w47) v41 ∧ fok true (ldN 11 v2 w47) v42) ∧ (aB Tryz.prog 126 1 [(0, v44)] w47 fun v50 w49 =>
fok true (ld1 v37 w49) v38 ∧ (aJ Tryz.prog 126 126 v48 v50 w49 fun v52 w51 =>
aa (cZ x0) fun v53 =>
aa (ae 6 v53) fun v54 =>
bF (st 1 v54 v52 w51) fun w55 =>
aa (cZ x0) fun v57 =>
aa (ae 3 v57) fun v58 =>
aa (ld1 v58 w55) fun v59 =>
K (.tuple #[v59, (.int .i64 0)]) w55))) ∧ (aB Tryz.prog 126 1 [(0, v44)] w45 fun v61 w60 =>
fok true (ld1 v37 w60) v38 ∧ (aJ Tryz.prog 126 126 v46 v38 w60 fun v63 w62 =>
(fok true (ld1 v40 w62) v41 ∧ fok true (ldN 11 v2 w62) v42) ∧ (aJ Tryz.prog 126 126 v63 v61 w62 fun v65 w64 =>
aa (cZ x0) fun v66 =>
aa (ae 6 v66) fun v67 =>
bF (st 1 v67 v65 w64) fun w68 =>
aa (cZ x0) fun v70 =>
aa (ae 3 v70) fun v71 =>
aa (ld1 v71 w68) fun v72 =>
K (.tuple #[v72, (.int .i64 0)]) w68))))) ∧ (aB Tryz.prog 126 1 [(0, v44)] w34.drew fun v74 w73 =>
fok true (ld1 v37 w73) v38 ∧ (aB Tryz.prog 126 0 [] w73 fun v76 w75 =>
(fok true (ld1 v37 w75) v38 ∧ fok true (ld1 v40 w75) v41 ∧ fok true (ldN 11 v2 w75) v42) ∧ (aJ Tryz.prog 126 126 v76 v38 w75 fun v78 w77 =>
(fok true (ld1 v40 w77) v41 ∧ fok true (ldN 11 v2 w77) v42) ∧ (aJ Tryz.prog 126 126 v78 v74 w77 fun v80 w79 =>
aa (cZ x0) fun v81 =>
aa (ae 6 v81) fun v82 =>
bF (st 1 v82 v80 w79) fun w83 =>
aa (cZ x0) fun v85 =>
aa (ae 3 v85) fun v86 =>
aa (ld1 v86 w83) fun v87 =>
K (.tuple #[v87, (.int .i64 0)]) w83))))))
def G23 : FnT := fun args w K => on3 (fun x0 x1 x2 => F23 x0 x1 x2 w K) args
theorem c23 {x0 x1 x2 : Value} {w : World} {K : V1} (h : F23 x0 x1 x2 w K) : ai G23 [x0, x1, x2] w K := aj (kT (p := fun x0 x1 x2 => F23 x0 x1 x2 w K) h)
theorem ok23 : OkF Tryz.prog 23 G23 := by
  refine aO (aN (l := T23) ⟨ok35, trivial⟩) mixed (n := fuel) Tryz.func23 Tryz.call23 fun args w K h => ?_
  obtain ⟨x0, x1, x2, rfl, hh⟩ := kV h
  exact az (c := ah Tryz.f23) (by kernel_rfl) (by kernel_rfl) (Eq.mp (by kernel_rfl) hh)
end Go.Proofs.Gong

/- Eng -/
namespace Go.Proofs.Gong
open Go Go.Sx Go.Proofs
set_option linter.all false
set_option maxRecDepth 100000
set_option maxHeartbeats 4000000
variable {kn kr : ET} {ke : JT}
def Uk : FnT := fun _ _ _ => False
theorem ok101 : OkF Tryz.prog 101 Uk := fun _ _ _ h => h.elim
def G102 : FnT := fun _ _ _ => False
theorem ok102 : OkF Tryz.prog 102 G102 := fun _ _ _ h => h.elim
def G103 : FnT := fun _ _ _ => False
theorem ok103 : OkF Tryz.prog 103 G103 := fun _ _ _ h => h.elim
def G104 : FnT := fun _ _ _ => False
theorem ok104 : OkF Tryz.prog 104 G104 := fun _ _ _ h => h.elim
def T52 : List (Nat × FnT) := [(101, Uk), (102, G102), (103, G103), (104, G104)]
def L6 (w : World) (K : V1) : Prop :=
K (.tuple #[(.int .i64 0), (.int .i64 0)]) w
def Cw (w : World) (K : V1) : Prop := L6 w K
theorem ok52_7 {K : V1}
    (hn : HN (fun e w => K (.tuple #[(e 2), (e 3)]) w) kn) (hr : HR Tryz.prog [.tmp 2, .tmp 3] K kr) (he : HE noE ke) :
    ∀ e w, Cw w K → aA Tryz.prog (au T52) 95 fuel ((flat (ah Tryz.f52)).drop 11) e w kn kr ke := by
  intro e w h
  unfold Cw at h
  have e1 : ∀ (_ : Unit), L6 w K = aA Tryz.prog (au T52) 95 fuel ((flat (ah Tryz.f52)).drop 11) e w (fun e w => K (.tuple #[(e 2), (e 3)]) w) (aW Tryz.prog [.tmp 2, .tmp 3] K) noE := by intro _; kernel_rfl
  exact bQ (Eq.mp (e1 ()) h) hn hr he
def L8 (s8 s76 s77 s78 : Value) (w : World) (K : V1) (Y0 : V4) (Y1 : V0) : Prop :=
aa (bLt s78 s77) fun v1 =>
ifB v1 (
aa (bq 10 s76 s78) fun v2 =>
aa (ldN 10 v2 w) fun v3 =>
aY Tryz.prog 208 w fun v5 w4 =>
bF (st 10 v5 v3 w4) fun w6 =>
aa (ae 0 v5) fun v8 =>
aa (ld1 v8 w6) fun v9 =>
ai Uk [s8, v9] w6 fun v11 w10 =>
aa (dN v11) fun v12 =>
Sx.stepG (gd false v12) (ldN 10 v5 w10) fun v13 =>
dz (gd false v12) (fun k => ai G104 [v13] w10 k) w10 fun v15 w14 =>
Sx.stepG (gd false v12) (dN v15) fun v16 =>
aa (aG v12 (.bool true) v16) fun v17 =>
ifB v17 (
aa (ae 1 v5) fun v18 =>
aa (ld1 v18 w14) fun v19 =>
K (.tuple #[v19, (.int .i64 160)]) w14) (
aa (bH s78 (.int .i64 1)) fun v20 =>
Y0 s8 s76 s77 v20 w14)) (
Y1 w)
def oV : Nat → Value → Value → Value → Value → World → (V1) → Prop
  | 0, _, _, _, _, _, _ => False
  | n + 1, s8, s76, s77, s78, w, K => L8 s8 s76 s77 s78 w K (fun a8 a76 a77 a78 w => oV n a8 a76 a77 a78 w K) (fun w => Cw w K)
def Jf (s8 s76 s77 s78 : Value) (w : World) (K : V1) : Prop := oV fuel s8 s76 s77 s78 w K
theorem ok52_6 {K : V1}
    (hn : HN (fun e w => K (.tuple #[(e 2), (e 3)]) w) kn) (hr : HR Tryz.prog [.tmp 2, .tmp 3] K kr) (he : HE noE ke) :
    ∀ e w, Jf (e 8) (e 76) (e 77) (e 78) w K → aA Tryz.prog (au T52) 95 fuel ((flat (ah Tryz.f52)).drop 10) e w kn kr ke := by
  intro e w h
  unfold Jf at h
  refine bM (id := 4) (body := (aU (bi (aV (flat (ah Tryz.f52)) 10)))) (l2 := (flat (ah Tryz.f52)).drop 11) (by kernel_rfl) ?_
  refine bV (FL := fun m e w => oV m (e 8) (e 76) (e 77) (e 78) w K) (fr := aW Tryz.prog [.tmp 2, .tmp 3] K) (fe := (bB 4 (fun e w => Cw w K) noE)) (fun _ _ h => h) ?_ hr (bD (fun e w h => ok52_7 hn hr he e w h) he) fuel e w h
  intro m e w h
  have h : oV (m + 1) (e 8) (e 76) (e 77) (e 78) w K := h
  rw [oV] at h
  have e1 : ∀ (Y0 : V4) (Y1 : V0), L8 (e 8) (e 76) (e 77) (e 78) w K Y0 Y1 = aA Tryz.prog (au T52) 95 fuel (flat (aU (bi (aV (flat (ah Tryz.f52)) 10)))) e w (fun e w => Y0 (e 8) (e 76) (e 77) (e 78) w) (aW Tryz.prog [.tmp 2, .tmp 3] K) (bB 4 (fun e w => Y1 w) noE) := by intro Y0 Y1; kernel_rfl
  exact Eq.mp (e1 (fun a8 a76 a77 a78 w => oV m a8 a76 a77 a78 w K) (fun w => Cw w K)) h
def L9 (s1 s8 : Value) (w : World) (_K : V1) (Y0 : V4) : Prop :=
aa (ae 2 s1) fun v21 =>
aa (ld1 v21 w) fun v22 =>
aa (bI v22) fun v23 =>
Y0 s8 v22 v23 (.int .i64 0) w
def Cx (s1 s8 : Value) (w : World) (K : V1) : Prop := L9 s1 s8 w K (fun a8 a76 a77 a78 w => Jf a8 a76 a77 a78 w K)
theorem ok52_5 {K : V1}
    (hn : HN (fun e w => K (.tuple #[(e 2), (e 3)]) w) kn) (hr : HR Tryz.prog [.tmp 2, .tmp 3] K kr) (he : HE noE ke) :
    ∀ e w, Cx (e 1) (e 8) w K → aA Tryz.prog (au T52) 95 fuel ((flat (ah Tryz.f52)).drop 9) e w kn kr ke := by
  intro e w h
  unfold Cx at h
  have e1 : ∀ (Y0 : V4), L9 (e 1) (e 8) w K Y0 = aA Tryz.prog (au T52) 95 fuel (((flat (ah Tryz.f52)).drop 9).take 1) e w (fun e w => Y0 (e 8) (e 76) (e 77) (e 78) w) (aW Tryz.prog [.tmp 2, .tmp 3] K) noE := by intro Y0; kernel_rfl
  exact seg 1 (Eq.mp (e1 (fun a8 a76 a77 a78 w => Jf a8 a76 a77 a78 w K)) h) (fun e w h => ok52_6 hn hr he e w h) hr he
def Ma (s1 s4 s7 s8 s55 s56 s57 : Value) (w : World) (K : V1) (Y0 : V7) (Y1 : V2) : Prop :=
aa (bLt s57 s56) fun v24 =>
ifB v24 (
aa (bq 8 s55 s57) fun v25 =>
aa (ldN 8 v25 w) fun v26 =>
aY Tryz.prog 205 w fun v28 w27 =>
bF (st 8 v28 v26 w27) fun w29 =>
aa (ae 0 v28) fun v31 =>
aa (ld1 v31 w29) fun v32 =>
ai Uk [s7, v32] w29 fun v34 w33 =>
aa (dN v34) fun v35 =>
Sx.stepG (gd false v35) (ldN 1 s4 w33) fun v36 =>
Sx.stepG (gd false v35) (ldN 8 v28 w33) fun v37 =>
dz (gd false v35) (fun k => ai G103 [v36, v37] w33 k) w33 fun v39 w38 =>
Sx.stepG (gd false v35) (dN v39) fun v40 =>
aa (aG v35 (.bool true) v40) fun v41 =>
ifB v41 (
aa (ae 1 v28) fun v42 =>
aa (ld1 v42 w38) fun v43 =>
K (.tuple #[v43, (.int .i64 160)]) w38) (
aa (bH s57 (.int .i64 1)) fun v44 =>
Y0 s1 s4 s7 s8 s55 s56 v44 w38)) (
Y1 s1 s8 w)
def oW : Nat → Value → Value → Value → Value → Value → Value → Value → World → (V1) → Prop
  | 0, _, _, _, _, _, _, _, _, _ => False
  | n + 1, s1, s4, s7, s8, s55, s56, s57, w, K => Ma s1 s4 s7 s8 s55 s56 s57 w K (fun a1 a4 a7 a8 a55 a56 a57 w => oW n a1 a4 a7 a8 a55 a56 a57 w K) (fun a1 a8 w => Cx a1 a8 w K)
def Jg (s1 s4 s7 s8 s55 s56 s57 : Value) (w : World) (K : V1) : Prop := oW fuel s1 s4 s7 s8 s55 s56 s57 w K
theorem ok52_4 {K : V1}
    (hn : HN (fun e w => K (.tuple #[(e 2), (e 3)]) w) kn) (hr : HR Tryz.prog [.tmp 2, .tmp 3] K kr) (he : HE noE ke) :
    ∀ e w, Jg (e 1) (e 4) (e 7) (e 8) (e 55) (e 56) (e 57) w K → aA Tryz.prog (au T52) 95 fuel ((flat (ah Tryz.f52)).drop 8) e w kn kr ke := by
  intro e w h
  unfold Jg at h
  refine bM (id := 2) (body := (aU (bi (aV (flat (ah Tryz.f52)) 8)))) (l2 := (flat (ah Tryz.f52)).drop 9) (by kernel_rfl) ?_
  refine bV (FL := fun m e w => oW m (e 1) (e 4) (e 7) (e 8) (e 55) (e 56) (e 57) w K) (fr := aW Tryz.prog [.tmp 2, .tmp 3] K) (fe := (bB 2 (fun e w => Cx (e 1) (e 8) w K) noE)) (fun _ _ h => h) ?_ hr (bD (fun e w h => ok52_5 hn hr he e w h) he) fuel e w h
  intro m e w h
  have h : oW (m + 1) (e 1) (e 4) (e 7) (e 8) (e 55) (e 56) (e 57) w K := h
  rw [oW] at h
  have e1 : ∀ (Y0 : V7) (Y1 : V2), Ma (e 1) (e 4) (e 7) (e 8) (e 55) (e 56) (e 57) w K Y0 Y1 = aA Tryz.prog (au T52) 95 fuel (flat (aU (bi (aV (flat (ah Tryz.f52)) 8)))) e w (fun e w => Y0 (e 1) (e 4) (e 7) (e 8) (e 55) (e 56) (e 57) w) (aW Tryz.prog [.tmp 2, .tmp 3] K) (bB 2 (fun e w => Y1 (e 1) (e 8) w) noE) := by intro Y0 Y1; kernel_rfl
  exact Eq.mp (e1 (fun a1 a4 a7 a8 a55 a56 a57 w => oW m a1 a4 a7 a8 a55 a56 a57 w K) (fun a1 a8 w => Cx a1 a8 w K)) h
def Mc (s1 s4 : Value) (w : World) (_K : V1) (Y0 : V7) : Prop :=
eG none w fun v46 w45 =>
eG none w45 fun v48 w47 =>
aa (ae 1 s1) fun v49 =>
aa (ld1 v49 w47) fun v50 =>
aa (bI v50) fun v51 =>
Y0 s1 s4 v46 v48 v50 v51 (.int .i64 0) w47
def Cy (s1 s4 : Value) (w : World) (K : V1) : Prop := Mc s1 s4 w K (fun a1 a4 a7 a8 a55 a56 a57 w => Jg a1 a4 a7 a8 a55 a56 a57 w K)
theorem ok52_3 {K : V1}
    (hn : HN (fun e w => K (.tuple #[(e 2), (e 3)]) w) kn) (hr : HR Tryz.prog [.tmp 2, .tmp 3] K kr) (he : HE noE ke) :
    ∀ e w, Cy (e 1) (e 4) w K → aA Tryz.prog (au T52) 95 fuel ((flat (ah Tryz.f52)).drop 6) e w kn kr ke := by
  intro e w h
  unfold Cy at h
  have e1 : ∀ (Y0 : V7), Mc (e 1) (e 4) w K Y0 = aA Tryz.prog (au T52) 95 fuel (((flat (ah Tryz.f52)).drop 6).take 2) e w (fun e w => Y0 (e 1) (e 4) (e 7) (e 8) (e 55) (e 56) (e 57) w) (aW Tryz.prog [.tmp 2, .tmp 3] K) noE := by intro Y0; kernel_rfl
  exact seg 2 (Eq.mp (e1 (fun a1 a4 a7 a8 a55 a56 a57 w => Jg a1 a4 a7 a8 a55 a56 a57 w K)) h) (fun e w h => ok52_4 hn hr he e w h) hr he
def Md (s1 s4 s32 s33 s34 : Value) (w : World) (K : V1) (Y0 : V5) (Y1 : V2) : Prop :=
aa (bLt s34 s33) fun v52 =>
ifB v52 (
aa (bq 4 s32 s34) fun v53 =>
aa (ldN 4 v53 w) fun v54 =>
aY Tryz.prog 200 w fun v56 w55 =>
bF (st 4 v56 v54 w55) fun w57 =>
aa (ae 0 s4) fun v59 =>
aa (ld1 v59 w57) fun v60 =>
aa (ae 0 v56) fun v61 =>
aa (ld1 v61 w57) fun v62 =>
ai Uk [v60, v62] w57 fun v64 w63 =>
aa (dN v64) fun v65 =>
Sx.stepG (gd false v65) (ldN 4 v56 w63) fun v66 =>
dz (gd false v65) (fun k => ai G102 [v66] w63 k) w63 fun v68 w67 =>
Sx.stepG (gd false v65) (dN v68) fun v69 =>
aa (aG v65 (.bool true) v69) fun v70 =>
ifB v70 (
aa (ae 1 v56) fun v71 =>
aa (ld1 v71 w67) fun v72 =>
K (.tuple #[v72, (.int .i64 160)]) w67) (
aa (bH s34 (.int .i64 1)) fun v73 =>
Y0 s1 s4 s32 s33 v73 w67)) (
Y1 s1 s4 w)
def oZ : Nat → Value → Value → Value → Value → Value → World → (V1) → Prop
  | 0, _, _, _, _, _, _, _ => False
  | n + 1, s1, s4, s32, s33, s34, w, K => Md s1 s4 s32 s33 s34 w K (fun a1 a4 a32 a33 a34 w => oZ n a1 a4 a32 a33 a34 w K) (fun a1 a4 w => Cy a1 a4 w K)
def Jh (s1 s4 s32 s33 s34 : Value) (w : World) (K : V1) : Prop := oZ fuel s1 s4 s32 s33 s34 w K
theorem ok52_2 {K : V1}
    (hn : HN (fun e w => K (.tuple #[(e 2), (e 3)]) w) kn) (hr : HR Tryz.prog [.tmp 2, .tmp 3] K kr) (he : HE noE ke) :
    ∀ e w, Jh (e 1) (e 4) (e 32) (e 33) (e 34) w K → aA Tryz.prog (au T52) 95 fuel ((flat (ah Tryz.f52)).drop 5) e w kn kr ke := by
  intro e w h
  unfold Jh at h
  refine bM (id := 0) (body := (aU (bi (aV (flat (ah Tryz.f52)) 5)))) (l2 := (flat (ah Tryz.f52)).drop 6) (by kernel_rfl) ?_
  refine bV (FL := fun m e w => oZ m (e 1) (e 4) (e 32) (e 33) (e 34) w K) (fr := aW Tryz.prog [.tmp 2, .tmp 3] K) (fe := (bB 0 (fun e w => Cy (e 1) (e 4) w K) noE)) (fun _ _ h => h) ?_ hr (bD (fun e w h => ok52_3 hn hr he e w h) he) fuel e w h
  intro m e w h
  have h : oZ (m + 1) (e 1) (e 4) (e 32) (e 33) (e 34) w K := h
  rw [oZ] at h
  have e1 : ∀ (Y0 : V5) (Y1 : V2), Md (e 1) (e 4) (e 32) (e 33) (e 34) w K Y0 Y1 = aA Tryz.prog (au T52) 95 fuel (flat (aU (bi (aV (flat (ah Tryz.f52)) 5)))) e w (fun e w => Y0 (e 1) (e 4) (e 32) (e 33) (e 34) w) (aW Tryz.prog [.tmp 2, .tmp 3] K) (bB 0 (fun e w => Y1 (e 1) (e 4) w) noE) := by intro Y0 Y1; kernel_rfl
  exact Eq.mp (e1 (fun a1 a4 a32 a33 a34 w => oZ m a1 a4 a32 a33 a34 w K) (fun a1 a4 w => Cy a1 a4 w K)) h
def Me (s0 : Value) (w : World) (K : V1) (Y0 : V5) : Prop :=
bT 53 s0 w fun v75 w74 =>
aa (ae 0 v75) fun v76 =>
aa (ld1 v76 w74) fun v77 =>
aa (bI v77) fun v78 =>
aa (bGt v78 (.int .i64 64)) fun v79 =>
Sx.stepG (gd false v79) (ae 1 v75) fun v80 =>
Sx.stepG (gd false v79) (ld1 v80 w74) fun v81 =>
Sx.stepG (gd false v79) (bI v81) fun v82 =>
Sx.stepG (gd false v79) (bGt v82 (.int .i64 256)) fun v83 =>
aa (aG v79 (.bool true) v83) fun v84 =>
Sx.stepG (gd false v84) (ae 2 v75) fun v85 =>
Sx.stepG (gd false v84) (ld1 v85 w74) fun v86 =>
Sx.stepG (gd false v84) (bI v86) fun v87 =>
Sx.stepG (gd false v84) (bGt v87 (.int .i64 64)) fun v88 =>
aa (aG v84 (.bool true) v88) fun v89 =>
ifB v89 (
K (.tuple #[(.int .i64 0), (.int .i64 2)]) w74) (
eG none w74 fun v91 w90 =>
aa (aD Tryz.prog 197 [(0, v91)]) fun v92 =>
aY Tryz.prog 197 w90 fun v94 w93 =>
bF (st 1 v94 v92 w93) fun w95 =>
aa (ae 0 v75) fun v97 =>
aa (ld1 v97 w95) fun v98 =>
aa (bI v98) fun v99 =>
Y0 v75 v94 v98 v99 (.int .i64 0) w95)
def NI (s0 : Value) (w : World) (K : V1) : Prop := Me s0 w K (fun a1 a4 a32 a33 a34 w => Jh a1 a4 a32 a33 a34 w K)
theorem ok52_1 {K : V1}
    (hn : HN (fun e w => K (.tuple #[(e 2), (e 3)]) w) kn) (hr : HR Tryz.prog [.tmp 2, .tmp 3] K kr) (he : HE noE ke) :
    ∀ e w, NI (e 0) w K → aA Tryz.prog (au T52) 95 fuel ((flat (ah Tryz.f52)).drop 0) e w kn kr ke := by
  intro e w h
  unfold NI at h
  have e1 : ∀ (Y0 : V5), Me (e 0) w K Y0 = aA Tryz.prog (au T52) 95 fuel (((flat (ah Tryz.f52)).drop 0).take 5) e w (fun e w => Y0 (e 1) (e 4) (e 32) (e 33) (e 34) w) (aW Tryz.prog [.tmp 2, .tmp 3] K) noE := by intro Y0; kernel_rfl
  exact seg 5 (Eq.mp (e1 (fun a1 a4 a32 a33 a34 w => Jh a1 a4 a32 a33 a34 w K)) h) (fun e w h => ok52_2 hn hr he e w h) hr he
def F52 (x0 : Value) (w : World) (K : V1) : Prop := NI x0 w K
def G52 : FnT := fun args w K => on1 (fun x0 => F52 x0 w K) args
theorem c52 {x0 : Value} {w : World} {K : V1} (h : F52 x0 w K) : ai G52 [x0] w K := aj (bL (p := fun x0 => F52 x0 w K) h)
theorem ok52 : OkF Tryz.prog 52 G52 := by
  refine aO (aN (l := T52) ⟨ok101, ok102, ok103, ok104, trivial⟩) mixed (n := fuel) Tryz.func52 Tryz.call52 fun args w K h => ?_
  obtain ⟨x0, rfl, hh⟩ := bJ h
  unfold F52 at hh
  exact az (c := ah Tryz.f52) (by kernel_rfl) (by kernel_rfl) (ok52_1 (fun _ _ h => h) (fun _ _ h => h) (fun _ _ _ h => h) (dD [x0]) w hh)
def T57 : List (Nat × FnT) := [(107, I4)]
def LX (s3 : Value) (w : World) (K : V1) : Prop :=
K s3 w
def Cv (s3 : Value) (w : World) (K : V1) : Prop := LX s3 w K
theorem ok57_3 {K : V1}
    (hn : HN (fun e w => K (e 2) w) kn) (hr : HR Tryz.prog [.tmp 2] K kr) (he : HE noE ke) :
    ∀ e w, Cv (e 3) w K → aA Tryz.prog (au T57) 38 fuel ((flat (ah Tryz.f57)).drop 4) e w kn kr ke := by
  intro e w h
  unfold Cv at h
  have e1 : ∀ (_ : Unit), LX (e 3) w K = aA Tryz.prog (au T57) 38 fuel ((flat (ah Tryz.f57)).drop 4) e w (fun e w => K (e 2) w) (aW Tryz.prog [.tmp 2] K) noE := by intro _; kernel_rfl
  exact bQ (Eq.mp (e1 ()) h) hn hr he
def LY (s3 s11 s12 s13 : Value) (w : World) (_K : V1) (Y0 : V4) (Y1 : V1) : Prop :=
aa (bLt s13 s12) fun v1 =>
ifB v1 (
aa (bq 10 s11 s13) fun v2 =>
aa (ldN 10 v2 w) fun v3 =>
aY Tryz.prog 208 w fun v5 w4 =>
bF (st 10 v5 v3 w4) fun w6 =>
aa (ae 3 v5) fun v8 =>
aa (ld1 v8 w6) fun v9 =>
ai I4 [v9] w6 fun v11 w10 =>
aa (aK v11 0) fun v12 =>
aa (aK v11 1) fun _ =>
aa (ae 4 v5) fun v14 =>
aa (ld1 v14 w10) fun v15 =>
ai I4 [v15] w10 fun v17 w16 =>
aa (aK v17 0) fun v18 =>
aa (aK v17 1) fun _ =>
aa (ldN 10 v5 w16) fun v20 =>
aa (aD Tryz.prog 216 [(0, v20), (1, v12), (2, v18)]) fun v21 =>
aB Tryz.prog 105 1 [(0, v21)] w16 fun v23 w22 =>
aJ Tryz.prog 105 105 s3 v23 w22 fun v25 w24 =>
aa (bH s13 (.int .i64 1)) fun v26 =>
Y0 v25 s11 s12 v26 w24) (
Y1 s3 w)
def oU : Nat → Value → Value → Value → Value → World → (V1) → Prop
  | 0, _, _, _, _, _, _ => False
  | n + 1, s3, s11, s12, s13, w, K => LY s3 s11 s12 s13 w K (fun a3 a11 a12 a13 w => oU n a3 a11 a12 a13 w K) (fun a3 w => Cv a3 w K)
def Je (s3 s11 s12 s13 : Value) (w : World) (K : V1) : Prop := oU fuel s3 s11 s12 s13 w K
theorem ok57_2 {K : V1}
    (hn : HN (fun e w => K (e 2) w) kn) (hr : HR Tryz.prog [.tmp 2] K kr) (he : HE noE ke) :
    ∀ e w, Je (e 3) (e 11) (e 12) (e 13) w K → aA Tryz.prog (au T57) 38 fuel ((flat (ah Tryz.f57)).drop 3) e w kn kr ke := by
  intro e w h
  unfold Je at h
  refine bM (id := 0) (body := (aU (bi (aV (flat (ah Tryz.f57)) 3)))) (l2 := (flat (ah Tryz.f57)).drop 4) (by kernel_rfl) ?_
  refine bV (FL := fun m e w => oU m (e 3) (e 11) (e 12) (e 13) w K) (fr := aW Tryz.prog [.tmp 2] K) (fe := (bB 0 (fun e w => Cv (e 3) w K) noE)) (fun _ _ h => h) ?_ hr (bD (fun e w h => ok57_3 hn hr he e w h) he) fuel e w h
  intro m e w h
  have h : oU (m + 1) (e 3) (e 11) (e 12) (e 13) w K := h
  rw [oU] at h
  have e1 : ∀ (Y0 : V4) (Y1 : V1), LY (e 3) (e 11) (e 12) (e 13) w K Y0 Y1 = aA Tryz.prog (au T57) 38 fuel (flat (aU (bi (aV (flat (ah Tryz.f57)) 3)))) e w (fun e w => Y0 (e 3) (e 11) (e 12) (e 13) w) (aW Tryz.prog [.tmp 2] K) (bB 0 (fun e w => Y1 (e 3) w) noE) := by intro Y0 Y1; kernel_rfl
  exact Eq.mp (e1 (fun a3 a11 a12 a13 w => oU m a3 a11 a12 a13 w K) (fun a3 w => Cv a3 w K)) h
def LZ (s0 : Value) (w : World) (_K : V1) (Y0 : V4) : Prop :=
bT 53 s0 w fun v28 w27 =>
aa (ae 2 v28) fun v29 =>
aa (ld1 v29 w27) fun v30 =>
aa (bI v30) fun v31 =>
Y0 (.slice none 0 0) v30 v31 (.int .i64 0) w27
def NH (s0 : Value) (w : World) (K : V1) : Prop := LZ s0 w K (fun a3 a11 a12 a13 w => Je a3 a11 a12 a13 w K)
theorem ok57_1 {K : V1}
    (hn : HN (fun e w => K (e 2) w) kn) (hr : HR Tryz.prog [.tmp 2] K kr) (he : HE noE ke) :
    ∀ e w, NH (e 0) w K → aA Tryz.prog (au T57) 38 fuel ((flat (ah Tryz.f57)).drop 0) e w kn kr ke := by
  intro e w h
  unfold NH at h
  have e1 : ∀ (Y0 : V4), LZ (e 0) w K Y0 = aA Tryz.prog (au T57) 38 fuel (((flat (ah Tryz.f57)).drop 0).take 3) e w (fun e w => Y0 (e 3) (e 11) (e 12) (e 13) w) (aW Tryz.prog [.tmp 2] K) noE := by intro Y0; kernel_rfl
  exact seg 3 (Eq.mp (e1 (fun a3 a11 a12 a13 w => Je a3 a11 a12 a13 w K)) h) (fun e w h => ok57_2 hn hr he e w h) hr he
def F57 (x0 : Value) (w : World) (K : V1) : Prop := NH x0 w K
def G57 : FnT := fun args w K => on1 (fun x0 => F57 x0 w K) args
theorem c57 {x0 : Value} {w : World} {K : V1} (h : F57 x0 w K) : ai G57 [x0] w K := aj (bL (p := fun x0 => F57 x0 w K) h)
theorem ok57 : OkF Tryz.prog 57 G57 := by
  refine aO (aN (l := T57) ⟨ZT, trivial⟩) mixed (n := fuel) Tryz.func57 Tryz.call57 fun args w K h => ?_
  obtain ⟨x0, rfl, hh⟩ := bJ h
  unfold F57 at hh
  exact az (c := ah Tryz.f57) (by kernel_rfl) (by kernel_rfl) (ok57_1 (fun _ _ h => h) (fun _ _ h => h) (fun _ _ _ h => h) (dD [x0]) w hh)
def T31 : List (Nat × FnT) := [(52, G52), (55, G55), (56, G56), (57, G57)]
def F31 (x0 x1 x2 x3 : Value) (w : World) (K : V1) : Prop :=
bT 53 x0 w fun v2 w1 =>
aa (ldN 3 v2 w1) fun v3 =>
ai G52 [v3] w1 fun v5 w4 =>
aa (aK v5 0) fun _ =>
aa (aK v5 1) fun v7 =>
aa (bNe Tryz.prog 33 (.tmp 21) (.const (.int .i64 0)) v7 (.int .i64 0)) fun v8 =>
ifB v8 (
K (.tuple #[(.pointer none), (.int .i64 160)]) w4) (
ai G55 [x1] w4 fun v10 w9 =>
aa (aK v10 0) fun v11 =>
aa (aK v10 1) fun v12 =>
ai G56 [x2] w9 fun v14 w13 =>
aa (aK v14 0) fun v15 =>
aa (aK v14 1) fun v16 =>
aa (bNe Tryz.prog 33 (.tmp 33) (.const (.int .i64 0)) v12 (.int .i64 0)) fun v17 =>
aS (gd false v17) v16 fun v18 =>
Sx.stepG (gd false v17) (bNe Tryz.prog 33 (.tmp 36) (.const (.int .i64 0)) v18 (.int .i64 0)) fun v19 =>
aa (aG v17 (.bool true) v19) fun v20 =>
aS (gd false v20) x3 fun v21 =>
Sx.stepG (gd false v20) (bLt v21 (.int .i64 0)) fun v22 =>
aa (aG v20 (.bool true) v22) fun v23 =>
aS (gd false v23) x3 fun v24 =>
Sx.stepG (gd false v23) (bGt v24 (.int .i64 144115188075855872)) fun v25 =>
aa (aG v23 (.bool true) v25) fun v26 =>
ifB v26 (
K (.tuple #[(.pointer none), (.int .i64 1)]) w13) (
aa (ldN 3 v2 w13) fun v27 =>
ai G57 [v27] w13 fun v29 w28 =>
aa (aD Tryz.prog 109 [(0, v29), (1, v11), (2, v15), (3, x3)]) fun v30 =>
bT 109 v30 w28 fun v32 w31 =>
K (.tuple #[v32, (.int .i64 0)]) w31))
def G31 : FnT := fun args w K => on4 (fun x0 x1 x2 x3 => F31 x0 x1 x2 x3 w K) args
theorem c31 {x0 x1 x2 x3 : Value} {w : World} {K : V1} (h : F31 x0 x1 x2 x3 w K) : ai G31 [x0, x1, x2, x3] w K := aj (QK (p := fun x0 x1 x2 x3 => F31 x0 x1 x2 x3 w K) h)
theorem ok31 : OkF Tryz.prog 31 G31 := by
  refine aO (aN (l := T31) ⟨ok52, ok55, ok56, ok57, trivial⟩) mixed (n := fuel) Tryz.func31 Tryz.call31 fun args w K h => ?_
  obtain ⟨x0, x1, x2, x3, rfl, hh⟩ := Q6 h
  exact az (c := ah Tryz.f31) (by kernel_rfl) (by kernel_rfl) (Eq.mp (by kernel_rfl) hh)
def T54 : List (Nat × FnT) := []
def F54 (x0 : Value) (w : World) (K : V1) : Prop :=
aa (bEq Tryz.prog 9 (.tmp 3) (.const (.string ⟨#[]⟩)) x0 (.string ⟨#[]⟩)) fun v1 =>
aS (gd false v1) x0 fun v2 =>
Sx.stepG (gd false v1) (ik v2) fun v3 =>
Sx.stepG (gd false v1) (bGt v3 (.int .i64 64)) fun v4 =>
aa (aG v1 (.bool true) v4) fun v5 =>
K v5 w
def G54 : FnT := fun args w K => on1 (fun x0 => F54 x0 w K) args
theorem ok54 : OkF Tryz.prog 54 G54 := by
  refine aO (aN (l := T54) trivial) mixed (n := fuel) Tryz.func54 Tryz.call54 fun args w K h => ?_
  obtain ⟨x0, rfl, hh⟩ := bJ h
  exact az (c := ah Tryz.f54) (by kernel_rfl) (by kernel_rfl) (Eq.mp (by kernel_rfl) hh)
def IQ : List (Nat × FnT) := [(54, G54)]
def FR (w : World) (K : V1) : Prop :=
K (.int .i64 (-1)) w
def vS (w : World) (K : V1) : Prop := FR w K
theorem Xt {K : V1}
    (hn : HN (fun e w => K (e 4) w) kn) (hr : HR Tryz.prog [.tmp 4] K kr) (he : HE noE ke) :
    ∀ e w, vS w K → aA Tryz.prog (au IQ) 19 fuel ((flat (ah Tryz.f105)).drop 3) e w kn kr ke := by
  intro e w h
  unfold vS at h
  have e1 : ∀ (_ : Unit), FR w K = aA Tryz.prog (au IQ) 19 fuel ((flat (ah Tryz.f105)).drop 3) e w (fun e w => K (e 4) w) (aW Tryz.prog [.tmp 4] K) noE := by intro _; kernel_rfl
  exact bQ (Eq.mp (e1 ()) h) hn hr he
def FT (s0 s1 s7 s8 : Value) (w : World) (K : V1) (Y0 : V4) (Y1 : V0) : Prop :=
aa (bLt s8 s7) fun v1 =>
ifB v1 (
aa (bq 1 s0 s8) fun v2 =>
aa (ld1 v2 w) fun v3 =>
gP (au IQ) s1 [v3] w fun v5 w4 =>
ifB v5 (
K s8 w4) (
aa (bH s8 (.int .i64 1)) fun v6 =>
Y0 s0 s1 s7 v6 w4)) (
Y1 w)
def lS : Nat → Value → Value → Value → Value → World → (V1) → Prop
  | 0, _, _, _, _, _, _ => False
  | n + 1, s0, s1, s7, s8, w, K => FT s0 s1 s7 s8 w K (fun a0 a1 a7 a8 w => lS n a0 a1 a7 a8 w K) (fun w => vS w K)
def AB (s0 s1 s7 s8 : Value) (w : World) (K : V1) : Prop := lS fuel s0 s1 s7 s8 w K
theorem Xu {K : V1}
    (hn : HN (fun e w => K (e 4) w) kn) (hr : HR Tryz.prog [.tmp 4] K kr) (he : HE noE ke) :
    ∀ e w, AB (e 0) (e 1) (e 7) (e 8) w K → aA Tryz.prog (au IQ) 19 fuel ((flat (ah Tryz.f105)).drop 2) e w kn kr ke := by
  intro e w h
  unfold AB at h
  refine bM (id := 0) (body := (aU (bi (aV (flat (ah Tryz.f105)) 2)))) (l2 := (flat (ah Tryz.f105)).drop 3) (by kernel_rfl) ?_
  refine bV (FL := fun m e w => lS m (e 0) (e 1) (e 7) (e 8) w K) (fr := aW Tryz.prog [.tmp 4] K) (fe := (bB 0 (fun e w => vS w K) noE)) (fun _ _ h => h) ?_ hr (bD (fun e w h => Xt hn hr he e w h) he) fuel e w h
  intro m e w h
  have h : lS (m + 1) (e 0) (e 1) (e 7) (e 8) w K := h
  rw [lS] at h
  have e1 : ∀ (Y0 : V4) (Y1 : V0), FT (e 0) (e 1) (e 7) (e 8) w K Y0 Y1 = aA Tryz.prog (au IQ) 19 fuel (flat (aU (bi (aV (flat (ah Tryz.f105)) 2)))) e w (fun e w => Y0 (e 0) (e 1) (e 7) (e 8) w) (aW Tryz.prog [.tmp 4] K) (bB 0 (fun e w => Y1 w) noE) := by intro Y0 Y1; kernel_rfl
  exact Eq.mp (e1 (fun a0 a1 a7 a8 w => lS m a0 a1 a7 a8 w K) (fun w => vS w K)) h
def FU (s0 s1 : Value) (w : World) (_K : V1) (Y0 : V4) : Prop :=
aa (bI s0) fun v7 =>
Y0 s0 s1 v7 (.int .i64 0) w
def FV (s0 s1 : Value) (w : World) (K : V1) : Prop := FU s0 s1 w K (fun a0 a1 a7 a8 w => AB a0 a1 a7 a8 w K)
theorem Xv {K : V1}
    (hn : HN (fun e w => K (e 4) w) kn) (hr : HR Tryz.prog [.tmp 4] K kr) (he : HE noE ke) :
    ∀ e w, FV (e 0) (e 1) w K → aA Tryz.prog (au IQ) 19 fuel ((flat (ah Tryz.f105)).drop 0) e w kn kr ke := by
  intro e w h
  unfold FV at h
  have e1 : ∀ (Y0 : V4), FU (e 0) (e 1) w K Y0 = aA Tryz.prog (au IQ) 19 fuel (((flat (ah Tryz.f105)).drop 0).take 2) e w (fun e w => Y0 (e 0) (e 1) (e 7) (e 8) w) (aW Tryz.prog [.tmp 4] K) noE := by intro Y0; kernel_rfl
  exact seg 2 (Eq.mp (e1 (fun a0 a1 a7 a8 w => AB a0 a1 a7 a8 w K)) h) (fun e w h => Xu hn hr he e w h) hr he
def U2 (x0 x1 : Value) (w : World) (K : V1) : Prop := FV x0 x1 w K
def Yq : FnT := fun args w K => on2 (fun x0 x1 => U2 x0 x1 w K) args
theorem c105 {x0 x1 : Value} {w : World} {K : V1} (h : U2 x0 x1 w K) : ai Yq [x0, x1] w K := aj (dm (p := fun x0 x1 => U2 x0 x1 w K) h)
theorem ok105 : OkF Tryz.prog 105 Yq := by
  refine aO (aN (l := IQ) ⟨ok54, trivial⟩) mixed (n := fuel) Tryz.func105 Tryz.call105 fun args w K h => ?_
  obtain ⟨x0, x1, rfl, hh⟩ := dn h
  unfold U2 at hh
  exact az (c := ah Tryz.f105) (by kernel_rfl) (by kernel_rfl) (Xv (fun _ _ h => h) (fun _ _ h => h) (fun _ _ _ h => h) (dD [x0, x1]) w hh)
def T53 : List (Nat × FnT) := [(105, Yq)]
def F53 (x0 x1 : Value) (w : World) (K : V1) : Prop :=
ai Yq [x0, x1] w fun v2 w1 =>
aa (bGe v2 (.int .i64 0)) fun v3 =>
K v3 w1
def G53 : FnT := fun args w K => on2 (fun x0 x1 => F53 x0 x1 w K) args
theorem c53 {x0 x1 : Value} {w : World} {K : V1} (h : F53 x0 x1 w K) : ai G53 [x0, x1] w K := aj (dm (p := fun x0 x1 => F53 x0 x1 w K) h)
theorem ok53 : OkF Tryz.prog 53 G53 := by
  refine aO (aN (l := T53) ⟨ok105, trivial⟩) mixed (n := fuel) Tryz.func53 Tryz.call53 fun args w K h => ?_
  obtain ⟨x0, x1, rfl, hh⟩ := dn h
  exact az (c := ah Tryz.f53) (by kernel_rfl) (by kernel_rfl) (Eq.mp (by kernel_rfl) hh)
def T30 : List (Nat × FnT) := [(31, G31), (32, G32), (52, G52), (53, G53)]
def F30 (x0 : Value) (w : World) (K : V1) : Prop :=
bT 55 x0 w fun v2 w1 =>
aa (ae 0 v2) fun v3 =>
aa (ldN 3 v3 w1) fun v4 =>
ai G52 [v4] w1 fun v6 w5 =>
aa (aK v6 0) fun _ =>
aa (aK v6 1) fun v8 =>
aa (bNe Tryz.prog 33 (.tmp 16) (.const (.int .i64 0)) v8 (.int .i64 0)) fun v9 =>
ifB v9 (
K (.int .i64 160) w5) (
aa (aD Tryz.prog 53 []) fun v10 =>
aa (ae 3 v2) fun v11 =>
aa (ld1 v11 w5) fun v12 =>
aa (ae 4 v2) fun v13 =>
aa (ld1 v13 w5) fun v14 =>
aa (ae 5 v2) fun v15 =>
aa (ld1 v15 w5) fun v16 =>
ai G31 [v10, v12, v14, v16] w5 fun v18 w17 =>
aa (aK v18 0) fun _ =>
aa (aK v18 1) fun v20 =>
aa (ae 6 v2) fun v21 =>
aa (ld1 v21 w17) fun v22 =>
aa (ae 7 v2) fun v23 =>
aa (ld1 v23 w17) fun v24 =>
aa (ae 8 v2) fun v25 =>
aa (ld1 v25 w17) fun v26 =>
ai G32 [v22, v24, v26] w17 fun v28 w27 =>
aa (aK v28 0) fun _ =>
aa (aK v28 1) fun v30 =>
aa (ae 9 v2) fun v31 =>
aa (ld1 v31 w27) fun v32 =>
ai G53 [v32, (.func (.func 54) #[] #[])] w27 fun v34 w33 =>
aa (bNe Tryz.prog 33 (.tmp 42) (.const (.int .i64 0)) v20 (.int .i64 0)) fun v35 =>
aS (gd false v35) v30 fun v36 =>
Sx.stepG (gd false v35) (bNe Tryz.prog 33 (.tmp 45) (.const (.int .i64 0)) v36 (.int .i64 0)) fun v37 =>
aa (aG v35 (.bool true) v37) fun v38 =>
aS (gd false v38) v34 fun v39 =>
aa (aG v38 (.bool true) v39) fun v40 =>
Sx.stepG (gd false v40) (ae 9 v2) fun v41 =>
Sx.stepG (gd false v40) (ld1 v41 w33) fun v42 =>
Sx.stepG (gd false v40) (bI v42) fun v43 =>
Sx.stepG (gd false v40) (bGt v43 (.int .i64 64)) fun v44 =>
aa (aG v40 (.bool true) v44) fun v45 =>
ifB v45 (
K (.int .i64 1) w33) (
K (.int .i64 0) w33))
def G30 : FnT := fun args w K => on1 (fun x0 => F30 x0 w K) args
theorem c30 {x0 : Value} {w : World} {K : V1} (h : F30 x0 w K) : ai G30 [x0] w K := aj (bL (p := fun x0 => F30 x0 w K) h)
theorem ok30 : OkF Tryz.prog 30 G30 := by
  refine aO (aN (l := T30) ⟨ok31, ok32, ok52, ok53, trivial⟩) mixed (n := fuel) Tryz.func30 Tryz.call30 fun args w K h => ?_
  obtain ⟨x0, rfl, hh⟩ := bJ h
  exact az (c := ah Tryz.f30) (by kernel_rfl) (by kernel_rfl) (Eq.mp (by kernel_rfl) hh)
def T17 : List (Nat × FnT) := [(30, G30), (31, G31), (32, G32)]
def F17 (x0 : Value) (w : World) (K : V1) : Prop :=
bT 55 x0 w fun v2 w1 =>
aa (ldN 10 v2 w1) fun v3 =>
ai G30 [v3] w1 fun v5 w4 =>
aa (bNe Tryz.prog 33 (.tmp 11) (.const (.int .i64 0)) v5 (.int .i64 0)) fun v6 =>
ifB v6 (
K (.tuple #[(.pointer none), v5]) w4) (
aa (ae 0 v2) fun v7 =>
aa (ldN 3 v7 w4) fun v8 =>
aa (ae 3 v2) fun v9 =>
aa (ld1 v9 w4) fun v10 =>
aa (ae 4 v2) fun v11 =>
aa (ld1 v11 w4) fun v12 =>
aa (ae 5 v2) fun v13 =>
aa (ld1 v13 w4) fun v14 =>
ai G31 [v8, v10, v12, v14] w4 fun v16 w15 =>
aa (aK v16 0) fun v17 =>
aa (aK v16 1) fun _ =>
aa (ae 6 v2) fun v19 =>
aa (ld1 v19 w15) fun v20 =>
aa (ae 7 v2) fun v21 =>
aa (ld1 v21 w15) fun v22 =>
aa (ae 8 v2) fun v23 =>
aa (ld1 v23 w15) fun v24 =>
ai G32 [v20, v22, v24] w15 fun v26 w25 =>
aa (aK v26 0) fun v27 =>
aa (aK v26 1) fun _ =>
aa (aD Tryz.prog 81 [(0, v17), (1, v27)]) fun v29 =>
bT 81 v29 w25 fun v31 w30 =>
K (.tuple #[v31, (.int .i64 0)]) w30)
def G17 : FnT := fun args w K => on1 (fun x0 => F17 x0 w K) args
theorem c17 {x0 : Value} {w : World} {K : V1} (h : F17 x0 w K) : ai G17 [x0] w K := aj (bL (p := fun x0 => F17 x0 w K) h)
theorem ok17 : OkF Tryz.prog 17 G17 := by
  refine aO (aN (l := T17) ⟨ok30, ok31, ok32, trivial⟩) mixed (n := fuel) Tryz.func17 Tryz.call17 fun args w K h => ?_
  obtain ⟨x0, rfl, hh⟩ := bJ h
  exact az (c := ah Tryz.f17) (by kernel_rfl) (by kernel_rfl) (Eq.mp (by kernel_rfl) hh)
def G108 : FnT := fun _ _ _ => False
theorem ok108 : OkF Tryz.prog 108 G108 := fun _ _ _ h => h.elim
def G109 : FnT := fun _ _ _ => False
theorem ok109 : OkF Tryz.prog 109 G109 := fun _ _ _ h => h.elim
def G110 : FnT := fun _ _ _ => False
theorem ok110 : OkF Tryz.prog 110 G110 := fun _ _ _ h => h.elim
def T58 : List (Nat × FnT) := [(108, G108), (109, G109), (110, G110)]
def LK (w : World) (K : V1) : Prop :=
K (.tuple #[(.int .i64 0), (.int .i64 0)]) w
def Cs (w : World) (K : V1) : Prop := LK w K
theorem ok58_7 {K : V1}
    (hn : HN (fun e w => K (.tuple #[(e 2), (e 3)]) w) kn) (hr : HR Tryz.prog [.tmp 2, .tmp 3] K kr) (he : HE noE ke) :
    ∀ e w, Cs w K → aA Tryz.prog (au T58) 76 fuel ((flat (ah Tryz.f58)).drop 9) e w kn kr ke := by
  intro e w h
  unfold Cs at h
  have e1 : ∀ (_ : Unit), LK w K = aA Tryz.prog (au T58) 76 fuel ((flat (ah Tryz.f58)).drop 9) e w (fun e w => K (.tuple #[(e 2), (e 3)]) w) (aW Tryz.prog [.tmp 2, .tmp 3] K) noE := by intro _; kernel_rfl
  exact bQ (Eq.mp (e1 ()) h) hn hr he
def LM (s1 s6 : Value) (w : World) (K : V1) (Y0 : V2) (Y1 : V0) : Prop :=
aa (ae 2 s1) fun v1 =>
aa (ld1 v1 w) fun v2 =>
aa (bI v2) fun v3 =>
aa (bLt s6 v3) fun v4 =>
ifB v4 (
aa (ae 2 s1) fun v5 =>
aa (ld1 v5 w) fun v6 =>
ai G110 [v6, s6] w fun v8 w7 =>
aa (dN v8) fun v9 =>
ifB v9 (
aa (ae 2 s1) fun v10 =>
aa (ld1 v10 w7) fun v11 =>
aa (bq 10 v11 s6) fun v12 =>
aa (ae 1 v12) fun v13 =>
aa (ld1 v13 w7) fun v14 =>
K (.tuple #[v14, (.int .i64 160)]) w7) (
aa (bH s6 (.int .i64 1)) fun v15 =>
Y0 s1 v15 w7)) (
Y1 w)
def oO : Nat → Value → Value → World → (V1) → Prop
  | 0, _, _, _, _ => False
  | n + 1, s1, s6, w, K => LM s1 s6 w K (fun a1 a6 w => oO n a1 a6 w K) (fun w => Cs w K)
def Jb (s1 s6 : Value) (w : World) (K : V1) : Prop := oO fuel s1 s6 w K
theorem ok58_6 {K : V1}
    (hn : HN (fun e w => K (.tuple #[(e 2), (e 3)]) w) kn) (hr : HR Tryz.prog [.tmp 2, .tmp 3] K kr) (he : HE noE ke) :
    ∀ e w, Jb (e 1) (e 6) w K → aA Tryz.prog (au T58) 76 fuel ((flat (ah Tryz.f58)).drop 8) e w kn kr ke := by
  intro e w h
  unfold Jb at h
  refine bM (id := 4) (body := (aU (bi (aV (flat (ah Tryz.f58)) 8)))) (l2 := (flat (ah Tryz.f58)).drop 9) (by kernel_rfl) ?_
  refine bV (FL := fun m e w => oO m (e 1) (e 6) w K) (fr := aW Tryz.prog [.tmp 2, .tmp 3] K) (fe := (bB 4 (fun e w => Cs w K) noE)) (fun _ _ h => h) ?_ hr (bD (fun e w h => ok58_7 hn hr he e w h) he) fuel e w h
  intro m e w h
  have h : oO (m + 1) (e 1) (e 6) w K := h
  rw [oO] at h
  have e1 : ∀ (Y0 : V2) (Y1 : V0), LM (e 1) (e 6) w K Y0 Y1 = aA Tryz.prog (au T58) 76 fuel (flat (aU (bi (aV (flat (ah Tryz.f58)) 8)))) e w (fun e w => Y0 (e 1) (e 6) w) (aW Tryz.prog [.tmp 2, .tmp 3] K) (bB 4 (fun e w => Y1 w) noE) := by intro Y0 Y1; kernel_rfl
  exact Eq.mp (e1 (fun a1 a6 w => oO m a1 a6 w K) (fun w => Cs w K)) h
def LP (s1 : Value) (w : World) (_K : V1) (Y0 : V2) : Prop :=
Y0 s1 (.int .i64 0) w
def Ct (s1 : Value) (w : World) (K : V1) : Prop := LP s1 w K (fun a1 a6 w => Jb a1 a6 w K)
theorem ok58_5 {K : V1}
    (hn : HN (fun e w => K (.tuple #[(e 2), (e 3)]) w) kn) (hr : HR Tryz.prog [.tmp 2, .tmp 3] K kr) (he : HE noE ke) :
    ∀ e w, Ct (e 1) w K → aA Tryz.prog (au T58) 76 fuel ((flat (ah Tryz.f58)).drop 7) e w kn kr ke := by
  intro e w h
  unfold Ct at h
  have e1 : ∀ (Y0 : V2), LP (e 1) w K Y0 = aA Tryz.prog (au T58) 76 fuel (((flat (ah Tryz.f58)).drop 7).take 1) e w (fun e w => Y0 (e 1) (e 6) w) (aW Tryz.prog [.tmp 2, .tmp 3] K) noE := by intro Y0; kernel_rfl
  exact seg 1 (Eq.mp (e1 (fun a1 a6 w => Jb a1 a6 w K)) h) (fun e w h => ok58_6 hn hr he e w h) hr he
def LQ (s1 s5 : Value) (w : World) (K : V1) (Y0 : V2) (Y1 : V1) : Prop :=
aa (ae 1 s1) fun v16 =>
aa (ld1 v16 w) fun v17 =>
aa (bI v17) fun v18 =>
aa (bLt s5 v18) fun v19 =>
ifB v19 (
aa (ldN 3 s1 w) fun v20 =>
ai G109 [v20, s5] w fun v22 w21 =>
aa (dN v22) fun v23 =>
ifB v23 (
aa (ae 1 s1) fun v24 =>
aa (ld1 v24 w21) fun v25 =>
aa (bq 8 v25 s5) fun v26 =>
aa (ae 1 v26) fun v27 =>
aa (ld1 v27 w21) fun v28 =>
K (.tuple #[v28, (.int .i64 160)]) w21) (
aa (bH s5 (.int .i64 1)) fun v29 =>
Y0 s1 v29 w21)) (
Y1 s1 w)
def oP : Nat → Value → Value → World → (V1) → Prop
  | 0, _, _, _, _ => False
  | n + 1, s1, s5, w, K => LQ s1 s5 w K (fun a1 a5 w => oP n a1 a5 w K) (fun a1 w => Ct a1 w K)
def Jc (s1 s5 : Value) (w : World) (K : V1) : Prop := oP fuel s1 s5 w K
theorem ok58_4 {K : V1}
    (hn : HN (fun e w => K (.tuple #[(e 2), (e 3)]) w) kn) (hr : HR Tryz.prog [.tmp 2, .tmp 3] K kr) (he : HE noE ke) :
    ∀ e w, Jc (e 1) (e 5) w K → aA Tryz.prog (au T58) 76 fuel ((flat (ah Tryz.f58)).drop 6) e w kn kr ke := by
  intro e w h
  unfold Jc at h
  refine bM (id := 2) (body := (aU (bi (aV (flat (ah Tryz.f58)) 6)))) (l2 := (flat (ah Tryz.f58)).drop 7) (by kernel_rfl) ?_
  refine bV (FL := fun m e w => oP m (e 1) (e 5) w K) (fr := aW Tryz.prog [.tmp 2, .tmp 3] K) (fe := (bB 2 (fun e w => Ct (e 1) w K) noE)) (fun _ _ h => h) ?_ hr (bD (fun e w h => ok58_5 hn hr he e w h) he) fuel e w h
  intro m e w h
  have h : oP (m + 1) (e 1) (e 5) w K := h
  rw [oP] at h
  have e1 : ∀ (Y0 : V2) (Y1 : V1), LQ (e 1) (e 5) w K Y0 Y1 = aA Tryz.prog (au T58) 76 fuel (flat (aU (bi (aV (flat (ah Tryz.f58)) 6)))) e w (fun e w => Y0 (e 1) (e 5) w) (aW Tryz.prog [.tmp 2, .tmp 3] K) (bB 2 (fun e w => Y1 (e 1) w) noE) := by intro Y0 Y1; kernel_rfl
  exact Eq.mp (e1 (fun a1 a5 w => oP m a1 a5 w K) (fun a1 w => Ct a1 w K)) h
def LU (s1 : Value) (w : World) (_K : V1) (Y0 : V2) : Prop :=
Y0 s1 (.int .i64 0) w
def Cu (s1 : Value) (w : World) (K : V1) : Prop := LU s1 w K (fun a1 a5 w => Jc a1 a5 w K)
theorem ok58_3 {K : V1}
    (hn : HN (fun e w => K (.tuple #[(e 2), (e 3)]) w) kn) (hr : HR Tryz.prog [.tmp 2, .tmp 3] K kr) (he : HE noE ke) :
    ∀ e w, Cu (e 1) w K → aA Tryz.prog (au T58) 76 fuel ((flat (ah Tryz.f58)).drop 5) e w kn kr ke := by
  intro e w h
  unfold Cu at h
  have e1 : ∀ (Y0 : V2), LU (e 1) w K Y0 = aA Tryz.prog (au T58) 76 fuel (((flat (ah Tryz.f58)).drop 5).take 1) e w (fun e w => Y0 (e 1) (e 5) w) (aW Tryz.prog [.tmp 2, .tmp 3] K) noE := by intro Y0; kernel_rfl
  exact seg 1 (Eq.mp (e1 (fun a1 a5 w => Jc a1 a5 w K)) h) (fun e w h => ok58_4 hn hr he e w h) hr he
def LV (s1 s4 : Value) (w : World) (K : V1) (Y0 : V2) (Y1 : V1) : Prop :=
aa (ae 0 s1) fun v30 =>
aa (ld1 v30 w) fun v31 =>
aa (bI v31) fun v32 =>
aa (bLt s4 v32) fun v33 =>
ifB v33 (
aa (ae 0 s1) fun v34 =>
aa (ld1 v34 w) fun v35 =>
ai G108 [v35, s4] w fun v37 w36 =>
aa (dN v37) fun v38 =>
ifB v38 (
aa (ae 0 s1) fun v39 =>
aa (ld1 v39 w36) fun v40 =>
aa (bq 4 v40 s4) fun v41 =>
aa (ae 1 v41) fun v42 =>
aa (ld1 v42 w36) fun v43 =>
K (.tuple #[v43, (.int .i64 160)]) w36) (
aa (bH s4 (.int .i64 1)) fun v44 =>
Y0 s1 v44 w36)) (
Y1 s1 w)
def oQ : Nat → Value → Value → World → (V1) → Prop
  | 0, _, _, _, _ => False
  | n + 1, s1, s4, w, K => LV s1 s4 w K (fun a1 a4 w => oQ n a1 a4 w K) (fun a1 w => Cu a1 w K)
def Jd (s1 s4 : Value) (w : World) (K : V1) : Prop := oQ fuel s1 s4 w K
theorem ok58_2 {K : V1}
    (hn : HN (fun e w => K (.tuple #[(e 2), (e 3)]) w) kn) (hr : HR Tryz.prog [.tmp 2, .tmp 3] K kr) (he : HE noE ke) :
    ∀ e w, Jd (e 1) (e 4) w K → aA Tryz.prog (au T58) 76 fuel ((flat (ah Tryz.f58)).drop 4) e w kn kr ke := by
  intro e w h
  unfold Jd at h
  refine bM (id := 0) (body := (aU (bi (aV (flat (ah Tryz.f58)) 4)))) (l2 := (flat (ah Tryz.f58)).drop 5) (by kernel_rfl) ?_
  refine bV (FL := fun m e w => oQ m (e 1) (e 4) w K) (fr := aW Tryz.prog [.tmp 2, .tmp 3] K) (fe := (bB 0 (fun e w => Cu (e 1) w K) noE)) (fun _ _ h => h) ?_ hr (bD (fun e w h => ok58_3 hn hr he e w h) he) fuel e w h
  intro m e w h
  have h : oQ (m + 1) (e 1) (e 4) w K := h
  rw [oQ] at h
  have e1 : ∀ (Y0 : V2) (Y1 : V1), LV (e 1) (e 4) w K Y0 Y1 = aA Tryz.prog (au T58) 76 fuel (flat (aU (bi (aV (flat (ah Tryz.f58)) 4)))) e w (fun e w => Y0 (e 1) (e 4) w) (aW Tryz.prog [.tmp 2, .tmp 3] K) (bB 0 (fun e w => Y1 (e 1) w) noE) := by intro Y0 Y1; kernel_rfl
  exact Eq.mp (e1 (fun a1 a4 w => oQ m a1 a4 w K) (fun a1 w => Cu a1 w K)) h
def LW (s0 : Value) (w : World) (K : V1) (Y0 : V2) : Prop :=
bT 53 s0 w fun v46 w45 =>
aa (ae 0 v46) fun v47 =>
aa (ld1 v47 w45) fun v48 =>
aa (bI v48) fun v49 =>
aa (bGt v49 (.int .i64 64)) fun v50 =>
Sx.stepG (gd false v50) (ae 1 v46) fun v51 =>
Sx.stepG (gd false v50) (ld1 v51 w45) fun v52 =>
Sx.stepG (gd false v50) (bI v52) fun v53 =>
Sx.stepG (gd false v50) (bGt v53 (.int .i64 256)) fun v54 =>
aa (aG v50 (.bool true) v54) fun v55 =>
Sx.stepG (gd false v55) (ae 2 v46) fun v56 =>
Sx.stepG (gd false v55) (ld1 v56 w45) fun v57 =>
Sx.stepG (gd false v55) (bI v57) fun v58 =>
Sx.stepG (gd false v55) (bGt v58 (.int .i64 64)) fun v59 =>
aa (aG v55 (.bool true) v59) fun v60 =>
ifB v60 (
K (.tuple #[(.int .i64 0), (.int .i64 2)]) w45) (
Y0 v46 (.int .i64 0) w45)
def NG (s0 : Value) (w : World) (K : V1) : Prop := LW s0 w K (fun a1 a4 w => Jd a1 a4 w K)
theorem ok58_1 {K : V1}
    (hn : HN (fun e w => K (.tuple #[(e 2), (e 3)]) w) kn) (hr : HR Tryz.prog [.tmp 2, .tmp 3] K kr) (he : HE noE ke) :
    ∀ e w, NG (e 0) w K → aA Tryz.prog (au T58) 76 fuel ((flat (ah Tryz.f58)).drop 0) e w kn kr ke := by
  intro e w h
  unfold NG at h
  have e1 : ∀ (Y0 : V2), LW (e 0) w K Y0 = aA Tryz.prog (au T58) 76 fuel (((flat (ah Tryz.f58)).drop 0).take 4) e w (fun e w => Y0 (e 1) (e 4) w) (aW Tryz.prog [.tmp 2, .tmp 3] K) noE := by intro Y0; kernel_rfl
  exact seg 4 (Eq.mp (e1 (fun a1 a4 w => Jd a1 a4 w K)) h) (fun e w h => ok58_2 hn hr he e w h) hr he
def F58 (x0 : Value) (w : World) (K : V1) : Prop := NG x0 w K
def G58 : FnT := fun args w K => on1 (fun x0 => F58 x0 w K) args
theorem c58 {x0 : Value} {w : World} {K : V1} (h : F58 x0 w K) : ai G58 [x0] w K := aj (bL (p := fun x0 => F58 x0 w K) h)
theorem ok58 : OkF Tryz.prog 58 G58 := by
  refine aO (aN (l := T58) ⟨ok108, ok109, ok110, trivial⟩) mixed (n := fuel) Tryz.func58 Tryz.call58 fun args w K h => ?_
  obtain ⟨x0, rfl, hh⟩ := bJ h
  unfold F58 at hh
  exact az (c := ah Tryz.f58) (by kernel_rfl) (by kernel_rfl) (ok58_1 (fun _ _ h => h) (fun _ _ h => h) (fun _ _ _ h => h) (dD [x0]) w hh)
def T33 : List (Nat × FnT) := [(58, G58), (59, G59), (60, G60)]
def F33 (x0 x1 x2 x3 : Value) (w : World) (K : V1) : Prop :=
bT 53 x0 w fun v2 w1 =>
aa (ldN 3 v2 w1) fun v3 =>
ai G58 [v3] w1 fun v5 w4 =>
aa (aK v5 0) fun _ =>
aa (aK v5 1) fun v7 =>
aa (bNe Tryz.prog 33 (.tmp 21) (.const (.int .i64 0)) v7 (.int .i64 0)) fun v8 =>
ifB v8 (
K (.tuple #[(.pointer none), (.int .i64 160)]) w4) (
ai G59 [x1] w4 fun v10 w9 =>
aa (aK v10 0) fun v11 =>
aa (aK v10 1) fun v12 =>
ai G60 [x2] w9 fun v14 w13 =>
aa (aK v14 0) fun v15 =>
aa (aK v14 1) fun v16 =>
aa (bNe Tryz.prog 33 (.tmp 33) (.const (.int .i64 0)) v12 (.int .i64 0)) fun v17 =>
aS (gd false v17) v16 fun v18 =>
Sx.stepG (gd false v17) (bNe Tryz.prog 33 (.tmp 36) (.const (.int .i64 0)) v18 (.int .i64 0)) fun v19 =>
aa (aG v17 (.bool true) v19) fun v20 =>
aS (gd false v20) x3 fun v21 =>
Sx.stepG (gd false v20) (bLt v21 (.int .i64 0)) fun v22 =>
aa (aG v20 (.bool true) v22) fun v23 =>
aS (gd false v23) x3 fun v24 =>
Sx.stepG (gd false v23) (bGt v24 (.int .i64 144115188075855872)) fun v25 =>
aa (aG v23 (.bool true) v25) fun v26 =>
ifB v26 (
K (.tuple #[(.pointer none), (.int .i64 1)]) w13) (
aa (ldN 3 v2 w13) fun v27 =>
aa (aD Tryz.prog 68 [(0, v27), (1, v11), (2, v15), (3, x3)]) fun v28 =>
bT 68 v28 w13 fun v30 w29 =>
K (.tuple #[v30, (.int .i64 0)]) w29))
def G33 : FnT := fun args w K => on4 (fun x0 x1 x2 x3 => F33 x0 x1 x2 x3 w K) args
theorem c33 {x0 x1 x2 x3 : Value} {w : World} {K : V1} (h : F33 x0 x1 x2 x3 w K) : ai G33 [x0, x1, x2, x3] w K := aj (QK (p := fun x0 x1 x2 x3 => F33 x0 x1 x2 x3 w K) h)
theorem ok33 : OkF Tryz.prog 33 G33 := by
  refine aO (aN (l := T33) ⟨ok58, ok59, ok60, trivial⟩) mixed (n := fuel) Tryz.func33 Tryz.call33 fun args w K h => ?_
  obtain ⟨x0, x1, x2, x3, rfl, hh⟩ := Q6 h
  exact az (c := ah Tryz.f33) (by kernel_rfl) (by kernel_rfl) (Eq.mp (by kernel_rfl) hh)
def T18 : List (Nat × FnT) := [(33, G33), (34, G34)]
def MI (s4 s6 : Value) (w : World) (K : V1) : Prop :=
aa (aD Tryz.prog 74 [(0, s4), (1, s6)]) fun v1 =>
bT 74 v1 w fun v3 w2 =>
K (.tuple #[v3, (.int .i64 0)]) w2
def CG (s4 s6 : Value) (w : World) (K : V1) : Prop := MI s4 s6 w K
theorem ok18_3 {K : V1}
    (hn : HN (fun e w => K (.tuple #[(e 2), (e 3)]) w) kn) (hr : HR Tryz.prog [.tmp 2, .tmp 3] K kr) (he : HE noE ke) :
    ∀ e w, CG (e 4) (e 6) w K → aA Tryz.prog (au T18) 68 fuel ((flat (ah Tryz.f18)).drop 9) e w kn kr ke := by
  intro e w h
  unfold CG at h
  have e1 : ∀ (_ : Unit), MI (e 4) (e 6) w K = aA Tryz.prog (au T18) 68 fuel ((flat (ah Tryz.f18)).drop 9) e w (fun e w => K (.tuple #[(e 2), (e 3)]) w) (aW Tryz.prog [.tmp 2, .tmp 3] K) noE := by intro _; kernel_rfl
  exact bQ (Eq.mp (e1 ()) h) hn hr he
def MJ (s1 s4 s6 s7 : Value) (w : World) (K : V1) (Y0 : V4) (Y1 : V2) : Prop :=
aa (ae 9 s1) fun v4 =>
aa (ld1 v4 w) fun v5 =>
aa (bI v5) fun v6 =>
aa (bLt s7 v6) fun v7 =>
ifB v7 (
aa (ae 9 s1) fun v8 =>
aa (ld1 v8 w) fun v9 =>
aa (bq 1 v9 s7) fun v10 =>
aa (ld1 v10 w) fun v11 =>
aa (ik v11) fun v12 =>
aa (bLt v12 (.int .i64 1)) fun v13 =>
Sx.stepG (gd false v13) (ae 9 s1) fun v14 =>
Sx.stepG (gd false v13) (ld1 v14 w) fun v15 =>
aS (gd false v13) s7 fun v16 =>
Sx.stepG (gd false v13) (bq 1 v15 v16) fun v17 =>
Sx.stepG (gd false v13) (ld1 v17 w) fun v18 =>
Sx.stepG (gd false v13) (ik v18) fun v19 =>
Sx.stepG (gd false v13) (bGt v19 (.int .i64 64)) fun v20 =>
aa (aG v13 (.bool true) v20) fun v21 =>
ifB v21 (
K (.tuple #[(.pointer none), (.int .i64 1)]) w) (
aa (bH s7 (.int .i64 1)) fun v22 =>
Y0 s1 s4 s6 v22 w)) (
Y1 s4 s6 w)
def pg : Nat → Value → Value → Value → Value → World → (V1) → Prop
  | 0, _, _, _, _, _, _ => False
  | n + 1, s1, s4, s6, s7, w, K => MJ s1 s4 s6 s7 w K (fun a1 a4 a6 a7 w => pg n a1 a4 a6 a7 w K) (fun a4 a6 w => CG a4 a6 w K)
def Js (s1 s4 s6 s7 : Value) (w : World) (K : V1) : Prop := pg fuel s1 s4 s6 s7 w K
theorem ok18_2 {K : V1}
    (hn : HN (fun e w => K (.tuple #[(e 2), (e 3)]) w) kn) (hr : HR Tryz.prog [.tmp 2, .tmp 3] K kr) (he : HE noE ke) :
    ∀ e w, Js (e 1) (e 4) (e 6) (e 7) w K → aA Tryz.prog (au T18) 68 fuel ((flat (ah Tryz.f18)).drop 8) e w kn kr ke := by
  intro e w h
  unfold Js at h
  refine bM (id := 0) (body := (aU (bi (aV (flat (ah Tryz.f18)) 8)))) (l2 := (flat (ah Tryz.f18)).drop 9) (by kernel_rfl) ?_
  refine bV (FL := fun m e w => pg m (e 1) (e 4) (e 6) (e 7) w K) (fr := aW Tryz.prog [.tmp 2, .tmp 3] K) (fe := (bB 0 (fun e w => CG (e 4) (e 6) w K) noE)) (fun _ _ h => h) ?_ hr (bD (fun e w h => ok18_3 hn hr he e w h) he) fuel e w h
  intro m e w h
  have h : pg (m + 1) (e 1) (e 4) (e 6) (e 7) w K := h
  rw [pg] at h
  have e1 : ∀ (Y0 : V4) (Y1 : V2), MJ (e 1) (e 4) (e 6) (e 7) w K Y0 Y1 = aA Tryz.prog (au T18) 68 fuel (flat (aU (bi (aV (flat (ah Tryz.f18)) 8)))) e w (fun e w => Y0 (e 1) (e 4) (e 6) (e 7) w) (aW Tryz.prog [.tmp 2, .tmp 3] K) (bB 0 (fun e w => Y1 (e 4) (e 6) w) noE) := by intro Y0 Y1; kernel_rfl
  exact Eq.mp (e1 (fun a1 a4 a6 a7 w => pg m a1 a4 a6 a7 w K) (fun a4 a6 w => CG a4 a6 w K)) h
def MK (s0 : Value) (w : World) (K : V1) (Y0 : V4) : Prop :=
bT 61 s0 w fun v24 w23 =>
aa (ae 0 v24) fun v25 =>
aa (ldN 3 v25 w23) fun v26 =>
aa (ae 3 v24) fun v27 =>
aa (ld1 v27 w23) fun v28 =>
aa (ae 4 v24) fun v29 =>
aa (ld1 v29 w23) fun v30 =>
aa (ae 5 v24) fun v31 =>
aa (ld1 v31 w23) fun v32 =>
ai G33 [v26, v28, v30, v32] w23 fun v34 w33 =>
aa (aK v34 0) fun v35 =>
aa (aK v34 1) fun v36 =>
aa (bNe Tryz.prog 33 (.tmp 20) (.const (.int .i64 0)) v36 (.int .i64 0)) fun v37 =>
ifB v37 (
K (.tuple #[(.pointer none), v36]) w33) (
aa (ae 6 v24) fun v38 =>
aa (ld1 v38 w33) fun v39 =>
aa (ae 7 v24) fun v40 =>
aa (ld1 v40 w33) fun v41 =>
aa (ae 8 v24) fun v42 =>
aa (ld1 v42 w33) fun v43 =>
ai G34 [v39, v41, v43] w33 fun v45 w44 =>
aa (aK v45 0) fun v46 =>
aa (aK v45 1) fun v47 =>
aa (bNe Tryz.prog 33 (.tmp 33) (.const (.int .i64 0)) v47 (.int .i64 0)) fun v48 =>
Sx.stepG (gd false v48) (ae 9 v24) fun v49 =>
Sx.stepG (gd false v48) (ld1 v49 w44) fun v50 =>
Sx.stepG (gd false v48) (bI v50) fun v51 =>
Sx.stepG (gd false v48) (bGt v51 (.int .i64 64)) fun v52 =>
aa (aG v48 (.bool true) v52) fun v53 =>
ifB v53 (
K (.tuple #[(.pointer none), (.int .i64 1)]) w44) (
Y0 v24 v35 v46 (.int .i64 0) w44))
def NW (s0 : Value) (w : World) (K : V1) : Prop := MK s0 w K (fun a1 a4 a6 a7 w => Js a1 a4 a6 a7 w K)
theorem ok18_1 {K : V1}
    (hn : HN (fun e w => K (.tuple #[(e 2), (e 3)]) w) kn) (hr : HR Tryz.prog [.tmp 2, .tmp 3] K kr) (he : HE noE ke) :
    ∀ e w, NW (e 0) w K → aA Tryz.prog (au T18) 68 fuel ((flat (ah Tryz.f18)).drop 0) e w kn kr ke := by
  intro e w h
  unfold NW at h
  have e1 : ∀ (Y0 : V4), MK (e 0) w K Y0 = aA Tryz.prog (au T18) 68 fuel (((flat (ah Tryz.f18)).drop 0).take 8) e w (fun e w => Y0 (e 1) (e 4) (e 6) (e 7) w) (aW Tryz.prog [.tmp 2, .tmp 3] K) noE := by intro Y0; kernel_rfl
  exact seg 8 (Eq.mp (e1 (fun a1 a4 a6 a7 w => Js a1 a4 a6 a7 w K)) h) (fun e w h => ok18_2 hn hr he e w h) hr he
def F18 (x0 : Value) (w : World) (K : V1) : Prop := NW x0 w K
def G18 : FnT := fun args w K => on1 (fun x0 => F18 x0 w K) args
theorem c18 {x0 : Value} {w : World} {K : V1} (h : F18 x0 w K) : ai G18 [x0] w K := aj (bL (p := fun x0 => F18 x0 w K) h)
theorem ok18 : OkF Tryz.prog 18 G18 := by
  refine aO (aN (l := T18) ⟨ok33, ok34, trivial⟩) mixed (n := fuel) Tryz.func18 Tryz.call18 fun args w K h => ?_
  obtain ⟨x0, rfl, hh⟩ := bJ h
  unfold F18 at hh
  exact az (c := ah Tryz.f18) (by kernel_rfl) (by kernel_rfl) (ok18_1 (fun _ _ h => h) (fun _ _ h => h) (fun _ _ _ h => h) (dD [x0]) w hh)
def T20 : List (Nat × FnT) := []
def F20 (x0 : Value) (w : World) (K : V1) : Prop :=
aa (cZ x0) fun v1 =>
aa (ae 1 v1) fun v2 =>
aa (ld1 v2 w) fun v3 =>
K v3 w
def G20 : FnT := fun args w K => on1 (fun x0 => F20 x0 w K) args
theorem c20 {x0 : Value} {w : World} {K : V1} (h : F20 x0 w K) : ai G20 [x0] w K := aj (bL (p := fun x0 => F20 x0 w K) h)
theorem ok20 : OkF Tryz.prog 20 G20 := by
  refine aO (aN (l := T20) trivial) mixed (n := fuel) Tryz.func20 Tryz.call20 fun args w K h => ?_
  obtain ⟨x0, rfl, hh⟩ := bJ h
  exact az (c := ah Tryz.f20) (by kernel_rfl) (by kernel_rfl) (Eq.mp (by kernel_rfl) hh)
end Go.Proofs.Gong

/- So5 -/
set_option linter.all false
namespace Go.Sx
open Go.Proofs
section
variable {w0 w w' : World} {L : List HP}
theorem Sat.below (h : Sat w0 L w) (hb : RowKit.Below w.heap.size w w') : Sat w0 L w' := (h.ofOwn (es := 1) (ty := 0) .nil (CQ hb [] (by simp))).drop
theorem below_grow {k : Nat} {os : Array Obj} : RowKit.Below w.heap.size w (Go.Sort.grow (w.drewN k) os) := by
  refine ⟨rfl, rfl, rfl, ?_, fun b hb => ?_⟩
  · show _ ≤ (w.heap ++ os).size
    rw [Array.size_append]; omega
  · show (w.heap ++ os)[b]? = w.heap[b]?
    rw [Array.getElem?_append_left hb]
theorem Sat.var (h : Sat w0 L w) {P : Program} {n : String} {cs : Array Value} (hv : w0.var? P n = some cs) : w.var? P n = some cs := by
  unfold World.var? at hv ⊢
  cases hg : P.globalNamed n with
  | none => simp [hg] at hv
  | some g =>
    simp only [hg, Option.bind_some] at hv ⊢
    cases hb : w0.heap[g]? with
    | none => simp [hb] at hv
    | some o => rw [h.old (dX hb), hb]; rwa [hb] at hv
end
def gQ (P : Program) (w : World) : Prop := Lib.TabIs P w "internal/strconv.uint64pow10" .u64 Lib.pow10Tab
def RV (P : Program) : FnT := fun args w K => ∃ n : Int, args = [.int .i64 n] ∧ -9223372036854775808 ≤ n ∧ n ≤ 9223372036854775807 ∧ gQ P w ∧ ∀ w', RowKit.Below w.heap.size w w' → K (.string (bs (Lib.itoa n))) w'
theorem okItoa {P : Program} {ρ : Go.Shelf.Ren} {f : Nat} (T : LaysM.n171 P ρ) (hf : ρ.f 171 = f) (ef : ∀ args w, (callFunc f args).run P w = .ok (.enter f args) w) : OkF P f (RV P) := by
  subst hf
  intro args w K ⟨n, ha, h0, h1, hT, hk⟩
  subst ha
  refine .inl ⟨ef _ _, ?_⟩
  refine (Any.strconv_Itoa T n h0 h1 w hT).mono fun e w' ⟨he, k, os, hw⟩ => ⟨_, he, hk w' ?_⟩
  rw [hw]; exact below_grow
theorem jF {P : Program} {n : Int} {w0 w : World} {L : List HP} {K : Value → World → Prop} (T : gQ P w0) (h : Sat w0 L w) (h0 : -9223372036854775808 ≤ n) (h1 : n ≤ 9223372036854775807) (hK : ∀ w', Sat w0 L w' → K (.string (bs (Lib.itoa n))) w') : ai (RV P) [.int .i64 n] w K :=
  aj ⟨n, rfl, h0, h1, h.var T, fun w' hb => hK w' (h.below hb)⟩
def RX : FnT := fun args w K => ∃ (s : List UInt8) (n : Int), args = [.string (bs s)] ∧ s.length ≤ 18 ∧ Lib.atoi s = some n ∧ ∀ w', RowKit.Below w.heap.size w w' → K (.tuple #[.int .i64 n, .nilIface]) w'
theorem okAtoi {P : Program} {ρ : Go.Shelf.Ren} {f : Nat} (T : Lays.n172 P ρ) (hf : ρ.f 172 = f) (ef : ∀ args w, (callFunc f args).run P w = .ok (.enter f args) w) : OkF P f RX := by
  subst hf
  intro args w K ⟨s, n, ha, hl, hn, hk⟩
  subst ha
  refine .inl ⟨ef _ _, ?_⟩
  refine (Any.strconv_Atoi T (bs s) n (by simpa [bs, ByteArray.size] using hl) (by simpa [bs] using hn) w).mono fun e w' ⟨he, t, hw⟩ => ⟨_, he, hk w' ?_⟩
  rw [hw]
  exact ⟨rfl, rfl, rfl, by rw [Lib.bytesWorld_size]; omega, fun j hj => Lib.bytesWorld_at_old w (ρ.t 5) t j hj⟩
theorem IL {s : List UInt8} {n : Int} {w0 w : World} {L : List HP} {K : Value → World → Prop} (h : Sat w0 L w) (hl : s.length ≤ 18) (hn : Lib.atoi s = some n) (hK : ∀ w', Sat w0 L w' → K (.tuple #[.int .i64 n, .nilIface]) w') : ai RX [.string (bs s)] w K :=
  aj ⟨s, n, rfl, hl, hn, fun w' hb => hK w' (h.below hb)⟩
def KA (gm : Nat) (ty : TypeId) : FnT := fun args w K => ∃ (s sep : List UInt8) (m : Int), args = [.string (bs s), .string (bs sep)] ∧ s.length < 4294967281 ∧ 1 ≤ sep.length ∧ w.cell? ⟨gm, 0, none⟩ = some (.int .i64 m) ∧
  K (.slice (some ⟨w.heap.size, 0, none⟩) (Lib.countB (bs s) (bs sep) + 1) (Lib.countB (bs s) (bs sep) + 1)) (w.alloc (.cells ((Lib.splitB (bs sep) 0 (Lib.countB (bs s) (bs sep)) (bs s)).map Value.string).toArray ty))
theorem Vt {P : Program} {ρ : Go.Shelf.Ren} {f gm : Nat} {ty : TypeId} (T : Lays.n146 P ρ) (hi : (P.info? (ρ.t 9)).map (fun i => (i.zero, i.size, i.bytes)) = some (some (.string ByteArray.empty), 1, 16)) (hf : ρ.f 146 = f) (hg : ρ.g 1 = gm) (ht : ρ.t 9 = ty) (ef : ∀ args w, (callFunc f args).run P w = .ok (.enter f args) w) : OkF P f (KA gm ty) := by
  subst hf hg ht
  intro args w K ⟨s, sep, m, ha, hl, h1, hm, hk⟩
  subst ha
  refine .inl ⟨ef _ _, ?_⟩
  refine (Any.strings_Split T hi (bs s) (bs sep) m w (by simpa [bs, ByteArray.size] using hl) hm (by simpa [bs, ByteArray.size] using h1)).mono fun e w' ⟨he, hw⟩ => ⟨_, he, ?_⟩
  rw [hw]; exact hk
def qO (s sep : List UInt8) : List (List UInt8) := (Lib.splitB (bs sep) 0 (Lib.countB (bs s) (bs sep)) (bs s)).map (·.data.toList)
theorem Oe {gm : Nat} {ty : TypeId} {s sep : List UInt8} {m : Int} {w0 w : World} {L : List HP} {K : Value → World → Prop} (hm : w0.cell? ⟨gm, 0, none⟩ = some (.int .i64 m)) (h : Sat w0 L w) (hl : s.length < 4294967281) (h1 : 1 ≤ sep.length)
    (hK : ∀ v w', Sat w0 (LsH cSt 1 ty v (qO s sep) :: L) w' → K v w') : ai (KA gm ty) [.string (bs s), .string (bs sep)] w K := by
  refine aj ⟨s, sep, m, rfl, hl, h1, h.cellOld hm, ?_⟩
  have hlen : (Lib.splitB (bs sep) 0 (Lib.countB (bs s) (bs sep)) (bs s)).length = Lib.countB (bs s) (bs sep) + 1 := Lib.splitB_all (bs sep) (by simpa [bs, ByteArray.size] using h1) 0 _ (bs s) rfl
  have e : ((Lib.splitB (bs sep) 0 (Lib.countB (bs s) (bs sep)) (bs s)).map Value.string) = (qO s sep).flatMap cSt := by
    unfold qO
    induction Lib.splitB (bs sep) 0 (Lib.countB (bs s) (bs sep)) (bs s) with
    | nil => rfl
    | cons a l ih => simp [cSt, kSt, ih, bs]
  have hn : (qO s sep).length = Lib.countB (bs s) (bs sep) + 1 := by unfold qO; rw [List.length_map, hlen]
  rw [← hn, e]
  generalize qO s sep = l at *
  have hl1 : (l.flatMap cSt).length = l.length := by
    rw [lc (f := cSt) (es := 1) ⟨fun _ => rfl, fun _ => rfl, by omega⟩ l]; omega
  have ho : Own (w.alloc (.cells (l.flatMap cSt).toArray ty)) 1 ty [w.heap.size] (.slice (some ⟨w.heap.size, 0, none⟩) l.length l.length) l.length (l.flatMap cSt) := .blk (heap_alloc_new _ _) (Nat.le_refl _) (by simp [hl1]) (by
    rw [List.drop_zero, List.take_of_length_le (by simp [hl1])])
  exact hK _ _ (h.ofOwn ho ⟨Fr.alloc _ _ _, fun b hb => .inr (by simp at hb; omega)⟩)
def Dr : FnT := fun args w K => ∃ (s : List UInt8) (c : UInt8), args = [.string (bs s), .string ⟨#[c]⟩] ∧ c.toNat < 128 ∧ s.length ≤ 9223372036854775807 ∧ K (.string (bs (Lib.trimRightB s c))) w
theorem QM {P : Program} {ρ : Go.Shelf.Ren} {f : Nat} (T : Lays.n162 P ρ) (hf : ρ.f 162 = f) (ef : ∀ args w, (callFunc f args).run P w = .ok (.enter f args) w) : OkF P f Dr := by
  subst hf
  intro args w K ⟨s, c, ha, hc, hl, hk⟩
  subst ha
  refine .inl ⟨ef _ _, ?_⟩
  refine (Any.strings_TrimRight_one T (bs s) c hc w (by simpa [bs, ByteArray.size] using hl)).mono fun e w' ⟨he, hw⟩ => ⟨_, he, ?_⟩
  rw [hw]; exact hk
theorem JB {s : List UInt8} {c : UInt8} {w : World} {K : Value → World → Prop} (hc : c.toNat < 128) (hl : s.length ≤ 9223372036854775807) (hK : K (.string (bs (Lib.trimRightB s c))) w) : ai Dr [.string (bs s), .string ⟨#[c]⟩] w K :=
  aj ⟨s, c, rfl, hc, hl, hK⟩
theorem Vj {w : World} {b o : Nat} {a : Array Value} {ty : TypeId} {fz : Nat × Nat} {xs : List (List UInt8)} (hb : w.heap[b]? = some (.cells a ty fz)) (ha : o + xs.length * 1 ≤ a.size) (hc : xs.flatMap cSt = (a.toList.drop o).take (xs.length * 1)) : ∀ (j : Nat) x, xs[j]? = some x → w.cell? ⟨b, o + j, none⟩ = some (.string (bs x)) := by
  intro j x hx
  have hj : j < xs.length := by
    rcases Nat.lt_or_ge j xs.length with h | h
    · exact h
    · rw [List.getElem?_eq_none h] at hx; cases hx
  have e : xs.flatMap cSt = xs.map fun x => Value.string (bs x) := by
    clear hc hx ha hj
    induction xs with
    | nil => rfl
    | cons a l ih => simp [cSt, ih]
  rw [e] at hc
  have := congrArg (·[j]?) hc
  simp only [List.getElem?_map, hx, Option.map_some] at this
  rw [List.getElem?_take, if_pos (by omega), List.getElem?_drop] at this
  simp only [World.cell?, hb]
  simpa using this.symm
def KD : FnT := fun args w K => ∃ (v : Value) (xs : List (List UInt8)) (x : List UInt8), args = [v, .string (bs x)] ∧ Rd w 1 v xs.length (xs.flatMap cSt) ∧ xs.length ≤ 9223372036854775807 ∧ K (.bool (decide (x ∈ xs))) w
theorem Vx {P : Program} {ρ : Go.Shelf.Ren} {f : Nat} (Y : Lays.n110 P ρ) (hf : ρ.f 110 = f) (ef : ∀ args w, (callFunc f args).run P w = .ok (.enter f args) w) : OkF P f KD := by
  subst hf
  intro args w K ⟨v, xs, x, ha, hr, hn, hk⟩
  subst ha
  refine .inl ⟨ef _ _, ?_⟩
  generalize hcs : xs.flatMap cSt = cs at hr
  generalize hlen : xs.length = n at hr
  cases hr with
  | emp a c =>
    obtain rfl := List.eq_nil_of_length_eq_zero hlen
    exact (Any.slices_Contains_string_empty Y a c (bs x) w).mono fun e w' ⟨he, hw⟩ => ⟨_, he, by rw [hw]; simpa using hk⟩
  | blk hb hn2 ha hc =>
    rename_i b o cap a ty fz
    subst hlen
    have h1 := Vj hb ha (hcs.trans hc)
    refine (Any.slices_Contains_string Y b o xs.length cap (xs.map bs) (bs x) w (by rw [List.length_map]; omega) hn fun j hj => ?_).mono fun e w' ⟨he, hw⟩ => ⟨_, he, ?_⟩
    · rw [List.length_map] at hj
      rw [h1 j xs[j] (List.getElem?_eq_getElem hj)]
      simp [List.getD, hj]
    · rw [hw]
      have e : Lib.containsS ((xs.map bs).take xs.length) (bs x) = decide (x ∈ xs) := by
        rw [List.take_of_length_le (by rw [List.length_map]; omega), Bool.eq_iff_iff, Lib.containsS_iff, decide_eq_true_eq, List.mem_map]
        exact ⟨fun ⟨y, h1, h2⟩ => by
          have : y = x := by have := congrArg (fun b : ByteArray => b.data.toList) h2; simpa [bs] using this
          exact this ▸ h1, fun h => ⟨x, h, rfl⟩⟩
      rw [e]; exact hk
theorem PD {v : Value} {xs : List (List UInt8)} {x : List UInt8} {w : World} {K : Value → World → Prop} (hr : Rd w 1 v xs.length (xs.flatMap cSt)) (hn : xs.length ≤ 9223372036854775807) (hK : K (.bool (decide (x ∈ xs))) w) : ai KD [v, .string (bs x)] w K :=
  aj ⟨v, xs, x, rfl, hr, hn, hK⟩
section
variable {w0 wB w w' : World} {L : List HP} {b : Nat} {x p v : Value} {T : TypeId}
theorem Sat.setc0 (h : Sat w0 (Cl b #[p, v] T :: L) w) (x : Value) : Sat w0 (Cl b #[x, v] T :: L) (w.setCell ⟨b, 0, none⟩ x) := by
  have hb := h.cl
  refine (h.setc #[x, v]).same ?_ rfl rfl rfl
  have hlt := dX hb
  apply Array.ext_getElem?
  intro i
  show (w.heap.modify b _)[i]? = (w.heap.setIfInBounds b _)[i]?
  rw [Array.getElem?_modify, Array.getElem?_setIfInBounds]
  by_cases hi : b = i
  · subst hi
    rw [if_pos rfl, if_pos rfl, if_pos hlt, hb]
    rfl
  · rw [if_neg hi, if_neg hi]
theorem Sat.base (h : Sat wB L w) (hb : RowKit.Below wB.heap.size w w') : Sat wB [] w' :=
  ⟨⟨hb.os.trans h.fr.os, hb.tape.trans h.fr.tape, hb.output.trans h.fr.output, Nat.le_trans h.fr.size hb.size, fun b hb' hn => (hb.block b hb').trans (h.fr.blk b hb' hn)⟩, fun _ => none, trivial, fun _ _ h => by cases h⟩
theorem Sat.unbase (h0 : Sat w0 L wB) (h : Sat wB [] w') : Sat w0 L w' :=
  h0.below ⟨h.fr.os, h.fr.tape, h.fr.output, h.fr.size, fun b hb => h.fr.blk b hb (by simp)⟩
end
def Z0 (v : Value) : Prop := ∀ a n c, v = .slice (some a) n c → a.off = 0
def Du (T : TypeId) : FnT := fun args w K => ∃ (b : Nat) (w0 : World) (L : List HP) (p v : Value), args = [.pointer (some ⟨b, 0, none⟩)] ∧ (p = .pointer none ∨ p = .pointer (some ⟨b, 0, none⟩)) ∧ Sat w0 (Cl b #[p, v] T :: L) w ∧ ∀ w', Sat w0 (Cl b #[.pointer (some ⟨b, 0, none⟩), v] T :: L) w' → K (.tuple #[]) w'
theorem QO {P : Program} {f : Nat} {T : TypeId}
    (hU : ∀ (b : Nat) (w : World), w.cell? ⟨b, 0, none⟩ = some (.pointer (some ⟨b, 0, none⟩)) → Calls P f #[.pointer (some ⟨b, 0, none⟩)] w fun e w' => e = .returned (.tuple #[]) ∧ w' = w)
    (hF : ∀ (b : Nat) (w : World), w.cell? ⟨b, 0, none⟩ = some (.pointer none) → w.shape? b = some (T, 2) → w.frozen? ⟨b, 0, none⟩ = false → Calls P f #[.pointer (some ⟨b, 0, none⟩)] w fun e w' => e = .returned (.tuple #[]) ∧ w' = w.setCell ⟨b, 0, none⟩ (.pointer (some ⟨b, 0, none⟩)))
    (ef : ∀ args w, (callFunc f args).run P w = .ok (.enter f args) w) : OkF P f (Du T) := by
  intro args w K ⟨b, w0, L, p, v, ha, hp, h, hk⟩
  subst ha
  refine .inl ⟨ef _ _, ?_⟩
  have hb := h.cl
  rcases hp with rfl | rfl
  · refine (hF b w (by simp [World.cell?, hb]) (by simp [World.shape?, hb]) (by simp [World.frozen?, hb])).mono fun e w' ⟨he, hw⟩ => ⟨_, he, hk w' ?_⟩
    rw [hw]; exact h.setc0 _
  · refine (hU b w (by simp [World.cell?, hb])).mono fun e w' ⟨he, hw⟩ => ⟨_, he, hk w' ?_⟩
    rw [hw]; exact h
abbrev cB8 (x : UInt8) : List Value := [.int .u8 (x.toNat : Nat)]
theorem p9 (l : List UInt8) : l.flatMap cB8 = Lib.byteCells l := by
  induction l with
  | nil => rfl
  | cons a l ih => simp [Lib.byteCells, cB8, ih] at *
def zb (T e : TypeId) : FnT := fun args w K => ∃ (b : Nat) (wB : World) (L : List HP) (p v : Value) (l : List UInt8), args = [.pointer (some ⟨b, 0, none⟩)] ∧ Sat wB (Cl b #[p, v] T :: LsH cB8 1 e v l :: L) w ∧ Z0 v ∧ l ≠ [] ∧ l.length ≤ 140737488355328 ∧ ∀ w', Sat wB [] w' → K (.string (bs l)) w'
theorem OI {P : Program} {f : Nat} {T e tb tp ti ts : TypeId} (hp : P.underlying tp = some (.pointer e)) (hce : P.cellsOf e = 1)
    (hC : ∀ (b : Nat) (p v : Value) (w : World) (r : Value) (w2 : World), w.heap[b]? = some (.cells #[p, v] T (0, 0)) → ∀ (n : Nat) (q : Value), (∃ a c, v = .slice a n c) →
      (Builtin.unsafeSliceData_ #[tb] tp #[v]).run P w.drew = .ok q w.drew → (Builtin.unsafeString_ #[tp, ti] ts #[q, .int .i64 n]).run P w.drew = .ok r w2 → Calls P f #[.pointer (some ⟨b, 0, none⟩)] w fun e w' => e = .returned r ∧ w' = w2)
    (ef : ∀ args w, (callFunc f args).run P w = .ok (.enter f args) w) : OkF P f (zb T e) := by
  intro args w K ⟨b, wB, L, p, v, l, ha, h, hz0, hne, hl, hk⟩
  subst ha
  refine .inl ⟨ef _ _, ?_⟩
  have hb := h.cl
  have hs : wB.heap.size ≤ w.heap.size := h.size
  have h2 := h.f1
  obtain ⟨fp, hO, kk⟩ := Sat.own h2
  generalize hcs : l.flatMap cB8 = cs at hO
  generalize hn : l.length = n at hO
  cases hO with
  | nil => exact absurd (List.eq_nil_of_length_eq_zero hn) hne
  | blk hg hnc hac hc =>
    rename_i g o cap a
    subst hn
    have ho : o = 0 := hz0 _ _ _ rfl
    subst ho
    have hpos : 0 < l.length := List.length_pos_iff.2 hne
    have hgB : wB.heap.size ≤ g := by
      obtain ⟨hh, ⟨x, y, hd, rfl, hP, hL⟩, hin⟩ := h2.ex
      rcases hP with ⟨hv, _⟩ | ⟨g', o', cap', a', hv, _, _, _, hg'⟩
      · cases hv
      · cases hv
        exact (hin g _ (ow hg')).1
    have hcell : ∀ j x, l[j]? = some x → w.drew.cell? ((⟨g, 0, none⟩ : Addr).add j) = some (.int .u8 x.toNat) := by
      intro j x hx
      have hj : j < l.length := by
        rcases Nat.lt_or_ge j l.length with h | h
        · exact h
        · rw [List.getElem?_eq_none h] at hx; cases hx
      rw [← hcs, p9] at hc
      have := congrArg (·[j]?) hc
      simp only [Lib.byteCells, List.getElem?_map, hx, Option.map_some] at this
      rw [List.getElem?_take, if_pos (by omega), List.getElem?_drop] at this
      have hg' : w.drew.heap[g]? = some (.cells a e (0, 0)) := hg
      have hadd : (⟨g, 0, none⟩ : Addr).add j = ⟨g, j, none⟩ := by
        unfold Addr.add
        split
        · rename_i h0; subst h0; rfl
        · simp
      rw [hadd, Lib.cell_of_heap hg']
      simpa using this.symm
    have hg' : w.drew.heap[g]? = some (.cells a e (0, 0)) := hg
    have hSD := Lib.run_unsafeSliceData_row (P := P) (w := w.drew) #[tb] tp ⟨g, 0, none⟩ l.length cap (by omega)
    have hUS := Lib.run_unsafeString_row (P := P) w.drew tp ti ts e hp hce g a.size (by unfold World.shape?; rw [hg']) l hne (by omega) (by omega) hcell
    exact (hC b p _ w _ _ hb l.length _ ⟨_, _, rfl⟩ hSD hUS).mono fun r w' ⟨hr, hw⟩ => ⟨_, hr, hk w' (by
      rw [hw]
      exact h.base (Lib.below_freeze (RowKit.Below.drew (RowKit.Below.refl _ w)) (p := ⟨g, 0, none⟩) hgB _))⟩
def KE (T e : TypeId) : FnT := fun args w K => ∃ (b n : Nat) (wB : World) (L : List HP), args = [.pointer (some ⟨b, 0, none⟩), .int .i64 n] ∧ Sat wB (Cl b #[.pointer (some ⟨b, 0, none⟩), .slice none 0 0] T :: L) w ∧ n ≤ 281474976710656 ∧
  ∀ v w', Z0 v → Sat wB (Cl b #[.pointer (some ⟨b, 0, none⟩), v] T :: LsH cB8 1 e v ([] : List UInt8) :: []) w' → K (.tuple #[]) w'
def one (b : Nat) (o : Obj) : Hp := fun i => if i = b then some o else none
theorem yK {b i : Nat} {o x : Obj} (h : one b o i = some x) : i = b ∧ x = o := by
  unfold one at h
  split at h
  · cases h; exact ⟨by assumption, rfl⟩
  · cases h
theorem yJ {b : Nat} {o : Obj} : one b o b = some o := if_pos rfl
theorem Vb {wB w' : World} {b g : Nat} {o o' : Obj} {P Q : HP} (h : Sat wB [] w') (hb : wB.heap.size ≤ b) (hc : w'.heap[b]? = some o) (hg : wB.heap.size ≤ g) (hc' : w'.heap[g]? = some o') (hne : g ≠ b) (hP : P (one b o)) (hQ : Q (one g o')) : Sat wB [P, Q] w' := by
  have hd2 : kZ (one g o') (fun _ => none) := fun _ _ _ => rfl
  have hd1 : kZ (one b o) (hOr (one g o') (fun _ => none)) := by
    intro i x hi
    obtain ⟨rfl, _⟩ := yK hi
    show (match one g o' i with | some o => some o | none => none) = none
    cases hx : one g o' i with
    | none => rfl
    | some y => exact absurd (yK hx).1.symm hne
  refine ⟨h.fr, hOr (one b o) (hOr (one g o') fun _ => none), ⟨_, _, hd1, rfl, hP, ⟨_, _, hd2, rfl, hQ, trivial⟩⟩, ?_⟩
  intro i x hi
  cases h1 : one b o i with
  | some y =>
    rw [ow h1] at hi
    cases hi
    obtain ⟨rfl, rfl⟩ := yK h1
    exact ⟨hb, hc⟩
  | none =>
    have h2 : hOr (one g o') (fun _ => none) i = some x := by
      have : hOr (one b o) (hOr (one g o') fun _ => none) i = hOr (one g o') (fun _ => none) i := by
        show (match one b o i with | some o => some o | none => _) = _
        rw [h1]
      rw [← this]; exact hi
    cases h3 : one g o' i with
    | some y =>
      rw [ow h3] at h2
      cases h2
      obtain ⟨rfl, rfl⟩ := yK h3
      exact ⟨hg, hc'⟩
    | none =>
      have : hOr (one g o') (fun _ => none) i = none := by
        show (match one g o' i with | some o => some o | none => none) = _
        rw [h3]
      rw [this] at h2; cases h2
theorem Qv {wB w' : World} {b : Nat} {o : Obj} {P : HP} (h : Sat wB [] w') (hb : wB.heap.size ≤ b) (hc : w'.heap[b]? = some o) (hP : P (one b o)) : Sat wB [P] w' := by
  refine ⟨h.fr, hOr (one b o) (fun _ => none), ⟨_, _, fun _ _ _ => rfl, rfl, hP, trivial⟩, ?_⟩
  intro i x hi
  cases h1 : one b o i with
  | some y =>
    rw [ow h1] at hi
    cases hi
    obtain ⟨rfl, rfl⟩ := yK h1
    exact ⟨hb, hc⟩
  | none =>
    have : hOr (one b o) (fun _ => none) i = none := by
      show (match one b o i with | some o => some o | none => none) = _
      rw [h1]
    rw [this] at hi; cases hi
theorem Vy {P : Program} {ρ : Go.Shelf.Ren} {f : Nat} {T e : TypeId} (Y : Lays.n241 P ρ) (X : Builder.Extra P ρ) (hf : ρ.f 241 = f) (hT : ρ.t 72 = T) (he : ρ.t 5 = e) (ef : ∀ args w, (callFunc f args).run P w = .ok (.enter f args) w) : OkF P f (KE T e) := by
  subst hf hT he
  intro args w K ⟨b, n, wB, L, ha, h, hn, hk⟩
  subst ha
  refine .inl ⟨ef _ _, ?_⟩
  refine (Any.Builder_grow_fresh Y X wB.heap.size b n w h.blk_ge h.cl h.size hn).mono fun r w' ⟨hr, ⟨_, v, hv, hown, hne⟩, hw⟩ => ⟨_, hr, ?_⟩
  have h0 := h.base hw
  rcases hown.2 with ⟨rfl, _⟩ | ⟨g, cap, cur, rfl, hg, hgc, _, _, hcs, _⟩
  · have h3 : Sat wB [Cl b #[.pointer (some ⟨b, 0, none⟩), .slice none 0 0] (ρ.t 72)] w' := Qv h0 h.blk_ge hv yJ
    exact hk (.slice none 0 0) w' (fun a n c e => by cases e) (Sat.f1 (Sat.nilsl h3))
  · have hgb : g ≠ b := fun e => hne (by simp [Value.ownBlock, e])
    refine hk (.slice (some ⟨g, 0, none⟩) ([] : List Value).length cap) w' (fun a n c e => by cases e; rfl) (Vb h0 h.blk_ge hv hg hgc hgb yJ ?_)
    exact .inr ⟨g, 0, cap, cur, rfl, Nat.zero_le _, by omega, by simp, yJ⟩
section
variable {w : World} {es n : Nat} {fp : List Nat} {cs : List Value}
theorem DD {P : Program} {t xt el : TypeId} {bytes m : Nat} {s x : Value} {ds : List Value} {K : Value → World → Prop} (T : SlT P t el es bytes) (hxt : nN P xt = true)
    (hO : Own w es el fp s n cs) (hlv : lenV x = some m) (hnew : firstC es m x w = some ds.toArray) (hlen : ds.length = m * es) (hd : ds.all (·.oneCell') = true) (hb : (n + m) * bytes ≤ 140737488355328)
    (hK : ∀ w' fp' s', Own w' es el fp' s' (n + m) (cs ++ ds) → Stp fp fp' w w' → K s' w') : aJ P t xt s x w K := by
  obtain ⟨i, hi, his, hib⟩ := T.i
  obtain ⟨z, hz, hzs⟩ := T.z
  have hrd := hO.rd
  have hold := hrd.firstC (Nat.le_refl n)
  have hlenc := hrd.length
  rw [List.take_of_length_le (by omega)] at hold
  have grow : ∀ sc : Nat, sc < n + m → Builtin.nextslicecap (n + m) sc * i.bytes ≤ 2 ^ 48 ∧ i.bytes ≠ 0 ∧
      (∀ cap, n + m ≤ cap → K (sl w.heap.size (n + m) cap) (w.drew.alloc (.cells (cs.toArray ++ ds.toArray ++ Builtin.zeroCells z.cells (cap - (n + m))) el))) := by
    intro sc hsc
    have := growslice_fits hsc (hib ▸ hb)
    have hbp := T.bpos
    refine ⟨by rw [hib] at this ⊢; omega, by omega, fun cap hcap => hK _ [w.heap.size] _ (.blk (o := 0) (heap_alloc_new _ _) hcap ?_ ?_) ⟨?_, ?_⟩⟩
    · simp [Builtin.zeroCells, hzs, hlen, hlenc, ← Nat.add_mul]
      rw [Nat.add_sub_cancel' hcap]; exact Nat.le_refl _
    · simp only [List.drop_zero, Array.toList_append]
      rw [List.take_append_of_le_length (by simp [hlen, hlenc, Nat.add_mul])]
      rw [List.take_of_length_le (by simp [hlen, hlenc, Nat.add_mul])]
    · exact ((Fr.drew fp w).trans (Fr.alloc fp w.drew _) fun x hx => .inl hx)
    · intro b hb; simp at hb; subst hb; exact .inr (Nat.le_refl _)
  unfold aJ
  simp only [T.u, hi, hxt, hlv]
  cases hO with
  | nil =>
    simp only [hz, his, hnew, hold]
    refine ⟨fun h => ?_, fun h => ?_⟩
    · have : m = 0 := by omega
      subst this
      have : ds = [] := by cases ds with | nil => rfl | cons => simp at hlen
      subst this
      simp only [lw]
      exact hK _ _ _ .nil (.refl _ _)
    · obtain ⟨h1, h2, h3⟩ := grow 0 h
      exact ⟨h1, h2, h3⟩
  | blk hb' hn ha hc =>
    rename_i b o cap a
    simp only [hz, his, hnew, hold]
    refine ⟨fun h => ?_, fun h => ?_⟩
    · have hm1 := Nat.mul_le_mul_right es h
      rw [Nat.add_mul] at hm1
      simp only [lw]
      rw [mK hb' (by simp only [hlen]; omega) hd]
      refine hK _ [b] _ (.blk (nT hb') h (by simpa using ha) ?_) ⟨Fr.set _ _ (by simp), fun x hx => .inl hx⟩
      rw [ma _ _ _ (by rw [hlen]; omega), Nat.add_mul]
      subst hc
      have e1 : List.take (o + n * es) a.toList = List.take o a.toList ++ List.take (n * es) (List.drop o a.toList) := by rw [List.take_add]
      have e2 : (List.take o a.toList).length = o := by simp; omega
      rw [e1]
      simp only [List.append_assoc]
      rw [List.drop_left' e2]
      rw [← List.append_assoc, List.take_left' (by rw [List.length_append, hlen, hlenc])]
    · obtain ⟨h1, h2, h3⟩ := grow cap h
      exact ⟨h1, h2, h3⟩
end
theorem zk {P : Program} {t xt : TypeId} {s x : Value} {w : World} {K : Value → World → Prop} (h : aJ P t xt s x w K) (hz : Z0 s) : aJ P t xt s x w fun s' w' => Z0 s' ∧ K s' w' := by
  unfold aJ at h ⊢
  split
  · rename_i el hu
    rw [hu] at h
    simp only at h
    split
    · rename_i i base sLen sCap n hi hx hn
      simp only [hi, hx, hn] at h
      split
      · rename_i new hf
        simp only [hf] at h
        obtain ⟨h1, h2⟩ := h
        refine ⟨fun hc => ?_, fun hc => ?_⟩
        · have h1 := h1 hc
          split
          · rename_i w' hw
            simp only [hw] at h1
            exact ⟨fun a n c e => hz a sLen sCap (by cases e; rfl), h1⟩
          · rename_i hw
            simp only [hw] at h1
        · obtain ⟨h3, h4, h5⟩ := h2 hc
          refine ⟨h3, h4, ?_⟩
          split
          · rename_i old z ho hz'
            simp only [ho, hz'] at h5
            exact fun cap hcap => ⟨fun a n c e => by cases e; rfl, h5 cap hcap⟩
          · rename_i hno
            split at h5
            · rename_i old z ho hz'
              exact (hno old z ho hz').elim
            · exact h5
      · rename_i hf
        simp only [hf] at h
    · rename_i hno
      split at h
      · rename_i i base sLen sCap n hi hx hn
        exact (hno i base sLen sCap n hi hx rfl hn).elim
      · exact h
  · rename_i hno
    split at h
    · rename_i el hu
      exact (hno el hu).elim
    · exact h
theorem Ye {P : Program} {t xt ty : TypeId} {sv : Value} {l m : List UInt8} {w0 w : World} {L : List HP} {K : Value → World → Prop} (h : Sat w0 (LsH cB8 1 ty sv l :: L) w) (hz : Z0 sv) (T : SlT P t ty 1 1) (hxt : nN P xt = true) (hb : l.length + m.length ≤ 140737488355328)
    (hK : ∀ s' w', Z0 s' → Sat w0 (LsH cB8 1 ty s' (l ++ m) :: L) w' → K s' w') : aJ P t xt sv (.string (bs m)) w K := by
  obtain ⟨fp, hO, kk⟩ := Sat.own h
  have := DD (K := fun s' w' => Sat w0 (LsH cB8 1 ty s' (l ++ m) :: L) w') T hxt hO (x := .string (bs m)) (m := m.length) (ds := m.flatMap cB8) (by show some (bs m).size = _; rw [fM]) (by
    rw [p9]
    simp only [firstC]
    congr 1
    have : (bs m).extract 0 m.length = bs m := by
      first | (rw [← fM m]; exact ByteArray.extract_zero_size) | (apply ByteArray.ext; simp [bs])
    rw [this]
    apply Array.ext'
    simp [bs, Lib.byteCells]) (by rw [p9, Lib.byteCells_length]; omega) (by
      simp [List.all_eq_true, List.mem_flatMap]
      try (intro x _; rfl)) (by omega) (fun w' fp' s' hO' st => by
      have := kk _ _ _ _ _ _ _ hO' st
      unfold LsH
      rw [List.length_append, List.flatMap_append]
      exact this)
  exact ny (fun s' w' ⟨h1, h2⟩ => hK s' w' h1 h2) (zk this hz)
theorem app_z0 {P : Program} {t xt ty : TypeId} {sv x : Value} {l m : List UInt8} {w0 w : World} {L : List HP} {K : Value → World → Prop} (h : Sat w0 (LsH cB8 1 ty sv l :: L) w) (hz : Z0 sv) (T : SlT P t ty 1 1) (hxt : nN P xt = true) (hR : Rd w 1 x m.length (m.flatMap cB8)) (hb : l.length + m.length ≤ 140737488355328)
    (hK : ∀ s' w', Z0 s' → Sat w0 (LsH cB8 1 ty s' (l ++ m) :: L) w' → K s' w') : aJ P t xt sv x w K := by
  have := fI (K := fun s' w' => Sat w0 (LsH cB8 1 ty s' (l ++ m) :: L) w') (f := cB8) (es := 1) ⟨fun _ => rfl, fun _ => rfl, by omega⟩ h T hxt hR (by omega) fun s' w' h' => h'
  exact ny (fun s' w' ⟨h1, h2⟩ => hK s' w' h1 h2) (zk this hz)
end Go.Sx

/- Txt -/
namespace Go.Proofs.Gong
open Go Go.Sx Go.Proofs
set_option linter.all false
set_option maxRecDepth 100000
set_option maxHeartbeats 4000000
variable {kn kr : ET} {ke : JT}
def PV : Go.Shelf.Ren := ⟨fun | 171 => 11 | 243 => 25 | 246 => 48 | 283 => 86 | 284 => 87 | 285 => 88 | 286 => 89 | 129 => 100 | 317 => 136 | 318 => 137 | 319 => 138 | 320 => 139 | 337 => 185 | 338 => 186 | n => n, fun | 3 => 3 | 9 => 9 | 2 => 2 | 4 => 4 | 171 => 177 | 0 => 0 | 53 => 178 | 37 => 181 | 5 => 5 | 173 => 182 | 212 => 252 | 51 => 193 | 20 => 20 | 213 => 253 | 46 => 144 | 232 => 355 | 233 => 356 | n => n, fun | 17 => 0 | 18 => 2 | 19 => 3 | n => n⟩
theorem Lay11 : Go.Proofs.LaysM.n171 Tryz.prog PV := {
  mixed := by kernel_rfl
  f129 := Tryz.func100.trans (congrArg some (by kernel_rfl))
  f171 := Tryz.func11.trans (congrArg some (by kernel_rfl))
  f243 := Tryz.func25.trans (congrArg some (by kernel_rfl))
  f246 := Tryz.func48.trans (congrArg some (by kernel_rfl))
  f283 := Tryz.func86.trans (congrArg some (by kernel_rfl))
  f284 := Tryz.func87.trans (congrArg some (by kernel_rfl))
  f285 := Tryz.func88.trans (congrArg some (by kernel_rfl))
  f286 := Tryz.func89.trans (congrArg some (by kernel_rfl))
  f317 := Tryz.func136.trans (congrArg some (by kernel_rfl))
  f318 := Tryz.func137.trans (congrArg some (by kernel_rfl))
  f319 := Tryz.func138.trans (congrArg some (by kernel_rfl))
  f320 := Tryz.func139.trans (congrArg some (by kernel_rfl))
  f337 := Tryz.func185.trans (congrArg some (by kernel_rfl))
  f338 := Tryz.func186.trans (congrArg some (by kernel_rfl))
  t0 := Tryz.underlying0
  a0 := Tryz.isAgg0
  z0 := Tryz.sizeOf0
  v0 := Tryz.zeroValue0
  t2 := Tryz.underlying2
  a2 := Tryz.isAgg2
  z2 := Tryz.sizeOf2
  v2 := Tryz.zeroValue2
  t3 := Tryz.underlying3
  a3 := Tryz.isAgg3
  z3 := Tryz.sizeOf3
  v3 := Tryz.zeroValue3
  t4 := Tryz.underlying4
  a4 := Tryz.isAgg4
  z4 := Tryz.sizeOf4
  v4 := Tryz.zeroValue4
  t5 := Tryz.underlying5
  a5 := Tryz.isAgg5
  z5 := Tryz.sizeOf5
  v5 := Tryz.zeroValue5
  t9 := Tryz.underlying9
  a9 := Tryz.isAgg9
  z9 := Tryz.sizeOf9
  v9 := Tryz.zeroValue9
  t20 := Tryz.underlying20
  a20 := Tryz.isAgg20
  z20 := Tryz.sizeOf20
  v20 := Tryz.zeroValue20
  t37 := Tryz.underlying181
  a37 := Tryz.isAgg181
  z37 := Tryz.sizeOf181
  v37 := Tryz.zeroValue181
  t46 := Tryz.underlying144
  a46 := Tryz.isAgg144
  z46 := Tryz.sizeOf144
  v46 := Tryz.zeroValue144
  t51 := Tryz.underlying193
  a51 := Tryz.isAgg193
  z51 := Tryz.sizeOf193
  v51 := Tryz.zeroValue193
  t53 := Tryz.underlying178
  a53 := Tryz.isAgg178
  z53 := Tryz.sizeOf178
  v53 := Tryz.zeroValue178
  t171 := Tryz.underlying177
  a171 := Tryz.isAgg177
  z171 := Tryz.sizeOf177
  v171 := Tryz.zeroValue177
  t173 := Tryz.underlying182
  a173 := Tryz.isAgg182
  z173 := Tryz.sizeOf182
  v173 := Tryz.zeroValue182
  t212 := Tryz.underlying252
  a212 := Tryz.isAgg252
  z212 := Tryz.sizeOf252
  v212 := Tryz.zeroValue252
  t213 := Tryz.underlying253
  a213 := Tryz.isAgg253
  z213 := Tryz.sizeOf253
  t232 := Tryz.underlying355
  a232 := Tryz.isAgg355
  z232 := Tryz.sizeOf355
  v232 := Tryz.zeroValue355
  t233 := Tryz.underlying356
  a233 := Tryz.isAgg356
  z233 := Tryz.sizeOf356
  v233 := Tryz.zeroValue356
  g17 := by kernel_rfl
  g18 := by kernel_rfl
  g19 := by kernel_rfl
  i0 := by kernel_rfl
  i2 := by kernel_rfl
  i3 := by kernel_rfl
  i4 := by kernel_rfl
  i5 := by kernel_rfl
  i9 := by kernel_rfl
  i20 := by kernel_rfl
  i37 := by kernel_rfl
  i46 := by kernel_rfl
  i51 := by kernel_rfl
  i53 := by kernel_rfl
  i171 := by kernel_rfl
  i173 := by kernel_rfl
  i212 := by kernel_rfl
  i232 := by kernel_rfl
  i233 := by kernel_rfl
  m17 := by kernel_rfl
  m18 := by kernel_rfl
  m19 := by kernel_rfl }
def G11 : FnT := RV Tryz.prog
theorem Q5 : OkF Tryz.prog 11 G11 := okItoa Lay11 rfl Tryz.call11
def Lt : Go.Shelf.Ren := ⟨fun | 172 => 121 | 244 => 167 | 245 => 168 | 247 => 215 | 279 => 216 | 280 => 217 | 281 => 218 | 282 => 219 | 287 => 265 | 316 => 266 | 171 => 11 | 205 => 267 | 321 => 294 | 322 => 295 | 243 => 25 | 246 => 48 | 283 => 86 | 284 => 87 | 285 => 88 | 286 => 89 | 129 => 100 | 317 => 136 | 318 => 137 | 319 => 138 | 320 => 139 | 337 => 185 | 338 => 186 | n => n, fun | 9 => 9 | 3 => 3 | 75 => 227 | 76 => 228 | 4 => 4 | 5 => 5 | 167 => 334 | 37 => 181 | 0 => 0 | 85 => 335 | 2 => 2 | 168 => 337 | 53 => 178 | 175 => 370 | 46 => 144 | 210 => 373 | 127 => 354 | 145 => 398 | 143 => 396 | 21 => 21 | 171 => 177 | 173 => 182 | 212 => 252 | 51 => 193 | 20 => 20 | 213 => 253 | 232 => 355 | 233 => 356 | 80 => 295 | n => n, fun | 15 => 7 | 16 => 8 | 17 => 0 | 18 => 2 | 19 => 3 | n => n⟩
theorem Lay121 : Go.Proofs.Lays.n172 Tryz.prog Lt := {
  mixed := by kernel_rfl
  f129 := Tryz.func100.trans (congrArg some (by kernel_rfl))
  f171 := Tryz.func11.trans (congrArg some (by kernel_rfl))
  f172 := Tryz.func121.trans (congrArg some (by kernel_rfl))
  f205 := Tryz.func267.trans (congrArg some (by kernel_rfl))
  f243 := Tryz.func25.trans (congrArg some (by kernel_rfl))
  f244 := Tryz.func167.trans (congrArg some (by kernel_rfl))
  f245 := Tryz.func168.trans (congrArg some (by kernel_rfl))
  f246 := Tryz.func48.trans (congrArg some (by kernel_rfl))
  f247 := Tryz.func215.trans (congrArg some (by kernel_rfl))
  f279 := Tryz.func216.trans (congrArg some (by kernel_rfl))
  f280 := Tryz.func217.trans (congrArg some (by kernel_rfl))
  f281 := Tryz.func218.trans (congrArg some (by kernel_rfl))
  f282 := Tryz.func219.trans (congrArg some (by kernel_rfl))
  f283 := Tryz.func86.trans (congrArg some (by kernel_rfl))
  f284 := Tryz.func87.trans (congrArg some (by kernel_rfl))
  f285 := Tryz.func88.trans (congrArg some (by kernel_rfl))
  f286 := Tryz.func89.trans (congrArg some (by kernel_rfl))
  f287 := Tryz.func265.trans (congrArg some (by kernel_rfl))
  f316 := Tryz.func266.trans (congrArg some (by kernel_rfl))
  f317 := Tryz.func136.trans (congrArg some (by kernel_rfl))
  f318 := Tryz.func137.trans (congrArg some (by kernel_rfl))
  f319 := Tryz.func138.trans (congrArg some (by kernel_rfl))
  f320 := Tryz.func139.trans (congrArg some (by kernel_rfl))
  f321 := Tryz.func294.trans (congrArg some (by kernel_rfl))
  f322 := Tryz.func295.trans (congrArg some (by kernel_rfl))
  f337 := Tryz.func185.trans (congrArg some (by kernel_rfl))
  f338 := Tryz.func186.trans (congrArg some (by kernel_rfl))
  t0 := Tryz.underlying0
  a0 := Tryz.isAgg0
  z0 := Tryz.sizeOf0
  v0 := Tryz.zeroValue0
  t2 := Tryz.underlying2
  a2 := Tryz.isAgg2
  z2 := Tryz.sizeOf2
  v2 := Tryz.zeroValue2
  t3 := Tryz.underlying3
  a3 := Tryz.isAgg3
  z3 := Tryz.sizeOf3
  v3 := Tryz.zeroValue3
  t4 := Tryz.underlying4
  a4 := Tryz.isAgg4
  z4 := Tryz.sizeOf4
  v4 := Tryz.zeroValue4
  t5 := Tryz.underlying5
  a5 := Tryz.isAgg5
  z5 := Tryz.sizeOf5
  v5 := Tryz.zeroValue5
  t9 := Tryz.underlying9
  a9 := Tryz.isAgg9
  z9 := Tryz.sizeOf9
  v9 := Tryz.zeroValue9
  t20 := Tryz.underlying20
  a20 := Tryz.isAgg20
  z20 := Tryz.sizeOf20
  v20 := Tryz.zeroValue20
  t21 := Tryz.underlying21
  a21 := Tryz.isAgg21
  z21 := Tryz.sizeOf21
  v21 := Tryz.zeroValue21
  t37 := Tryz.underlying181
  a37 := Tryz.isAgg181
  z37 := Tryz.sizeOf181
  v37 := Tryz.zeroValue181
  t46 := Tryz.underlying144
  a46 := Tryz.isAgg144
  z46 := Tryz.sizeOf144
  v46 := Tryz.zeroValue144
  t51 := Tryz.underlying193
  a51 := Tryz.isAgg193
  z51 := Tryz.sizeOf193
  v51 := Tryz.zeroValue193
  t53 := Tryz.underlying178
  a53 := Tryz.isAgg178
  z53 := Tryz.sizeOf178
  v53 := Tryz.zeroValue178
  t75 := Tryz.underlying227
  a75 := Tryz.isAgg227
  z75 := Tryz.sizeOf227
  v75 := Tryz.zeroValue227
  t76 := Tryz.underlying228
  a76 := Tryz.isAgg228
  z76 := Tryz.sizeOf228
  v76 := Tryz.zeroValue228
  t85 := Tryz.underlying335
  a85 := Tryz.isAgg335
  z85 := Tryz.sizeOf335
  v85 := Tryz.zeroValue335
  t127 := Tryz.underlying354
  a127 := Tryz.isAgg354
  z127 := Tryz.sizeOf354
  v127 := Tryz.zeroValue354
  t143 := Tryz.underlying396
  a143 := Tryz.isAgg396
  z143 := Tryz.sizeOf396
  v143 := Tryz.zeroValue396
  t145 := Tryz.underlying398
  a145 := Tryz.isAgg398
  z145 := Tryz.sizeOf398
  v145 := Tryz.zeroValue398
  t167 := Tryz.underlying334
  a167 := Tryz.isAgg334
  z167 := Tryz.sizeOf334
  v167 := Tryz.zeroValue334
  t168 := Tryz.underlying337
  a168 := Tryz.isAgg337
  z168 := Tryz.sizeOf337
  v168 := Tryz.zeroValue337
  t171 := Tryz.underlying177
  a171 := Tryz.isAgg177
  z171 := Tryz.sizeOf177
  v171 := Tryz.zeroValue177
  t173 := Tryz.underlying182
  a173 := Tryz.isAgg182
  z173 := Tryz.sizeOf182
  v173 := Tryz.zeroValue182
  t175 := Tryz.underlying370
  a175 := Tryz.isAgg370
  z175 := Tryz.sizeOf370
  v175 := Tryz.zeroValue370
  t210 := Tryz.underlying373
  a210 := Tryz.isAgg373
  z210 := Tryz.sizeOf373
  v210 := Tryz.zeroValue373
  t212 := Tryz.underlying252
  a212 := Tryz.isAgg252
  z212 := Tryz.sizeOf252
  v212 := Tryz.zeroValue252
  t213 := Tryz.underlying253
  a213 := Tryz.isAgg253
  z213 := Tryz.sizeOf253
  t232 := Tryz.underlying355
  a232 := Tryz.isAgg355
  z232 := Tryz.sizeOf355
  v232 := Tryz.zeroValue355
  t233 := Tryz.underlying356
  a233 := Tryz.isAgg356
  z233 := Tryz.sizeOf356
  v233 := Tryz.zeroValue356
  g15 := by kernel_rfl
  g16 := by kernel_rfl
  g17 := by kernel_rfl
  g18 := by kernel_rfl
  g19 := by kernel_rfl }
def Ud : FnT := RX
theorem ZM : OkF Tryz.prog 121 Ud := okAtoi Lay121 rfl Tryz.call121
def PT : Go.Shelf.Ren := ⟨fun | 146 => 67 | 221 => 113 | 268 => 163 | 138 => 164 | 143 => 165 | 195 => 211 | 197 => 212 | 218 => 213 | 219 => 214 | 260 => 260 | 217 => 261 | 225 => 262 | 224 => 263 | 267 => 264 | 266 => 292 | 314 => 293 | n => n, fun | 9 => 9 | 31 => 32 | 3 => 3 | 4 => 4 | 0 => 0 | 105 => 331 | 21 => 21 | 5 => 5 | 46 => 144 | 119 => 389 | 139 => 392 | 138 => 391 | 146 => 393 | 51 => 193 | n => n, fun | 1 => 6 | 3 => 9 | 4 => 10 | n => n⟩
theorem Lay67 : Go.Proofs.Lays.n146 Tryz.prog PT := {
  mixed := by kernel_rfl
  f138 := Tryz.func164.trans (congrArg some (by kernel_rfl))
  f143 := Tryz.func165.trans (congrArg some (by kernel_rfl))
  f146 := Tryz.func67.trans (congrArg some (by kernel_rfl))
  f195 := Tryz.func211.trans (congrArg some (by kernel_rfl))
  f197 := Tryz.func212.trans (congrArg some (by kernel_rfl))
  f217 := Tryz.func261.trans (congrArg some (by kernel_rfl))
  f218 := Tryz.func213.trans (congrArg some (by kernel_rfl))
  f219 := Tryz.func214.trans (congrArg some (by kernel_rfl))
  f221 := Tryz.func113.trans (congrArg some (by kernel_rfl))
  f224 := Tryz.func263.trans (congrArg some (by kernel_rfl))
  f225 := Tryz.func262.trans (congrArg some (by kernel_rfl))
  f260 := Tryz.func260.trans (congrArg some (by kernel_rfl))
  f266 := Tryz.func292.trans (congrArg some (by kernel_rfl))
  f267 := Tryz.func264.trans (congrArg some (by kernel_rfl))
  f268 := Tryz.func163.trans (congrArg some (by kernel_rfl))
  f314 := Tryz.func293.trans (congrArg some (by kernel_rfl))
  t0 := Tryz.underlying0
  a0 := Tryz.isAgg0
  z0 := Tryz.sizeOf0
  v0 := Tryz.zeroValue0
  t3 := Tryz.underlying3
  a3 := Tryz.isAgg3
  z3 := Tryz.sizeOf3
  v3 := Tryz.zeroValue3
  t4 := Tryz.underlying4
  a4 := Tryz.isAgg4
  z4 := Tryz.sizeOf4
  v4 := Tryz.zeroValue4
  t5 := Tryz.underlying5
  a5 := Tryz.isAgg5
  z5 := Tryz.sizeOf5
  v5 := Tryz.zeroValue5
  t9 := Tryz.underlying9
  a9 := Tryz.isAgg9
  z9 := Tryz.sizeOf9
  v9 := Tryz.zeroValue9
  t21 := Tryz.underlying21
  a21 := Tryz.isAgg21
  z21 := Tryz.sizeOf21
  v21 := Tryz.zeroValue21
  t31 := Tryz.underlying32
  a31 := Tryz.isAgg32
  z31 := Tryz.sizeOf32
  v31 := Tryz.zeroValue32
  t46 := Tryz.underlying144
  a46 := Tryz.isAgg144
  z46 := Tryz.sizeOf144
  v46 := Tryz.zeroValue144
  t51 := Tryz.underlying193
  a51 := Tryz.isAgg193
  z51 := Tryz.sizeOf193
  v51 := Tryz.zeroValue193
  t105 := Tryz.underlying331
  a105 := Tryz.isAgg331
  z105 := Tryz.sizeOf331
  v105 := Tryz.zeroValue331
  t119 := Tryz.underlying389
  a119 := Tryz.isAgg389
  z119 := Tryz.sizeOf389
  t138 := Tryz.underlying391
  a138 := Tryz.isAgg391
  z138 := Tryz.sizeOf391
  v138 := Tryz.zeroValue391
  t139 := Tryz.underlying392
  a139 := Tryz.isAgg392
  z139 := Tryz.sizeOf392
  v139 := Tryz.zeroValue392
  t146 := Tryz.underlying393
  a146 := Tryz.isAgg393
  z146 := Tryz.sizeOf393
  v146 := Tryz.zeroValue393
  g1 := by kernel_rfl
  g3 := by kernel_rfl
  g4 := by kernel_rfl }
def G67 : FnT := KA 6 9
theorem ok67 : OkF Tryz.prog 67 G67 := Vt Lay67 (by kernel_rfl) rfl rfl rfl Tryz.call67
def Lp : Go.Shelf.Ren := ⟨fun | 162 => 236 | 232 => 278 | 227 => 279 | 234 => 280 | 236 => 281 | 228 => 301 | 271 => 302 | 151 => 303 | 120 => 307 | 197 => 212 | 152 => 308 | 260 => 260 | 137 => 309 | 119 => 310 | 224 => 263 | 225 => 262 | 217 => 261 | 266 => 292 | n => n, fun | 9 => 9 | 4 => 4 | 3 => 3 | 5 => 5 | 117 => 380 | 116 => 379 | 0 => 0 | 124 => 383 | 21 => 21 | 105 => 331 | 46 => 144 | 119 => 389 | 139 => 392 | 138 => 391 | n => n, fun | 3 => 9 | 4 => 10 | n => n⟩
theorem Lay236 : Go.Proofs.Lays.n162 Tryz.prog Lp := {
  mixed := by kernel_rfl
  f119 := Tryz.func310.trans (congrArg some (by kernel_rfl))
  f120 := Tryz.func307.trans (congrArg some (by kernel_rfl))
  f137 := Tryz.func309.trans (congrArg some (by kernel_rfl))
  f151 := Tryz.func303.trans (congrArg some (by kernel_rfl))
  f152 := Tryz.func308.trans (congrArg some (by kernel_rfl))
  f162 := Tryz.func236.trans (congrArg some (by kernel_rfl))
  f197 := Tryz.func212.trans (congrArg some (by kernel_rfl))
  f217 := Tryz.func261.trans (congrArg some (by kernel_rfl))
  f224 := Tryz.func263.trans (congrArg some (by kernel_rfl))
  f225 := Tryz.func262.trans (congrArg some (by kernel_rfl))
  f227 := Tryz.func279.trans (congrArg some (by kernel_rfl))
  f228 := Tryz.func301.trans (congrArg some (by kernel_rfl))
  f232 := Tryz.func278.trans (congrArg some (by kernel_rfl))
  f234 := Tryz.func280.trans (congrArg some (by kernel_rfl))
  f236 := Tryz.func281.trans (congrArg some (by kernel_rfl))
  f260 := Tryz.func260.trans (congrArg some (by kernel_rfl))
  f266 := Tryz.func292.trans (congrArg some (by kernel_rfl))
  f271 := Tryz.func302.trans (congrArg some (by kernel_rfl))
  t0 := Tryz.underlying0
  a0 := Tryz.isAgg0
  z0 := Tryz.sizeOf0
  v0 := Tryz.zeroValue0
  t3 := Tryz.underlying3
  a3 := Tryz.isAgg3
  z3 := Tryz.sizeOf3
  v3 := Tryz.zeroValue3
  t4 := Tryz.underlying4
  a4 := Tryz.isAgg4
  z4 := Tryz.sizeOf4
  v4 := Tryz.zeroValue4
  t5 := Tryz.underlying5
  a5 := Tryz.isAgg5
  z5 := Tryz.sizeOf5
  v5 := Tryz.zeroValue5
  t9 := Tryz.underlying9
  a9 := Tryz.isAgg9
  z9 := Tryz.sizeOf9
  v9 := Tryz.zeroValue9
  t21 := Tryz.underlying21
  a21 := Tryz.isAgg21
  z21 := Tryz.sizeOf21
  v21 := Tryz.zeroValue21
  t46 := Tryz.underlying144
  a46 := Tryz.isAgg144
  z46 := Tryz.sizeOf144
  v46 := Tryz.zeroValue144
  t105 := Tryz.underlying331
  a105 := Tryz.isAgg331
  z105 := Tryz.sizeOf331
  v105 := Tryz.zeroValue331
  t116 := Tryz.underlying379
  a116 := Tryz.isAgg379
  z116 := Tryz.sizeOf379
  t117 := Tryz.underlying380
  a117 := Tryz.isAgg380
  z117 := Tryz.sizeOf380
  v117 := Tryz.zeroValue380
  t119 := Tryz.underlying389
  a119 := Tryz.isAgg389
  z119 := Tryz.sizeOf389
  t124 := Tryz.underlying383
  a124 := Tryz.isAgg383
  z124 := Tryz.sizeOf383
  v124 := Tryz.zeroValue383
  t138 := Tryz.underlying391
  a138 := Tryz.isAgg391
  z138 := Tryz.sizeOf391
  v138 := Tryz.zeroValue391
  t139 := Tryz.underlying392
  a139 := Tryz.isAgg392
  z139 := Tryz.sizeOf392
  v139 := Tryz.zeroValue392
  g3 := by kernel_rfl
  g4 := by kernel_rfl }
def G236 : FnT := Dr
theorem ok236 : OkF Tryz.prog 236 G236 := QM Lay236 rfl Tryz.call236
theorem ckU237 (b : Nat) (w : World) (h0 : w.cell? ⟨b, 0, none⟩ = some (.pointer (some ⟨b, 0, none⟩))) :
    Calls Tryz.prog 237 #[.pointer (some ⟨b, 0, none⟩)] w fun e w' => e = .returned (.tuple #[]) ∧ w' = w := by
  obtain ⟨j, hj, _⟩ := Option.map_eq_some_iff.1 (show (Tryz.prog.info? 293).map (·.size) = some 2 by kernel_rfl)
  go_enter Tryz.func237, Tryz.ntmps237
  go_wp2
  rw [Lib.run_neq_ptr_same w _ Tryz.underlying291 hj]
  go_wp2
  go_end0
  exact ⟨rfl, rfl⟩
theorem ckF237 (b : Nat) (w : World) (h0 : w.cell? ⟨b, 0, none⟩ = some (.pointer none)) (hsh : w.shape? b = some (293, 2)) (hfz : w.frozen? ⟨b, 0, none⟩ = false) :
    Calls Tryz.prog 237 #[.pointer (some ⟨b, 0, none⟩)] w fun e w' => e = .returned (.tuple #[]) ∧ w' = w.setCell ⟨b, 0, none⟩ (.pointer (some ⟨b, 0, none⟩)) := by
  obtain ⟨j, hj, hjs⟩ := Option.map_eq_some_iff.1 (show (Tryz.prog.info? 293).map (·.size) = some 2 by kernel_rfl)
  go_enter Tryz.func237, Tryz.ntmps237
  go_wp2
  rw [Lib.run_to_unsafe w ⟨b, 0, none⟩ Tryz.underlying291 Tryz.underlying384 hj (by rw [hjs]; decide) hsh (Nat.zero_lt_succ 1)]
  simp only [Result.andThen]
  rw [Oper.upon_value]
  go_wp2
  rw [run_callFunc_extern Tryz.func282 (by kernel_rfl) (by kernel_rfl) (by kernel_rfl) (e := Extern.AbiNoEscape.same) (by kernel_rfl), Lib.run_noEscape]
  simp only [Result.andThen]
  rw [Oper.upon_value]
  go_wp2
  rw [Lib.run_from_unsafe w ⟨b, 0, none⟩ Tryz.underlying384 Tryz.underlying291 hj hsh (by kernel_rfl)]
  simp only [Result.andThen]
  rw [Oper.upon_value]
  go_wp2
  go_end0
  exact ⟨rfl, rfl⟩
def Lv : FnT := Du 293
theorem QT : OkF Tryz.prog 237 Lv := QO ckU237 ckF237 Tryz.call237
def T180 : List (Nat × FnT) := [(237, Lv)]
def YP (x0 x1 : Value) (w : World) (K : V1) : Prop :=
ai Lv [x0] w fun _ w1 =>
aa (cZ x0) fun v3 =>
aa (ae 1 v3) fun v4 =>
aa (ld1 v4 w1) fun v5 =>
aB Tryz.prog 181 1 [(0, x1)] w1 fun v7 w6 =>
aJ Tryz.prog 181 181 v5 v7 w6 fun v9 w8 =>
aa (cZ x0) fun v10 =>
aa (ae 1 v10) fun v11 =>
bF (st 1 v11 v9 w8) fun w12 =>
K .nilIface w12
def DW : FnT := fun args w K => on2 (fun x0 x1 => YP x0 x1 w K) args
theorem c180 {x0 x1 : Value} {w : World} {K : V1} (h : YP x0 x1 w K) : ai DW [x0, x1] w K := aj (dm (p := fun x0 x1 => YP x0 x1 w K) h)
theorem ok180 : OkF Tryz.prog 180 DW := by
  refine aO (aN (l := T180) ⟨QT, trivial⟩) mixed (n := fuel) Tryz.func180 Tryz.call180 fun args w K h => ?_
  obtain ⟨x0, x1, rfl, hh⟩ := dn h
  exact az (c := ah Tryz.f180) (by kernel_rfl) (by kernel_rfl) (Eq.mp (by kernel_rfl) hh)
def T181 : List (Nat × FnT) := [(237, Lv)]
def YO (x0 x1 : Value) (w : World) (K : V1) : Prop :=
ai Lv [x0] w fun _ w1 =>
aa (cZ x0) fun v3 =>
aa (ae 1 v3) fun v4 =>
aa (ld1 v4 w1) fun v5 =>
aJ Tryz.prog 181 9 v5 x1 w1 fun v7 w6 =>
aa (cZ x0) fun v8 =>
aa (ae 1 v8) fun v9 =>
bF (st 1 v9 v7 w6) fun w10 =>
aa (ik x1) fun v12 =>
K (.tuple #[v12, .nilIface]) w10
def zM : FnT := fun args w K => on2 (fun x0 x1 => YO x0 x1 w K) args
theorem c181 {x0 x1 : Value} {w : World} {K : V1} (h : YO x0 x1 w K) : ai zM [x0, x1] w K := aj (dm (p := fun x0 x1 => YO x0 x1 w K) h)
theorem ZG : OkF Tryz.prog 181 zM := by
  refine aO (aN (l := T181) ⟨QT, trivial⟩) mixed (n := fuel) Tryz.func181 Tryz.call181 fun args w K h => ?_
  obtain ⟨x0, x1, rfl, hh⟩ := dn h
  exact az (c := ah Tryz.f181) (by kernel_rfl) (by kernel_rfl) (Eq.mp (by kernel_rfl) hh)
theorem bsC182 (b : Nat) (p v : Value) (w : World) (r : Value) (w2 : World) (hbk : w.heap[b]? = some (.cells #[p, v] 293 (0, 0))) (n : Nat) (q : Value) (hlen : ∃ a c, v = .slice a n c)
    (hSD : (Builtin.unsafeSliceData_ #[181] 354 #[v]).run Tryz.prog w.drew = .ok q w.drew)
    (hUS : (Builtin.unsafeString_ #[354, 3] 9 #[q, .int .i64 n]).run Tryz.prog w.drew = .ok r w2) :
    Calls Tryz.prog 182 #[.pointer (some ⟨b, 0, none⟩)] w fun e w' => e = .returned r ∧ w' = w2 := by
  obtain ⟨a, c, rfl⟩ := hlen
  have c1 : w.drew.cell? ⟨b, 1, none⟩ = some (.slice a n c) := by
    have : w.drew.heap[b]? = some (.cells #[p, .slice a n c] 293 (0, 0)) := hbk
    rw [Lib.cell_of_heap this]; rfl
  have mixed := mixed
  go_enter Tryz.func182, Tryz.ntmps182
  go_wp2
  go_region_o
  all_goals (go_wp2; go_ret; exact ⟨rfl, rfl⟩)
def TG : FnT := zb 293 5
theorem ZF : OkF Tryz.prog 182 TG := OI (tb := 181) (tp := 354) (ti := 3) (ts := 9) Tryz.underlying354 (by kernel_rfl) bsC182 Tryz.call182
def zI : Go.Shelf.Ren := ⟨fun | 241 => 238 | 277 => 283 | n => n, fun | 70 => 291 | 3 => 3 | 0 => 0 | 72 => 293 | 37 => 181 | 5 => 5 | n => n, fun | n => n⟩
theorem Lay238 : Go.Proofs.Lays.n241 Tryz.prog zI := {
  mixed := by kernel_rfl
  f241 := Tryz.func238.trans (congrArg some (by kernel_rfl))
  f277 := Tryz.func283.trans (congrArg some (by kernel_rfl))
  t0 := Tryz.underlying0
  a0 := Tryz.isAgg0
  z0 := Tryz.sizeOf0
  v0 := Tryz.zeroValue0
  t3 := Tryz.underlying3
  a3 := Tryz.isAgg3
  z3 := Tryz.sizeOf3
  v3 := Tryz.zeroValue3
  t37 := Tryz.underlying181
  a37 := Tryz.isAgg181
  z37 := Tryz.sizeOf181
  v37 := Tryz.zeroValue181
  t70 := Tryz.underlying291
  a70 := Tryz.isAgg291
  z70 := Tryz.sizeOf291
  v70 := Tryz.zeroValue291
  t72 := Tryz.underlying293
  a72 := Tryz.isAgg293
  z72 := Tryz.sizeOf293
  v72 := Tryz.zeroValue293 }
theorem XB238 : Builder.Extra Tryz.prog zI where
  sizeBuilder := by kernel_rfl
  liesBuilder := by kernel_rfl
  t5 := by kernel_rfl
  a5 := fun w => by kernel_rfl
  z5 := fun w => by kernel_rfl
  v5 := fun w => by kernel_rfl
  infoByte := by kernel_rfl
  cellsByte := by kernel_rfl
  sizeByte := by kernel_rfl
  neB5 := by decide
def G238 : FnT := KE 293 5
theorem ok238 : OkF Tryz.prog 238 G238 := Vy Lay238 XB238 rfl rfl rfl Tryz.call238
def Te : List (Nat × FnT) := [(237, Lv), (238, G238)]
def EQ (s0 s1 : Value) (w : World) (K : V1) : Prop :=
aa (cZ s0) fun v1 =>
aa (ae 1 v1) fun v2 =>
aa (ld1 v2 w.drew) fun v3 =>
aa (Vo v3) fun v4 =>
aa (cZ s0) fun v5 =>
aa (ae 1 v5) fun v6 =>
aa (ld1 v6 w.drew) fun v7 =>
aa (bI v7) fun v8 =>
aa (jK v4 v8) fun v9 =>
aa (bLt v9 s1) fun v10 =>
ifB v10 (
ai G238 [s0, s1] w.drew fun _ w11 =>
K (.tuple #[]) w11) (
K (.tuple #[]) w.drew)
def Ad (s0 s1 : Value) (w : World) (K : V1) : Prop := EQ s0 s1 w K
theorem Wy {K : V1}
    (hn : HN (fun e w => K (.tuple #[]) w) kn) (hr : HR Tryz.prog [] K kr) (he : HE noE ke) :
    ∀ e w, Ad (e 0) (e 1) w K → aA Tryz.prog (au Te) 25 fuel ((flat (ah Tryz.f183)).drop 3) e w kn kr ke := by
  intro e w h
  unfold Ad at h
  have e1 : ∀ (_ : Unit), EQ (e 0) (e 1) w K = aA Tryz.prog (au Te) 25 fuel ((flat (ah Tryz.f183)).drop 3) e w (fun e w => K (.tuple #[]) w) (aW Tryz.prog [] K) noE := by intro _; kernel_rfl
  exact bQ (Eq.mp (e1 ()) h) hn hr he
def ER (s0 s1 : Value) (w : World) (_K : V1) (Y0 : V2) : Prop :=
ai Lv [s0] w fun _ w13 =>
aa (bLt s1 (.int .i64 0)) fun v15 =>
ifB v15 (
aa (Pv Tryz.prog 9 (.string ⟨#[115, 116, 114, 105, 110, 103, 115, 46, 66, 117, 105, 108, 100, 101, 114, 46, 71, 114, 111, 119, 58, 32, 110, 101, 103, 97, 116, 105, 118, 101, 32, 99, 111, 117, 110, 116]⟩)) fun _ =>
aa (none) fun _ =>
Y0 s0 s1 w13) (
Y0 s0 s1 w13)
def ES (s0 s1 : Value) (w : World) (K : V1) : Prop := ER s0 s1 w K (fun a0 a1 w => Ad a0 a1 w K)
theorem Wz {K : V1}
    (hn : HN (fun e w => K (.tuple #[]) w) kn) (hr : HR Tryz.prog [] K kr) (he : HE noE ke) :
    ∀ e w, ES (e 0) (e 1) w K → aA Tryz.prog (au Te) 25 fuel ((flat (ah Tryz.f183)).drop 0) e w kn kr ke := by
  intro e w h
  unfold ES at h
  have e1 : ∀ (Y0 : V2), ER (e 0) (e 1) w K Y0 = aA Tryz.prog (au Te) 25 fuel (((flat (ah Tryz.f183)).drop 0).take 3) e w (fun e w => Y0 (e 0) (e 1) w) (aW Tryz.prog [] K) noE := by intro Y0; kernel_rfl
  exact seg 3 (Eq.mp (e1 (fun a0 a1 w => Ad a0 a1 w K)) h) (fun e w h => Wy hn hr he e w h) hr he
def UO (x0 x1 : Value) (w : World) (K : V1) : Prop := ES x0 x1 w K
def TF : FnT := fun args w K => on2 (fun x0 x1 => UO x0 x1 w K) args
theorem c183 {x0 x1 : Value} {w : World} {K : V1} (h : UO x0 x1 w K) : ai TF [x0, x1] w K := aj (dm (p := fun x0 x1 => UO x0 x1 w K) h)
theorem ok183 : OkF Tryz.prog 183 TF := by
  refine aO (aN (l := Te) ⟨QT, ok238, trivial⟩) mixed (n := fuel) Tryz.func183 Tryz.call183 fun args w K h => ?_
  obtain ⟨x0, x1, rfl, hh⟩ := dn h
  unfold UO at hh
  exact az (c := ah Tryz.f183) (by kernel_rfl) (by kernel_rfl) (Wz (fun _ _ h => h) (fun _ _ h => h) (fun _ _ _ h => h) (dD [x0, x1]) w hh)
def jb : List (Nat × FnT) := [(181, zM), (182, TG), (183, TF)]
def Fs (s8 : Value) (w : World) (K : V1) : Prop :=
ai TG [s8] w fun v2 w1 =>
K v2 w1
def vN (s8 : Value) (w : World) (K : V1) : Prop := Fs s8 w K
theorem WZ {K : V1}
    (hn : HN (fun e w => K (e 4) w) kn) (hr : HR Tryz.prog [.tmp 4] K kr) (he : HE noE ke) :
    ∀ e w, vN (e 8) w K → aA Tryz.prog (au jb) 75 fuel ((flat (ah Tryz.f134)).drop 13) e w kn kr ke := by
  intro e w h
  unfold vN at h
  have e1 : ∀ (_ : Unit), Fs (e 8) w K = aA Tryz.prog (au jb) 75 fuel ((flat (ah Tryz.f134)).drop 13) e w (fun e w => K (e 4) w) (aW Tryz.prog [.tmp 4] K) noE := by intro _; kernel_rfl
  exact bQ (Eq.mp (e1 ()) h) hn hr he
def xP (s1 s8 s63 s64 s65 : Value) (w : World) (_K : V1) (Y0 : V5) (Y1 : V1) : Prop :=
aa (bLt s65 s64) fun v3 =>
ifB v3 (
aa (bq 1 s63 s65) fun v4 =>
aa (ld1 v4 w) fun v5 =>
ai zM [s8, s1] w fun _ w6 =>
ai zM [s8, v5] w6 fun _ w8 =>
aa (bH s65 (.int .i64 1)) fun v10 =>
Y0 s1 s8 s63 s64 v10 w8) (
Y1 s8 w)
def ko : Nat → Value → Value → Value → Value → Value → World → (V1) → Prop
  | 0, _, _, _, _, _, _, _ => False
  | n + 1, s1, s8, s63, s64, s65, w, K => xP s1 s8 s63 s64 s65 w K (fun a1 a8 a63 a64 a65 w => ko n a1 a8 a63 a64 a65 w K) (fun a8 w => vN a8 w K)
def Ao (s1 s8 s63 s64 s65 : Value) (w : World) (K : V1) : Prop := ko fuel s1 s8 s63 s64 s65 w K
theorem W9 {K : V1}
    (hn : HN (fun e w => K (e 4) w) kn) (hr : HR Tryz.prog [.tmp 4] K kr) (he : HE noE ke) :
    ∀ e w, Ao (e 1) (e 8) (e 63) (e 64) (e 65) w K → aA Tryz.prog (au jb) 75 fuel ((flat (ah Tryz.f134)).drop 12) e w kn kr ke := by
  intro e w h
  unfold Ao at h
  refine bM (id := 3) (body := (aU (bi (aV (flat (ah Tryz.f134)) 12)))) (l2 := (flat (ah Tryz.f134)).drop 13) (by kernel_rfl) ?_
  refine bV (FL := fun m e w => ko m (e 1) (e 8) (e 63) (e 64) (e 65) w K) (fr := aW Tryz.prog [.tmp 4] K) (fe := (bB 3 (fun e w => vN (e 8) w K) noE)) (fun _ _ h => h) ?_ hr (bD (fun e w h => WZ hn hr he e w h) he) fuel e w h
  intro m e w h
  have h : ko (m + 1) (e 1) (e 8) (e 63) (e 64) (e 65) w K := h
  rw [ko] at h
  have e1 : ∀ (Y0 : V5) (Y1 : V1), xP (e 1) (e 8) (e 63) (e 64) (e 65) w K Y0 Y1 = aA Tryz.prog (au jb) 75 fuel (flat (aU (bi (aV (flat (ah Tryz.f134)) 12)))) e w (fun e w => Y0 (e 1) (e 8) (e 63) (e 64) (e 65) w) (aW Tryz.prog [.tmp 4] K) (bB 3 (fun e w => Y1 (e 8) w) noE) := by intro Y0 Y1; kernel_rfl
  exact Eq.mp (e1 (fun a1 a8 a63 a64 a65 w => ko m a1 a8 a63 a64 a65 w K) (fun a8 w => vN a8 w K)) h
def Fu (s0 s1 s5 : Value) (w : World) (_K : V1) (Y0 : V5) : Prop :=
aY Tryz.prog 293 w fun v12 w11 =>
ai TF [v12, s5] w11 fun _ w13 =>
aa (bq 1 s0 (.int .i64 0)) fun v15 =>
aa (ld1 v15 w13) fun v16 =>
ai zM [v12, v16] w13 fun _ w17 =>
aa (dZ 1 s0 (some (.int .i64 1)) none none) fun v19 =>
aa (bI v19) fun v20 =>
Y0 s1 v12 v19 v20 (.int .i64 0) w17
def iH (s0 s1 s5 : Value) (w : World) (K : V1) : Prop := Fu s0 s1 s5 w K (fun a1 a8 a63 a64 a65 w => Ao a1 a8 a63 a64 a65 w K)
theorem Xa {K : V1}
    (hn : HN (fun e w => K (e 4) w) kn) (hr : HR Tryz.prog [.tmp 4] K kr) (he : HE noE ke) :
    ∀ e w, iH (e 0) (e 1) (e 5) w K → aA Tryz.prog (au jb) 75 fuel ((flat (ah Tryz.f134)).drop 8) e w kn kr ke := by
  intro e w h
  unfold iH at h
  have e1 : ∀ (Y0 : V5), Fu (e 0) (e 1) (e 5) w K Y0 = aA Tryz.prog (au jb) 75 fuel (((flat (ah Tryz.f134)).drop 8).take 4) e w (fun e w => Y0 (e 1) (e 8) (e 63) (e 64) (e 65) w) (aW Tryz.prog [.tmp 4] K) noE := by intro Y0; kernel_rfl
  exact seg 4 (Eq.mp (e1 (fun a1 a8 a63 a64 a65 w => Ao a1 a8 a63 a64 a65 w K)) h) (fun e w h => W9 hn hr he e w h) hr he
def Ay (s0 s1 s5 s39 s40 s41 : Value) (w : World) (_K : V1) (R7 : V6) : Prop :=
aa (bH s41 (.int .i64 1)) fun v21 =>
R7 s0 s1 s5 s39 s40 v21 w
def jD (s0 s1 s5 s39 s40 s41 : Value) (w : World) (K : V1) (R7 : V6) : Prop := Ay s0 s1 s5 s39 s40 s41 w K R7
theorem GG (R7 : V6) {K : V1}
    (hn : HN (fun e w => R7 (e 0) (e 1) (e 5) (e 39) (e 40) (e 41) w) kn) (hr : HR Tryz.prog [.tmp 4] K kr) (he : HE (bB 1 (fun e w => iH (e 0) (e 1) (e 5) w K) noE) ke) :
    ∀ e w, jD (e 0) (e 1) (e 5) (e 39) (e 40) (e 41) w K R7 → aA Tryz.prog (au jb) 75 fuel ((flat (aU (bi (aV (flat (ah Tryz.f134)) 7)))).drop 3) e w kn kr ke := by
  intro e w h
  unfold jD at h
  have e1 : ∀ (_ : Unit), Ay (e 0) (e 1) (e 5) (e 39) (e 40) (e 41) w K R7 = aA Tryz.prog (au jb) 75 fuel ((flat (aU (bi (aV (flat (ah Tryz.f134)) 7)))).drop 3) e w (fun e w => R7 (e 0) (e 1) (e 5) (e 39) (e 40) (e 41) w) (aW Tryz.prog [.tmp 4] K) (bB 1 (fun e w => iH (e 0) (e 1) (e 5) w K) noE) := by intro _; kernel_rfl
  exact bQ (Eq.mp (e1 ()) h) hn hr he
def Av (s0 s1 s5 s7 s39 s40 s41 : Value) (w : World) (_K : V1) (R7 : V6) (Y0 : V6) : Prop :=
aa (ik s7) fun v22 =>
aa (bH s5 v22) fun v23 =>
Y0 s0 s1 v23 s39 s40 s41 w
def ut (s0 s1 s5 s7 s39 s40 s41 : Value) (w : World) (K : V1) (R7 : V6) : Prop := Av s0 s1 s5 s7 s39 s40 s41 w K R7 (fun a0 a1 a5 a39 a40 a41 w => jD a0 a1 a5 a39 a40 a41 w K R7)
theorem Q3 (R7 : V6) {K : V1}
    (hn : HN (fun e w => jD (e 0) (e 1) (e 5) (e 39) (e 40) (e 41) w K R7) kn) (hr : HR Tryz.prog [.tmp 4] K kr) (he : HE (bB 2 (fun e w => jD (e 0) (e 1) (e 5) (e 39) (e 40) (e 41) w K R7) (bB 1 (fun e w => iH (e 0) (e 1) (e 5) w K) noE)) ke) :
    ∀ e w, ut (e 0) (e 1) (e 5) (e 7) (e 39) (e 40) (e 41) w K R7 → aA Tryz.prog (au jb) 75 fuel ((flat (bi (aV (flat (aU (bi (aV (flat (ah Tryz.f134)) 7)))) 2))).drop 3) e w kn kr ke := by
  intro e w h
  unfold ut at h
  have e1 : ∀ (Y0 : V6), Av (e 0) (e 1) (e 5) (e 7) (e 39) (e 40) (e 41) w K R7 Y0 = aA Tryz.prog (au jb) 75 fuel ((flat (bi (aV (flat (aU (bi (aV (flat (ah Tryz.f134)) 7)))) 2))).drop 3) e w (fun e w => Y0 (e 0) (e 1) (e 5) (e 39) (e 40) (e 41) w) (aW Tryz.prog [.tmp 4] K) (bB 2 (fun e w => Y0 (e 0) (e 1) (e 5) (e 39) (e 40) (e 41) w) (bB 1 (fun e w => iH (e 0) (e 1) (e 5) w K) noE)) := by intro Y0; kernel_rfl
  exact bQ (Eq.mp (e1 (fun a0 a1 a5 a39 a40 a41 w => jD a0 a1 a5 a39 a40 a41 w K R7)) h) hn hr he
def Aw (s0 s1 s5 s39 s40 s41 : Value) (w : World) (_K : V1) (R7 : V6) (Y0 : V7) : Prop :=
aa (bq 1 s39 s41) fun v24 =>
aa (ld1 v24 w) fun v25 =>
aa (ik v25) fun v26 =>
aa (jK (.int .i64 9223372036854775807) s5) fun v27 =>
aa (bGt v26 v27) fun v28 =>
ifB v28 (
aa (Pv Tryz.prog 9 (.string ⟨#[115, 116, 114, 105, 110, 103, 115, 58, 32, 74, 111, 105, 110, 32, 111, 117, 116, 112, 117, 116, 32, 108, 101, 110, 103, 116, 104, 32, 111, 118, 101, 114, 102, 108, 111, 119]⟩)) fun _ =>
aa (none) fun _ =>
Y0 s0 s1 s5 v25 s39 s40 s41 w) (
Y0 s0 s1 s5 v25 s39 s40 s41 w)
def xR (s0 s1 s5 s39 s40 s41 : Value) (w : World) (K : V1) (R7 : V6) : Prop := Aw s0 s1 s5 s39 s40 s41 w K R7 (fun a0 a1 a5 a7 a39 a40 a41 w => ut a0 a1 a5 a7 a39 a40 a41 w K R7)
theorem Q4 (R7 : V6) {K : V1}
    (hn : HN (fun e w => jD (e 0) (e 1) (e 5) (e 39) (e 40) (e 41) w K R7) kn) (hr : HR Tryz.prog [.tmp 4] K kr) (he : HE (bB 2 (fun e w => jD (e 0) (e 1) (e 5) (e 39) (e 40) (e 41) w K R7) (bB 1 (fun e w => iH (e 0) (e 1) (e 5) w K) noE)) ke) :
    ∀ e w, xR (e 0) (e 1) (e 5) (e 39) (e 40) (e 41) w K R7 → aA Tryz.prog (au jb) 75 fuel ((flat (bi (aV (flat (aU (bi (aV (flat (ah Tryz.f134)) 7)))) 2))).drop 0) e w kn kr ke := by
  intro e w h
  unfold xR at h
  have e1 : ∀ (Y0 : V7), Aw (e 0) (e 1) (e 5) (e 39) (e 40) (e 41) w K R7 Y0 = aA Tryz.prog (au jb) 75 fuel (((flat (bi (aV (flat (aU (bi (aV (flat (ah Tryz.f134)) 7)))) 2))).drop 0).take 3) e w (fun e w => Y0 (e 0) (e 1) (e 5) (e 7) (e 39) (e 40) (e 41) w) (aW Tryz.prog [.tmp 4] K) (bB 2 (fun e w => jD (e 0) (e 1) (e 5) (e 39) (e 40) (e 41) w K R7) (bB 1 (fun e w => iH (e 0) (e 1) (e 5) w K) noE)) := by intro Y0; kernel_rfl
  exact seg 3 (Eq.mp (e1 (fun a0 a1 a5 a7 a39 a40 a41 w => ut a0 a1 a5 a7 a39 a40 a41 w K R7)) h) (fun e w h => Q3 R7 hn hr he e w h) hr he
def Al (s0 s1 s5 s39 s40 s41 : Value) (w : World) (K : V1) (R7 : V6) : Prop := xR s0 s1 s5 s39 s40 s41 w K R7
theorem WX (R7 : V6) {K : V1}
    (hn : HN (fun e w => R7 (e 0) (e 1) (e 5) (e 39) (e 40) (e 41) w) kn) (hr : HR Tryz.prog [.tmp 4] K kr) (he : HE (bB 1 (fun e w => iH (e 0) (e 1) (e 5) w K) noE) ke) :
    ∀ e w, Al (e 0) (e 1) (e 5) (e 39) (e 40) (e 41) w K R7 → aA Tryz.prog (au jb) 75 fuel ((flat (aU (bi (aV (flat (ah Tryz.f134)) 7)))).drop 2) e w kn kr ke := by
  intro e w h
  unfold Al at h
  refine pE (id := 2) (body := (bi (aV (flat (aU (bi (aV (flat (ah Tryz.f134)) 7)))) 2))) (l2 := (flat (aU (bi (aV (flat (ah Tryz.f134)) 7)))).drop 3) (by kernel_rfl) ?_
  exact Q4 R7 (fun e w h => GG R7 hn hr he e w h) hr (bD (fun e w h => GG R7 hn hr he e w h) he) e w h
def xO (s0 s1 s5 s39 s40 s41 : Value) (w : World) (_K : V1) (R7 : V6) (Y0 : V6) (Y1 : V3) : Prop :=
aa (bLt s41 s40) fun v31 =>
ifB v31 (
Y0 s0 s1 s5 s39 s40 s41 w) (
Y1 s0 s1 s5 w)
def Am (s0 s1 s5 s39 s40 s41 : Value) (w : World) (K : V1) (R7 : V6) : Prop := xO s0 s1 s5 s39 s40 s41 w K R7 (fun a0 a1 a5 a39 a40 a41 w => Al a0 a1 a5 a39 a40 a41 w K R7) (fun a0 a1 a5 w => iH a0 a1 a5 w K)
theorem WY (R7 : V6) {K : V1}
    (hn : HN (fun e w => R7 (e 0) (e 1) (e 5) (e 39) (e 40) (e 41) w) kn) (hr : HR Tryz.prog [.tmp 4] K kr) (he : HE (bB 1 (fun e w => iH (e 0) (e 1) (e 5) w K) noE) ke) :
    ∀ e w, Am (e 0) (e 1) (e 5) (e 39) (e 40) (e 41) w K R7 → aA Tryz.prog (au jb) 75 fuel ((flat (aU (bi (aV (flat (ah Tryz.f134)) 7)))).drop 0) e w kn kr ke := by
  intro e w h
  unfold Am at h
  have e1 : ∀ (Y0 : V6) (Y1 : V3), xO (e 0) (e 1) (e 5) (e 39) (e 40) (e 41) w K R7 Y0 Y1 = aA Tryz.prog (au jb) 75 fuel (((flat (aU (bi (aV (flat (ah Tryz.f134)) 7)))).drop 0).take 2) e w (fun e w => Y0 (e 0) (e 1) (e 5) (e 39) (e 40) (e 41) w) (aW Tryz.prog [.tmp 4] K) (bB 1 (fun e w => Y1 (e 0) (e 1) (e 5) w) noE) := by intro Y0 Y1; kernel_rfl
  exact seg 2 (Eq.mp (e1 (fun a0 a1 a5 a39 a40 a41 w => Al a0 a1 a5 a39 a40 a41 w K R7) (fun a0 a1 a5 w => iH a0 a1 a5 w K)) h) (fun e w h => WX R7 hn hr he e w h) hr he
def ku : Nat → Value → Value → Value → Value → Value → Value → World → (V1) → Prop
  | 0, _, _, _, _, _, _, _, _ => False
  | n + 1, s0, s1, s5, s39, s40, s41, w, K => Am s0 s1 s5 s39 s40 s41 w K (fun a0 a1 a5 a39 a40 a41 w => ku n a0 a1 a5 a39 a40 a41 w K)
def Ap (s0 s1 s5 s39 s40 s41 : Value) (w : World) (K : V1) : Prop := ku fuel s0 s1 s5 s39 s40 s41 w K
theorem Xb {K : V1}
    (hn : HN (fun e w => K (e 4) w) kn) (hr : HR Tryz.prog [.tmp 4] K kr) (he : HE noE ke) :
    ∀ e w, Ap (e 0) (e 1) (e 5) (e 39) (e 40) (e 41) w K → aA Tryz.prog (au jb) 75 fuel ((flat (ah Tryz.f134)).drop 7) e w kn kr ke := by
  intro e w h
  unfold Ap at h
  refine bM (id := 1) (body := (aU (bi (aV (flat (ah Tryz.f134)) 7)))) (l2 := (flat (ah Tryz.f134)).drop 8) (by kernel_rfl) ?_
  refine bV (FL := fun m e w => ku m (e 0) (e 1) (e 5) (e 39) (e 40) (e 41) w K) (fr := aW Tryz.prog [.tmp 4] K) (fe := (bB 1 (fun e w => iH (e 0) (e 1) (e 5) w K) noE)) (fun _ _ h => h) ?_ hr (bD (fun e w h => Xa hn hr he e w h) he) fuel e w h
  intro m e w h
  have h : ku (m + 1) (e 0) (e 1) (e 5) (e 39) (e 40) (e 41) w K := h
  rw [ku] at h
  exact WY (fun a0 a1 a5 a39 a40 a41 w => ku m a0 a1 a5 a39 a40 a41 w K) (fun _ _ h => h) (fun _ _ h => h) (fun _ _ _ h => h) e w h
def Fv (s0 s1 s5 : Value) (w : World) (_K : V1) (Y0 : V6) : Prop :=
aa (bI s0) fun v32 =>
Y0 s0 s1 s5 s0 v32 (.int .i64 0) w
def l8 (s0 s1 s5 : Value) (w : World) (K : V1) : Prop := Fv s0 s1 s5 w K (fun a0 a1 a5 a39 a40 a41 w => Ap a0 a1 a5 a39 a40 a41 w K)
theorem MX {K : V1}
    (hn : HN (fun e w => K (e 4) w) kn) (hr : HR Tryz.prog [.tmp 4] K kr) (he : HE noE ke) :
    ∀ e w, l8 (e 0) (e 1) (e 5) w K → aA Tryz.prog (au jb) 75 fuel ((flat (ah Tryz.f134)).drop 6) e w kn kr ke := by
  intro e w h
  unfold l8 at h
  have e1 : ∀ (Y0 : V6), Fv (e 0) (e 1) (e 5) w K Y0 = aA Tryz.prog (au jb) 75 fuel (((flat (ah Tryz.f134)).drop 6).take 1) e w (fun e w => Y0 (e 0) (e 1) (e 5) (e 39) (e 40) (e 41) w) (aW Tryz.prog [.tmp 4] K) noE := by intro Y0; kernel_rfl
  exact seg 1 (Eq.mp (e1 (fun a0 a1 a5 a39 a40 a41 w => Ap a0 a1 a5 a39 a40 a41 w K)) h) (fun e w h => Xb hn hr he e w h) hr he
def Ar (s0 s1 s5 : Value) (w : World) (_K : V1) (Y0 : V3) : Prop :=
aa (ik s1) fun v33 =>
aa (bI s0) fun v34 =>
aa (jK v34 (.int .i64 1)) fun v35 =>
aa (nP v33 v35) fun v36 =>
aa (bH s5 v36) fun v37 =>
Y0 s0 s1 v37 w
def uq (s0 s1 s5 : Value) (w : World) (K : V1) : Prop := Ar s0 s1 s5 w K (fun a0 a1 a5 w => l8 a0 a1 a5 w K)
theorem QZ {K : V1}
    (hn : HN (fun e w => l8 (e 0) (e 1) (e 5) w K) kn) (hr : HR Tryz.prog [.tmp 4] K kr) (he : HE noE ke) :
    ∀ e w, uq (e 0) (e 1) (e 5) w K → aA Tryz.prog (au jb) 75 fuel ((flat (nR (aV (flat (ah Tryz.f134)) 5))).drop 2) e w kn kr ke := by
  intro e w h
  unfold uq at h
  have e1 : ∀ (Y0 : V3), Ar (e 0) (e 1) (e 5) w K Y0 = aA Tryz.prog (au jb) 75 fuel ((flat (nR (aV (flat (ah Tryz.f134)) 5))).drop 2) e w (fun e w => Y0 (e 0) (e 1) (e 5) w) (aW Tryz.prog [.tmp 4] K) noE := by intro Y0; kernel_rfl
  exact bQ (Eq.mp (e1 (fun a0 a1 a5 w => l8 a0 a1 a5 w K)) h) hn hr he
def Au (s0 s1 s5 : Value) (w : World) (_K : V1) (Y0 : V3) : Prop :=
aa (ik s1) fun v38 =>
aa (bI s0) fun v39 =>
aa (jK v39 (.int .i64 1)) fun v40 =>
aa (iM (.int .i64 9223372036854775807) v40) fun v41 =>
aa (bGe v38 v41) fun v42 =>
ifB v42 (
aa (Pv Tryz.prog 9 (.string ⟨#[115, 116, 114, 105, 110, 103, 115, 58, 32, 74, 111, 105, 110, 32, 111, 117, 116, 112, 117, 116, 32, 108, 101, 110, 103, 116, 104, 32, 111, 118, 101, 114, 102, 108, 111, 119]⟩)) fun _ =>
aa (none) fun _ =>
Y0 s0 s1 s5 w) (
Y0 s0 s1 s5 w)
def xQ (s0 s1 s5 : Value) (w : World) (K : V1) : Prop := Au s0 s1 s5 w K (fun a0 a1 a5 w => uq a0 a1 a5 w K)
theorem Q0 {K : V1}
    (hn : HN (fun e w => l8 (e 0) (e 1) (e 5) w K) kn) (hr : HR Tryz.prog [.tmp 4] K kr) (he : HE noE ke) :
    ∀ e w, xQ (e 0) (e 1) (e 5) w K → aA Tryz.prog (au jb) 75 fuel ((flat (nR (aV (flat (ah Tryz.f134)) 5))).drop 0) e w kn kr ke := by
  intro e w h
  unfold xQ at h
  have e1 : ∀ (Y0 : V3), Au (e 0) (e 1) (e 5) w K Y0 = aA Tryz.prog (au jb) 75 fuel (((flat (nR (aV (flat (ah Tryz.f134)) 5))).drop 0).take 2) e w (fun e w => Y0 (e 0) (e 1) (e 5) w) (aW Tryz.prog [.tmp 4] K) noE := by intro Y0; kernel_rfl
  exact seg 2 (Eq.mp (e1 (fun a0 a1 a5 w => uq a0 a1 a5 w K)) h) (fun e w h => QZ hn hr he e w h) hr he
def Jt (s0 s1 s5 : Value) (w : World) (_K : V1) (Y0 : V3) : Prop :=
Y0 s0 s1 s5 w
def Fx (s0 s1 s5 : Value) (w : World) (K : V1) : Prop := Jt s0 s1 s5 w K (fun a0 a1 a5 w => l8 a0 a1 a5 w K)
theorem QY {K : V1}
    (hn : HN (fun e w => l8 (e 0) (e 1) (e 5) w K) kn) (hr : HR Tryz.prog [.tmp 4] K kr) (he : HE noE ke) :
    ∀ e w, Fx (e 0) (e 1) (e 5) w K → aA Tryz.prog (au jb) 75 fuel ((flat (il (aV (flat (ah Tryz.f134)) 5))).drop 0) e w kn kr ke := by
  intro e w h
  unfold Fx at h
  have e1 : ∀ (Y0 : V3), Jt (e 0) (e 1) (e 5) w K Y0 = aA Tryz.prog (au jb) 75 fuel ((flat (il (aV (flat (ah Tryz.f134)) 5))).drop 0) e w (fun e w => Y0 (e 0) (e 1) (e 5) w) (aW Tryz.prog [.tmp 4] K) noE := by intro Y0; kernel_rfl
  exact bQ (Eq.mp (e1 (fun a0 a1 a5 w => l8 a0 a1 a5 w K)) h) hn hr he
def Aq (s0 s1 s5 s22 : Value) (w : World) (K : V1) : Prop := ifB s22 (xQ s0 s1 s5 w K) (Fx s0 s1 s5 w K)
theorem Xc {K : V1}
    (hn : HN (fun e w => K (e 4) w) kn) (hr : HR Tryz.prog [.tmp 4] K kr) (he : HE noE ke) :
    ∀ e w, Aq (e 0) (e 1) (e 5) (e 22) w K → aA Tryz.prog (au jb) 75 fuel ((flat (ah Tryz.f134)).drop 5) e w kn kr ke := by
  intro e w h
  unfold Aq at h
  refine yo (c := (.tmp 22)) (a := nR (aV (flat (ah Tryz.f134)) 5)) (b := il (aV (flat (ah Tryz.f134)) 5)) (l2 := (flat (ah Tryz.f134)).drop 6) (by kernel_rfl) h (fun h => ?_) (fun h => ?_)
  · exact Q0 (fun e w h => MX hn hr he e w h) hr he e w h
  · exact QY (fun e w h => MX hn hr he e w h) hr he e w h
def Fw (s0 s1 : Value) (w : World) (K : V1) (Y0 : V4) : Prop :=
aa (bI s0) fun v45 =>
aa (bEq Tryz.prog 3 (.tmp 12) (.const (.int .i64 0)) v45 (.int .i64 0)) fun v46 =>
ifB v46 (
K (.string ⟨#[]⟩) w) (
aa (bEq Tryz.prog 3 (.tmp 12) (.const (.int .i64 1)) v45 (.int .i64 1)) fun v47 =>
ifB v47 (
aa (bq 1 s0 (.int .i64 0)) fun v48 =>
aa (ld1 v48 w) fun v49 =>
K v49 w) (
aa (ik s1) fun v50 =>
aa (bGt v50 (.int .i64 0)) fun v51 =>
Y0 s0 s1 (.int .i64 0) v51 w))
def Fy (s0 s1 : Value) (w : World) (K : V1) : Prop := Fw s0 s1 w K (fun a0 a1 a5 a22 w => Aq a0 a1 a5 a22 w K)
theorem Xd {K : V1}
    (hn : HN (fun e w => K (e 4) w) kn) (hr : HR Tryz.prog [.tmp 4] K kr) (he : HE noE ke) :
    ∀ e w, Fy (e 0) (e 1) w K → aA Tryz.prog (au jb) 75 fuel ((flat (ah Tryz.f134)).drop 0) e w kn kr ke := by
  intro e w h
  unfold Fy at h
  have e1 : ∀ (Y0 : V4), Fw (e 0) (e 1) w K Y0 = aA Tryz.prog (au jb) 75 fuel (((flat (ah Tryz.f134)).drop 0).take 5) e w (fun e w => Y0 (e 0) (e 1) (e 5) (e 22) w) (aW Tryz.prog [.tmp 4] K) noE := by intro Y0; kernel_rfl
  exact seg 5 (Eq.mp (e1 (fun a0 a1 a5 a22 w => Aq a0 a1 a5 a22 w K)) h) (fun e w h => Xc hn hr he e w h) hr he
def UX (x0 x1 : Value) (w : World) (K : V1) : Prop := Fy x0 x1 w K
def TW : FnT := fun args w K => on2 (fun x0 x1 => UX x0 x1 w K) args
theorem c134 {x0 x1 : Value} {w : World} {K : V1} (h : UX x0 x1 w K) : ai TW [x0, x1] w K := aj (dm (p := fun x0 x1 => UX x0 x1 w K) h)
theorem ok134 : OkF Tryz.prog 134 TW := by
  refine aO (aN (l := jb) ⟨ZG, ZF, ok183, trivial⟩) mixed (n := fuel) Tryz.func134 Tryz.call134 fun args w K h => ?_
  obtain ⟨x0, x1, rfl, hh⟩ := dn h
  unfold UX at hh
  exact az (c := ah Tryz.f134) (by kernel_rfl) (by kernel_rfl) (Xd (fun _ _ h => h) (fun _ _ h => h) (fun _ _ _ h => h) (dD [x0, x1]) w hh)
end Go.Proofs.Gong

/- Lex -/
namespace Go.Proofs.Gong
open Go Go.Sx Go.Proofs
set_option linter.all false
set_option maxRecDepth 100000
set_option maxHeartbeats 4000000
variable {kn kr : ET} {ke : JT}
def Bi : List (Nat × FnT) := [(180, DW), (181, zM), (182, TG)]
def FB (s3 : Value) (w : World) (K : V1) : Prop :=
ai DW [s3, (.int .u8 34)] w fun _ w1 =>
ai TG [s3] w1 fun v4 w3 =>
K v4 w3
def nL (s3 : Value) (w : World) (K : V1) : Prop := FB s3 w K
theorem Xg {K : V1}
    (hn : HN (fun e w => K (e 2) w) kn) (hr : HR Tryz.prog [.tmp 2] K kr) (he : HE noE ke) :
    ∀ e w, nL (e 3) w K → aA Tryz.prog (au Bi) 54 fuel ((flat (ah Tryz.f133)).drop 5) e w kn kr ke := by
  intro e w h
  unfold nL at h
  have e1 : ∀ (_ : Unit), FB (e 3) w K = aA Tryz.prog (au Bi) 54 fuel ((flat (ah Tryz.f133)).drop 5) e w (fun e w => K (e 2) w) (aW Tryz.prog [.tmp 2] K) noE := by intro _; kernel_rfl
  exact bQ (Eq.mp (e1 ()) h) hn hr he
def Fz (s3 s8 s9 s10 : Value) (w : World) (_K : V1) (R3 : V4) : Prop :=
aa (bH s10 (.int .i64 1)) fun v5 =>
R3 s3 s8 s9 v5 w
def vO (s3 s8 s9 s10 : Value) (w : World) (K : V1) (R3 : V4) : Prop := Fz s3 s8 s9 s10 w K R3
theorem Xe (R3 : V4) {K : V1}
    (hn : HN (fun e w => R3 (e 3) (e 8) (e 9) (e 10) w) kn) (hr : HR Tryz.prog [.tmp 2] K kr) (he : HE (bB 0 (fun e w => nL (e 3) w K) noE) ke) :
    ∀ e w, vO (e 3) (e 8) (e 9) (e 10) w K R3 → aA Tryz.prog (au Bi) 54 fuel ((flat (aU (bi (aV (flat (ah Tryz.f133)) 4)))).drop 3) e w kn kr ke := by
  intro e w h
  unfold vO at h
  have e1 : ∀ (_ : Unit), Fz (e 3) (e 8) (e 9) (e 10) w K R3 = aA Tryz.prog (au Bi) 54 fuel ((flat (aU (bi (aV (flat (ah Tryz.f133)) 4)))).drop 3) e w (fun e w => R3 (e 3) (e 8) (e 9) (e 10) w) (aW Tryz.prog [.tmp 2] K) (bB 0 (fun e w => nL (e 3) w K) noE) := by intro _; kernel_rfl
  exact bQ (Eq.mp (e1 ()) h) hn hr he
def xS (s3 s8 s9 s10 : Value) (w : World) (_K : V1) (R3 : V4) (Y0 : V4) (Y1 : V1) : Prop :=
aa (bLt s10 s9) fun v6 =>
ifB v6 (
aa (bq 1 s8 s10) fun v7 =>
aa (ld1 v7 w) fun v8 =>
aa (bEq Tryz.prog 5 (.tmp 17) (.const (.int .u8 34)) v8 (.int .u8 34)) fun v9 =>
aS (gd false v9) v8 fun v10 =>
Sx.stepG (gd false v9) (bEq Tryz.prog 5 (.tmp 20) (.const (.int .u8 92)) v10 (.int .u8 92)) fun v11 =>
aa (aG v9 (.bool true) v11) fun v12 =>
ifB v12 (
ai DW [s3, (.int .u8 92)] w fun _ w13 =>
ai DW [s3, v8] w13 fun _ w15 =>
Y0 s3 s8 s9 s10 w15) (
aa (bEq Tryz.prog 5 (.tmp 27) (.const (.int .u8 10)) v8 (.int .u8 10)) fun v17 =>
ifB v17 (
ai zM [s3, (.string ⟨#[92, 110]⟩)] w fun _ w18 =>
Y0 s3 s8 s9 s10 w18) (
aa (bEq Tryz.prog 5 (.tmp 31) (.const (.int .u8 9)) v8 (.int .u8 9)) fun v20 =>
ifB v20 (
ai zM [s3, (.string ⟨#[92, 116]⟩)] w fun _ w21 =>
Y0 s3 s8 s9 s10 w21) (
aa (bLt v8 (.int .u8 32)) fun v23 =>
aS (gd false v23) v8 fun v24 =>
Sx.stepG (gd false v23) (bGe v24 (.int .u8 127)) fun v25 =>
aa (aG v23 (.bool true) v25) fun v26 =>
ifB v26 (
aa (rf v8 (.int .u64 4)) fun v27 =>
aa (dG (.string ⟨#[48, 49, 50, 51, 52, 53, 54, 55, 56, 57, 97, 98, 99, 100, 101, 102]⟩) v27) fun v28 =>
aa (l6 .and v8 (.int .u8 15)) fun v29 =>
aa (dG (.string ⟨#[48, 49, 50, 51, 52, 53, 54, 55, 56, 57, 97, 98, 99, 100, 101, 102]⟩) v29) fun v30 =>
aB Tryz.prog 181 2 [(0, v28), (1, v30)] w.drew fun v32 w31 =>
aa (gF v32 w31) fun v33 =>
aa (bH (.string ⟨#[92, 120]⟩) v33) fun v34 =>
ai zM [s3, v34] w31 fun _ w35 =>
Y0 s3 s8 s9 s10 w35) (
ai DW [s3, v8] w fun _ w37 =>
Y0 s3 s8 s9 s10 w37))))) (
Y1 s3 w)
def vP (s3 s8 s9 s10 : Value) (w : World) (K : V1) (R3 : V4) : Prop := xS s3 s8 s9 s10 w K R3 (fun a3 a8 a9 a10 w => vO a3 a8 a9 a10 w K R3) (fun a3 w => nL a3 w K)
theorem Xf (R3 : V4) {K : V1}
    (hn : HN (fun e w => R3 (e 3) (e 8) (e 9) (e 10) w) kn) (hr : HR Tryz.prog [.tmp 2] K kr) (he : HE (bB 0 (fun e w => nL (e 3) w K) noE) ke) :
    ∀ e w, vP (e 3) (e 8) (e 9) (e 10) w K R3 → aA Tryz.prog (au Bi) 54 fuel ((flat (aU (bi (aV (flat (ah Tryz.f133)) 4)))).drop 0) e w kn kr ke := by
  intro e w h
  unfold vP at h
  have e1 : ∀ (Y0 : V4) (Y1 : V1), xS (e 3) (e 8) (e 9) (e 10) w K R3 Y0 Y1 = aA Tryz.prog (au Bi) 54 fuel (((flat (aU (bi (aV (flat (ah Tryz.f133)) 4)))).drop 0).take 3) e w (fun e w => Y0 (e 3) (e 8) (e 9) (e 10) w) (aW Tryz.prog [.tmp 2] K) (bB 0 (fun e w => Y1 (e 3) w) noE) := by intro Y0 Y1; kernel_rfl
  exact seg 3 (Eq.mp (e1 (fun a3 a8 a9 a10 w => vO a3 a8 a9 a10 w K R3) (fun a3 w => nL a3 w K)) h) (fun e w h => Xe R3 hn hr he e w h) hr he
def kw : Nat → Value → Value → Value → Value → World → (V1) → Prop
  | 0, _, _, _, _, _, _ => False
  | n + 1, s3, s8, s9, s10, w, K => vP s3 s8 s9 s10 w K (fun a3 a8 a9 a10 w => kw n a3 a8 a9 a10 w K)
def Az (s3 s8 s9 s10 : Value) (w : World) (K : V1) : Prop := kw fuel s3 s8 s9 s10 w K
theorem Xh {K : V1}
    (hn : HN (fun e w => K (e 2) w) kn) (hr : HR Tryz.prog [.tmp 2] K kr) (he : HE noE ke) :
    ∀ e w, Az (e 3) (e 8) (e 9) (e 10) w K → aA Tryz.prog (au Bi) 54 fuel ((flat (ah Tryz.f133)).drop 4) e w kn kr ke := by
  intro e w h
  unfold Az at h
  refine bM (id := 0) (body := (aU (bi (aV (flat (ah Tryz.f133)) 4)))) (l2 := (flat (ah Tryz.f133)).drop 5) (by kernel_rfl) ?_
  refine bV (FL := fun m e w => kw m (e 3) (e 8) (e 9) (e 10) w K) (fr := aW Tryz.prog [.tmp 2] K) (fe := (bB 0 (fun e w => nL (e 3) w K) noE)) (fun _ _ h => h) ?_ hr (bD (fun e w h => Xg hn hr he e w h) he) fuel e w h
  intro m e w h
  have h : kw (m + 1) (e 3) (e 8) (e 9) (e 10) w K := h
  rw [kw] at h
  exact Xf (fun a3 a8 a9 a10 w => kw m a3 a8 a9 a10 w K) (fun _ _ h => h) (fun _ _ h => h) (fun _ _ _ h => h) e w h
def FC (s0 : Value) (w : World) (_K : V1) (Y0 : V4) : Prop :=
aY Tryz.prog 293 w fun v40 w39 =>
ai DW [v40, (.int .u8 34)] w39 fun _ w41 =>
iX Tryz.prog 9 181 s0 w41 fun v44 w43 =>
aa (bI v44) fun v45 =>
Y0 v40 v44 v45 (.int .i64 0) w43
def FD (s0 : Value) (w : World) (K : V1) : Prop := FC s0 w K (fun a3 a8 a9 a10 w => Az a3 a8 a9 a10 w K)
theorem Xi {K : V1}
    (hn : HN (fun e w => K (e 2) w) kn) (hr : HR Tryz.prog [.tmp 2] K kr) (he : HE noE ke) :
    ∀ e w, FD (e 0) w K → aA Tryz.prog (au Bi) 54 fuel ((flat (ah Tryz.f133)).drop 0) e w kn kr ke := by
  intro e w h
  unfold FD at h
  have e1 : ∀ (Y0 : V4), FC (e 0) w K Y0 = aA Tryz.prog (au Bi) 54 fuel (((flat (ah Tryz.f133)).drop 0).take 4) e w (fun e w => Y0 (e 3) (e 8) (e 9) (e 10) w) (aW Tryz.prog [.tmp 2] K) noE := by intro Y0; kernel_rfl
  exact seg 4 (Eq.mp (e1 (fun a3 a8 a9 a10 w => Az a3 a8 a9 a10 w K)) h) (fun e w h => Xh hn hr he e w h) hr he
def UY (x0 : Value) (w : World) (K : V1) : Prop := FD x0 w K
def IX : FnT := fun args w K => on1 (fun x0 => UY x0 w K) args
theorem c133 {x0 : Value} {w : World} {K : V1} (h : UY x0 w K) : ai IX [x0] w K := aj (bL (p := fun x0 => UY x0 w K) h)
theorem ok133 : OkF Tryz.prog 133 IX := by
  refine aO (aN (l := Bi) ⟨ok180, ZG, ZF, trivial⟩) mixed (n := fuel) Tryz.func133 Tryz.call133 fun args w K h => ?_
  obtain ⟨x0, rfl, hh⟩ := bJ h
  unfold UY at hh
  exact az (c := ah Tryz.f133) (by kernel_rfl) (by kernel_rfl) (Xi (fun _ _ h => h) (fun _ _ h => h) (fun _ _ _ h => h) (dD [x0]) w hh)
end Go.Proofs.Gong

/- Disk -/
namespace Go.Proofs.Gong
open Go Go.Sx Go.Proofs
set_option linter.all false
set_option maxRecDepth 100000
set_option maxHeartbeats 4000000
variable {kn kr : ET} {ke : JT}
def T10 : List (Nat × FnT) := []
def ML (s5 : Value) (w : World) (K : V1) : Prop :=
K s5 w
def CJ (s5 : Value) (w : World) (K : V1) : Prop := ML s5 w K
theorem ok10_3 {K : V1}
    (hn : HN (fun e w => K (e 4) w) kn) (hr : HR Tryz.prog [.tmp 4] K kr) (he : HE noE ke) :
    ∀ e w, CJ (e 5) w K → aA Tryz.prog (au T10) 31 fuel ((flat (ah Tryz.f10)).drop 4) e w kn kr ke := by
  intro e w h
  unfold CJ at h
  have e1 : ∀ (_ : Unit), ML (e 5) w K = aA Tryz.prog (au T10) 31 fuel ((flat (ah Tryz.f10)).drop 4) e w (fun e w => K (e 4) w) (aW Tryz.prog [.tmp 4] K) noE := by intro _; kernel_rfl
  exact bQ (Eq.mp (e1 ()) h) hn hr he
def MM (s0 s1 s5 s6 : Value) (w : World) (_K : V1) (Y0 : V4) (Y1 : V1) : Prop :=
aS (gd true s5) s6 fun v1 =>
aS (gd true s5) s0 fun v2 =>
Sx.stepG (gd true s5) (bI v2) fun v3 =>
Sx.stepG (gd true s5) (bLt v1 v3) fun v4 =>
aa (aG s5 v4 (.bool false)) fun v5 =>
ifB v5 (
aa (bq 1 s0 s6) fun v6 =>
aa (ld1 v6 w.drew) fun v7 =>
aa (bq 1 s1 s6) fun v8 =>
aa (ld1 v8 w.drew) fun v9 =>
aa (bEq Tryz.prog 9 (.tmp 24) (.tmp 28) v7 v9) fun v10 =>
aa (bH s6 (.int .i64 1)) fun v11 =>
Y0 s0 s1 v10 v11 w.drew) (
Y1 s5 w)
def pq : Nat → Value → Value → Value → Value → World → (V1) → Prop
  | 0, _, _, _, _, _, _ => False
  | n + 1, s0, s1, s5, s6, w, K => MM s0 s1 s5 s6 w K (fun a0 a1 a5 a6 w => pq n a0 a1 a5 a6 w K) (fun a5 w => CJ a5 w K)
def Ju (s0 s1 s5 s6 : Value) (w : World) (K : V1) : Prop := pq fuel s0 s1 s5 s6 w K
theorem ok10_2 {K : V1}
    (hn : HN (fun e w => K (e 4) w) kn) (hr : HR Tryz.prog [.tmp 4] K kr) (he : HE noE ke) :
    ∀ e w, Ju (e 0) (e 1) (e 5) (e 6) w K → aA Tryz.prog (au T10) 31 fuel ((flat (ah Tryz.f10)).drop 3) e w kn kr ke := by
  intro e w h
  unfold Ju at h
  refine bM (id := 0) (body := (aU (bi (aV (flat (ah Tryz.f10)) 3)))) (l2 := (flat (ah Tryz.f10)).drop 4) (by kernel_rfl) ?_
  refine bV (FL := fun m e w => pq m (e 0) (e 1) (e 5) (e 6) w K) (fr := aW Tryz.prog [.tmp 4] K) (fe := (bB 0 (fun e w => CJ (e 5) w K) noE)) (fun _ _ h => h) ?_ hr (bD (fun e w h => ok10_3 hn hr he e w h) he) fuel e w h
  intro m e w h
  have h : pq (m + 1) (e 0) (e 1) (e 5) (e 6) w K := h
  rw [pq] at h
  have e1 : ∀ (Y0 : V4) (Y1 : V1), MM (e 0) (e 1) (e 5) (e 6) w K Y0 Y1 = aA Tryz.prog (au T10) 31 fuel (flat (aU (bi (aV (flat (ah Tryz.f10)) 3)))) e w (fun e w => Y0 (e 0) (e 1) (e 5) (e 6) w) (aW Tryz.prog [.tmp 4] K) (bB 0 (fun e w => Y1 (e 5) w) noE) := by intro Y0 Y1; kernel_rfl
  exact Eq.mp (e1 (fun a0 a1 a5 a6 w => pq m a0 a1 a5 a6 w K) (fun a5 w => CJ a5 w K)) h
def MN (s0 s1 : Value) (w : World) (_K : V1) (Y0 : V4) : Prop :=
aa (bI s0) fun v12 =>
aa (bI s1) fun v13 =>
aa (bEq Tryz.prog 3 (.tmp 8) (.tmp 10) v12 v13) fun v14 =>
Y0 s0 s1 v14 (.int .i64 0) w
def NZ (s0 s1 : Value) (w : World) (K : V1) : Prop := MN s0 s1 w K (fun a0 a1 a5 a6 w => Ju a0 a1 a5 a6 w K)
theorem ok10_1 {K : V1}
    (hn : HN (fun e w => K (e 4) w) kn) (hr : HR Tryz.prog [.tmp 4] K kr) (he : HE noE ke) :
    ∀ e w, NZ (e 0) (e 1) w K → aA Tryz.prog (au T10) 31 fuel ((flat (ah Tryz.f10)).drop 0) e w kn kr ke := by
  intro e w h
  unfold NZ at h
  have e1 : ∀ (Y0 : V4), MN (e 0) (e 1) w K Y0 = aA Tryz.prog (au T10) 31 fuel (((flat (ah Tryz.f10)).drop 0).take 3) e w (fun e w => Y0 (e 0) (e 1) (e 5) (e 6) w) (aW Tryz.prog [.tmp 4] K) noE := by intro Y0; kernel_rfl
  exact seg 3 (Eq.mp (e1 (fun a0 a1 a5 a6 w => Ju a0 a1 a5 a6 w K)) h) (fun e w h => ok10_2 hn hr he e w h) hr he
def F10 (x0 x1 : Value) (w : World) (K : V1) : Prop := NZ x0 x1 w K
def G10 : FnT := fun args w K => on2 (fun x0 x1 => F10 x0 x1 w K) args
theorem c10 {x0 x1 : Value} {w : World} {K : V1} (h : F10 x0 x1 w K) : ai G10 [x0, x1] w K := aj (dm (p := fun x0 x1 => F10 x0 x1 w K) h)
theorem ok10 : OkF Tryz.prog 10 G10 := by
  refine aO (aN (l := T10) trivial) mixed (n := fuel) Tryz.func10 Tryz.call10 fun args w K h => ?_
  obtain ⟨x0, x1, rfl, hh⟩ := dn h
  unfold F10 at hh
  exact az (c := ah Tryz.f10) (by kernel_rfl) (by kernel_rfl) (ok10_1 (fun _ _ h => h) (fun _ _ h => h) (fun _ _ _ h => h) (dD [x0, x1]) w hh)
end Go.Proofs.Gong

/- Hex -/
namespace Go.Proofs.Gong
open Go Go.Sx Go.Proofs
set_option linter.all false
set_option maxRecDepth 100000
set_option maxHeartbeats 4000000
variable {kn kr : ET} {ke : JT}
def G271 : FnT := fun _ _ _ => False
theorem ok271 : OkF Tryz.prog 271 G271 := fun _ _ _ h => h.elim
def T304 : List (Nat × FnT) := []
def Yw (x0 x1 : Value) (w : World) (K : V1) : Prop :=
aa (ik x0) fun v1 =>
aa (ik x1) fun v2 =>
aa (bGe v1 v2) fun v3 =>
aS (gd true v3) x0 fun v4 =>
aS (gd true v3) x1 fun v5 =>
Sx.stepG (gd true v3) (ik v5) fun v6 =>
Sx.stepG (gd true v3) (di v4 none (some v6)) fun v7 =>
aS (gd true v3) x1 fun v8 =>
Sx.stepG (gd true v3) (bEq Tryz.prog 9 (.tmp 14) (.tmp 15) v7 v8) fun v9 =>
aa (aG v3 v9 (.bool false)) fun v10 =>
K v10 w
def Yi : FnT := fun args w K => on2 (fun x0 x1 => Yw x0 x1 w K) args
theorem c304 {x0 x1 : Value} {w : World} {K : V1} (h : Yw x0 x1 w K) : ai Yi [x0, x1] w K := aj (dm (p := fun x0 x1 => Yw x0 x1 w K) h)
theorem ok304 : OkF Tryz.prog 304 Yi := by
  refine aO (aN (l := T304) trivial) mixed (n := fuel) Tryz.func304 Tryz.call304 fun args w K h => ?_
  obtain ⟨x0, x1, rfl, hh⟩ := dn h
  exact az (c := ah Tryz.f304) (by kernel_rfl) (by kernel_rfl) (Eq.mp (by kernel_rfl) hh)
def T287 : List (Nat × FnT) := [(304, Yi)]
def Yy (x0 x1 : Value) (w : World) (K : V1) : Prop :=
ai Yi [x0, x1] w fun v2 w1 =>
aa (dN v2) fun v3 =>
ifB v3 (
K (.tuple #[x0, (.bool false)]) w1) (
aa (ik x1) fun v4 =>
aa (di x0 (some v4) none) fun v5 =>
K (.tuple #[v5, (.bool true)]) w1)
def Yj : FnT := fun args w K => on2 (fun x0 x1 => Yy x0 x1 w K) args
theorem c287 {x0 x1 : Value} {w : World} {K : V1} (h : Yy x0 x1 w K) : ai Yj [x0, x1] w K := aj (dm (p := fun x0 x1 => Yy x0 x1 w K) h)
theorem ok287 : OkF Tryz.prog 287 Yj := by
  refine aO (aN (l := T287) ⟨ok304, trivial⟩) mixed (n := fuel) Tryz.func287 Tryz.call287 fun args w K h => ?_
  obtain ⟨x0, x1, rfl, hh⟩ := dn h
  exact az (c := ah Tryz.f287) (by kernel_rfl) (by kernel_rfl) (Eq.mp (by kernel_rfl) hh)
def T240 : List (Nat × FnT) := [(287, Yj)]
def YK (x0 x1 : Value) (w : World) (K : V1) : Prop :=
ai Yj [x0, x1] w fun v2 w1 =>
aa (aK v2 0) fun v3 =>
aa (aK v2 1) fun v4 =>
K (.tuple #[v3, v4]) w1
def Tv : FnT := fun args w K => on2 (fun x0 x1 => YK x0 x1 w K) args
theorem c240 {x0 x1 : Value} {w : World} {K : V1} (h : YK x0 x1 w K) : ai Tv [x0, x1] w K := aj (dm (p := fun x0 x1 => YK x0 x1 w K) h)
theorem ok240 : OkF Tryz.prog 240 Tv := by
  refine aO (aN (l := T240) ⟨ok287, trivial⟩) mixed (n := fuel) Tryz.func240 Tryz.call240 fun args w K h => ?_
  obtain ⟨x0, x1, rfl, hh⟩ := dn h
  exact az (c := ah Tryz.f240) (by kernel_rfl) (by kernel_rfl) (Eq.mp (by kernel_rfl) hh)
def PU : Go.Shelf.Ren := ⟨fun | 110 => 15 | 109 => 29 | n => n, fun | 31 => 32 | 9 => 9 | 4 => 4 | 3 => 3 | 0 => 0 | n => n, fun | n => n⟩
theorem Lay15 : Go.Proofs.Lays.n110 Tryz.prog PU := {
  mixed := by kernel_rfl
  f109 := Tryz.func29.trans (congrArg some (by kernel_rfl))
  f110 := Tryz.func15.trans (congrArg some (by kernel_rfl))
  t0 := Tryz.underlying0
  a0 := Tryz.isAgg0
  z0 := Tryz.sizeOf0
  v0 := Tryz.zeroValue0
  t3 := Tryz.underlying3
  a3 := Tryz.isAgg3
  z3 := Tryz.sizeOf3
  v3 := Tryz.zeroValue3
  t4 := Tryz.underlying4
  a4 := Tryz.isAgg4
  z4 := Tryz.sizeOf4
  v4 := Tryz.zeroValue4
  t9 := Tryz.underlying9
  a9 := Tryz.isAgg9
  z9 := Tryz.sizeOf9
  v9 := Tryz.zeroValue9
  t31 := Tryz.underlying32
  a31 := Tryz.isAgg32
  z31 := Tryz.sizeOf32
  v31 := Tryz.zeroValue32 }
def G15 : FnT := KD
theorem ok15 : OkF Tryz.prog 15 G15 := Vx Lay15 rfl Tryz.call15
end Go.Proofs.Gong
