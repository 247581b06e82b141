/- A part of the proofs: what stands below it, told in lemmas. No condition. -/
import Derived.Test.YtbbfjgmnemlolaaGreatDoorP1
import Derived.Shelf.Strconv.Itoa3
import Derived.Shelf.Strconv.Atoi
import Derived.Shelf.Strings.Split
import Derived.Shelf.Strings.Builder2
import Derived.Lib.UnsafeStr
import Derived.Shelf.Strings.Trim
import Derived.Shelf.Slices.Turned
import Derived.ProofKit
import Derived.WalkKit
import Derived.Shelf.Spec.SlicesGrow
set_option linter.all false

/- Board1 -/
namespace Go.Proofs.Gong
open Go Go.Sx Go.Proofs
set_option linter.all false
set_option maxRecDepth 100000
set_option maxHeartbeats 4000000
variable {kn kr : ET} {ke : JT}
def T74 : List (Nat × FnT) := []
def F74 (x0 : Value) (w : World) (K : V1) : Prop :=
bindP (bGe x0 (.int .i64 0)) fun v1 =>
stepM (gd true v1) x0 fun v2 =>
Sx.stepG (gd true v1) (bLe v2 (.int .i64 2305843009213693952)) fun v3 =>
bindP (pPick v1 v3 (.bool false)) fun v4 =>
K v4 w
def G74 : FnT := fun args w K => on1 (fun x0 => F74 x0 w K) args
theorem c74 {x0 : Value} {w : World} {K : V1} (h : F74 x0 w K) : callP G74 [x0] w K := callP_intro (on1_mk (p := fun x0 => F74 x0 w K) h)
theorem ok74 : OkF Tryz.prog 74 G74 := by
  refine okF_of (tab_ok (l := T74) trivial) mixed (n := fuel) Tryz.func74 Tryz.call74 fun args w K h => ?_
  obtain ⟨x0, rfl, hh⟩ := of_on1 h
  exact fnD_list (c := bodyOf Tryz.f74) (by kernel_rfl) (by kernel_rfl) (Eq.mp (by kernel_rfl) hh)
def T75 : List (Nat × FnT) := [(76, G76)]
def F75 (x0 : Value) (w : World) (K : V1) : Prop :=
bindP (fBuild Tryz.prog 43 [(0, x0), (1, (.string ⟨#[99]⟩))]) fun v1 =>
callP G76 [v1] w fun v3 w2 =>
bindP (bEq Tryz.prog 39 (.tmp 5) (.const (.int .i64 0)) v3 (.int .i64 0)) fun v4 =>
K v4 w2
def G75 : FnT := fun args w K => on1 (fun x0 => F75 x0 w K) args
theorem c75 {x0 : Value} {w : World} {K : V1} (h : F75 x0 w K) : callP G75 [x0] w K := callP_intro (on1_mk (p := fun x0 => F75 x0 w K) h)
theorem ok75 : OkF Tryz.prog 75 G75 := by
  refine okF_of (tab_ok (l := T75) ⟨ok76, trivial⟩) mixed (n := fuel) Tryz.func75 Tryz.call75 fun args w K h => ?_
  obtain ⟨x0, rfl, hh⟩ := of_on1 h
  exact fnD_list (c := bodyOf Tryz.f75) (by kernel_rfl) (by kernel_rfl) (Eq.mp (by kernel_rfl) hh)
def T41 : List (Nat × FnT) := [(74, G74), (75, G75), (76, G76)]
def F41 (x0 : Value) (w : World) (K : V1) : Prop :=
eBox 45 x0 w fun v2 w1 =>
bindP (pFieldAddr 7 v2) fun v3 =>
bindP (ld1 v3 w1) fun v4 =>
callP G74 [v4] w1 fun v6 w5 =>
Sx.stepG (gd true v6) (pFieldAddr 8 v2) fun v7 =>
Sx.stepG (gd true v6) (ld1 v7 w5) fun v8 =>
stepE (gd true v6) (fun k => callP G74 [v8] w5 k) w5 fun v10 w9 =>
bindP (pPick v6 v10 (.bool false)) fun v11 =>
Sx.stepG (gd true v11) (pFieldAddr 7 v2) fun v12 =>
Sx.stepG (gd true v11) (ld1 v12 w9) fun v13 =>
Sx.stepG (gd true v11) (pFieldAddr 8 v2) fun v14 =>
Sx.stepG (gd true v11) (ld1 v14 w9) fun v15 =>
Sx.stepG (gd true v11) (bLe v13 v15) fun v16 =>
bindP (pPick v11 v16 (.bool false)) fun v17 =>
bindP (pFieldAddr 9 v2) fun v18 =>
bindP (ld1 v18 w9) fun v19 =>
Sx.stepG (gd true v19) (pFieldAddr 10 v2) fun v20 =>
Sx.stepG (gd true v19) (ld1 v20 w9) fun v21 =>
stepE (gd true v19) (fun k => callP G75 [v21] w9 k) w9 fun v23 w22 =>
bindP (pPick v19 v23 (.bool false)) fun v24 =>
Sx.stepG (gd false v24) (pFieldAddr 9 v2) fun v25 =>
Sx.stepG (gd false v24) (ld1 v25 w22) fun v26 =>
Sx.stepG (gd false v24) (uNot v26) fun v27 =>
stepM (gd false v24) v27 fun v28 =>
Sx.stepG (gd true v28) (pFieldAddr 10 v2) fun v29 =>
Sx.stepG (gd true v28) (ld1 v29 w22) fun v30 =>
Sx.stepG (gd true v28) (bEq Tryz.prog 9 (.tmp 33) (.const (.string ⟨#[]⟩)) v30 (.string ⟨#[]⟩)) fun v31 =>
Sx.stepG (gd false v24) (pPick v28 v31 (.bool false)) fun v32 =>
bindP (pPick v24 (.bool true) v32) fun v33 =>
bindP (pFieldAddr 0 v2) fun v34 =>
bindP (ld1 v34 w22) fun v35 =>
bindP (bLt v35 (.int .i64 1)) fun v36 =>
Sx.stepG (gd false v36) (pFieldAddr 1 v2) fun v37 =>
Sx.stepG (gd false v36) (pFieldAddr 3 v37) fun v38 =>
Sx.stepG (gd false v36) (ld1 v38 w22) fun v39 =>
Sx.stepG (gd false v36) (bLt v39 (.int .i64 1)) fun v40 =>
bindP (pPick v36 (.bool true) v40) fun v41 =>
Sx.stepG (gd false v41) (pFieldAddr 6 v2) fun v42 =>
Sx.stepG (gd false v41) (ld1 v42 w22) fun v43 =>
Sx.stepG (gd false v41) (bLt v43 (.int .i64 1)) fun v44 =>
bindP (pPick v41 (.bool true) v44) fun v45 =>
Sx.stepG (gd false v45) (pFieldAddr 6 v2) fun v46 =>
Sx.stepG (gd false v45) (ld1 v46 w22) fun v47 =>
Sx.stepG (gd false v45) (bGt v47 (.int .i64 1099511627776)) fun v48 =>
bindP (pPick v45 (.bool true) v48) fun v49 =>
stepM (gd false v49) v17 fun v50 =>
Sx.stepG (gd false v49) (uNot v50) fun v51 =>
bindP (pPick v49 (.bool true) v51) fun v52 =>
stepM (gd false v52) v33 fun v53 =>
Sx.stepG (gd false v52) (uNot v53) fun v54 =>
bindP (pPick v52 (.bool true) v54) fun v55 =>
Sx.stepG (gd false v55) (pFieldAddr 1 v2) fun v56 =>
Sx.stepG (gd false v55) (ldN 5 v56 w22) fun v57 =>
stepE (gd false v55) (fun k => callP G76 [v57] w22 k) w22 fun v59 w58 =>
Sx.stepG (gd false v55) (bNe Tryz.prog 39 (.tmp 67) (.const (.int .i64 0)) v59 (.int .i64 0)) fun v60 =>
bindP (pPick v55 (.bool true) v60) fun v61 =>
ifB v61 (
K (.int .i64 4) w58) (
K (.int .i64 0) w58)
def G41 : FnT := fun args w K => on1 (fun x0 => F41 x0 w K) args
theorem c41 {x0 : Value} {w : World} {K : V1} (h : F41 x0 w K) : callP G41 [x0] w K := callP_intro (on1_mk (p := fun x0 => F41 x0 w K) h)
theorem ok41 : OkF Tryz.prog 41 G41 := by
  refine okF_of (tab_ok (l := T41) ⟨ok74, ok75, ok76, trivial⟩) mixed (n := fuel) Tryz.func41 Tryz.call41 fun args w K h => ?_
  obtain ⟨x0, rfl, hh⟩ := of_on1 h
  exact fnD_list (c := bodyOf Tryz.f41) (by kernel_rfl) (by kernel_rfl) (Eq.mp (by kernel_rfl) hh)
def T73 : List (Nat × FnT) := [(71, G71)]
def F73 (x0 : Value) (w : World) (K : V1) : Prop :=
bindP (fBuild Tryz.prog 43 [(0, x0), (1, (.string ⟨#[120]⟩))]) fun v1 =>
callP G71 [v1] w fun v3 w2 =>
bindP (bEq Tryz.prog 39 (.tmp 5) (.const (.int .i64 0)) v3 (.int .i64 0)) fun v4 =>
K v4 w2
def G73 : FnT := fun args w K => on1 (fun x0 => F73 x0 w K) args
theorem c73 {x0 : Value} {w : World} {K : V1} (h : F73 x0 w K) : callP G73 [x0] w K := callP_intro (on1_mk (p := fun x0 => F73 x0 w K) h)
theorem ok73 : OkF Tryz.prog 73 G73 := by
  refine okF_of (tab_ok (l := T73) ⟨ok71, trivial⟩) mixed (n := fuel) Tryz.func73 Tryz.call73 fun args w K h => ?_
  obtain ⟨x0, rfl, hh⟩ := of_on1 h
  exact fnD_list (c := bodyOf Tryz.f73) (by kernel_rfl) (by kernel_rfl) (Eq.mp (by kernel_rfl) hh)
def T38 : List (Nat × FnT) := [(71, G71), (72, G72), (73, G73)]
def F38 (x0 : Value) (w : World) (K : V1) : Prop :=
eBox 45 x0 w fun v2 w1 =>
bindP (pFieldAddr 0 v2) fun v3 =>
bindP (ld1 v3 w1) fun v4 =>
bindP (bLt v4 (.int .i64 1)) fun v5 =>
Sx.stepG (gd false v5) (pFieldAddr 1 v2) fun v6 =>
Sx.stepG (gd false v5) (ldN 5 v6 w1) fun v7 =>
stepE (gd false v5) (fun k => callP G71 [v7] w1 k) w1 fun v9 w8 =>
Sx.stepG (gd false v5) (bNe Tryz.prog 39 (.tmp 9) (.const (.int .i64 0)) v9 (.int .i64 0)) fun v10 =>
bindP (pPick v5 (.bool true) v10) fun v11 =>
Sx.stepG (gd false v11) (pFieldAddr 1 v2) fun v12 =>
Sx.stepG (gd false v11) (pFieldAddr 3 v12) fun v13 =>
Sx.stepG (gd false v11) (ld1 v13 w8) fun v14 =>
Sx.stepG (gd false v11) (bLt v14 (.int .i64 1)) fun v15 =>
bindP (pPick v11 (.bool true) v15) fun v16 =>
Sx.stepG (gd false v16) (pFieldAddr 6 v2) fun v17 =>
Sx.stepG (gd false v16) (ld1 v17 w8) fun v18 =>
Sx.stepG (gd false v16) (bLt v18 (.int .i64 1)) fun v19 =>
bindP (pPick v16 (.bool true) v19) fun v20 =>
Sx.stepG (gd false v20) (pFieldAddr 6 v2) fun v21 =>
Sx.stepG (gd false v20) (ld1 v21 w8) fun v22 =>
Sx.stepG (gd false v20) (bGt v22 (.int .i64 1099511627776)) fun v23 =>
bindP (pPick v20 (.bool true) v23) fun v24 =>
Sx.stepG (gd false v24) (pFieldAddr 7 v2) fun v25 =>
Sx.stepG (gd false v24) (ld1 v25 w8) fun v26 =>
stepE (gd false v24) (fun k => callP G72 [v26] w8 k) w8 fun v28 w27 =>
Sx.stepG (gd false v24) (uNot v28) fun v29 =>
bindP (pPick v24 (.bool true) v29) fun v30 =>
Sx.stepG (gd false v30) (pFieldAddr 8 v2) fun v31 =>
Sx.stepG (gd false v30) (ld1 v31 w27) fun v32 =>
stepE (gd false v30) (fun k => callP G72 [v32] w27 k) w27 fun v34 w33 =>
Sx.stepG (gd false v30) (uNot v34) fun v35 =>
bindP (pPick v30 (.bool true) v35) fun v36 =>
Sx.stepG (gd false v36) (pFieldAddr 7 v2) fun v37 =>
Sx.stepG (gd false v36) (ld1 v37 w33) fun v38 =>
Sx.stepG (gd false v36) (pFieldAddr 8 v2) fun v39 =>
Sx.stepG (gd false v36) (ld1 v39 w33) fun v40 =>
Sx.stepG (gd false v36) (bGt v38 v40) fun v41 =>
bindP (pPick v36 (.bool true) v41) fun v42 =>
ifB v42 (
K (.int .i64 4) w33) (
bindP (pFieldAddr 9 v2) fun v43 =>
bindP (ld1 v43 w33) fun v44 =>
Sx.stepG (gd true v44) (pFieldAddr 10 v2) fun v45 =>
Sx.stepG (gd true v44) (ld1 v45 w33) fun v46 =>
stepE (gd true v44) (fun k => callP G73 [v46] w33 k) w33 fun v48 w47 =>
Sx.stepG (gd true v44) (uNot v48) fun v49 =>
bindP (pPick v44 v49 (.bool false)) fun v50 =>
Sx.stepG (gd false v50) (pFieldAddr 9 v2) fun v51 =>
Sx.stepG (gd false v50) (ld1 v51 w47) fun v52 =>
Sx.stepG (gd false v50) (uNot v52) fun v53 =>
stepM (gd false v50) v53 fun v54 =>
Sx.stepG (gd true v54) (pFieldAddr 10 v2) fun v55 =>
Sx.stepG (gd true v54) (ld1 v55 w47) fun v56 =>
Sx.stepG (gd true v54) (bNe Tryz.prog 9 (.tmp 61) (.const (.string ⟨#[]⟩)) v56 (.string ⟨#[]⟩)) fun v57 =>
Sx.stepG (gd false v50) (pPick v54 v57 (.bool false)) fun v58 =>
bindP (pPick v50 (.bool true) v58) fun v59 =>
ifB v59 (
K (.int .i64 4) w47) (
K (.int .i64 0) w47))
def G38 : FnT := fun args w K => on1 (fun x0 => F38 x0 w K) args
theorem c38 {x0 : Value} {w : World} {K : V1} (h : F38 x0 w K) : callP G38 [x0] w K := callP_intro (on1_mk (p := fun x0 => F38 x0 w K) h)
theorem ok38 : OkF Tryz.prog 38 G38 := by
  refine okF_of (tab_ok (l := T38) ⟨ok71, ok72, ok73, trivial⟩) mixed (n := fuel) Tryz.func38 Tryz.call38 fun args w K h => ?_
  obtain ⟨x0, rfl, hh⟩ := of_on1 h
  exact fnD_list (c := bodyOf Tryz.f38) (by kernel_rfl) (by kernel_rfl) (Eq.mp (by kernel_rfl) hh)
def T65 : List (Nat × FnT) := []
def F65 (x0 : Value) (w : World) (K : V1) : Prop :=
bindP (bLt x0 (.int .i64 1)) fun v1 =>
stepM (gd false v1) x0 fun v2 =>
Sx.stepG (gd false v1) (bGt v2 (.int .i64 65536)) fun v3 =>
bindP (pPick v1 (.bool true) v3) fun v4 =>
ifB v4 (
K (.tuple #[(.pointer none), (.int .i64 1)]) w) (
eMakeMap none w fun v6 w5 =>
eMakeMap none w5 fun v8 w7 =>
bindP (fBuild Tryz.prog 94 [(0, x0), (1, (.int .i64 1)), (2, v6), (3, v8)]) fun v9 =>
eBox 94 v9 w7 fun v11 w10 =>
K (.tuple #[v11, (.int .i64 0)]) w10)
def G65 : FnT := fun args w K => on1 (fun x0 => F65 x0 w K) args
theorem c65 {x0 : Value} {w : World} {K : V1} (h : F65 x0 w K) : callP G65 [x0] w K := callP_intro (on1_mk (p := fun x0 => F65 x0 w K) h)
theorem ok65 : OkF Tryz.prog 65 G65 := by
  refine okF_of (tab_ok (l := T65) trivial) mixed (n := fuel) Tryz.func65 Tryz.call65 fun args w K h => ?_
  obtain ⟨x0, rfl, hh⟩ := of_on1 h
  exact fnD_list (c := bodyOf Tryz.f65) (by kernel_rfl) (by kernel_rfl) (Eq.mp (by kernel_rfl) hh)
def T91 : List (Nat × FnT) := []
def F91 (x0 : Value) (w : World) (K : V1) : Prop :=
bindP (pNil x0) fun v1 =>
bindP (pFieldAddr 2 v1) fun v2 =>
bindP (ld1 v2 w) fun v3 =>
bindP (lenM v3 w) fun v4 =>
K v4 w
def G91 : FnT := fun args w K => on1 (fun x0 => F91 x0 w K) args
theorem c91 {x0 : Value} {w : World} {K : V1} (h : F91 x0 w K) : callP G91 [x0] w K := callP_intro (on1_mk (p := fun x0 => F91 x0 w K) h)
theorem ok91 : OkF Tryz.prog 91 G91 := by
  refine okF_of (tab_ok (l := T91) trivial) mixed (n := fuel) Tryz.func91 Tryz.call91 fun args w K h => ?_
  obtain ⟨x0, rfl, hh⟩ := of_on1 h
  exact fnD_list (c := bodyOf Tryz.f91) (by kernel_rfl) (by kernel_rfl) (Eq.mp (by kernel_rfl) hh)
def T13 : List (Nat × FnT) := []
def F13 (x0 x1 : Value) (w : World) (K : V1) : Prop :=
eAlloc Tryz.prog 45 w fun v2 w1 =>
bindP (pNil x0) fun v3 =>
bindP (pFieldAddr 2 v3) fun v4 =>
bindP (ld1 v4 w1) fun v5 =>
bindP (fLook Tryz.prog 91 v5 x1 true w1) fun v6 =>
bindP (pTuple v6 0) fun v7 =>
bindP (pTuple v6 1) fun v8 =>
eAlloc Tryz.prog 45 w1 fun v10 w9 =>
bindW (st 11 v10 v7 w9) fun w11 =>
bindP (ldN 11 v10 w11) fun v13 =>
bindW (st 11 v2 v13 w11) fun w14 =>
bindP (ldN 11 v2 w14) fun v16 =>
K (.tuple #[v16, v8]) w14
def G13 : FnT := fun args w K => on2 (fun x0 x1 => F13 x0 x1 w K) args
theorem c13 {x0 x1 : Value} {w : World} {K : V1} (h : F13 x0 x1 w K) : callP G13 [x0, x1] w K := callP_intro (on2_mk (p := fun x0 x1 => F13 x0 x1 w K) h)
theorem ok13 : OkF Tryz.prog 13 G13 := by
  refine okF_of (tab_ok (l := T13) trivial) mixed (n := fuel) Tryz.func13 Tryz.call13 fun args w K h => ?_
  obtain ⟨x0, x1, rfl, hh⟩ := of_on2 h
  exact fnD_list (c := bodyOf Tryz.f13) (by kernel_rfl) (by kernel_rfl) (Eq.mp (by kernel_rfl) hh)
noncomputable def aB77 := bodyOf Tryz.f77
noncomputable def aF77 := blkB (sB (sA (sB aB77)))
noncomputable def vB46 := bodyOf Tryz.f46
noncomputable def vL46 := loopB (blkB (sB vB46))
noncomputable def vM46 := blkB (sB (sB vL46))
def G77 : FnT := gAppS Tryz.prog 45 46 11 128
theorem ok77 : OkF Tryz.prog 77 G77 := by
  intro args w K ⟨κ, ν, ek, ev, fv, m, mv, bx, mt, w0, L, ha, C, hev, hfb, hbd, hs, hk⟩
  subst ha
  refine .inl ⟨Tryz.call77 _ _, ?_⟩
  refine (appendSeq_ok (fnF := Tryz.f77) (f := 77) (g := 46) (tS := 22) (tV := 45) (i0 := 0) (i1 := 1) (i2 := 2) (i3 := 3) (i4 := 4) (ops0 := opsOf (sA aB77)) (ops1 := opsOf (sA (sA (sB aB77)))) (opsA := opsOf (rfA aF77)) (opsB := opsOf (blkB (rfB aF77))) (ops4 := opsOf (sA (sB (sB aB77)))) C Tryz.func77 (by kernel_rfl) (by kernel_rfl) (by kernel_rfl) (fun e w k => by kernel_rfl) (fun e w k => by kernel_rfl) (fun e w k => by kernel_rfl) (fun e w k => by kernel_rfl) (fun e w k => by kernel_rfl) u22 sl22 ss22 hbd hfb _ z45 (by kernel_rfl) Tryz.call46 hev ?_ hs).mono ?_
  · intro l J W L' hY h
    exact values_ok (fn := Tryz.f46) (f := 46) (es := 11) (tM := 91) (tV := 45) (fv := fv) (i0 := 0) (i1 := 1) (i2 := 2) (i3 := 3) (ops0 := opsOf (sA vB46)) (ops1 := opsOf (sA vL46)) (ops2 := opsOf (sA vM46)) (q1 := opAt (opsOf (sA (sB vM46))) 0) (q2 := opAt (opsOf (sA (sB vM46))) 1) (q3 := opAt (opsOf (sA (sB vM46))) 2) (q4 := opAt (opsOf (sA (sB vM46))) 3) (ats := #[45]) Tryz.func46 (by kernel_rfl) (by kernel_rfl) (by kernel_rfl) (fun e w k => by kernel_rfl) (fun e w k => by kernel_rfl) (fun e w k => by kernel_rfl) (fun e w k => by kernel_rfl) (fun e w k => by kernel_rfl) (by kernel_rfl) (by kernel_rfl) (by kernel_rfl) um91 (fun x => ⟨hev x, C.len x, C.one x⟩) _ z45 (by kernel_rfl) J hY h
  · rintro e w' ⟨v, rfl, xs, hp, h⟩
    exact ⟨v, rfl, hk xs v w' hp h⟩
def T44 : List (Nat × FnT) := [(77, G77)]
def F44 (x0 : Value) (w : World) (K : V1) : Prop :=
callP G77 [(.slice none 0 0), x0] w fun v2 w1 =>
K v2 w1
def G44 : FnT := fun args w K => on1 (fun x0 => F44 x0 w K) args
theorem c44 {x0 : Value} {w : World} {K : V1} (h : F44 x0 w K) : callP G44 [x0] w K := callP_intro (on1_mk (p := fun x0 => F44 x0 w K) h)
theorem ok44 : OkF Tryz.prog 44 G44 := by
  refine okF_of (tab_ok (l := T44) ⟨ok77, trivial⟩) mixed (n := fuel) Tryz.func44 Tryz.call44 fun args w K h => ?_
  obtain ⟨x0, rfl, hh⟩ := of_on1 h
  exact fnD_list (c := bodyOf Tryz.f44) (by kernel_rfl) (by kernel_rfl) (Eq.mp (by kernel_rfl) hh)
def Lay45_ren : Go.Shelf.Ren := ⟨fun | 6 => 45 | 15 => 79 | 14 => 78 | 28 => 124 | 29 => 125 | 20 => 116 | 21 => 117 | 22 => 118 | 23 => 119 | 24 => 120 | 25 => 121 | 26 => 122 | 27 => 123 | 46 => 170 | 47 => 171 | 48 => 172 | 49 => 173 | 50 => 174 | 57 => 216 | n => n, fun | 22 => 22 | 24 => 45 | 25 => 95 | 3 => 3 | 39 => 158 | 0 => 0 | 53 => 240 | 55 => 195 | 4 => 4 | 46 => 234 | 45 => 233 | 50 => 123 | 5 => 5 | 9 => 9 | 66 => 290 | 70 => 294 | 76 => 336 | 77 => 337 | n => n, fun | n => n⟩
theorem Lay45 : Go.Proofs.SlLaysF0.n6 Tryz.prog Lay45_ren := {
  mixed := by kernel_rfl
  f6 := ⟨Tryz.f45.name, by decide, Tryz.func45.trans (congrArg some (by kernel_rfl))⟩
  f14 := ⟨Tryz.f78.name, by decide, Tryz.func78.trans (congrArg some (by kernel_rfl))⟩
  f15 := Tryz.func79.trans (congrArg some (by kernel_rfl))
  f20 := ⟨Tryz.f116.name, by decide, Tryz.func116.trans (congrArg some (by kernel_rfl))⟩
  f21 := ⟨Tryz.f117.name, by decide, Tryz.func117.trans (congrArg some (by kernel_rfl))⟩
  f22 := ⟨Tryz.f118.name, by decide, Tryz.func118.trans (congrArg some (by kernel_rfl))⟩
  f23 := ⟨Tryz.f119.name, by decide, Tryz.func119.trans (congrArg some (by kernel_rfl))⟩
  f24 := ⟨Tryz.f120.name, by decide, Tryz.func120.trans (congrArg some (by kernel_rfl))⟩
  f25 := ⟨Tryz.f121.name, by decide, Tryz.func121.trans (congrArg some (by kernel_rfl))⟩
  f26 := ⟨Tryz.f122.name, by decide, Tryz.func122.trans (congrArg some (by kernel_rfl))⟩
  f27 := ⟨Tryz.f123.name, by decide, Tryz.func123.trans (congrArg some (by kernel_rfl))⟩
  f28 := Tryz.func124.trans (congrArg some (by kernel_rfl))
  f29 := Tryz.func125.trans (congrArg some (by kernel_rfl))
  f46 := ⟨Tryz.f170.name, by decide, Tryz.func170.trans (congrArg some (by kernel_rfl))⟩
  f47 := Tryz.func171.trans (congrArg some (by kernel_rfl))
  f48 := Tryz.func172.trans (congrArg some (by kernel_rfl))
  f49 := ⟨Tryz.f173.name, by decide, Tryz.func173.trans (congrArg some (by kernel_rfl))⟩
  f50 := ⟨Tryz.f174.name, by decide, Tryz.func174.trans (congrArg some (by kernel_rfl))⟩
  f57 := ⟨Tryz.f216.name, by decide, Tryz.func216.trans (congrArg some (by kernel_rfl))⟩
  t0 := Tryz.underlying0
  a0 := Tryz.isAgg0
  z0 := Tryz.sizeOf0
  v0 := Tryz.zeroValue0
  t3 := Tryz.underlying3
  a3 := Tryz.isAgg3
  z3 := Tryz.sizeOf3
  v3 := Tryz.zeroValue3
  t4 := Tryz.underlying4
  a4 := Tryz.isAgg4
  z4 := Tryz.sizeOf4
  v4 := Tryz.zeroValue4
  t5 := Tryz.underlying5
  a5 := Tryz.isAgg5
  z5 := Tryz.sizeOf5
  v5 := Tryz.zeroValue5
  t9 := Tryz.underlying9
  a9 := Tryz.isAgg9
  z9 := Tryz.sizeOf9
  v9 := Tryz.zeroValue9
  t22 := Tryz.underlying22
  a22 := Tryz.isAgg22
  z22 := Tryz.sizeOf22
  v22 := Tryz.zeroValue22
  t25 := Tryz.underlying95
  a25 := Tryz.isAgg95
  z25 := Tryz.sizeOf95
  v25 := Tryz.zeroValue95
  t39 := Tryz.underlying158
  a39 := Tryz.isAgg158
  z39 := Tryz.sizeOf158
  v39 := Tryz.zeroValue158
  t45 := Tryz.underlying233
  a45 := Tryz.isAgg233
  z45 := Tryz.sizeOf233
  v45 := Tryz.zeroValue233
  t46 := Tryz.underlying234
  a46 := Tryz.isAgg234
  z46 := Tryz.sizeOf234
  v46 := Tryz.zeroValue234
  t50 := Tryz.underlying123
  a50 := Tryz.isAgg123
  z50 := Tryz.sizeOf123
  v50 := Tryz.zeroValue123
  t53 := Tryz.underlying240
  a53 := Tryz.isAgg240
  z53 := Tryz.sizeOf240
  v53 := Tryz.zeroValue240
  t55 := Tryz.underlying195
  a55 := Tryz.isAgg195
  z55 := Tryz.sizeOf195
  v55 := Tryz.zeroValue195
  t66 := Tryz.underlying290
  a66 := Tryz.isAgg290
  z66 := Tryz.sizeOf290
  v66 := Tryz.zeroValue290
  t70 := Tryz.underlying294
  a70 := Tryz.isAgg294
  z70 := Tryz.sizeOf294
  v70 := Tryz.zeroValue294
  t76 := Tryz.underlying336
  a76 := Tryz.isAgg336
  z76 := Tryz.sizeOf336
  v76 := Tryz.zeroValue336
  t77 := Tryz.underlying337
  a77 := Tryz.isAgg337
  z77 := Tryz.sizeOf337
  v77 := Tryz.zeroValue337 }
def G45 : FnT := gSortF Tryz.prog 11 45
theorem ok45 : OkF Tryz.prog 45 G45 := okSortF Lay45 (fun w => by kernel_rfl) (fun w => by kernel_rfl) Tryz.call45
def T23 : List (Nat × FnT) := [(44, G44), (45, G45)]
def F23 (x0 x1 : Value) (w : World) (K : V1) : Prop :=
callP G44 [x0] w fun v2 w1 =>
callP G45 [v2, x1] w1 fun _ w3 =>
K v2 w3
def G23 : FnT := fun args w K => on2 (fun x0 x1 => F23 x0 x1 w K) args
theorem c23 {x0 x1 : Value} {w : World} {K : V1} (h : F23 x0 x1 w K) : callP G23 [x0, x1] w K := callP_intro (on2_mk (p := fun x0 x1 => F23 x0 x1 w K) h)
theorem ok23 : OkF Tryz.prog 23 G23 := by
  refine okF_of (tab_ok (l := T23) ⟨ok44, ok45, trivial⟩) mixed (n := fuel) Tryz.func23 Tryz.call23 fun args w K h => ?_
  obtain ⟨x0, x1, rfl, hh⟩ := of_on2 h
  exact fnD_list (c := bodyOf Tryz.f23) (by kernel_rfl) (by kernel_rfl) (Eq.mp (by kernel_rfl) hh)
def T24 : List (Nat × FnT) := []
def F24 (x0 : Value) (w : World) (K : V1) : Prop :=
eBox 91 x0 w fun v2 w1 =>
bindP (some (.func (.func 46) #[] #[v2])) fun v3 =>
K v3 w1
def G24 : FnT := fun args w K => on1 (fun x0 => F24 x0 w K) args
theorem c24 {x0 : Value} {w : World} {K : V1} (h : F24 x0 w K) : callP G24 [x0] w K := callP_intro (on1_mk (p := fun x0 => F24 x0 w K) h)
theorem ok24 : OkF Tryz.prog 24 G24 := by
  refine okF_of (tab_ok (l := T24) trivial) mixed (n := fuel) Tryz.func24 Tryz.call24 fun args w K h => ?_
  obtain ⟨x0, rfl, hh⟩ := of_on1 h
  exact fnD_list (c := bodyOf Tryz.f24) (by kernel_rfl) (by kernel_rfl) (Eq.mp (by kernel_rfl) hh)
def T8 : List (Nat × FnT) := [(23, G23), (24, G24)]
def F8 (x0 : Value) (w : World) (K : V1) : Prop :=
bindP (pNil x0) fun v1 =>
bindP (pFieldAddr 2 v1) fun v2 =>
bindP (ld1 v2 w) fun v3 =>
callP G24 [v3] w fun v5 w4 =>
callP G23 [v5, (.func (.func 25) #[] #[])] w4 fun v7 w6 =>
K v7 w6
def G8 : FnT := fun args w K => on1 (fun x0 => F8 x0 w K) args
theorem c8 {x0 : Value} {w : World} {K : V1} (h : F8 x0 w K) : callP G8 [x0] w K := callP_intro (on1_mk (p := fun x0 => F8 x0 w K) h)
theorem ok8 : OkF Tryz.prog 8 G8 := by
  refine okF_of (tab_ok (l := T8) ⟨ok23, ok24, trivial⟩) mixed (n := fuel) Tryz.func8 Tryz.call8 fun args w K h => ?_
  obtain ⟨x0, rfl, hh⟩ := of_on1 h
  exact fnD_list (c := bodyOf Tryz.f8) (by kernel_rfl) (by kernel_rfl) (Eq.mp (by kernel_rfl) hh)
def T40 : List (Nat × FnT) := []
def F40 (x0 : Value) (w : World) (K : V1) : Prop :=
eBox 43 x0 w fun v2 w1 =>
eAlloc Tryz.prog 125 w1 fun v4 w3 =>
bindP (pFieldAddr 0 v2) fun v5 =>
bindP (ld1 v5 w3) fun v6 =>
bindP (pFieldAddr 1 v2) fun v7 =>
bindP (ld1 v7 w3) fun v8 =>
bindP (pFieldAddr 2 v2) fun v9 =>
bindP (ld1 v9 w3) fun v10 =>
bindP (fBuild Tryz.prog 125 [(0, v6), (1, v8), (2, v10)]) fun v11 =>
bindW (st 3 v4 v11 w3) fun w12 =>
bindP (ldN 3 v4 w12) fun v14 =>
K v14 w12
def G40 : FnT := fun args w K => on1 (fun x0 => F40 x0 w K) args
theorem c40 {x0 : Value} {w : World} {K : V1} (h : F40 x0 w K) : callP G40 [x0] w K := callP_intro (on1_mk (p := fun x0 => F40 x0 w K) h)
theorem ok40 : OkF Tryz.prog 40 G40 := by
  refine okF_of (tab_ok (l := T40) trivial) mixed (n := fuel) Tryz.func40 Tryz.call40 fun args w K h => ?_
  obtain ⟨x0, rfl, hh⟩ := of_on1 h
  exact fnD_list (c := bodyOf Tryz.f40) (by kernel_rfl) (by kernel_rfl) (Eq.mp (by kernel_rfl) hh)
def T42 : List (Nat × FnT) := [(40, G40)]
def F42 (x0 x1 : Value) (w : World) (K : V1) : Prop :=
eBox 45 x1 w fun v2 w1 =>
bindP (pNil x0) fun v3 =>
bindP (pFieldAddr 2 v3) fun v4 =>
bindP (ld1 v4 w1.drew) fun v5 =>
bindP (pFieldAddr 0 v2) fun v6 =>
bindP (ld1 v6 w1.drew) fun v7 =>
bindP (ldN 11 v2 w1.drew) fun v8 =>
eMapSet Tryz.prog 91 v5 v7 v8 w1.drew fun _ w9 =>
bindP (pNil x0) fun v11 =>
bindP (pFieldAddr 3 v11) fun v12 =>
bindP (ld1 v12 w9.drew) fun v13 =>
bindP (pFieldAddr 1 v2) fun v14 =>
bindP (ldN 5 v14 w9.drew) fun v15 =>
bindP (pFieldAddr 0 v2) fun v16 =>
bindP (ld1 v16 w9.drew) fun v17 =>
callP G40 [v15] w9.drew fun v19 w18 =>
(fok true (ld1 v12 w18) v13 ∧ fok true (ld1 v16 w18) v17) ∧ (eMapSet Tryz.prog 92 v13 v19 v17 w18 fun _ w20 =>
K (.tuple #[]) w20)
def G42 : FnT := fun args w K => on2 (fun x0 x1 => F42 x0 x1 w K) args
theorem c42 {x0 x1 : Value} {w : World} {K : V1} (h : F42 x0 x1 w K) : callP G42 [x0, x1] w K := callP_intro (on2_mk (p := fun x0 x1 => F42 x0 x1 w K) h)
theorem ok42 : OkF Tryz.prog 42 G42 := by
  refine okF_of (tab_ok (l := T42) ⟨ok40, trivial⟩) mixed (n := fuel) Tryz.func42 Tryz.call42 fun args w K h => ?_
  obtain ⟨x0, x1, rfl, hh⟩ := of_on2 h
  exact fnD_list (c := bodyOf Tryz.f42) (by kernel_rfl) (by kernel_rfl) (Eq.mp (by kernel_rfl) hh)
def T20 : List (Nat × FnT) := [(40, G40), (41, G41), (42, G42)]
def F20_5b (s0 s2 : Value) (w : World) (K : V1) : Prop :=
bindP (pNil s0) fun v1 =>
bindP (pFieldAddr 1 v1) fun v2 =>
bindW (st 1 v2 s2 w) fun w3 =>
K (.int .i64 0) w3
def F20_5 (s0 s2 : Value) (w : World) (K : V1) : Prop := F20_5b s0 s2 w K
theorem ok20_5 {K : V1}
    (hn : HN (fun e w => K (e 6) w) kn) (hr : HR Tryz.prog [.tmp 6] K kr) (he : HE noE ke) :
    ∀ e w, F20_5 (e 0) (e 2) w K → denL Tryz.prog (tabOf T20) 106 fuel ((flat (bodyOf Tryz.f20)).drop 12) e w kn kr ke := by
  intro e w h
  unfold F20_5 at h
  have e1 : ∀ (_ : Unit), F20_5b (e 0) (e 2) w K = denL Tryz.prog (tabOf T20) 106 fuel ((flat (bodyOf Tryz.f20)).drop 12) e w (fun e w => K (e 6) w) (endD Tryz.prog [.tmp 6] K) noE := by intro _; kernel_rfl
  exact seg_end (Eq.mp (e1 ()) h) hn hr he
def F20_4b (s0 s2 s92 s93 s94 : Value) (w : World) (_K : V1) (Y0 : V5) (Y1 : V2) : Prop :=
bindP (bLt s94 s93) fun v5 =>
ifB v5 (
bindP (pIndexL 11 s92 s94) fun v6 =>
bindP (ldN 11 v6 w) fun v7 =>
eAlloc Tryz.prog 45 w fun v9 w8 =>
bindW (st 11 v9 v7 w8) fun w10 =>
bindP (ldN 11 v9 w10) fun v12 =>
callP G42 [s0, v12] w10 fun _ w13 =>
bindP (bAdd s94 (.int .i64 1)) fun v15 =>
Y0 s0 s2 s92 s93 v15 w13) (
Y1 s0 s2 w)
def F20_4L : Nat → Value → Value → Value → Value → Value → World → (V1) → Prop
  | 0, _, _, _, _, _, _, _ => False
  | n + 1, s0, s2, s92, s93, s94, w, K => F20_4b s0 s2 s92 s93 s94 w K (fun a0 a2 a92 a93 a94 w => F20_4L n a0 a2 a92 a93 a94 w K) (fun a0 a2 w => F20_5 a0 a2 w K)
def F20_4 (s0 s2 s92 s93 s94 : Value) (w : World) (K : V1) : Prop := F20_4L fuel s0 s2 s92 s93 s94 w K
theorem ok20_4 {K : V1}
    (hn : HN (fun e w => K (e 6) w) kn) (hr : HR Tryz.prog [.tmp 6] K kr) (he : HE noE ke) :
    ∀ e w, F20_4 (e 0) (e 2) (e 92) (e 93) (e 94) w K → denL Tryz.prog (tabOf T20) 106 fuel ((flat (bodyOf Tryz.f20)).drop 11) e w kn kr ke := by
  intro e w h
  unfold F20_4 at h
  refine seg_loop (id := 2) (body := (loopB (blkB (nthC (flat (bodyOf Tryz.f20)) 11)))) (l2 := (flat (bodyOf Tryz.f20)).drop 12) (by kernel_rfl) ?_
  refine loop_ok (FL := fun m e w => F20_4L m (e 0) (e 2) (e 92) (e 93) (e 94) w K) (fr := endD Tryz.prog [.tmp 6] K) (fe := (blkK 2 (fun e w => F20_5 (e 0) (e 2) w K) noE)) (fun _ _ h => h) ?_ hr (blkK_mono (fun e w h => ok20_5 hn hr he e w h) he) fuel e w h
  intro m e w h
  have h : F20_4L (m + 1) (e 0) (e 2) (e 92) (e 93) (e 94) w K := h
  rw [F20_4L] at h
  have e1 : ∀ (Y0 : V5) (Y1 : V2), F20_4b (e 0) (e 2) (e 92) (e 93) (e 94) w K Y0 Y1 = denL Tryz.prog (tabOf T20) 106 fuel (flat (loopB (blkB (nthC (flat (bodyOf Tryz.f20)) 11)))) e w (fun e w => Y0 (e 0) (e 2) (e 92) (e 93) (e 94) w) (endD Tryz.prog [.tmp 6] K) (blkK 2 (fun e w => Y1 (e 0) (e 2) w) noE) := by intro Y0 Y1; kernel_rfl
  exact Eq.mp (e1 (fun a0 a2 a92 a93 a94 w => F20_4L m a0 a2 a92 a93 a94 w K) (fun a0 a2 w => F20_5 a0 a2 w K)) h
def F20_3b (s0 s1 s2 : Value) (w : World) (K : V1) (Y0 : V5) : Prop :=
bindP (lenL s1) fun v16 =>
bindP (pNil s0) fun v17 =>
bindP (pFieldAddr 0 v17) fun v18 =>
bindP (ld1 v18 w) fun v19 =>
bindP (bGt v16 v19) fun v20 =>
ifB v20 (
K (.int .i64 200) w) (
bindP (pNil s0) fun v21 =>
bindP (pFieldAddr 2 v21) fun v22 =>
bindP (ld1 v22 w) fun v23 =>
eClear Tryz.prog 91 v23 w fun _ w24 =>
bindP (pNil s0) fun v26 =>
bindP (pFieldAddr 3 v26) fun v27 =>
bindP (ld1 v27 w24) fun v28 =>
eClear Tryz.prog 92 v28 w24 fun _ w29 =>
bindP (lenL s1) fun v31 =>
Y0 s0 s2 s1 v31 (.int .i64 0) w29)
def F20_3 (s0 s1 s2 : Value) (w : World) (K : V1) : Prop := F20_3b s0 s1 s2 w K (fun a0 a2 a92 a93 a94 w => F20_4 a0 a2 a92 a93 a94 w K)
theorem ok20_3 {K : V1}
    (hn : HN (fun e w => K (e 6) w) kn) (hr : HR Tryz.prog [.tmp 6] K kr) (he : HE noE ke) :
    ∀ e w, F20_3 (e 0) (e 1) (e 2) w K → denL Tryz.prog (tabOf T20) 106 fuel ((flat (bodyOf Tryz.f20)).drop 6) e w kn kr ke := by
  intro e w h
  unfold F20_3 at h
  have e1 : ∀ (Y0 : V5), F20_3b (e 0) (e 1) (e 2) w K Y0 = denL Tryz.prog (tabOf T20) 106 fuel (((flat (bodyOf Tryz.f20)).drop 6).take 5) e w (fun e w => Y0 (e 0) (e 2) (e 92) (e 93) (e 94) w) (endD Tryz.prog [.tmp 6] K) noE := by intro Y0; kernel_rfl
  exact seg 5 (Eq.mp (e1 (fun a0 a2 a92 a93 a94 w => F20_4 a0 a2 a92 a93 a94 w K)) h) (fun e w h => ok20_4 hn hr he e w h) hr he
def F20_2b (s0 s1 s2 s7 s31 s32 s33 : Value) (w : World) (K : V1) (Y0 : V7) (Y1 : V3) : Prop :=
bindP (bLt s33 s32) fun v32 =>
ifB v32 (
bindP (pIndexL 11 s31 s33) fun v33 =>
bindP (ldN 11 v33 w) fun v34 =>
eAlloc Tryz.prog 45 w fun v36 w35 =>
bindW (st 11 v36 v34 w35) fun w37 =>
bindP (pNil s7) fun v39 =>
bindP (pFieldAddr 2 v39) fun v40 =>
bindP (ld1 v40 w37.drew) fun v41 =>
bindP (pFieldAddr 0 v36) fun v42 =>
bindP (ld1 v42 w37.drew) fun v43 =>
bindP (fLook Tryz.prog 91 v41 v43 true w37.drew) fun v44 =>
bindP (pTuple v44 0) fun v45 =>
bindP (pTuple v44 1) fun v46 =>
eAlloc Tryz.prog 45 w37.drew fun v48 w47 =>
(fok true (ld1 v40 w47) v41 ∧ fok true (ld1 v42 w47) v43 ∧ fok true (fLook Tryz.prog 91 v41 v43 true w47) v44) ∧ (bindW (st 11 v48 v45 w47) fun w49 =>
bindP (pNil s7) fun v51 =>
bindP (pFieldAddr 3 v51) fun v52 =>
bindP (ld1 v52 w49.drew) fun v53 =>
bindP (pFieldAddr 1 v36) fun v54 =>
bindP (ldN 5 v54 w49.drew) fun v55 =>
callP G40 [v55] w49.drew fun v57 w56 =>
fok true (ld1 v52 w56) v53 ∧ (bindP (fLook Tryz.prog 92 v53 v57 true w56) fun v58 =>
bindP (pTuple v58 0) fun _ =>
bindP (pTuple v58 1) fun v60 =>
bindP (ldN 11 v36 w56) fun v61 =>
callP G41 [v61] w56 fun v63 w62 =>
bindP (bNe Tryz.prog 39 (.tmp 59) (.const (.int .i64 0)) v63 (.int .i64 0)) fun v64 =>
Sx.stepG (gd false v64) (pFieldAddr 0 v36) fun v65 =>
Sx.stepG (gd false v64) (ld1 v65 w62) fun v66 =>
stepM (gd false v64) s2 fun v67 =>
Sx.stepG (gd false v64) (bGe v66 v67) fun v68 =>
bindP (pPick v64 (.bool true) v68) fun v69 =>
stepM (gd false v69) v46 fun v70 =>
bindP (pPick v69 (.bool true) v70) fun v71 =>
stepM (gd false v71) v60 fun v72 =>
bindP (pPick v71 (.bool true) v72) fun v73 =>
ifB v73 (
K (.int .i64 4) w62) (
bindP (ldN 11 v36 w62) fun v74 =>
callP G42 [s7, v74] w62 fun _ w75 =>
bindP (bAdd s33 (.int .i64 1)) fun v77 =>
Y0 s0 s1 s2 s7 s31 s32 v77 w75)))) (
Y1 s0 s1 s2 w)
def F20_2L : Nat → Value → Value → Value → Value → Value → Value → Value → World → (V1) → Prop
  | 0, _, _, _, _, _, _, _, _, _ => False
  | n + 1, s0, s1, s2, s7, s31, s32, s33, w, K => F20_2b s0 s1 s2 s7 s31 s32 s33 w K (fun a0 a1 a2 a7 a31 a32 a33 w => F20_2L n a0 a1 a2 a7 a31 a32 a33 w K) (fun a0 a1 a2 w => F20_3 a0 a1 a2 w K)
def F20_2 (s0 s1 s2 s7 s31 s32 s33 : Value) (w : World) (K : V1) : Prop := F20_2L fuel s0 s1 s2 s7 s31 s32 s33 w K
theorem ok20_2 {K : V1}
    (hn : HN (fun e w => K (e 6) w) kn) (hr : HR Tryz.prog [.tmp 6] K kr) (he : HE noE ke) :
    ∀ e w, F20_2 (e 0) (e 1) (e 2) (e 7) (e 31) (e 32) (e 33) w K → denL Tryz.prog (tabOf T20) 106 fuel ((flat (bodyOf Tryz.f20)).drop 5) e w kn kr ke := by
  intro e w h
  unfold F20_2 at h
  refine seg_loop (id := 0) (body := (loopB (blkB (nthC (flat (bodyOf Tryz.f20)) 5)))) (l2 := (flat (bodyOf Tryz.f20)).drop 6) (by kernel_rfl) ?_
  refine loop_ok (FL := fun m e w => F20_2L m (e 0) (e 1) (e 2) (e 7) (e 31) (e 32) (e 33) w K) (fr := endD Tryz.prog [.tmp 6] K) (fe := (blkK 0 (fun e w => F20_3 (e 0) (e 1) (e 2) w K) noE)) (fun _ _ h => h) ?_ hr (blkK_mono (fun e w h => ok20_3 hn hr he e w h) he) fuel e w h
  intro m e w h
  have h : F20_2L (m + 1) (e 0) (e 1) (e 2) (e 7) (e 31) (e 32) (e 33) w K := h
  rw [F20_2L] at h
  have e1 : ∀ (Y0 : V7) (Y1 : V3), F20_2b (e 0) (e 1) (e 2) (e 7) (e 31) (e 32) (e 33) w K Y0 Y1 = denL Tryz.prog (tabOf T20) 106 fuel (flat (loopB (blkB (nthC (flat (bodyOf Tryz.f20)) 5)))) e w (fun e w => Y0 (e 0) (e 1) (e 2) (e 7) (e 31) (e 32) (e 33) w) (endD Tryz.prog [.tmp 6] K) (blkK 0 (fun e w => Y1 (e 0) (e 1) (e 2) w) noE) := by intro Y0 Y1; kernel_rfl
  exact Eq.mp (e1 (fun a0 a1 a2 a7 a31 a32 a33 w => F20_2L m a0 a1 a2 a7 a31 a32 a33 w K) (fun a0 a1 a2 w => F20_3 a0 a1 a2 w K)) h
def F20_1b (s0 s1 s2 : Value) (w : World) (K : V1) (Y0 : V7) : Prop :=
bindP (bLt s2 (.int .i64 1)) fun v78 =>
stepM (gd false v78) s2 fun v79 =>
Sx.stepG (gd false v78) (bGt v79 (.int .i64 1152921504606846976)) fun v80 =>
bindP (pPick v78 (.bool true) v80) fun v81 =>
ifB v81 (
K (.int .i64 4) w) (
bindP (pNil s0) fun v82 =>
bindP (pFieldAddr 0 v82) fun v83 =>
bindP (ld1 v83 w) fun v84 =>
eMakeMap none w fun v86 w85 =>
eMakeMap none w85 fun v88 w87 =>
bindP (fBuild Tryz.prog 94 [(0, v84), (1, s2), (2, v86), (3, v88)]) fun v89 =>
eBox 94 v89 w87 fun v91 w90 =>
bindP (lenL s1) fun v92 =>
Y0 s0 s1 s2 v91 s1 v92 (.int .i64 0) w90)
def F20_1 (s0 s1 s2 : Value) (w : World) (K : V1) : Prop := F20_1b s0 s1 s2 w K (fun a0 a1 a2 a7 a31 a32 a33 w => F20_2 a0 a1 a2 a7 a31 a32 a33 w K)
theorem ok20_1 {K : V1}
    (hn : HN (fun e w => K (e 6) w) kn) (hr : HR Tryz.prog [.tmp 6] K kr) (he : HE noE ke) :
    ∀ e w, F20_1 (e 0) (e 1) (e 2) w K → denL Tryz.prog (tabOf T20) 106 fuel ((flat (bodyOf Tryz.f20)).drop 0) e w kn kr ke := by
  intro e w h
  unfold F20_1 at h
  have e1 : ∀ (Y0 : V7), F20_1b (e 0) (e 1) (e 2) w K Y0 = denL Tryz.prog (tabOf T20) 106 fuel (((flat (bodyOf Tryz.f20)).drop 0).take 5) e w (fun e w => Y0 (e 0) (e 1) (e 2) (e 7) (e 31) (e 32) (e 33) w) (endD Tryz.prog [.tmp 6] K) noE := by intro Y0; kernel_rfl
  exact seg 5 (Eq.mp (e1 (fun a0 a1 a2 a7 a31 a32 a33 w => F20_2 a0 a1 a2 a7 a31 a32 a33 w K)) h) (fun e w h => ok20_2 hn hr he e w h) hr he
def F20 (x0 x1 x2 : Value) (w : World) (K : V1) : Prop := F20_1 x0 x1 x2 w K
def G20 : FnT := fun args w K => on3 (fun x0 x1 x2 => F20 x0 x1 x2 w K) args
theorem c20 {x0 x1 x2 : Value} {w : World} {K : V1} (h : F20 x0 x1 x2 w K) : callP G20 [x0, x1, x2] w K := callP_intro (on3_mk (p := fun x0 x1 x2 => F20 x0 x1 x2 w K) h)
theorem ok20 : OkF Tryz.prog 20 G20 := by
  refine okF_of (tab_ok (l := T20) ⟨ok40, ok41, ok42, trivial⟩) mixed (n := fuel) Tryz.func20 Tryz.call20 fun args w K h => ?_
  obtain ⟨x0, x1, x2, rfl, hh⟩ := of_on3 h
  unfold F20 at hh
  exact fnD_list (c := bodyOf Tryz.f20) (by kernel_rfl) (by kernel_rfl) (ok20_1 (fun _ _ h => h) (fun _ _ h => h) (fun _ _ _ h => h) (initE [x0, x1, x2]) w hh)
def T69 : List (Nat × FnT) := []
def F69 (x0 : Value) (w : World) (K : V1) : Prop :=
bindP (bLt x0 (.int .i64 1)) fun v1 =>
stepM (gd false v1) x0 fun v2 =>
Sx.stepG (gd false v1) (bGt v2 (.int .i64 65536)) fun v3 =>
bindP (pPick v1 (.bool true) v3) fun v4 =>
ifB v4 (
K (.tuple #[(.pointer none), (.int .i64 1)]) w) (
bindP (fBuild Tryz.prog 122 [(0, x0), (1, (.int .i64 1))]) fun v5 =>
eBox 122 v5 w fun v7 w6 =>
K (.tuple #[v7, (.int .i64 0)]) w6)
def G69 : FnT := fun args w K => on1 (fun x0 => F69 x0 w K) args
theorem c69 {x0 : Value} {w : World} {K : V1} (h : F69 x0 w K) : callP G69 [x0] w K := callP_intro (on1_mk (p := fun x0 => F69 x0 w K) h)
theorem ok69 : OkF Tryz.prog 69 G69 := by
  refine okF_of (tab_ok (l := T69) trivial) mixed (n := fuel) Tryz.func69 Tryz.call69 fun args w K h => ?_
  obtain ⟨x0, rfl, hh⟩ := of_on1 h
  exact fnD_list (c := bodyOf Tryz.f69) (by kernel_rfl) (by kernel_rfl) (Eq.mp (by kernel_rfl) hh)
def T39 : List (Nat × FnT) := []
def F39 (x0 x1 : Value) (w : World) (K : V1) : Prop :=
eBox 43 x0 w fun v2 w1 =>
eBox 43 x1 w1 fun v4 w3 =>
bindP (pFieldAddr 0 v2) fun v5 =>
bindP (ld1 v5 w3) fun v6 =>
bindP (pFieldAddr 0 v4) fun v7 =>
bindP (ld1 v7 w3) fun v8 =>
bindP (bEq Tryz.prog 9 (.tmp 6) (.tmp 8) v6 v8) fun v9 =>
Sx.stepG (gd true v9) (pFieldAddr 1 v2) fun v10 =>
Sx.stepG (gd true v9) (ld1 v10 w3) fun v11 =>
Sx.stepG (gd true v9) (pFieldAddr 1 v4) fun v12 =>
Sx.stepG (gd true v9) (ld1 v12 w3) fun v13 =>
Sx.stepG (gd true v9) (bEq Tryz.prog 9 (.tmp 12) (.tmp 14) v11 v13) fun v14 =>
bindP (pPick v9 v14 (.bool false)) fun v15 =>
Sx.stepG (gd true v15) (pFieldAddr 2 v2) fun v16 =>
Sx.stepG (gd true v15) (ld1 v16 w3) fun v17 =>
Sx.stepG (gd true v15) (pFieldAddr 2 v4) fun v18 =>
Sx.stepG (gd true v15) (ld1 v18 w3) fun v19 =>
Sx.stepG (gd true v15) (bEq Tryz.prog 9 (.tmp 19) (.tmp 21) v17 v19) fun v20 =>
bindP (pPick v15 v20 (.bool false)) fun v21 =>
K v21 w3
def G39 : FnT := fun args w K => on2 (fun x0 x1 => F39 x0 x1 w K) args
theorem c39 {x0 x1 : Value} {w : World} {K : V1} (h : F39 x0 x1 w K) : callP G39 [x0, x1] w K := callP_intro (on2_mk (p := fun x0 x1 => F39 x0 x1 w K) h)
theorem ok39 : OkF Tryz.prog 39 G39 := by
  refine okF_of (tab_ok (l := T39) trivial) mixed (n := fuel) Tryz.func39 Tryz.call39 fun args w K h => ?_
  obtain ⟨x0, x1, rfl, hh⟩ := of_on2 h
  exact fnD_list (c := bodyOf Tryz.f39) (by kernel_rfl) (by kernel_rfl) (Eq.mp (by kernel_rfl) hh)
def T19 : List (Nat × FnT) := [(38, G38), (39, G39)]
def F19_3b (s0 s1 s2 s7 : Value) (w : World) (K : V1) : Prop :=
bindP (lenL s1) fun v1 =>
bindP (pNil s0) fun v2 =>
bindP (pFieldAddr 0 v2) fun v3 =>
bindP (ld1 v3 w) fun v4 =>
bindP (bGt v1 v4) fun v5 =>
ifB v5 (
K (.int .i64 200) w) (
bindP (pNil s0) fun v6 =>
bindP (pFieldAddr 2 v6) fun v7 =>
bindW (st 1 v7 s7 w) fun w8 =>
bindP (pNil s0) fun v10 =>
bindP (pFieldAddr 1 v10) fun v11 =>
bindW (st 1 v11 s2 w8) fun w12 =>
K (.int .i64 0) w12)
def F19_3 (s0 s1 s2 s7 : Value) (w : World) (K : V1) : Prop := F19_3b s0 s1 s2 s7 w K
theorem ok19_3 {K : V1}
    (hn : HN (fun e w => K (e 6) w) kn) (hr : HR Tryz.prog [.tmp 6] K kr) (he : HE noE ke) :
    ∀ e w, F19_3 (e 0) (e 1) (e 2) (e 7) w K → denL Tryz.prog (tabOf T19) 119 fuel ((flat (bodyOf Tryz.f19)).drop 6) e w kn kr ke := by
  intro e w h
  unfold F19_3 at h
  have e1 : ∀ (_ : Unit), F19_3b (e 0) (e 1) (e 2) (e 7) w K = denL Tryz.prog (tabOf T19) 119 fuel ((flat (bodyOf Tryz.f19)).drop 6) e w (fun e w => K (e 6) w) (endD Tryz.prog [.tmp 6] K) noE := by intro _; kernel_rfl
  exact seg_end (Eq.mp (e1 ()) h) hn hr he
def F19_6b (s0 s1 s2 s7 s8 : Value) (w : World) (_K : V1) (R3 : V5) : Prop :=
bindP (bAdd s8 (.int .i64 1)) fun v14 =>
R3 s0 s1 s2 s7 v14 w
def F19_6 (s0 s1 s2 s7 s8 : Value) (w : World) (K : V1) (R3 : V5) : Prop := F19_6b s0 s1 s2 s7 s8 w K R3
theorem ok19_6 (R3 : V5) {K : V1}
    (hn : HN (fun e w => R3 (e 0) (e 1) (e 2) (e 7) (e 8) w) kn) (hr : HR Tryz.prog [.tmp 6] K kr) (he : HE (blkK 0 (fun e w => F19_3 (e 0) (e 1) (e 2) (e 7) w K) noE) ke) :
    ∀ e w, F19_6 (e 0) (e 1) (e 2) (e 7) (e 8) w K R3 → denL Tryz.prog (tabOf T19) 119 fuel ((flat (loopB (blkB (nthC (flat (bodyOf Tryz.f19)) 5)))).drop 3) e w kn kr ke := by
  intro e w h
  unfold F19_6 at h
  have e1 : ∀ (_ : Unit), F19_6b (e 0) (e 1) (e 2) (e 7) (e 8) w K R3 = denL Tryz.prog (tabOf T19) 119 fuel ((flat (loopB (blkB (nthC (flat (bodyOf Tryz.f19)) 5)))).drop 3) e w (fun e w => R3 (e 0) (e 1) (e 2) (e 7) (e 8) w) (endD Tryz.prog [.tmp 6] K) (blkK 0 (fun e w => F19_3 (e 0) (e 1) (e 2) (e 7) w K) noE) := by intro _; kernel_rfl
  exact seg_end (Eq.mp (e1 ()) h) hn hr he
def F19_11b (s0 s1 s2 s7 s8 s10 : Value) (w : World) (_K : V1) (R3 : V5) (Y0 : V5) : Prop :=
bindP (pSliceL 11 s7 none (some s10) none) fun v15 =>
eAppend Tryz.prog 22 22 (.slice none 0 0) v15 w fun v17 w16 =>
bindP (pIndexL 11 s1 s8) fun v18 =>
bindP (ldN 11 v18 w16) fun v19 =>
eBuildSl Tryz.prog 22 1 [(0, v19)] w16 fun v21 w20 =>
eAppend Tryz.prog 22 22 v17 v21 w20 fun v23 w22 =>
bindP (pSliceL 11 s7 (some s10) none none) fun v24 =>
eAppend Tryz.prog 22 22 v23 v24 w22 fun v26 w25 =>
Y0 s0 s1 s2 v26 s8 w25
def F19_11 (s0 s1 s2 s7 s8 s10 : Value) (w : World) (K : V1) (R3 : V5) : Prop := F19_11b s0 s1 s2 s7 s8 s10 w K R3 (fun a0 a1 a2 a7 a8 w => F19_6 a0 a1 a2 a7 a8 w K R3)
theorem ok19_11 (R3 : V5) {K : V1}
    (hn : HN (fun e w => F19_6 (e 0) (e 1) (e 2) (e 7) (e 8) w K R3) kn) (hr : HR Tryz.prog [.tmp 6] K kr) (he : HE (blkK 1 (fun e w => F19_6 (e 0) (e 1) (e 2) (e 7) (e 8) w K R3) (blkK 0 (fun e w => F19_3 (e 0) (e 1) (e 2) (e 7) w K) noE)) ke) :
    ∀ e w, F19_11 (e 0) (e 1) (e 2) (e 7) (e 8) (e 10) w K R3 → denL Tryz.prog (tabOf T19) 119 fuel ((flat (blkB (nthC (flat (loopB (blkB (nthC (flat (bodyOf Tryz.f19)) 5)))) 2))).drop 6) e w kn kr ke := by
  intro e w h
  unfold F19_11 at h
  have e1 : ∀ (Y0 : V5), F19_11b (e 0) (e 1) (e 2) (e 7) (e 8) (e 10) w K R3 Y0 = denL Tryz.prog (tabOf T19) 119 fuel ((flat (blkB (nthC (flat (loopB (blkB (nthC (flat (bodyOf Tryz.f19)) 5)))) 2))).drop 6) e w (fun e w => Y0 (e 0) (e 1) (e 2) (e 7) (e 8) w) (endD Tryz.prog [.tmp 6] K) (blkK 1 (fun e w => Y0 (e 0) (e 1) (e 2) (e 7) (e 8) w) (blkK 0 (fun e w => F19_3 (e 0) (e 1) (e 2) (e 7) w K) noE)) := by intro Y0; kernel_rfl
  exact seg_end (Eq.mp (e1 (fun a0 a1 a2 a7 a8 w => F19_6 a0 a1 a2 a7 a8 w K R3)) h) hn hr he
def F19_10b (s0 s1 s2 s7 s8 s10 : Value) (w : World) (_K : V1) (R3 : V5) (Y0 : V6) (Y1 : V6) : Prop :=
bindP (lenL s7) fun v27 =>
bindP (bLt s10 v27) fun v28 =>
stepM (gd true v28) s7 fun v29 =>
stepM (gd true v28) s10 fun v30 =>
Sx.stepG (gd true v28) (pIndexL 11 v29 v30) fun v31 =>
Sx.stepG (gd true v28) (pFieldAddr 0 v31) fun v32 =>
Sx.stepG (gd true v28) (ld1 v32 w.drew) fun v33 =>
stepM (gd true v28) s1 fun v34 =>
stepM (gd true v28) s8 fun v35 =>
Sx.stepG (gd true v28) (pIndexL 11 v34 v35) fun v36 =>
Sx.stepG (gd true v28) (pFieldAddr 0 v36) fun v37 =>
Sx.stepG (gd true v28) (ld1 v37 w.drew) fun v38 =>
Sx.stepG (gd true v28) (bLt v33 v38) fun v39 =>
bindP (pPick v28 v39 (.bool false)) fun v40 =>
ifB v40 (
bindP (bAdd s10 (.int .i64 1)) fun v41 =>
Y0 s0 s1 s2 s7 s8 v41 w.drew) (
Y1 s0 s1 s2 s7 s8 s10 w.drew)
def F19_10L : Nat → Value → Value → Value → Value → Value → Value → World → (V1) → (V5) → Prop
  | 0, _, _, _, _, _, _, _, _, _ => False
  | n + 1, s0, s1, s2, s7, s8, s10, w, K, R3 => F19_10b s0 s1 s2 s7 s8 s10 w K R3 (fun a0 a1 a2 a7 a8 a10 w => F19_10L n a0 a1 a2 a7 a8 a10 w K R3) (fun a0 a1 a2 a7 a8 a10 w => F19_11 a0 a1 a2 a7 a8 a10 w K R3)
def F19_10 (s0 s1 s2 s7 s8 s10 : Value) (w : World) (K : V1) (R3 : V5) : Prop := F19_10L fuel s0 s1 s2 s7 s8 s10 w K R3
theorem ok19_10 (R3 : V5) {K : V1}
    (hn : HN (fun e w => F19_6 (e 0) (e 1) (e 2) (e 7) (e 8) w K R3) kn) (hr : HR Tryz.prog [.tmp 6] K kr) (he : HE (blkK 1 (fun e w => F19_6 (e 0) (e 1) (e 2) (e 7) (e 8) w K R3) (blkK 0 (fun e w => F19_3 (e 0) (e 1) (e 2) (e 7) w K) noE)) ke) :
    ∀ e w, F19_10 (e 0) (e 1) (e 2) (e 7) (e 8) (e 10) w K R3 → denL Tryz.prog (tabOf T19) 119 fuel ((flat (blkB (nthC (flat (loopB (blkB (nthC (flat (bodyOf Tryz.f19)) 5)))) 2))).drop 5) e w kn kr ke := by
  intro e w h
  unfold F19_10 at h
  refine seg_loop (id := 4) (body := (loopB (blkB (nthC (flat (blkB (nthC (flat (loopB (blkB (nthC (flat (bodyOf Tryz.f19)) 5)))) 2))) 5)))) (l2 := (flat (blkB (nthC (flat (loopB (blkB (nthC (flat (bodyOf Tryz.f19)) 5)))) 2))).drop 6) (by kernel_rfl) ?_
  refine loop_ok (FL := fun m e w => F19_10L m (e 0) (e 1) (e 2) (e 7) (e 8) (e 10) w K R3) (fr := endD Tryz.prog [.tmp 6] K) (fe := (blkK 4 (fun e w => F19_11 (e 0) (e 1) (e 2) (e 7) (e 8) (e 10) w K R3) (blkK 1 (fun e w => F19_6 (e 0) (e 1) (e 2) (e 7) (e 8) w K R3) (blkK 0 (fun e w => F19_3 (e 0) (e 1) (e 2) (e 7) w K) noE)))) (fun _ _ h => h) ?_ hr (blkK_mono (fun e w h => ok19_11 R3 hn hr he e w h) he) fuel e w h
  intro m e w h
  have h : F19_10L (m + 1) (e 0) (e 1) (e 2) (e 7) (e 8) (e 10) w K R3 := h
  rw [F19_10L] at h
  have e1 : ∀ (Y0 : V6) (Y1 : V6), F19_10b (e 0) (e 1) (e 2) (e 7) (e 8) (e 10) w K R3 Y0 Y1 = denL Tryz.prog (tabOf T19) 119 fuel (flat (loopB (blkB (nthC (flat (blkB (nthC (flat (loopB (blkB (nthC (flat (bodyOf Tryz.f19)) 5)))) 2))) 5)))) e w (fun e w => Y0 (e 0) (e 1) (e 2) (e 7) (e 8) (e 10) w) (endD Tryz.prog [.tmp 6] K) (blkK 4 (fun e w => Y1 (e 0) (e 1) (e 2) (e 7) (e 8) (e 10) w) (blkK 1 (fun e w => F19_6 (e 0) (e 1) (e 2) (e 7) (e 8) w K R3) (blkK 0 (fun e w => F19_3 (e 0) (e 1) (e 2) (e 7) w K) noE))) := by intro Y0 Y1; kernel_rfl
  exact Eq.mp (e1 (fun a0 a1 a2 a7 a8 a10 w => F19_10L m a0 a1 a2 a7 a8 a10 w K R3) (fun a0 a1 a2 a7 a8 a10 w => F19_11 a0 a1 a2 a7 a8 a10 w K R3)) h
def F19_9b (s0 s1 s2 s7 s8 : Value) (w : World) (_K : V1) (R3 : V5) (Y0 : V6) : Prop :=
Y0 s0 s1 s2 s7 s8 (.int .i64 0) w
def F19_9 (s0 s1 s2 s7 s8 : Value) (w : World) (K : V1) (R3 : V5) : Prop := F19_9b s0 s1 s2 s7 s8 w K R3 (fun a0 a1 a2 a7 a8 a10 w => F19_10 a0 a1 a2 a7 a8 a10 w K R3)
theorem ok19_9 (R3 : V5) {K : V1}
    (hn : HN (fun e w => F19_6 (e 0) (e 1) (e 2) (e 7) (e 8) w K R3) kn) (hr : HR Tryz.prog [.tmp 6] K kr) (he : HE (blkK 1 (fun e w => F19_6 (e 0) (e 1) (e 2) (e 7) (e 8) w K R3) (blkK 0 (fun e w => F19_3 (e 0) (e 1) (e 2) (e 7) w K) noE)) ke) :
    ∀ e w, F19_9 (e 0) (e 1) (e 2) (e 7) (e 8) w K R3 → denL Tryz.prog (tabOf T19) 119 fuel ((flat (blkB (nthC (flat (loopB (blkB (nthC (flat (bodyOf Tryz.f19)) 5)))) 2))).drop 4) e w kn kr ke := by
  intro e w h
  unfold F19_9 at h
  have e1 : ∀ (Y0 : V6), F19_9b (e 0) (e 1) (e 2) (e 7) (e 8) w K R3 Y0 = denL Tryz.prog (tabOf T19) 119 fuel (((flat (blkB (nthC (flat (loopB (blkB (nthC (flat (bodyOf Tryz.f19)) 5)))) 2))).drop 4).take 1) e w (fun e w => Y0 (e 0) (e 1) (e 2) (e 7) (e 8) (e 10) w) (endD Tryz.prog [.tmp 6] K) (blkK 1 (fun e w => F19_6 (e 0) (e 1) (e 2) (e 7) (e 8) w K R3) (blkK 0 (fun e w => F19_3 (e 0) (e 1) (e 2) (e 7) w K) noE)) := by intro Y0; kernel_rfl
  exact seg 1 (Eq.mp (e1 (fun a0 a1 a2 a7 a8 a10 w => F19_10 a0 a1 a2 a7 a8 a10 w K R3)) h) (fun e w h => ok19_10 R3 hn hr he e w h) hr he
def F19_8b (s0 s1 s2 s7 s8 s9 : Value) (w : World) (K : V1) (R3 : V5) (Y0 : V6) (Y1 : V5) : Prop :=
bindP (bLt s9 s8) fun v42 =>
ifB v42 (
bindP (pIndexL 11 s1 s9) fun v43 =>
bindP (pFieldAddr 0 v43) fun v44 =>
bindP (ld1 v44 w.drew) fun v45 =>
bindP (pIndexL 11 s1 s8) fun v46 =>
bindP (pFieldAddr 0 v46) fun v47 =>
bindP (ld1 v47 w.drew) fun v48 =>
bindP (bEq Tryz.prog 3 (.tmp 48) (.tmp 53) v45 v48) fun v49 =>
stepM (gd false v49) s1 fun v50 =>
stepM (gd false v49) s9 fun v51 =>
Sx.stepG (gd false v49) (pIndexL 11 v50 v51) fun v52 =>
Sx.stepG (gd false v49) (pFieldAddr 1 v52) fun v53 =>
Sx.stepG (gd false v49) (ldN 5 v53 w.drew) fun v54 =>
stepM (gd false v49) s1 fun v55 =>
stepM (gd false v49) s8 fun v56 =>
Sx.stepG (gd false v49) (pIndexL 11 v55 v56) fun v57 =>
Sx.stepG (gd false v49) (pFieldAddr 1 v57) fun v58 =>
Sx.stepG (gd false v49) (ldN 5 v58 w.drew) fun v59 =>
stepE (gd false v49) (fun k => callP G39 [v54, v59] w.drew k) w.drew fun v61 w60 =>
bindP (pPick v49 (.bool true) v61) fun v62 =>
ifB v62 (
K (.int .i64 4) w60) (
bindP (bAdd s9 (.int .i64 1)) fun v63 =>
Y0 s0 s1 s2 s7 s8 v63 w60)) (
Y1 s0 s1 s2 s7 s8 w)
def F19_8L : Nat → Value → Value → Value → Value → Value → Value → World → (V1) → (V5) → Prop
  | 0, _, _, _, _, _, _, _, _, _ => False
  | n + 1, s0, s1, s2, s7, s8, s9, w, K, R3 => F19_8b s0 s1 s2 s7 s8 s9 w K R3 (fun a0 a1 a2 a7 a8 a9 w => F19_8L n a0 a1 a2 a7 a8 a9 w K R3) (fun a0 a1 a2 a7 a8 w => F19_9 a0 a1 a2 a7 a8 w K R3)
def F19_8 (s0 s1 s2 s7 s8 s9 : Value) (w : World) (K : V1) (R3 : V5) : Prop := F19_8L fuel s0 s1 s2 s7 s8 s9 w K R3
theorem ok19_8 (R3 : V5) {K : V1}
    (hn : HN (fun e w => F19_6 (e 0) (e 1) (e 2) (e 7) (e 8) w K R3) kn) (hr : HR Tryz.prog [.tmp 6] K kr) (he : HE (blkK 1 (fun e w => F19_6 (e 0) (e 1) (e 2) (e 7) (e 8) w K R3) (blkK 0 (fun e w => F19_3 (e 0) (e 1) (e 2) (e 7) w K) noE)) ke) :
    ∀ e w, F19_8 (e 0) (e 1) (e 2) (e 7) (e 8) (e 9) w K R3 → denL Tryz.prog (tabOf T19) 119 fuel ((flat (blkB (nthC (flat (loopB (blkB (nthC (flat (bodyOf Tryz.f19)) 5)))) 2))).drop 3) e w kn kr ke := by
  intro e w h
  unfold F19_8 at h
  refine seg_loop (id := 2) (body := (loopB (blkB (nthC (flat (blkB (nthC (flat (loopB (blkB (nthC (flat (bodyOf Tryz.f19)) 5)))) 2))) 3)))) (l2 := (flat (blkB (nthC (flat (loopB (blkB (nthC (flat (bodyOf Tryz.f19)) 5)))) 2))).drop 4) (by kernel_rfl) ?_
  refine loop_ok (FL := fun m e w => F19_8L m (e 0) (e 1) (e 2) (e 7) (e 8) (e 9) w K R3) (fr := endD Tryz.prog [.tmp 6] K) (fe := (blkK 2 (fun e w => F19_9 (e 0) (e 1) (e 2) (e 7) (e 8) w K R3) (blkK 1 (fun e w => F19_6 (e 0) (e 1) (e 2) (e 7) (e 8) w K R3) (blkK 0 (fun e w => F19_3 (e 0) (e 1) (e 2) (e 7) w K) noE)))) (fun _ _ h => h) ?_ hr (blkK_mono (fun e w h => ok19_9 R3 hn hr he e w h) he) fuel e w h
  intro m e w h
  have h : F19_8L (m + 1) (e 0) (e 1) (e 2) (e 7) (e 8) (e 9) w K R3 := h
  rw [F19_8L] at h
  have e1 : ∀ (Y0 : V6) (Y1 : V5), F19_8b (e 0) (e 1) (e 2) (e 7) (e 8) (e 9) w K R3 Y0 Y1 = denL Tryz.prog (tabOf T19) 119 fuel (flat (loopB (blkB (nthC (flat (blkB (nthC (flat (loopB (blkB (nthC (flat (bodyOf Tryz.f19)) 5)))) 2))) 3)))) e w (fun e w => Y0 (e 0) (e 1) (e 2) (e 7) (e 8) (e 9) w) (endD Tryz.prog [.tmp 6] K) (blkK 2 (fun e w => Y1 (e 0) (e 1) (e 2) (e 7) (e 8) w) (blkK 1 (fun e w => F19_6 (e 0) (e 1) (e 2) (e 7) (e 8) w K R3) (blkK 0 (fun e w => F19_3 (e 0) (e 1) (e 2) (e 7) w K) noE))) := by intro Y0 Y1; kernel_rfl
  exact Eq.mp (e1 (fun a0 a1 a2 a7 a8 a9 w => F19_8L m a0 a1 a2 a7 a8 a9 w K R3) (fun a0 a1 a2 a7 a8 w => F19_9 a0 a1 a2 a7 a8 w K R3)) h
def F19_7b (s0 s1 s2 s7 s8 : Value) (w : World) (K : V1) (R3 : V5) (Y0 : V6) : Prop :=
bindP (pIndexL 11 s1 s8) fun v64 =>
bindP (ldN 11 v64 w) fun v65 =>
callP G38 [v65] w fun v67 w66 =>
bindP (bNe Tryz.prog 39 (.tmp 28) (.const (.int .i64 0)) v67 (.int .i64 0)) fun v68 =>
stepM (gd false v68) s1 fun v69 =>
stepM (gd false v68) s8 fun v70 =>
Sx.stepG (gd false v68) (pIndexL 11 v69 v70) fun v71 =>
Sx.stepG (gd false v68) (pFieldAddr 0 v71) fun v72 =>
Sx.stepG (gd false v68) (ld1 v72 w66) fun v73 =>
stepM (gd false v68) s2 fun v74 =>
Sx.stepG (gd false v68) (bGe v73 v74) fun v75 =>
bindP (pPick v68 (.bool true) v75) fun v76 =>
ifB v76 (
K (.int .i64 4) w66) (
Y0 s0 s1 s2 s7 s8 (.int .i64 0) w66)
def F19_7 (s0 s1 s2 s7 s8 : Value) (w : World) (K : V1) (R3 : V5) : Prop := F19_7b s0 s1 s2 s7 s8 w K R3 (fun a0 a1 a2 a7 a8 a9 w => F19_8 a0 a1 a2 a7 a8 a9 w K R3)
theorem ok19_7 (R3 : V5) {K : V1}
    (hn : HN (fun e w => F19_6 (e 0) (e 1) (e 2) (e 7) (e 8) w K R3) kn) (hr : HR Tryz.prog [.tmp 6] K kr) (he : HE (blkK 1 (fun e w => F19_6 (e 0) (e 1) (e 2) (e 7) (e 8) w K R3) (blkK 0 (fun e w => F19_3 (e 0) (e 1) (e 2) (e 7) w K) noE)) ke) :
    ∀ e w, F19_7 (e 0) (e 1) (e 2) (e 7) (e 8) w K R3 → denL Tryz.prog (tabOf T19) 119 fuel ((flat (blkB (nthC (flat (loopB (blkB (nthC (flat (bodyOf Tryz.f19)) 5)))) 2))).drop 0) e w kn kr ke := by
  intro e w h
  unfold F19_7 at h
  have e1 : ∀ (Y0 : V6), F19_7b (e 0) (e 1) (e 2) (e 7) (e 8) w K R3 Y0 = denL Tryz.prog (tabOf T19) 119 fuel (((flat (blkB (nthC (flat (loopB (blkB (nthC (flat (bodyOf Tryz.f19)) 5)))) 2))).drop 0).take 3) e w (fun e w => Y0 (e 0) (e 1) (e 2) (e 7) (e 8) (e 9) w) (endD Tryz.prog [.tmp 6] K) (blkK 1 (fun e w => F19_6 (e 0) (e 1) (e 2) (e 7) (e 8) w K R3) (blkK 0 (fun e w => F19_3 (e 0) (e 1) (e 2) (e 7) w K) noE)) := by intro Y0; kernel_rfl
  exact seg 3 (Eq.mp (e1 (fun a0 a1 a2 a7 a8 a9 w => F19_8 a0 a1 a2 a7 a8 a9 w K R3)) h) (fun e w h => ok19_8 R3 hn hr he e w h) hr he
def F19_5 (s0 s1 s2 s7 s8 : Value) (w : World) (K : V1) (R3 : V5) : Prop := F19_7 s0 s1 s2 s7 s8 w K R3
theorem ok19_5 (R3 : V5) {K : V1}
    (hn : HN (fun e w => R3 (e 0) (e 1) (e 2) (e 7) (e 8) w) kn) (hr : HR Tryz.prog [.tmp 6] K kr) (he : HE (blkK 0 (fun e w => F19_3 (e 0) (e 1) (e 2) (e 7) w K) noE) ke) :
    ∀ e w, F19_5 (e 0) (e 1) (e 2) (e 7) (e 8) w K R3 → denL Tryz.prog (tabOf T19) 119 fuel ((flat (loopB (blkB (nthC (flat (bodyOf Tryz.f19)) 5)))).drop 2) e w kn kr ke := by
  intro e w h
  unfold F19_5 at h
  refine seg_block (id := 1) (body := (blkB (nthC (flat (loopB (blkB (nthC (flat (bodyOf Tryz.f19)) 5)))) 2))) (l2 := (flat (loopB (blkB (nthC (flat (bodyOf Tryz.f19)) 5)))).drop 3) (by kernel_rfl) ?_
  exact ok19_7 R3 (fun e w h => ok19_6 R3 hn hr he e w h) hr (blkK_mono (fun e w h => ok19_6 R3 hn hr he e w h) he) e w h
def F19_4b (s0 s1 s2 s7 s8 : Value) (w : World) (_K : V1) (R3 : V5) (Y0 : V5) (Y1 : V4) : Prop :=
bindP (lenL s1) fun v77 =>
bindP (bLt s8 v77) fun v78 =>
ifB v78 (
Y0 s0 s1 s2 s7 s8 w) (
Y1 s0 s1 s2 s7 w)
def F19_4 (s0 s1 s2 s7 s8 : Value) (w : World) (K : V1) (R3 : V5) : Prop := F19_4b s0 s1 s2 s7 s8 w K R3 (fun a0 a1 a2 a7 a8 w => F19_5 a0 a1 a2 a7 a8 w K R3) (fun a0 a1 a2 a7 w => F19_3 a0 a1 a2 a7 w K)
theorem ok19_4 (R3 : V5) {K : V1}
    (hn : HN (fun e w => R3 (e 0) (e 1) (e 2) (e 7) (e 8) w) kn) (hr : HR Tryz.prog [.tmp 6] K kr) (he : HE (blkK 0 (fun e w => F19_3 (e 0) (e 1) (e 2) (e 7) w K) noE) ke) :
    ∀ e w, F19_4 (e 0) (e 1) (e 2) (e 7) (e 8) w K R3 → denL Tryz.prog (tabOf T19) 119 fuel ((flat (loopB (blkB (nthC (flat (bodyOf Tryz.f19)) 5)))).drop 0) e w kn kr ke := by
  intro e w h
  unfold F19_4 at h
  have e1 : ∀ (Y0 : V5) (Y1 : V4), F19_4b (e 0) (e 1) (e 2) (e 7) (e 8) w K R3 Y0 Y1 = denL Tryz.prog (tabOf T19) 119 fuel (((flat (loopB (blkB (nthC (flat (bodyOf Tryz.f19)) 5)))).drop 0).take 2) e w (fun e w => Y0 (e 0) (e 1) (e 2) (e 7) (e 8) w) (endD Tryz.prog [.tmp 6] K) (blkK 0 (fun e w => Y1 (e 0) (e 1) (e 2) (e 7) w) noE) := by intro Y0 Y1; kernel_rfl
  exact seg 2 (Eq.mp (e1 (fun a0 a1 a2 a7 a8 w => F19_5 a0 a1 a2 a7 a8 w K R3) (fun a0 a1 a2 a7 w => F19_3 a0 a1 a2 a7 w K)) h) (fun e w h => ok19_5 R3 hn hr he e w h) hr he
def F19_2L : Nat → Value → Value → Value → Value → Value → World → (V1) → Prop
  | 0, _, _, _, _, _, _, _ => False
  | n + 1, s0, s1, s2, s7, s8, w, K => F19_4 s0 s1 s2 s7 s8 w K (fun a0 a1 a2 a7 a8 w => F19_2L n a0 a1 a2 a7 a8 w K)
def F19_2 (s0 s1 s2 s7 s8 : Value) (w : World) (K : V1) : Prop := F19_2L fuel s0 s1 s2 s7 s8 w K
theorem ok19_2 {K : V1}
    (hn : HN (fun e w => K (e 6) w) kn) (hr : HR Tryz.prog [.tmp 6] K kr) (he : HE noE ke) :
    ∀ e w, F19_2 (e 0) (e 1) (e 2) (e 7) (e 8) w K → denL Tryz.prog (tabOf T19) 119 fuel ((flat (bodyOf Tryz.f19)).drop 5) e w kn kr ke := by
  intro e w h
  unfold F19_2 at h
  refine seg_loop (id := 0) (body := (loopB (blkB (nthC (flat (bodyOf Tryz.f19)) 5)))) (l2 := (flat (bodyOf Tryz.f19)).drop 6) (by kernel_rfl) ?_
  refine loop_ok (FL := fun m e w => F19_2L m (e 0) (e 1) (e 2) (e 7) (e 8) w K) (fr := endD Tryz.prog [.tmp 6] K) (fe := (blkK 0 (fun e w => F19_3 (e 0) (e 1) (e 2) (e 7) w K) noE)) (fun _ _ h => h) ?_ hr (blkK_mono (fun e w h => ok19_3 hn hr he e w h) he) fuel e w h
  intro m e w h
  have h : F19_2L (m + 1) (e 0) (e 1) (e 2) (e 7) (e 8) w K := h
  rw [F19_2L] at h
  exact ok19_4 (fun a0 a1 a2 a7 a8 w => F19_2L m a0 a1 a2 a7 a8 w K) (fun _ _ h => h) (fun _ _ h => h) (fun _ _ _ h => h) e w h
def F19_1b (s0 s1 s2 : Value) (w : World) (K : V1) (Y0 : V5) : Prop :=
bindP (bLt s2 (.int .i64 1)) fun v79 =>
stepM (gd false v79) s2 fun v80 =>
Sx.stepG (gd false v79) (bGt v80 (.int .i64 1152921504606846976)) fun v81 =>
bindP (pPick v79 (.bool true) v81) fun v82 =>
ifB v82 (
K (.int .i64 4) w) (
Y0 s0 s1 s2 (.slice none 0 0) (.int .i64 0) w)
def F19_1 (s0 s1 s2 : Value) (w : World) (K : V1) : Prop := F19_1b s0 s1 s2 w K (fun a0 a1 a2 a7 a8 w => F19_2 a0 a1 a2 a7 a8 w K)
theorem ok19_1 {K : V1}
    (hn : HN (fun e w => K (e 6) w) kn) (hr : HR Tryz.prog [.tmp 6] K kr) (he : HE noE ke) :
    ∀ e w, F19_1 (e 0) (e 1) (e 2) w K → denL Tryz.prog (tabOf T19) 119 fuel ((flat (bodyOf Tryz.f19)).drop 0) e w kn kr ke := by
  intro e w h
  unfold F19_1 at h
  have e1 : ∀ (Y0 : V5), F19_1b (e 0) (e 1) (e 2) w K Y0 = denL Tryz.prog (tabOf T19) 119 fuel (((flat (bodyOf Tryz.f19)).drop 0).take 5) e w (fun e w => Y0 (e 0) (e 1) (e 2) (e 7) (e 8) w) (endD Tryz.prog [.tmp 6] K) noE := by intro Y0; kernel_rfl
  exact seg 5 (Eq.mp (e1 (fun a0 a1 a2 a7 a8 w => F19_2 a0 a1 a2 a7 a8 w K)) h) (fun e w h => ok19_2 hn hr he e w h) hr he
def F19 (x0 x1 x2 : Value) (w : World) (K : V1) : Prop := F19_1 x0 x1 x2 w K
def G19 : FnT := fun args w K => on3 (fun x0 x1 x2 => F19 x0 x1 x2 w K) args
theorem c19 {x0 x1 x2 : Value} {w : World} {K : V1} (h : F19 x0 x1 x2 w K) : callP G19 [x0, x1, x2] w K := callP_intro (on3_mk (p := fun x0 x1 x2 => F19 x0 x1 x2 w K) h)
theorem ok19 : OkF Tryz.prog 19 G19 := by
  refine okF_of (tab_ok (l := T19) ⟨ok38, ok39, trivial⟩) mixed (n := fuel) Tryz.func19 Tryz.call19 fun args w K h => ?_
  obtain ⟨x0, x1, x2, rfl, hh⟩ := of_on3 h
  unfold F19 at hh
  exact fnD_list (c := bodyOf Tryz.f19) (by kernel_rfl) (by kernel_rfl) (ok19_1 (fun _ _ h => h) (fun _ _ h => h) (fun _ _ _ h => h) (initE [x0, x1, x2]) w hh)
def T80 : List (Nat × FnT) := []
def F80 (x0 : Value) (w : World) (K : V1) : Prop :=
bindP (bNe Tryz.prog 3 (.tmp 3) (.tmp 4) x0 x0) fun v1 =>
K v1 w
def G80 : FnT := fun args w K => on1 (fun x0 => F80 x0 w K) args
theorem c80 {x0 : Value} {w : World} {K : V1} (h : F80 x0 w K) : callP G80 [x0] w K := callP_intro (on1_mk (p := fun x0 => F80 x0 w K) h)
theorem ok80 : OkF Tryz.prog 80 G80 := by
  refine okF_of (tab_ok (l := T80) trivial) mixed (n := fuel) Tryz.func80 Tryz.call80 fun args w K h => ?_
  obtain ⟨x0, rfl, hh⟩ := of_on1 h
  exact fnD_list (c := bodyOf Tryz.f80) (by kernel_rfl) (by kernel_rfl) (Eq.mp (by kernel_rfl) hh)
def T47 : List (Nat × FnT) := [(80, G80)]
def F47 (x0 x1 : Value) (w : World) (K : V1) : Prop :=
callP G80 [x0] w fun v2 w1 =>
callP G80 [x1] w1 fun v4 w3 =>
ifB v2 (
ifB v4 (
K (.int .i64 0) w3) (
K (.int .i64 (-1)) w3)) (
ifB v4 (
K (.int .i64 1) w3) (
bindP (bLt x0 x1) fun v5 =>
ifB v5 (
K (.int .i64 (-1)) w3) (
bindP (bGt x0 x1) fun v6 =>
ifB v6 (
K (.int .i64 1) w3) (
K (.int .i64 0) w3))))
def G47 : FnT := fun args w K => on2 (fun x0 x1 => F47 x0 x1 w K) args
theorem c47 {x0 x1 : Value} {w : World} {K : V1} (h : F47 x0 x1 w K) : callP G47 [x0, x1] w K := callP_intro (on2_mk (p := fun x0 x1 => F47 x0 x1 w K) h)
theorem ok47 : OkF Tryz.prog 47 G47 := by
  refine okF_of (tab_ok (l := T47) ⟨ok80, trivial⟩) mixed (n := fuel) Tryz.func47 Tryz.call47 fun args w K h => ?_
  obtain ⟨x0, x1, rfl, hh⟩ := of_on2 h
  exact fnD_list (c := bodyOf Tryz.f47) (by kernel_rfl) (by kernel_rfl) (Eq.mp (by kernel_rfl) hh)
def T25 : List (Nat × FnT) := [(47, G47)]
def F25 (x0 x1 : Value) (w : World) (K : V1) : Prop :=
eBox 45 x0 w fun v2 w1 =>
eBox 45 x1 w1 fun v4 w3 =>
bindP (pFieldAddr 0 v2) fun v5 =>
bindP (ld1 v5 w3) fun v6 =>
bindP (pFieldAddr 0 v4) fun v7 =>
bindP (ld1 v7 w3) fun v8 =>
callP G47 [v6, v8] w3 fun v10 w9 =>
K v10 w9
def G25 : FnT := fun args w K => on2 (fun x0 x1 => F25 x0 x1 w K) args
theorem c25 {x0 x1 : Value} {w : World} {K : V1} (h : F25 x0 x1 w K) : callP G25 [x0, x1] w K := callP_intro (on2_mk (p := fun x0 x1 => F25 x0 x1 w K) h)
theorem ok25 : OkF Tryz.prog 25 G25 := by
  refine okF_of (tab_ok (l := T25) ⟨ok47, trivial⟩) mixed (n := fuel) Tryz.func25 Tryz.call25 fun args w K h => ?_
  obtain ⟨x0, x1, rfl, hh⟩ := of_on2 h
  exact fnD_list (c := bodyOf Tryz.f25) (by kernel_rfl) (by kernel_rfl) (Eq.mp (by kernel_rfl) hh)
end Go.Proofs.Gong

/- Heap -/
namespace Go.Proofs.Gong
open Go Go.Sx Go.Proofs
set_option linter.all false
set_option maxRecDepth 100000
set_option maxHeartbeats 4000000
variable {kn kr : ET} {ke : JT}
def T159 : List (Nat × FnT) := []
def F159 (x0 : Value) (w : World) (K : V1) : Prop :=
bindP (bLt x0 (.int .i64 1)) fun v1 =>
stepM (gd false v1) x0 fun v2 =>
Sx.stepG (gd false v1) (bGt v2 (.int .i64 65536)) fun v3 =>
bindP (pPick v1 (.bool true) v3) fun v4 =>
ifB v4 (
K (.tuple #[(.pointer none), (.int .i64 1)]) w) (
eMakeMap none w fun v6 w5 =>
bindP (fBuild Tryz.prog 320 [(0, x0), (2, v6)]) fun v7 =>
eBox 320 v7 w5 fun v9 w8 =>
K (.tuple #[v9, (.int .i64 0)]) w8)
def G159 : FnT := fun args w K => on1 (fun x0 => F159 x0 w K) args
theorem c159 {x0 : Value} {w : World} {K : V1} (h : F159 x0 w K) : callP G159 [x0] w K := callP_intro (on1_mk (p := fun x0 => F159 x0 w K) h)
theorem ok159 : OkF Tryz.prog 159 G159 := by
  refine okF_of (tab_ok (l := T159) trivial) mixed (n := fuel) Tryz.func159 Tryz.call159 fun args w K h => ?_
  obtain ⟨x0, rfl, hh⟩ := of_on1 h
  exact fnD_list (c := bodyOf Tryz.f159) (by kernel_rfl) (by kernel_rfl) (Eq.mp (by kernel_rfl) hh)
end Go.Proofs.Gong

/- Hold1 -/
namespace Go.Proofs.Gong
open Go Go.Sx Go.Proofs
set_option linter.all false
set_option maxRecDepth 100000
set_option maxHeartbeats 4000000
variable {kn kr : ET} {ke : JT}
def T93 : List (Nat × FnT) := []
def F93 (x0 : Value) (w : World) (K : V1) : Prop :=
bindP (pNil x0) fun v1 =>
bindP (pFieldAddr 3 v1) fun v2 =>
bindP (ld1 v2 w) fun v3 =>
bindP (lenM v3 w) fun v4 =>
K v4 w
def G93 : FnT := fun args w K => on1 (fun x0 => F93 x0 w K) args
theorem c93 {x0 : Value} {w : World} {K : V1} (h : F93 x0 w K) : callP G93 [x0] w K := callP_intro (on1_mk (p := fun x0 => F93 x0 w K) h)
theorem ok93 : OkF Tryz.prog 93 G93 := by
  refine okF_of (tab_ok (l := T93) trivial) mixed (n := fuel) Tryz.func93 Tryz.call93 fun args w K h => ?_
  obtain ⟨x0, rfl, hh⟩ := of_on1 h
  exact fnD_list (c := bodyOf Tryz.f93) (by kernel_rfl) (by kernel_rfl) (Eq.mp (by kernel_rfl) hh)
def T109 : List (Nat × FnT) := [(159, G159)]
def F109 (x0 x1 : Value) (w : World) (K : V1) : Prop :=
callP G159 [x0] w fun v2 w1 =>
bindP (pTuple v2 0) fun v3 =>
bindP (pTuple v2 1) fun _ =>
bindP (fBuild Tryz.prog 248 [(0, v3)]) fun v5 =>
eMakeMap none w1 fun v7 w6 =>
eMakeMap none w6 fun v9 w8 =>
bindP (fBuild Tryz.prog 252 [(0, v5), (1, x0), (2, x1), (3, v7), (4, v9)]) fun v10 =>
eBox 252 v10 w8 fun v12 w11 =>
K v12 w11
def G109 : FnT := fun args w K => on2 (fun x0 x1 => F109 x0 x1 w K) args
theorem c109 {x0 x1 : Value} {w : World} {K : V1} (h : F109 x0 x1 w K) : callP G109 [x0, x1] w K := callP_intro (on2_mk (p := fun x0 x1 => F109 x0 x1 w K) h)
theorem ok109 : OkF Tryz.prog 109 G109 := by
  refine okF_of (tab_ok (l := T109) ⟨ok159, trivial⟩) mixed (n := fuel) Tryz.func109 Tryz.call109 fun args w K h => ?_
  obtain ⟨x0, x1, rfl, hh⟩ := of_on2 h
  exact fnD_list (c := bodyOf Tryz.f109) (by kernel_rfl) (by kernel_rfl) (Eq.mp (by kernel_rfl) hh)
def T66 : List (Nat × FnT) := [(109, G109)]
def F66 (x0 : Value) (w : World) (K : V1) : Prop :=
bindP (bLt x0 (.int .i64 1)) fun v1 =>
stepM (gd false v1) x0 fun v2 =>
Sx.stepG (gd false v1) (bGt v2 (.int .i64 65536)) fun v3 =>
bindP (pPick v1 (.bool true) v3) fun v4 =>
ifB v4 (
K (.tuple #[(.pointer none), (.int .i64 1)]) w) (
callP G109 [x0, (.int .i64 1)] w fun v6 w5 =>
K (.tuple #[v6, (.int .i64 0)]) w5)
def G66 : FnT := fun args w K => on1 (fun x0 => F66 x0 w K) args
theorem c66 {x0 : Value} {w : World} {K : V1} (h : F66 x0 w K) : callP G66 [x0] w K := callP_intro (on1_mk (p := fun x0 => F66 x0 w K) h)
theorem ok66 : OkF Tryz.prog 66 G66 := by
  refine okF_of (tab_ok (l := T66) ⟨ok109, trivial⟩) mixed (n := fuel) Tryz.func66 Tryz.call66 fun args w K h => ?_
  obtain ⟨x0, rfl, hh⟩ := of_on1 h
  exact fnD_list (c := bodyOf Tryz.f66) (by kernel_rfl) (by kernel_rfl) (Eq.mp (by kernel_rfl) hh)
def T70 : List (Nat × FnT) := []
def F70 (x0 : Value) (w : World) (K : V1) : Prop :=
bindP (bLt x0 (.int .i64 1)) fun v1 =>
stepM (gd false v1) x0 fun v2 =>
Sx.stepG (gd false v1) (bGt v2 (.int .i64 65536)) fun v3 =>
bindP (pPick v1 (.bool true) v3) fun v4 =>
ifB v4 (
K (.tuple #[(.pointer none), (.int .i64 1)]) w) (
bindP (fBuild Tryz.prog 230 [(0, x0), (1, (.int .i64 1))]) fun v5 =>
eBox 230 v5 w fun v7 w6 =>
K (.tuple #[v7, (.int .i64 0)]) w6)
def G70 : FnT := fun args w K => on1 (fun x0 => F70 x0 w K) args
theorem c70 {x0 : Value} {w : World} {K : V1} (h : F70 x0 w K) : callP G70 [x0] w K := callP_intro (on1_mk (p := fun x0 => F70 x0 w K) h)
theorem ok70 : OkF Tryz.prog 70 G70 := by
  refine okF_of (tab_ok (l := T70) trivial) mixed (n := fuel) Tryz.func70 Tryz.call70 fun args w K h => ?_
  obtain ⟨x0, rfl, hh⟩ := of_on1 h
  exact fnD_list (c := bodyOf Tryz.f70) (by kernel_rfl) (by kernel_rfl) (Eq.mp (by kernel_rfl) hh)
end Go.Proofs.Gong

/- Outbox1 -/
namespace Go.Proofs.Gong
open Go Go.Sx Go.Proofs
set_option linter.all false
set_option maxRecDepth 100000
set_option maxHeartbeats 4000000
variable {kn kr : ET} {ke : JT}
def T35 : List (Nat × FnT) := []
def F35 (x0 x1 x2 : Value) (w : World) (K : V1) : Prop :=
bindP (bLt x0 (.int .i64 1)) fun v1 =>
stepM (gd false v1) x0 fun v2 =>
Sx.stepG (gd false v1) (bGt v2 (.int .i64 65536)) fun v3 =>
bindP (pPick v1 (.bool true) v3) fun v4 =>
stepM (gd false v4) x1 fun v5 =>
Sx.stepG (gd false v4) (bLt v5 (.int .i64 1)) fun v6 =>
bindP (pPick v4 (.bool true) v6) fun v7 =>
stepM (gd false v7) x1 fun v8 =>
stepM (gd false v7) x2 fun v9 =>
Sx.stepG (gd false v7) (bGt v8 v9) fun v10 =>
bindP (pPick v7 (.bool true) v10) fun v11 =>
stepM (gd false v11) x2 fun v12 =>
Sx.stepG (gd false v11) (bGt v12 (.int .i64 144115188075855872)) fun v13 =>
bindP (pPick v11 (.bool true) v13) fun v14 =>
ifB v14 (
K (.tuple #[(.pointer none), (.int .i64 1)]) w) (
eMakeMap none w fun v16 w15 =>
bindP (fBuild Tryz.prog 109 [(0, x0), (1, x1), (2, x2), (6, v16)]) fun v17 =>
eBox 109 v17 w15 fun v19 w18 =>
K (.tuple #[v19, (.int .i64 0)]) w18)
def G35 : FnT := fun args w K => on3 (fun x0 x1 x2 => F35 x0 x1 x2 w K) args
theorem c35 {x0 x1 x2 : Value} {w : World} {K : V1} (h : F35 x0 x1 x2 w K) : callP G35 [x0, x1, x2] w K := callP_intro (on3_mk (p := fun x0 x1 x2 => F35 x0 x1 x2 w K) h)
theorem ok35 : OkF Tryz.prog 35 G35 := by
  refine okF_of (tab_ok (l := T35) trivial) mixed (n := fuel) Tryz.func35 Tryz.call35 fun args w K h => ?_
  obtain ⟨x0, x1, x2, rfl, hh⟩ := of_on3 h
  exact fnD_list (c := bodyOf Tryz.f35) (by kernel_rfl) (by kernel_rfl) (Eq.mp (by kernel_rfl) hh)
def T43 : List (Nat × FnT) := []
def F43 (x0 x1 : Value) (w : World) (K : V1) : Prop :=
eBox 130 x1 w fun v2 w1 =>
bindP (pNil x0) fun v3 =>
bindP (pFieldAddr 6 v3) fun v4 =>
bindP (ld1 v4 w1.drew) fun v5 =>
bindP (pFieldAddr 0 v2) fun v6 =>
bindP (ld1 v6 w1.drew) fun v7 =>
bindP (ldN 13 v2 w1.drew) fun v8 =>
bindP (pNil x0) fun v9 =>
bindP (pFieldAddr 1 v9) fun v10 =>
bindP (ld1 v10 w1.drew) fun v11 =>
bindP (fBuild Tryz.prog 178 [(0, v8), (1, v11)]) fun v12 =>
eMapSet Tryz.prog 107 v5 v7 v12 w1.drew fun _ w13 =>
K (.tuple #[]) w13
def G43 : FnT := fun args w K => on2 (fun x0 x1 => F43 x0 x1 w K) args
theorem c43 {x0 x1 : Value} {w : World} {K : V1} (h : F43 x0 x1 w K) : callP G43 [x0, x1] w K := callP_intro (on2_mk (p := fun x0 x1 => F43 x0 x1 w K) h)
theorem ok43 : OkF Tryz.prog 43 G43 := by
  refine okF_of (tab_ok (l := T43) trivial) mixed (n := fuel) Tryz.func43 Tryz.call43 fun args w K h => ?_
  obtain ⟨x0, x1, rfl, hh⟩ := of_on2 h
  exact fnD_list (c := bodyOf Tryz.f43) (by kernel_rfl) (by kernel_rfl) (Eq.mp (by kernel_rfl) hh)
def T21 : List (Nat × FnT) := [(41, G41), (43, G43)]
def F21 (x0 x1 x2 : Value) (w : World) (K : V1) : Prop :=
eBox 45 x2 w fun v2 w1 =>
bindP (bLt x1 (.int .i64 1)) fun v3 =>
stepM (gd false v3) x1 fun v4 =>
Sx.stepG (gd false v3) (bGt v4 (.int .i64 5)) fun v5 =>
bindP (pPick v3 (.bool true) v5) fun v6 =>
Sx.stepG (gd false v6) (ldN 11 v2 w1) fun v7 =>
stepE (gd false v6) (fun k => callP G41 [v7] w1 k) w1 fun v9 w8 =>
Sx.stepG (gd false v6) (bNe Tryz.prog 39 (.tmp 17) (.const (.int .i64 0)) v9 (.int .i64 0)) fun v10 =>
bindP (pPick v6 (.bool true) v10) fun v11 =>
ifB v11 (
K (.tuple #[(.int .i64 0), (.int .i64 4)]) w8) (
bindP (pNil x0) fun v12 =>
bindP (pFieldAddr 6 v12) fun v13 =>
bindP (ld1 v13 w8.drew) fun v14 =>
bindP (lenM v14 w8.drew) fun v15 =>
bindP (pNil x0) fun v16 =>
bindP (pFieldAddr 0 v16) fun v17 =>
bindP (ld1 v17 w8.drew) fun v18 =>
bindP (bGe v15 v18) fun v19 =>
ifB v19 (
bindP (pNil x0) fun v20 =>
bindP (pFieldAddr 4 v20) fun v21 =>
bindP (ld1 v21 w8.drew) fun v22 =>
bindP (bAdd v22 (.int .i64 1)) fun v23 =>
bindP (pNil x0) fun v24 =>
bindP (pFieldAddr 4 v24) fun v25 =>
bindW (st 1 v25 v23 w8.drew) fun w26 =>
K (.tuple #[(.int .i64 0), (.int .i64 200)]) w26) (
bindP (pNil x0) fun v28 =>
bindP (pFieldAddr 3 v28) fun v29 =>
bindP (ld1 v29 w8.drew) fun v30 =>
bindP (bAdd v30 (.int .i64 1)) fun v31 =>
bindP (pNil x0) fun v32 =>
bindP (pFieldAddr 3 v32) fun v33 =>
bindW (st 1 v33 v31 w8.drew) fun w34 =>
bindP (pNil x0) fun v36 =>
bindP (pFieldAddr 3 v36) fun v37 =>
bindP (ld1 v37 w34.drew) fun v38 =>
bindP (ldN 11 v2 w34.drew) fun v39 =>
bindP (fBuild Tryz.prog 130 [(0, v38), (1, x1), (2, v39)]) fun v40 =>
callP G43 [x0, v40] w34.drew fun _ w41 =>
bindP (pNil x0) fun v43 =>
bindP (pFieldAddr 3 v43) fun v44 =>
bindP (ld1 v44 w41) fun v45 =>
K (.tuple #[v45, (.int .i64 0)]) w41))
def G21 : FnT := fun args w K => on3 (fun x0 x1 x2 => F21 x0 x1 x2 w K) args
theorem c21 {x0 x1 x2 : Value} {w : World} {K : V1} (h : F21 x0 x1 x2 w K) : callP G21 [x0, x1, x2] w K := callP_intro (on3_mk (p := fun x0 x1 x2 => F21 x0 x1 x2 w K) h)
theorem ok21 : OkF Tryz.prog 21 G21 := by
  refine okF_of (tab_ok (l := T21) ⟨ok41, ok43, trivial⟩) mixed (n := fuel) Tryz.func21 Tryz.call21 fun args w K h => ?_
  obtain ⟨x0, x1, x2, rfl, hh⟩ := of_on3 h
  exact fnD_list (c := bodyOf Tryz.f21) (by kernel_rfl) (by kernel_rfl) (Eq.mp (by kernel_rfl) hh)
def T15 : List (Nat × FnT) := []
def F15 (x0 : Value) (w : World) (K : V1) : Prop :=
bindP (pNil x0) fun v1 =>
bindP (pFieldAddr 6 v1) fun v2 =>
bindP (ld1 v2 w) fun v3 =>
bindP (lenM v3 w) fun v4 =>
K v4 w
def G15 : FnT := fun args w K => on1 (fun x0 => F15 x0 w K) args
theorem c15 {x0 : Value} {w : World} {K : V1} (h : F15 x0 w K) : callP G15 [x0] w K := callP_intro (on1_mk (p := fun x0 => F15 x0 w K) h)
theorem ok15 : OkF Tryz.prog 15 G15 := by
  refine okF_of (tab_ok (l := T15) trivial) mixed (n := fuel) Tryz.func15 Tryz.call15 fun args w K h => ?_
  obtain ⟨x0, rfl, hh⟩ := of_on1 h
  exact fnD_list (c := bodyOf Tryz.f15) (by kernel_rfl) (by kernel_rfl) (Eq.mp (by kernel_rfl) hh)
def T94 : List (Nat × FnT) := []
def F94 (x0 : Value) (w : World) (K : V1) : Prop :=
bindP (pNil x0) fun v1 =>
bindP (pFieldAddr 3 v1) fun v2 =>
bindP (ld1 v2 w) fun v3 =>
K v3 w
def G94 : FnT := fun args w K => on1 (fun x0 => F94 x0 w K) args
theorem c94 {x0 : Value} {w : World} {K : V1} (h : F94 x0 w K) : callP G94 [x0] w K := callP_intro (on1_mk (p := fun x0 => F94 x0 w K) h)
theorem ok94 : OkF Tryz.prog 94 G94 := by
  refine okF_of (tab_ok (l := T94) trivial) mixed (n := fuel) Tryz.func94 Tryz.call94 fun args w K h => ?_
  obtain ⟨x0, rfl, hh⟩ := of_on1 h
  exact fnD_list (c := bodyOf Tryz.f94) (by kernel_rfl) (by kernel_rfl) (Eq.mp (by kernel_rfl) hh)
def T95 : List (Nat × FnT) := []
def F95 (x0 : Value) (w : World) (K : V1) : Prop :=
bindP (pNil x0) fun v1 =>
bindP (pFieldAddr 4 v1) fun v2 =>
bindP (ld1 v2 w) fun v3 =>
K v3 w
def G95 : FnT := fun args w K => on1 (fun x0 => F95 x0 w K) args
theorem c95 {x0 : Value} {w : World} {K : V1} (h : F95 x0 w K) : callP G95 [x0] w K := callP_intro (on1_mk (p := fun x0 => F95 x0 w K) h)
theorem ok95 : OkF Tryz.prog 95 G95 := by
  refine okF_of (tab_ok (l := T95) trivial) mixed (n := fuel) Tryz.func95 Tryz.call95 fun args w K h => ?_
  obtain ⟨x0, rfl, hh⟩ := of_on1 h
  exact fnD_list (c := bodyOf Tryz.f95) (by kernel_rfl) (by kernel_rfl) (Eq.mp (by kernel_rfl) hh)
def T37 : List (Nat × FnT) := []
def F37 (x0 x1 x2 : Value) (w : World) (K : V1) : Prop :=
bindP (bLt x0 (.int .i64 1)) fun v1 =>
stepM (gd false v1) x0 fun v2 =>
Sx.stepG (gd false v1) (bGt v2 (.int .i64 65536)) fun v3 =>
bindP (pPick v1 (.bool true) v3) fun v4 =>
stepM (gd false v4) x1 fun v5 =>
Sx.stepG (gd false v4) (bLt v5 (.int .i64 1)) fun v6 =>
bindP (pPick v4 (.bool true) v6) fun v7 =>
stepM (gd false v7) x1 fun v8 =>
stepM (gd false v7) x2 fun v9 =>
Sx.stepG (gd false v7) (bGt v8 v9) fun v10 =>
bindP (pPick v7 (.bool true) v10) fun v11 =>
stepM (gd false v11) x2 fun v12 =>
Sx.stepG (gd false v11) (bGt v12 (.int .i64 144115188075855872)) fun v13 =>
bindP (pPick v11 (.bool true) v13) fun v14 =>
ifB v14 (
K (.tuple #[(.pointer none), (.int .i64 1)]) w) (
bindP (fBuild Tryz.prog 133 [(0, x0), (1, x1), (2, x2)]) fun v15 =>
eBox 133 v15 w fun v17 w16 =>
K (.tuple #[v17, (.int .i64 0)]) w16)
def G37 : FnT := fun args w K => on3 (fun x0 x1 x2 => F37 x0 x1 x2 w K) args
theorem c37 {x0 x1 x2 : Value} {w : World} {K : V1} (h : F37 x0 x1 x2 w K) : callP G37 [x0, x1, x2] w K := callP_intro (on3_mk (p := fun x0 x1 x2 => F37 x0 x1 x2 w K) h)
theorem ok37 : OkF Tryz.prog 37 G37 := by
  refine okF_of (tab_ok (l := T37) trivial) mixed (n := fuel) Tryz.func37 Tryz.call37 fun args w K h => ?_
  obtain ⟨x0, x1, x2, rfl, hh⟩ := of_on3 h
  exact fnD_list (c := bodyOf Tryz.f37) (by kernel_rfl) (by kernel_rfl) (Eq.mp (by kernel_rfl) hh)
def T22 : List (Nat × FnT) := [(38, G38)]
def F22 (x0 x1 x2 : Value) (w : World) (K : V1) : Prop :=
eBox 45 x2 w fun v2 w1 =>
bindP (bLt x1 (.int .i64 1)) fun v3 =>
stepM (gd false v3) x1 fun v4 =>
Sx.stepG (gd false v3) (bGt v4 (.int .i64 5)) fun v5 =>
bindP (pPick v3 (.bool true) v5) fun v6 =>
Sx.stepG (gd false v6) (ldN 11 v2 w1) fun v7 =>
stepE (gd false v6) (fun k => callP G38 [v7] w1 k) w1 fun v9 w8 =>
Sx.stepG (gd false v6) (bNe Tryz.prog 39 (.tmp 16) (.const (.int .i64 0)) v9 (.int .i64 0)) fun v10 =>
bindP (pPick v6 (.bool true) v10) fun v11 =>
ifB v11 (
K (.tuple #[(.int .i64 0), (.int .i64 4)]) w8) (
bindP (pNil x0) fun v12 =>
bindP (pFieldAddr 6 v12) fun v13 =>
bindP (ld1 v13 w8.drew) fun v14 =>
bindP (lenL v14) fun v15 =>
bindP (pNil x0) fun v16 =>
bindP (pFieldAddr 0 v16) fun v17 =>
bindP (ld1 v17 w8.drew) fun v18 =>
bindP (bGe v15 v18) fun v19 =>
ifB v19 (
bindP (pNil x0) fun v20 =>
bindP (pFieldAddr 4 v20) fun v21 =>
bindP (ld1 v21 w8.drew) fun v22 =>
bindP (bAdd v22 (.int .i64 1)) fun v23 =>
bindP (pNil x0) fun v24 =>
bindP (pFieldAddr 4 v24) fun v25 =>
bindW (st 1 v25 v23 w8.drew) fun w26 =>
K (.tuple #[(.int .i64 0), (.int .i64 200)]) w26) (
bindP (pNil x0) fun v28 =>
bindP (pFieldAddr 3 v28) fun v29 =>
bindP (ld1 v29 w8.drew) fun v30 =>
bindP (bAdd v30 (.int .i64 1)) fun v31 =>
bindP (pNil x0) fun v32 =>
bindP (pFieldAddr 3 v32) fun v33 =>
bindW (st 1 v33 v31 w8.drew) fun w34 =>
bindP (pNil x0) fun v36 =>
bindP (pFieldAddr 6 v36) fun v37 =>
bindP (ld1 v37 w34.drew) fun v38 =>
bindP (pNil x0) fun v39 =>
bindP (pFieldAddr 3 v39) fun v40 =>
bindP (ld1 v40 w34.drew) fun v41 =>
bindP (ldN 11 v2 w34.drew) fun v42 =>
bindP (fBuild Tryz.prog 130 [(0, v41), (1, x1), (2, v42)]) fun v43 =>
bindP (fBuild Tryz.prog 135 [(0, v43)]) fun v44 =>
(eBuildSl Tryz.prog 131 0 [] w34.drew fun v46 w45 =>
(fok true (ld1 v37 w45) v38 ∧ fok true (ld1 v40 w45) v41 ∧ fok true (ldN 11 v2 w45) v42) ∧ ((eAppend Tryz.prog 131 131 v46 v38 w45 fun v48 w47 =>
(fok true (ld1 v40 w47) v41 ∧ fok true (ldN 11 v2 w47) v42) ∧ (eBuildSl Tryz.prog 131 1 [(0, v44)] w47 fun v50 w49 =>
fok true (ld1 v37 w49) v38 ∧ (eAppend Tryz.prog 131 131 v48 v50 w49 fun v52 w51 =>
bindP (pNil x0) fun v53 =>
bindP (pFieldAddr 6 v53) fun v54 =>
bindW (st 1 v54 v52 w51) fun w55 =>
bindP (pNil x0) fun v57 =>
bindP (pFieldAddr 3 v57) fun v58 =>
bindP (ld1 v58 w55) fun v59 =>
K (.tuple #[v59, (.int .i64 0)]) w55))) ∧ (eBuildSl Tryz.prog 131 1 [(0, v44)] w45 fun v61 w60 =>
fok true (ld1 v37 w60) v38 ∧ (eAppend Tryz.prog 131 131 v46 v38 w60 fun v63 w62 =>
(fok true (ld1 v40 w62) v41 ∧ fok true (ldN 11 v2 w62) v42) ∧ (eAppend Tryz.prog 131 131 v63 v61 w62 fun v65 w64 =>
bindP (pNil x0) fun v66 =>
bindP (pFieldAddr 6 v66) fun v67 =>
bindW (st 1 v67 v65 w64) fun w68 =>
bindP (pNil x0) fun v70 =>
bindP (pFieldAddr 3 v70) fun v71 =>
bindP (ld1 v71 w68) fun v72 =>
K (.tuple #[v72, (.int .i64 0)]) w68))))) ∧ (eBuildSl Tryz.prog 131 1 [(0, v44)] w34.drew fun v74 w73 =>
fok true (ld1 v37 w73) v38 ∧ (eBuildSl Tryz.prog 131 0 [] w73 fun v76 w75 =>
(fok true (ld1 v37 w75) v38 ∧ fok true (ld1 v40 w75) v41 ∧ fok true (ldN 11 v2 w75) v42) ∧ (eAppend Tryz.prog 131 131 v76 v38 w75 fun v78 w77 =>
(fok true (ld1 v40 w77) v41 ∧ fok true (ldN 11 v2 w77) v42) ∧ (eAppend Tryz.prog 131 131 v78 v74 w77 fun v80 w79 =>
bindP (pNil x0) fun v81 =>
bindP (pFieldAddr 6 v81) fun v82 =>
bindW (st 1 v82 v80 w79) fun w83 =>
bindP (pNil x0) fun v85 =>
bindP (pFieldAddr 3 v85) fun v86 =>
bindP (ld1 v86 w83) fun v87 =>
K (.tuple #[v87, (.int .i64 0)]) w83))))))
def G22 : FnT := fun args w K => on3 (fun x0 x1 x2 => F22 x0 x1 x2 w K) args
theorem c22 {x0 x1 x2 : Value} {w : World} {K : V1} (h : F22 x0 x1 x2 w K) : callP G22 [x0, x1, x2] w K := callP_intro (on3_mk (p := fun x0 x1 x2 => F22 x0 x1 x2 w K) h)
theorem ok22 : OkF Tryz.prog 22 G22 := by
  refine okF_of (tab_ok (l := T22) ⟨ok38, trivial⟩) mixed (n := fuel) Tryz.func22 Tryz.call22 fun args w K h => ?_
  obtain ⟨x0, x1, x2, rfl, hh⟩ := of_on3 h
  exact fnD_list (c := bodyOf Tryz.f22) (by kernel_rfl) (by kernel_rfl) (Eq.mp (by kernel_rfl) hh)
end Go.Proofs.Gong

/- Eng -/
namespace Go.Proofs.Gong
open Go Go.Sx Go.Proofs
set_option linter.all false
set_option maxRecDepth 100000
set_option maxHeartbeats 4000000
variable {kn kr : ET} {ke : JT}
def G104 : FnT := fun _ _ _ => False
theorem ok104 : OkF Tryz.prog 104 G104 := fun _ _ _ h => h.elim
def G105 : FnT := fun _ _ _ => False
theorem ok105 : OkF Tryz.prog 105 G105 := fun _ _ _ h => h.elim
def G106 : FnT := fun _ _ _ => False
theorem ok106 : OkF Tryz.prog 106 G106 := fun _ _ _ h => h.elim
def G107 : FnT := fun _ _ _ => False
theorem ok107 : OkF Tryz.prog 107 G107 := fun _ _ _ h => h.elim
def T62 : List (Nat × FnT) := [(104, G104), (105, G105), (106, G106), (107, G107)]
def F62_7b (w : World) (K : V1) : Prop :=
K (.tuple #[(.int .i64 0), (.int .i64 0)]) w
def F62_7 (w : World) (K : V1) : Prop := F62_7b w K
theorem ok62_7 {K : V1}
    (hn : HN (fun e w => K (.tuple #[(e 2), (e 3)]) w) kn) (hr : HR Tryz.prog [.tmp 2, .tmp 3] K kr) (he : HE noE ke) :
    ∀ e w, F62_7 w K → denL Tryz.prog (tabOf T62) 95 fuel ((flat (bodyOf Tryz.f62)).drop 11) e w kn kr ke := by
  intro e w h
  unfold F62_7 at h
  have e1 : ∀ (_ : Unit), F62_7b w K = denL Tryz.prog (tabOf T62) 95 fuel ((flat (bodyOf Tryz.f62)).drop 11) e w (fun e w => K (.tuple #[(e 2), (e 3)]) w) (endD Tryz.prog [.tmp 2, .tmp 3] K) noE := by intro _; kernel_rfl
  exact seg_end (Eq.mp (e1 ()) h) hn hr he
def F62_6b (s8 s76 s77 s78 : Value) (w : World) (K : V1) (Y0 : V4) (Y1 : V0) : Prop :=
bindP (bLt s78 s77) fun v1 =>
ifB v1 (
bindP (pIndexL 10 s76 s78) fun v2 =>
bindP (ldN 10 v2 w) fun v3 =>
eAlloc Tryz.prog 216 w fun v5 w4 =>
bindW (st 10 v5 v3 w4) fun w6 =>
bindP (pFieldAddr 0 v5) fun v8 =>
bindP (ld1 v8 w6) fun v9 =>
callP G104 [s8, v9] w6 fun v11 w10 =>
bindP (uNot v11) fun v12 =>
Sx.stepG (gd false v12) (ldN 10 v5 w10) fun v13 =>
stepE (gd false v12) (fun k => callP G107 [v13] w10 k) w10 fun v15 w14 =>
Sx.stepG (gd false v12) (uNot v15) fun v16 =>
bindP (pPick v12 (.bool true) v16) fun v17 =>
ifB v17 (
bindP (pFieldAddr 1 v5) fun v18 =>
bindP (ld1 v18 w14) fun v19 =>
K (.tuple #[v19, (.int .i64 160)]) w14) (
bindP (bAdd s78 (.int .i64 1)) fun v20 =>
Y0 s8 s76 s77 v20 w14)) (
Y1 w)
def F62_6L : Nat → Value → Value → Value → Value → World → (V1) → Prop
  | 0, _, _, _, _, _, _ => False
  | n + 1, s8, s76, s77, s78, w, K => F62_6b s8 s76 s77 s78 w K (fun a8 a76 a77 a78 w => F62_6L n a8 a76 a77 a78 w K) (fun w => F62_7 w K)
def F62_6 (s8 s76 s77 s78 : Value) (w : World) (K : V1) : Prop := F62_6L fuel s8 s76 s77 s78 w K
theorem ok62_6 {K : V1}
    (hn : HN (fun e w => K (.tuple #[(e 2), (e 3)]) w) kn) (hr : HR Tryz.prog [.tmp 2, .tmp 3] K kr) (he : HE noE ke) :
    ∀ e w, F62_6 (e 8) (e 76) (e 77) (e 78) w K → denL Tryz.prog (tabOf T62) 95 fuel ((flat (bodyOf Tryz.f62)).drop 10) e w kn kr ke := by
  intro e w h
  unfold F62_6 at h
  refine seg_loop (id := 4) (body := (loopB (blkB (nthC (flat (bodyOf Tryz.f62)) 10)))) (l2 := (flat (bodyOf Tryz.f62)).drop 11) (by kernel_rfl) ?_
  refine loop_ok (FL := fun m e w => F62_6L m (e 8) (e 76) (e 77) (e 78) w K) (fr := endD Tryz.prog [.tmp 2, .tmp 3] K) (fe := (blkK 4 (fun e w => F62_7 w K) noE)) (fun _ _ h => h) ?_ hr (blkK_mono (fun e w h => ok62_7 hn hr he e w h) he) fuel e w h
  intro m e w h
  have h : F62_6L (m + 1) (e 8) (e 76) (e 77) (e 78) w K := h
  rw [F62_6L] at h
  have e1 : ∀ (Y0 : V4) (Y1 : V0), F62_6b (e 8) (e 76) (e 77) (e 78) w K Y0 Y1 = denL Tryz.prog (tabOf T62) 95 fuel (flat (loopB (blkB (nthC (flat (bodyOf Tryz.f62)) 10)))) e w (fun e w => Y0 (e 8) (e 76) (e 77) (e 78) w) (endD Tryz.prog [.tmp 2, .tmp 3] K) (blkK 4 (fun e w => Y1 w) noE) := by intro Y0 Y1; kernel_rfl
  exact Eq.mp (e1 (fun a8 a76 a77 a78 w => F62_6L m a8 a76 a77 a78 w K) (fun w => F62_7 w K)) h
def F62_5b (s1 s8 : Value) (w : World) (_K : V1) (Y0 : V4) : Prop :=
bindP (pFieldAddr 2 s1) fun v21 =>
bindP (ld1 v21 w) fun v22 =>
bindP (lenL v22) fun v23 =>
Y0 s8 v22 v23 (.int .i64 0) w
def F62_5 (s1 s8 : Value) (w : World) (K : V1) : Prop := F62_5b s1 s8 w K (fun a8 a76 a77 a78 w => F62_6 a8 a76 a77 a78 w K)
theorem ok62_5 {K : V1}
    (hn : HN (fun e w => K (.tuple #[(e 2), (e 3)]) w) kn) (hr : HR Tryz.prog [.tmp 2, .tmp 3] K kr) (he : HE noE ke) :
    ∀ e w, F62_5 (e 1) (e 8) w K → denL Tryz.prog (tabOf T62) 95 fuel ((flat (bodyOf Tryz.f62)).drop 9) e w kn kr ke := by
  intro e w h
  unfold F62_5 at h
  have e1 : ∀ (Y0 : V4), F62_5b (e 1) (e 8) w K Y0 = denL Tryz.prog (tabOf T62) 95 fuel (((flat (bodyOf Tryz.f62)).drop 9).take 1) e w (fun e w => Y0 (e 8) (e 76) (e 77) (e 78) w) (endD Tryz.prog [.tmp 2, .tmp 3] K) noE := by intro Y0; kernel_rfl
  exact seg 1 (Eq.mp (e1 (fun a8 a76 a77 a78 w => F62_6 a8 a76 a77 a78 w K)) h) (fun e w h => ok62_6 hn hr he e w h) hr he
def F62_4b (s1 s4 s7 s8 s55 s56 s57 : Value) (w : World) (K : V1) (Y0 : V7) (Y1 : V2) : Prop :=
bindP (bLt s57 s56) fun v24 =>
ifB v24 (
bindP (pIndexL 8 s55 s57) fun v25 =>
bindP (ldN 8 v25 w) fun v26 =>
eAlloc Tryz.prog 213 w fun v28 w27 =>
bindW (st 8 v28 v26 w27) fun w29 =>
bindP (pFieldAddr 0 v28) fun v31 =>
bindP (ld1 v31 w29) fun v32 =>
callP G104 [s7, v32] w29 fun v34 w33 =>
bindP (uNot v34) fun v35 =>
Sx.stepG (gd false v35) (ldN 1 s4 w33) fun v36 =>
Sx.stepG (gd false v35) (ldN 8 v28 w33) fun v37 =>
stepE (gd false v35) (fun k => callP G106 [v36, v37] w33 k) w33 fun v39 w38 =>
Sx.stepG (gd false v35) (uNot v39) fun v40 =>
bindP (pPick v35 (.bool true) v40) fun v41 =>
ifB v41 (
bindP (pFieldAddr 1 v28) fun v42 =>
bindP (ld1 v42 w38) fun v43 =>
K (.tuple #[v43, (.int .i64 160)]) w38) (
bindP (bAdd s57 (.int .i64 1)) fun v44 =>
Y0 s1 s4 s7 s8 s55 s56 v44 w38)) (
Y1 s1 s8 w)
def F62_4L : Nat → Value → Value → Value → Value → Value → Value → Value → World → (V1) → Prop
  | 0, _, _, _, _, _, _, _, _, _ => False
  | n + 1, s1, s4, s7, s8, s55, s56, s57, w, K => F62_4b s1 s4 s7 s8 s55 s56 s57 w K (fun a1 a4 a7 a8 a55 a56 a57 w => F62_4L n a1 a4 a7 a8 a55 a56 a57 w K) (fun a1 a8 w => F62_5 a1 a8 w K)
def F62_4 (s1 s4 s7 s8 s55 s56 s57 : Value) (w : World) (K : V1) : Prop := F62_4L fuel s1 s4 s7 s8 s55 s56 s57 w K
theorem ok62_4 {K : V1}
    (hn : HN (fun e w => K (.tuple #[(e 2), (e 3)]) w) kn) (hr : HR Tryz.prog [.tmp 2, .tmp 3] K kr) (he : HE noE ke) :
    ∀ e w, F62_4 (e 1) (e 4) (e 7) (e 8) (e 55) (e 56) (e 57) w K → denL Tryz.prog (tabOf T62) 95 fuel ((flat (bodyOf Tryz.f62)).drop 8) e w kn kr ke := by
  intro e w h
  unfold F62_4 at h
  refine seg_loop (id := 2) (body := (loopB (blkB (nthC (flat (bodyOf Tryz.f62)) 8)))) (l2 := (flat (bodyOf Tryz.f62)).drop 9) (by kernel_rfl) ?_
  refine loop_ok (FL := fun m e w => F62_4L m (e 1) (e 4) (e 7) (e 8) (e 55) (e 56) (e 57) w K) (fr := endD Tryz.prog [.tmp 2, .tmp 3] K) (fe := (blkK 2 (fun e w => F62_5 (e 1) (e 8) w K) noE)) (fun _ _ h => h) ?_ hr (blkK_mono (fun e w h => ok62_5 hn hr he e w h) he) fuel e w h
  intro m e w h
  have h : F62_4L (m + 1) (e 1) (e 4) (e 7) (e 8) (e 55) (e 56) (e 57) w K := h
  rw [F62_4L] at h
  have e1 : ∀ (Y0 : V7) (Y1 : V2), F62_4b (e 1) (e 4) (e 7) (e 8) (e 55) (e 56) (e 57) w K Y0 Y1 = denL Tryz.prog (tabOf T62) 95 fuel (flat (loopB (blkB (nthC (flat (bodyOf Tryz.f62)) 8)))) e w (fun e w => Y0 (e 1) (e 4) (e 7) (e 8) (e 55) (e 56) (e 57) w) (endD Tryz.prog [.tmp 2, .tmp 3] K) (blkK 2 (fun e w => Y1 (e 1) (e 8) w) noE) := by intro Y0 Y1; kernel_rfl
  exact Eq.mp (e1 (fun a1 a4 a7 a8 a55 a56 a57 w => F62_4L m a1 a4 a7 a8 a55 a56 a57 w K) (fun a1 a8 w => F62_5 a1 a8 w K)) h
def F62_3b (s1 s4 : Value) (w : World) (_K : V1) (Y0 : V7) : Prop :=
eMakeMap none w fun v46 w45 =>
eMakeMap none w45 fun v48 w47 =>
bindP (pFieldAddr 1 s1) fun v49 =>
bindP (ld1 v49 w47) fun v50 =>
bindP (lenL v50) fun v51 =>
Y0 s1 s4 v46 v48 v50 v51 (.int .i64 0) w47
def F62_3 (s1 s4 : Value) (w : World) (K : V1) : Prop := F62_3b s1 s4 w K (fun a1 a4 a7 a8 a55 a56 a57 w => F62_4 a1 a4 a7 a8 a55 a56 a57 w K)
theorem ok62_3 {K : V1}
    (hn : HN (fun e w => K (.tuple #[(e 2), (e 3)]) w) kn) (hr : HR Tryz.prog [.tmp 2, .tmp 3] K kr) (he : HE noE ke) :
    ∀ e w, F62_3 (e 1) (e 4) w K → denL Tryz.prog (tabOf T62) 95 fuel ((flat (bodyOf Tryz.f62)).drop 6) e w kn kr ke := by
  intro e w h
  unfold F62_3 at h
  have e1 : ∀ (Y0 : V7), F62_3b (e 1) (e 4) w K Y0 = denL Tryz.prog (tabOf T62) 95 fuel (((flat (bodyOf Tryz.f62)).drop 6).take 2) e w (fun e w => Y0 (e 1) (e 4) (e 7) (e 8) (e 55) (e 56) (e 57) w) (endD Tryz.prog [.tmp 2, .tmp 3] K) noE := by intro Y0; kernel_rfl
  exact seg 2 (Eq.mp (e1 (fun a1 a4 a7 a8 a55 a56 a57 w => F62_4 a1 a4 a7 a8 a55 a56 a57 w K)) h) (fun e w h => ok62_4 hn hr he e w h) hr he
def F62_2b (s1 s4 s32 s33 s34 : Value) (w : World) (K : V1) (Y0 : V5) (Y1 : V2) : Prop :=
bindP (bLt s34 s33) fun v52 =>
ifB v52 (
bindP (pIndexL 4 s32 s34) fun v53 =>
bindP (ldN 4 v53 w) fun v54 =>
eAlloc Tryz.prog 208 w fun v56 w55 =>
bindW (st 4 v56 v54 w55) fun w57 =>
bindP (pFieldAddr 0 s4) fun v59 =>
bindP (ld1 v59 w57) fun v60 =>
bindP (pFieldAddr 0 v56) fun v61 =>
bindP (ld1 v61 w57) fun v62 =>
callP G104 [v60, v62] w57 fun v64 w63 =>
bindP (uNot v64) fun v65 =>
Sx.stepG (gd false v65) (ldN 4 v56 w63) fun v66 =>
stepE (gd false v65) (fun k => callP G105 [v66] w63 k) w63 fun v68 w67 =>
Sx.stepG (gd false v65) (uNot v68) fun v69 =>
bindP (pPick v65 (.bool true) v69) fun v70 =>
ifB v70 (
bindP (pFieldAddr 1 v56) fun v71 =>
bindP (ld1 v71 w67) fun v72 =>
K (.tuple #[v72, (.int .i64 160)]) w67) (
bindP (bAdd s34 (.int .i64 1)) fun v73 =>
Y0 s1 s4 s32 s33 v73 w67)) (
Y1 s1 s4 w)
def F62_2L : Nat → Value → Value → Value → Value → Value → World → (V1) → Prop
  | 0, _, _, _, _, _, _, _ => False
  | n + 1, s1, s4, s32, s33, s34, w, K => F62_2b s1 s4 s32 s33 s34 w K (fun a1 a4 a32 a33 a34 w => F62_2L n a1 a4 a32 a33 a34 w K) (fun a1 a4 w => F62_3 a1 a4 w K)
def F62_2 (s1 s4 s32 s33 s34 : Value) (w : World) (K : V1) : Prop := F62_2L fuel s1 s4 s32 s33 s34 w K
theorem ok62_2 {K : V1}
    (hn : HN (fun e w => K (.tuple #[(e 2), (e 3)]) w) kn) (hr : HR Tryz.prog [.tmp 2, .tmp 3] K kr) (he : HE noE ke) :
    ∀ e w, F62_2 (e 1) (e 4) (e 32) (e 33) (e 34) w K → denL Tryz.prog (tabOf T62) 95 fuel ((flat (bodyOf Tryz.f62)).drop 5) e w kn kr ke := by
  intro e w h
  unfold F62_2 at h
  refine seg_loop (id := 0) (body := (loopB (blkB (nthC (flat (bodyOf Tryz.f62)) 5)))) (l2 := (flat (bodyOf Tryz.f62)).drop 6) (by kernel_rfl) ?_
  refine loop_ok (FL := fun m e w => F62_2L m (e 1) (e 4) (e 32) (e 33) (e 34) w K) (fr := endD Tryz.prog [.tmp 2, .tmp 3] K) (fe := (blkK 0 (fun e w => F62_3 (e 1) (e 4) w K) noE)) (fun _ _ h => h) ?_ hr (blkK_mono (fun e w h => ok62_3 hn hr he e w h) he) fuel e w h
  intro m e w h
  have h : F62_2L (m + 1) (e 1) (e 4) (e 32) (e 33) (e 34) w K := h
  rw [F62_2L] at h
  have e1 : ∀ (Y0 : V5) (Y1 : V2), F62_2b (e 1) (e 4) (e 32) (e 33) (e 34) w K Y0 Y1 = denL Tryz.prog (tabOf T62) 95 fuel (flat (loopB (blkB (nthC (flat (bodyOf Tryz.f62)) 5)))) e w (fun e w => Y0 (e 1) (e 4) (e 32) (e 33) (e 34) w) (endD Tryz.prog [.tmp 2, .tmp 3] K) (blkK 0 (fun e w => Y1 (e 1) (e 4) w) noE) := by intro Y0 Y1; kernel_rfl
  exact Eq.mp (e1 (fun a1 a4 a32 a33 a34 w => F62_2L m a1 a4 a32 a33 a34 w K) (fun a1 a4 w => F62_3 a1 a4 w K)) h
def F62_1b (s0 : Value) (w : World) (K : V1) (Y0 : V5) : Prop :=
eBox 58 s0 w fun v75 w74 =>
bindP (pFieldAddr 0 v75) fun v76 =>
bindP (ld1 v76 w74) fun v77 =>
bindP (lenL v77) fun v78 =>
bindP (bGt v78 (.int .i64 64)) fun v79 =>
Sx.stepG (gd false v79) (pFieldAddr 1 v75) fun v80 =>
Sx.stepG (gd false v79) (ld1 v80 w74) fun v81 =>
Sx.stepG (gd false v79) (lenL v81) fun v82 =>
Sx.stepG (gd false v79) (bGt v82 (.int .i64 256)) fun v83 =>
bindP (pPick v79 (.bool true) v83) fun v84 =>
Sx.stepG (gd false v84) (pFieldAddr 2 v75) fun v85 =>
Sx.stepG (gd false v84) (ld1 v85 w74) fun v86 =>
Sx.stepG (gd false v84) (lenL v86) fun v87 =>
Sx.stepG (gd false v84) (bGt v87 (.int .i64 64)) fun v88 =>
bindP (pPick v84 (.bool true) v88) fun v89 =>
ifB v89 (
K (.tuple #[(.int .i64 0), (.int .i64 2)]) w74) (
eMakeMap none w74 fun v91 w90 =>
bindP (fBuild Tryz.prog 205 [(0, v91)]) fun v92 =>
eAlloc Tryz.prog 205 w90 fun v94 w93 =>
bindW (st 1 v94 v92 w93) fun w95 =>
bindP (pFieldAddr 0 v75) fun v97 =>
bindP (ld1 v97 w95) fun v98 =>
bindP (lenL v98) fun v99 =>
Y0 v75 v94 v98 v99 (.int .i64 0) w95)
def F62_1 (s0 : Value) (w : World) (K : V1) : Prop := F62_1b s0 w K (fun a1 a4 a32 a33 a34 w => F62_2 a1 a4 a32 a33 a34 w K)
theorem ok62_1 {K : V1}
    (hn : HN (fun e w => K (.tuple #[(e 2), (e 3)]) w) kn) (hr : HR Tryz.prog [.tmp 2, .tmp 3] K kr) (he : HE noE ke) :
    ∀ e w, F62_1 (e 0) w K → denL Tryz.prog (tabOf T62) 95 fuel ((flat (bodyOf Tryz.f62)).drop 0) e w kn kr ke := by
  intro e w h
  unfold F62_1 at h
  have e1 : ∀ (Y0 : V5), F62_1b (e 0) w K Y0 = denL Tryz.prog (tabOf T62) 95 fuel (((flat (bodyOf Tryz.f62)).drop 0).take 5) e w (fun e w => Y0 (e 1) (e 4) (e 32) (e 33) (e 34) w) (endD Tryz.prog [.tmp 2, .tmp 3] K) noE := by intro Y0; kernel_rfl
  exact seg 5 (Eq.mp (e1 (fun a1 a4 a32 a33 a34 w => F62_2 a1 a4 a32 a33 a34 w K)) h) (fun e w h => ok62_2 hn hr he e w h) hr he
def F62 (x0 : Value) (w : World) (K : V1) : Prop := F62_1 x0 w K
def G62 : FnT := fun args w K => on1 (fun x0 => F62 x0 w K) args
theorem c62 {x0 : Value} {w : World} {K : V1} (h : F62 x0 w K) : callP G62 [x0] w K := callP_intro (on1_mk (p := fun x0 => F62 x0 w K) h)
theorem ok62 : OkF Tryz.prog 62 G62 := by
  refine okF_of (tab_ok (l := T62) ⟨ok104, ok105, ok106, ok107, trivial⟩) mixed (n := fuel) Tryz.func62 Tryz.call62 fun args w K h => ?_
  obtain ⟨x0, rfl, hh⟩ := of_on1 h
  unfold F62 at hh
  exact fnD_list (c := bodyOf Tryz.f62) (by kernel_rfl) (by kernel_rfl) (ok62_1 (fun _ _ h => h) (fun _ _ h => h) (fun _ _ _ h => h) (initE [x0]) w hh)
def G110 : FnT := fun _ _ _ => False
theorem ok110 : OkF Tryz.prog 110 G110 := fun _ _ _ h => h.elim
def T67 : List (Nat × FnT) := [(110, G110)]
def F67_3b (s3 : Value) (w : World) (K : V1) : Prop :=
K s3 w
def F67_3 (s3 : Value) (w : World) (K : V1) : Prop := F67_3b s3 w K
theorem ok67_3 {K : V1}
    (hn : HN (fun e w => K (e 2) w) kn) (hr : HR Tryz.prog [.tmp 2] K kr) (he : HE noE ke) :
    ∀ e w, F67_3 (e 3) w K → denL Tryz.prog (tabOf T67) 38 fuel ((flat (bodyOf Tryz.f67)).drop 4) e w kn kr ke := by
  intro e w h
  unfold F67_3 at h
  have e1 : ∀ (_ : Unit), F67_3b (e 3) w K = denL Tryz.prog (tabOf T67) 38 fuel ((flat (bodyOf Tryz.f67)).drop 4) e w (fun e w => K (e 2) w) (endD Tryz.prog [.tmp 2] K) noE := by intro _; kernel_rfl
  exact seg_end (Eq.mp (e1 ()) h) hn hr he
def F67_2b (s3 s11 s12 s13 : Value) (w : World) (_K : V1) (Y0 : V4) (Y1 : V1) : Prop :=
bindP (bLt s13 s12) fun v1 =>
ifB v1 (
bindP (pIndexL 10 s11 s13) fun v2 =>
bindP (ldN 10 v2 w) fun v3 =>
eAlloc Tryz.prog 216 w fun v5 w4 =>
bindW (st 10 v5 v3 w4) fun w6 =>
bindP (pFieldAddr 3 v5) fun v8 =>
bindP (ld1 v8 w6) fun v9 =>
callP G110 [v9] w6 fun v11 w10 =>
bindP (pTuple v11 0) fun v12 =>
bindP (pTuple v11 1) fun _ =>
bindP (pFieldAddr 4 v5) fun v14 =>
bindP (ld1 v14 w10) fun v15 =>
callP G110 [v15] w10 fun v17 w16 =>
bindP (pTuple v17 0) fun v18 =>
bindP (pTuple v17 1) fun _ =>
bindP (ldN 10 v5 w16) fun v20 =>
bindP (fBuild Tryz.prog 224 [(0, v20), (1, v12), (2, v18)]) fun v21 =>
eBuildSl Tryz.prog 82 1 [(0, v21)] w16 fun v23 w22 =>
eAppend Tryz.prog 82 82 s3 v23 w22 fun v25 w24 =>
bindP (bAdd s13 (.int .i64 1)) fun v26 =>
Y0 v25 s11 s12 v26 w24) (
Y1 s3 w)
def F67_2L : Nat → Value → Value → Value → Value → World → (V1) → Prop
  | 0, _, _, _, _, _, _ => False
  | n + 1, s3, s11, s12, s13, w, K => F67_2b s3 s11 s12 s13 w K (fun a3 a11 a12 a13 w => F67_2L n a3 a11 a12 a13 w K) (fun a3 w => F67_3 a3 w K)
def F67_2 (s3 s11 s12 s13 : Value) (w : World) (K : V1) : Prop := F67_2L fuel s3 s11 s12 s13 w K
theorem ok67_2 {K : V1}
    (hn : HN (fun e w => K (e 2) w) kn) (hr : HR Tryz.prog [.tmp 2] K kr) (he : HE noE ke) :
    ∀ e w, F67_2 (e 3) (e 11) (e 12) (e 13) w K → denL Tryz.prog (tabOf T67) 38 fuel ((flat (bodyOf Tryz.f67)).drop 3) e w kn kr ke := by
  intro e w h
  unfold F67_2 at h
  refine seg_loop (id := 0) (body := (loopB (blkB (nthC (flat (bodyOf Tryz.f67)) 3)))) (l2 := (flat (bodyOf Tryz.f67)).drop 4) (by kernel_rfl) ?_
  refine loop_ok (FL := fun m e w => F67_2L m (e 3) (e 11) (e 12) (e 13) w K) (fr := endD Tryz.prog [.tmp 2] K) (fe := (blkK 0 (fun e w => F67_3 (e 3) w K) noE)) (fun _ _ h => h) ?_ hr (blkK_mono (fun e w h => ok67_3 hn hr he e w h) he) fuel e w h
  intro m e w h
  have h : F67_2L (m + 1) (e 3) (e 11) (e 12) (e 13) w K := h
  rw [F67_2L] at h
  have e1 : ∀ (Y0 : V4) (Y1 : V1), F67_2b (e 3) (e 11) (e 12) (e 13) w K Y0 Y1 = denL Tryz.prog (tabOf T67) 38 fuel (flat (loopB (blkB (nthC (flat (bodyOf Tryz.f67)) 3)))) e w (fun e w => Y0 (e 3) (e 11) (e 12) (e 13) w) (endD Tryz.prog [.tmp 2] K) (blkK 0 (fun e w => Y1 (e 3) w) noE) := by intro Y0 Y1; kernel_rfl
  exact Eq.mp (e1 (fun a3 a11 a12 a13 w => F67_2L m a3 a11 a12 a13 w K) (fun a3 w => F67_3 a3 w K)) h
def F67_1b (s0 : Value) (w : World) (_K : V1) (Y0 : V4) : Prop :=
eBox 58 s0 w fun v28 w27 =>
bindP (pFieldAddr 2 v28) fun v29 =>
bindP (ld1 v29 w27) fun v30 =>
bindP (lenL v30) fun v31 =>
Y0 (.slice none 0 0) v30 v31 (.int .i64 0) w27
def F67_1 (s0 : Value) (w : World) (K : V1) : Prop := F67_1b s0 w K (fun a3 a11 a12 a13 w => F67_2 a3 a11 a12 a13 w K)
theorem ok67_1 {K : V1}
    (hn : HN (fun e w => K (e 2) w) kn) (hr : HR Tryz.prog [.tmp 2] K kr) (he : HE noE ke) :
    ∀ e w, F67_1 (e 0) w K → denL Tryz.prog (tabOf T67) 38 fuel ((flat (bodyOf Tryz.f67)).drop 0) e w kn kr ke := by
  intro e w h
  unfold F67_1 at h
  have e1 : ∀ (Y0 : V4), F67_1b (e 0) w K Y0 = denL Tryz.prog (tabOf T67) 38 fuel (((flat (bodyOf Tryz.f67)).drop 0).take 3) e w (fun e w => Y0 (e 3) (e 11) (e 12) (e 13) w) (endD Tryz.prog [.tmp 2] K) noE := by intro Y0; kernel_rfl
  exact seg 3 (Eq.mp (e1 (fun a3 a11 a12 a13 w => F67_2 a3 a11 a12 a13 w K)) h) (fun e w h => ok67_2 hn hr he e w h) hr he
def F67 (x0 : Value) (w : World) (K : V1) : Prop := F67_1 x0 w K
def G67 : FnT := fun args w K => on1 (fun x0 => F67 x0 w K) args
theorem c67 {x0 : Value} {w : World} {K : V1} (h : F67 x0 w K) : callP G67 [x0] w K := callP_intro (on1_mk (p := fun x0 => F67 x0 w K) h)
theorem ok67 : OkF Tryz.prog 67 G67 := by
  refine okF_of (tab_ok (l := T67) ⟨ok110, trivial⟩) mixed (n := fuel) Tryz.func67 Tryz.call67 fun args w K h => ?_
  obtain ⟨x0, rfl, hh⟩ := of_on1 h
  unfold F67 at hh
  exact fnD_list (c := bodyOf Tryz.f67) (by kernel_rfl) (by kernel_rfl) (ok67_1 (fun _ _ h => h) (fun _ _ h => h) (fun _ _ _ h => h) (initE [x0]) w hh)
def T34 : List (Nat × FnT) := [(62, G62), (65, G65), (66, G66), (67, G67)]
def F34 (x0 x1 x2 x3 : Value) (w : World) (K : V1) : Prop :=
eBox 58 x0 w fun v2 w1 =>
bindP (ldN 3 v2 w1) fun v3 =>
callP G62 [v3] w1 fun v5 w4 =>
bindP (pTuple v5 0) fun _ =>
bindP (pTuple v5 1) fun v7 =>
bindP (bNe Tryz.prog 39 (.tmp 21) (.const (.int .i64 0)) v7 (.int .i64 0)) fun v8 =>
ifB v8 (
K (.tuple #[(.pointer none), (.int .i64 160)]) w4) (
callP G65 [x1] w4 fun v10 w9 =>
bindP (pTuple v10 0) fun v11 =>
bindP (pTuple v10 1) fun v12 =>
callP G66 [x2] w9 fun v14 w13 =>
bindP (pTuple v14 0) fun v15 =>
bindP (pTuple v14 1) fun v16 =>
bindP (bNe Tryz.prog 39 (.tmp 33) (.const (.int .i64 0)) v12 (.int .i64 0)) fun v17 =>
stepM (gd false v17) v16 fun v18 =>
Sx.stepG (gd false v17) (bNe Tryz.prog 39 (.tmp 36) (.const (.int .i64 0)) v18 (.int .i64 0)) fun v19 =>
bindP (pPick v17 (.bool true) v19) fun v20 =>
stepM (gd false v20) x3 fun v21 =>
Sx.stepG (gd false v20) (bLt v21 (.int .i64 0)) fun v22 =>
bindP (pPick v20 (.bool true) v22) fun v23 =>
stepM (gd false v23) x3 fun v24 =>
Sx.stepG (gd false v23) (bGt v24 (.int .i64 144115188075855872)) fun v25 =>
bindP (pPick v23 (.bool true) v25) fun v26 =>
ifB v26 (
K (.tuple #[(.pointer none), (.int .i64 1)]) w13) (
bindP (ldN 3 v2 w13) fun v27 =>
callP G67 [v27] w13 fun v29 w28 =>
bindP (fBuild Tryz.prog 86 [(0, v29), (1, v11), (2, v15), (3, x3)]) fun v30 =>
eBox 86 v30 w28 fun v32 w31 =>
K (.tuple #[v32, (.int .i64 0)]) w31))
def G34 : FnT := fun args w K => on4 (fun x0 x1 x2 x3 => F34 x0 x1 x2 x3 w K) args
theorem c34 {x0 x1 x2 x3 : Value} {w : World} {K : V1} (h : F34 x0 x1 x2 x3 w K) : callP G34 [x0, x1, x2, x3] w K := callP_intro (on4_mk (p := fun x0 x1 x2 x3 => F34 x0 x1 x2 x3 w K) h)
theorem ok34 : OkF Tryz.prog 34 G34 := by
  refine okF_of (tab_ok (l := T34) ⟨ok62, ok65, ok66, ok67, trivial⟩) mixed (n := fuel) Tryz.func34 Tryz.call34 fun args w K h => ?_
  obtain ⟨x0, x1, x2, x3, rfl, hh⟩ := of_on4 h
  exact fnD_list (c := bodyOf Tryz.f34) (by kernel_rfl) (by kernel_rfl) (Eq.mp (by kernel_rfl) hh)
def T64 : List (Nat × FnT) := []
def F64 (x0 : Value) (w : World) (K : V1) : Prop :=
bindP (bEq Tryz.prog 9 (.tmp 3) (.const (.string ⟨#[]⟩)) x0 (.string ⟨#[]⟩)) fun v1 =>
stepM (gd false v1) x0 fun v2 =>
Sx.stepG (gd false v1) (lenS v2) fun v3 =>
Sx.stepG (gd false v1) (bGt v3 (.int .i64 64)) fun v4 =>
bindP (pPick v1 (.bool true) v4) fun v5 =>
K v5 w
def G64 : FnT := fun args w K => on1 (fun x0 => F64 x0 w K) args
theorem ok64 : OkF Tryz.prog 64 G64 := by
  refine okF_of (tab_ok (l := T64) trivial) mixed (n := fuel) Tryz.func64 Tryz.call64 fun args w K h => ?_
  obtain ⟨x0, rfl, hh⟩ := of_on1 h
  exact fnD_list (c := bodyOf Tryz.f64) (by kernel_rfl) (by kernel_rfl) (Eq.mp (by kernel_rfl) hh)
def T108 : List (Nat × FnT) := [(64, G64)]
def F108_3b (w : World) (K : V1) : Prop :=
K (.int .i64 (-1)) w
def F108_3 (w : World) (K : V1) : Prop := F108_3b w K
theorem ok108_3 {K : V1}
    (hn : HN (fun e w => K (e 4) w) kn) (hr : HR Tryz.prog [.tmp 4] K kr) (he : HE noE ke) :
    ∀ e w, F108_3 w K → denL Tryz.prog (tabOf T108) 19 fuel ((flat (bodyOf Tryz.f108)).drop 3) e w kn kr ke := by
  intro e w h
  unfold F108_3 at h
  have e1 : ∀ (_ : Unit), F108_3b w K = denL Tryz.prog (tabOf T108) 19 fuel ((flat (bodyOf Tryz.f108)).drop 3) e w (fun e w => K (e 4) w) (endD Tryz.prog [.tmp 4] K) noE := by intro _; kernel_rfl
  exact seg_end (Eq.mp (e1 ()) h) hn hr he
def F108_2b (s0 s1 s7 s8 : Value) (w : World) (K : V1) (Y0 : V4) (Y1 : V0) : Prop :=
bindP (bLt s8 s7) fun v1 =>
ifB v1 (
bindP (pIndexL 1 s0 s8) fun v2 =>
bindP (ld1 v2 w) fun v3 =>
eCallV (tabOf T108) s1 [v3] w fun v5 w4 =>
ifB v5 (
K s8 w4) (
bindP (bAdd s8 (.int .i64 1)) fun v6 =>
Y0 s0 s1 s7 v6 w4)) (
Y1 w)
def F108_2L : Nat → Value → Value → Value → Value → World → (V1) → Prop
  | 0, _, _, _, _, _, _ => False
  | n + 1, s0, s1, s7, s8, w, K => F108_2b s0 s1 s7 s8 w K (fun a0 a1 a7 a8 w => F108_2L n a0 a1 a7 a8 w K) (fun w => F108_3 w K)
def F108_2 (s0 s1 s7 s8 : Value) (w : World) (K : V1) : Prop := F108_2L fuel s0 s1 s7 s8 w K
theorem ok108_2 {K : V1}
    (hn : HN (fun e w => K (e 4) w) kn) (hr : HR Tryz.prog [.tmp 4] K kr) (he : HE noE ke) :
    ∀ e w, F108_2 (e 0) (e 1) (e 7) (e 8) w K → denL Tryz.prog (tabOf T108) 19 fuel ((flat (bodyOf Tryz.f108)).drop 2) e w kn kr ke := by
  intro e w h
  unfold F108_2 at h
  refine seg_loop (id := 0) (body := (loopB (blkB (nthC (flat (bodyOf Tryz.f108)) 2)))) (l2 := (flat (bodyOf Tryz.f108)).drop 3) (by kernel_rfl) ?_
  refine loop_ok (FL := fun m e w => F108_2L m (e 0) (e 1) (e 7) (e 8) w K) (fr := endD Tryz.prog [.tmp 4] K) (fe := (blkK 0 (fun e w => F108_3 w K) noE)) (fun _ _ h => h) ?_ hr (blkK_mono (fun e w h => ok108_3 hn hr he e w h) he) fuel e w h
  intro m e w h
  have h : F108_2L (m + 1) (e 0) (e 1) (e 7) (e 8) w K := h
  rw [F108_2L] at h
  have e1 : ∀ (Y0 : V4) (Y1 : V0), F108_2b (e 0) (e 1) (e 7) (e 8) w K Y0 Y1 = denL Tryz.prog (tabOf T108) 19 fuel (flat (loopB (blkB (nthC (flat (bodyOf Tryz.f108)) 2)))) e w (fun e w => Y0 (e 0) (e 1) (e 7) (e 8) w) (endD Tryz.prog [.tmp 4] K) (blkK 0 (fun e w => Y1 w) noE) := by intro Y0 Y1; kernel_rfl
  exact Eq.mp (e1 (fun a0 a1 a7 a8 w => F108_2L m a0 a1 a7 a8 w K) (fun w => F108_3 w K)) h
def F108_1b (s0 s1 : Value) (w : World) (_K : V1) (Y0 : V4) : Prop :=
bindP (lenL s0) fun v7 =>
Y0 s0 s1 v7 (.int .i64 0) w
def F108_1 (s0 s1 : Value) (w : World) (K : V1) : Prop := F108_1b s0 s1 w K (fun a0 a1 a7 a8 w => F108_2 a0 a1 a7 a8 w K)
theorem ok108_1 {K : V1}
    (hn : HN (fun e w => K (e 4) w) kn) (hr : HR Tryz.prog [.tmp 4] K kr) (he : HE noE ke) :
    ∀ e w, F108_1 (e 0) (e 1) w K → denL Tryz.prog (tabOf T108) 19 fuel ((flat (bodyOf Tryz.f108)).drop 0) e w kn kr ke := by
  intro e w h
  unfold F108_1 at h
  have e1 : ∀ (Y0 : V4), F108_1b (e 0) (e 1) w K Y0 = denL Tryz.prog (tabOf T108) 19 fuel (((flat (bodyOf Tryz.f108)).drop 0).take 2) e w (fun e w => Y0 (e 0) (e 1) (e 7) (e 8) w) (endD Tryz.prog [.tmp 4] K) noE := by intro Y0; kernel_rfl
  exact seg 2 (Eq.mp (e1 (fun a0 a1 a7 a8 w => F108_2 a0 a1 a7 a8 w K)) h) (fun e w h => ok108_2 hn hr he e w h) hr he
def F108 (x0 x1 : Value) (w : World) (K : V1) : Prop := F108_1 x0 x1 w K
def G108 : FnT := fun args w K => on2 (fun x0 x1 => F108 x0 x1 w K) args
theorem c108 {x0 x1 : Value} {w : World} {K : V1} (h : F108 x0 x1 w K) : callP G108 [x0, x1] w K := callP_intro (on2_mk (p := fun x0 x1 => F108 x0 x1 w K) h)
theorem ok108 : OkF Tryz.prog 108 G108 := by
  refine okF_of (tab_ok (l := T108) ⟨ok64, trivial⟩) mixed (n := fuel) Tryz.func108 Tryz.call108 fun args w K h => ?_
  obtain ⟨x0, x1, rfl, hh⟩ := of_on2 h
  unfold F108 at hh
  exact fnD_list (c := bodyOf Tryz.f108) (by kernel_rfl) (by kernel_rfl) (ok108_1 (fun _ _ h => h) (fun _ _ h => h) (fun _ _ _ h => h) (initE [x0, x1]) w hh)
def T63 : List (Nat × FnT) := [(108, G108)]
def F63 (x0 x1 : Value) (w : World) (K : V1) : Prop :=
callP G108 [x0, x1] w fun v2 w1 =>
bindP (bGe v2 (.int .i64 0)) fun v3 =>
K v3 w1
def G63 : FnT := fun args w K => on2 (fun x0 x1 => F63 x0 x1 w K) args
theorem c63 {x0 x1 : Value} {w : World} {K : V1} (h : F63 x0 x1 w K) : callP G63 [x0, x1] w K := callP_intro (on2_mk (p := fun x0 x1 => F63 x0 x1 w K) h)
theorem ok63 : OkF Tryz.prog 63 G63 := by
  refine okF_of (tab_ok (l := T63) ⟨ok108, trivial⟩) mixed (n := fuel) Tryz.func63 Tryz.call63 fun args w K h => ?_
  obtain ⟨x0, x1, rfl, hh⟩ := of_on2 h
  exact fnD_list (c := bodyOf Tryz.f63) (by kernel_rfl) (by kernel_rfl) (Eq.mp (by kernel_rfl) hh)
def T33 : List (Nat × FnT) := [(34, G34), (35, G35), (62, G62), (63, G63)]
def F33 (x0 : Value) (w : World) (K : V1) : Prop :=
eBox 60 x0 w fun v2 w1 =>
bindP (pFieldAddr 0 v2) fun v3 =>
bindP (ldN 3 v3 w1) fun v4 =>
callP G62 [v4] w1 fun v6 w5 =>
bindP (pTuple v6 0) fun _ =>
bindP (pTuple v6 1) fun v8 =>
bindP (bNe Tryz.prog 39 (.tmp 16) (.const (.int .i64 0)) v8 (.int .i64 0)) fun v9 =>
ifB v9 (
K (.int .i64 160) w5) (
bindP (fBuild Tryz.prog 58 []) fun v10 =>
bindP (pFieldAddr 3 v2) fun v11 =>
bindP (ld1 v11 w5) fun v12 =>
bindP (pFieldAddr 4 v2) fun v13 =>
bindP (ld1 v13 w5) fun v14 =>
bindP (pFieldAddr 5 v2) fun v15 =>
bindP (ld1 v15 w5) fun v16 =>
callP G34 [v10, v12, v14, v16] w5 fun v18 w17 =>
bindP (pTuple v18 0) fun _ =>
bindP (pTuple v18 1) fun v20 =>
bindP (pFieldAddr 6 v2) fun v21 =>
bindP (ld1 v21 w17) fun v22 =>
bindP (pFieldAddr 7 v2) fun v23 =>
bindP (ld1 v23 w17) fun v24 =>
bindP (pFieldAddr 8 v2) fun v25 =>
bindP (ld1 v25 w17) fun v26 =>
callP G35 [v22, v24, v26] w17 fun v28 w27 =>
bindP (pTuple v28 0) fun _ =>
bindP (pTuple v28 1) fun v30 =>
bindP (pFieldAddr 9 v2) fun v31 =>
bindP (ld1 v31 w27) fun v32 =>
callP G63 [v32, (.func (.func 64) #[] #[])] w27 fun v34 w33 =>
bindP (bNe Tryz.prog 39 (.tmp 42) (.const (.int .i64 0)) v20 (.int .i64 0)) fun v35 =>
stepM (gd false v35) v30 fun v36 =>
Sx.stepG (gd false v35) (bNe Tryz.prog 39 (.tmp 45) (.const (.int .i64 0)) v36 (.int .i64 0)) fun v37 =>
bindP (pPick v35 (.bool true) v37) fun v38 =>
stepM (gd false v38) v34 fun v39 =>
bindP (pPick v38 (.bool true) v39) fun v40 =>
Sx.stepG (gd false v40) (pFieldAddr 9 v2) fun v41 =>
Sx.stepG (gd false v40) (ld1 v41 w33) fun v42 =>
Sx.stepG (gd false v40) (lenL v42) fun v43 =>
Sx.stepG (gd false v40) (bGt v43 (.int .i64 64)) fun v44 =>
bindP (pPick v40 (.bool true) v44) fun v45 =>
ifB v45 (
K (.int .i64 1) w33) (
K (.int .i64 0) w33))
def G33 : FnT := fun args w K => on1 (fun x0 => F33 x0 w K) args
theorem c33 {x0 : Value} {w : World} {K : V1} (h : F33 x0 w K) : callP G33 [x0] w K := callP_intro (on1_mk (p := fun x0 => F33 x0 w K) h)
theorem ok33 : OkF Tryz.prog 33 G33 := by
  refine okF_of (tab_ok (l := T33) ⟨ok34, ok35, ok62, ok63, trivial⟩) mixed (n := fuel) Tryz.func33 Tryz.call33 fun args w K h => ?_
  obtain ⟨x0, rfl, hh⟩ := of_on1 h
  exact fnD_list (c := bodyOf Tryz.f33) (by kernel_rfl) (by kernel_rfl) (Eq.mp (by kernel_rfl) hh)
def T17 : List (Nat × FnT) := [(33, G33), (34, G34), (35, G35)]
def F17 (x0 : Value) (w : World) (K : V1) : Prop :=
eBox 60 x0 w fun v2 w1 =>
bindP (ldN 10 v2 w1) fun v3 =>
callP G33 [v3] w1 fun v5 w4 =>
bindP (bNe Tryz.prog 39 (.tmp 11) (.const (.int .i64 0)) v5 (.int .i64 0)) fun v6 =>
ifB v6 (
K (.tuple #[(.pointer none), v5]) w4) (
bindP (pFieldAddr 0 v2) fun v7 =>
bindP (ldN 3 v7 w4) fun v8 =>
bindP (pFieldAddr 3 v2) fun v9 =>
bindP (ld1 v9 w4) fun v10 =>
bindP (pFieldAddr 4 v2) fun v11 =>
bindP (ld1 v11 w4) fun v12 =>
bindP (pFieldAddr 5 v2) fun v13 =>
bindP (ld1 v13 w4) fun v14 =>
callP G34 [v8, v10, v12, v14] w4 fun v16 w15 =>
bindP (pTuple v16 0) fun v17 =>
bindP (pTuple v16 1) fun _ =>
bindP (pFieldAddr 6 v2) fun v19 =>
bindP (ld1 v19 w15) fun v20 =>
bindP (pFieldAddr 7 v2) fun v21 =>
bindP (ld1 v21 w15) fun v22 =>
bindP (pFieldAddr 8 v2) fun v23 =>
bindP (ld1 v23 w15) fun v24 =>
callP G35 [v20, v22, v24] w15 fun v26 w25 =>
bindP (pTuple v26 0) fun v27 =>
bindP (pTuple v26 1) fun _ =>
bindP (fBuild Tryz.prog 35 [(0, v17), (1, v27)]) fun v29 =>
eBox 35 v29 w25 fun v31 w30 =>
K (.tuple #[v31, (.int .i64 0)]) w30)
def G17 : FnT := fun args w K => on1 (fun x0 => F17 x0 w K) args
theorem c17 {x0 : Value} {w : World} {K : V1} (h : F17 x0 w K) : callP G17 [x0] w K := callP_intro (on1_mk (p := fun x0 => F17 x0 w K) h)
theorem ok17 : OkF Tryz.prog 17 G17 := by
  refine okF_of (tab_ok (l := T17) ⟨ok33, ok34, ok35, trivial⟩) mixed (n := fuel) Tryz.func17 Tryz.call17 fun args w K h => ?_
  obtain ⟨x0, rfl, hh⟩ := of_on1 h
  exact fnD_list (c := bodyOf Tryz.f17) (by kernel_rfl) (by kernel_rfl) (Eq.mp (by kernel_rfl) hh)
def G111 : FnT := fun _ _ _ => False
theorem ok111 : OkF Tryz.prog 111 G111 := fun _ _ _ h => h.elim
def G112 : FnT := fun _ _ _ => False
theorem ok112 : OkF Tryz.prog 112 G112 := fun _ _ _ h => h.elim
def G113 : FnT := fun _ _ _ => False
theorem ok113 : OkF Tryz.prog 113 G113 := fun _ _ _ h => h.elim
def T68 : List (Nat × FnT) := [(111, G111), (112, G112), (113, G113)]
def F68_7b (w : World) (K : V1) : Prop :=
K (.tuple #[(.int .i64 0), (.int .i64 0)]) w
def F68_7 (w : World) (K : V1) : Prop := F68_7b w K
theorem ok68_7 {K : V1}
    (hn : HN (fun e w => K (.tuple #[(e 2), (e 3)]) w) kn) (hr : HR Tryz.prog [.tmp 2, .tmp 3] K kr) (he : HE noE ke) :
    ∀ e w, F68_7 w K → denL Tryz.prog (tabOf T68) 76 fuel ((flat (bodyOf Tryz.f68)).drop 9) e w kn kr ke := by
  intro e w h
  unfold F68_7 at h
  have e1 : ∀ (_ : Unit), F68_7b w K = denL Tryz.prog (tabOf T68) 76 fuel ((flat (bodyOf Tryz.f68)).drop 9) e w (fun e w => K (.tuple #[(e 2), (e 3)]) w) (endD Tryz.prog [.tmp 2, .tmp 3] K) noE := by intro _; kernel_rfl
  exact seg_end (Eq.mp (e1 ()) h) hn hr he
def F68_6b (s1 s6 : Value) (w : World) (K : V1) (Y0 : V2) (Y1 : V0) : Prop :=
bindP (pFieldAddr 2 s1) fun v1 =>
bindP (ld1 v1 w) fun v2 =>
bindP (lenL v2) fun v3 =>
bindP (bLt s6 v3) fun v4 =>
ifB v4 (
bindP (pFieldAddr 2 s1) fun v5 =>
bindP (ld1 v5 w) fun v6 =>
callP G113 [v6, s6] w fun v8 w7 =>
bindP (uNot v8) fun v9 =>
ifB v9 (
bindP (pFieldAddr 2 s1) fun v10 =>
bindP (ld1 v10 w7) fun v11 =>
bindP (pIndexL 10 v11 s6) fun v12 =>
bindP (pFieldAddr 1 v12) fun v13 =>
bindP (ld1 v13 w7) fun v14 =>
K (.tuple #[v14, (.int .i64 160)]) w7) (
bindP (bAdd s6 (.int .i64 1)) fun v15 =>
Y0 s1 v15 w7)) (
Y1 w)
def F68_6L : Nat → Value → Value → World → (V1) → Prop
  | 0, _, _, _, _ => False
  | n + 1, s1, s6, w, K => F68_6b s1 s6 w K (fun a1 a6 w => F68_6L n a1 a6 w K) (fun w => F68_7 w K)
def F68_6 (s1 s6 : Value) (w : World) (K : V1) : Prop := F68_6L fuel s1 s6 w K
theorem ok68_6 {K : V1}
    (hn : HN (fun e w => K (.tuple #[(e 2), (e 3)]) w) kn) (hr : HR Tryz.prog [.tmp 2, .tmp 3] K kr) (he : HE noE ke) :
    ∀ e w, F68_6 (e 1) (e 6) w K → denL Tryz.prog (tabOf T68) 76 fuel ((flat (bodyOf Tryz.f68)).drop 8) e w kn kr ke := by
  intro e w h
  unfold F68_6 at h
  refine seg_loop (id := 4) (body := (loopB (blkB (nthC (flat (bodyOf Tryz.f68)) 8)))) (l2 := (flat (bodyOf Tryz.f68)).drop 9) (by kernel_rfl) ?_
  refine loop_ok (FL := fun m e w => F68_6L m (e 1) (e 6) w K) (fr := endD Tryz.prog [.tmp 2, .tmp 3] K) (fe := (blkK 4 (fun e w => F68_7 w K) noE)) (fun _ _ h => h) ?_ hr (blkK_mono (fun e w h => ok68_7 hn hr he e w h) he) fuel e w h
  intro m e w h
  have h : F68_6L (m + 1) (e 1) (e 6) w K := h
  rw [F68_6L] at h
  have e1 : ∀ (Y0 : V2) (Y1 : V0), F68_6b (e 1) (e 6) w K Y0 Y1 = denL Tryz.prog (tabOf T68) 76 fuel (flat (loopB (blkB (nthC (flat (bodyOf Tryz.f68)) 8)))) e w (fun e w => Y0 (e 1) (e 6) w) (endD Tryz.prog [.tmp 2, .tmp 3] K) (blkK 4 (fun e w => Y1 w) noE) := by intro Y0 Y1; kernel_rfl
  exact Eq.mp (e1 (fun a1 a6 w => F68_6L m a1 a6 w K) (fun w => F68_7 w K)) h
def F68_5b (s1 : Value) (w : World) (_K : V1) (Y0 : V2) : Prop :=
Y0 s1 (.int .i64 0) w
def F68_5 (s1 : Value) (w : World) (K : V1) : Prop := F68_5b s1 w K (fun a1 a6 w => F68_6 a1 a6 w K)
theorem ok68_5 {K : V1}
    (hn : HN (fun e w => K (.tuple #[(e 2), (e 3)]) w) kn) (hr : HR Tryz.prog [.tmp 2, .tmp 3] K kr) (he : HE noE ke) :
    ∀ e w, F68_5 (e 1) w K → denL Tryz.prog (tabOf T68) 76 fuel ((flat (bodyOf Tryz.f68)).drop 7) e w kn kr ke := by
  intro e w h
  unfold F68_5 at h
  have e1 : ∀ (Y0 : V2), F68_5b (e 1) w K Y0 = denL Tryz.prog (tabOf T68) 76 fuel (((flat (bodyOf Tryz.f68)).drop 7).take 1) e w (fun e w => Y0 (e 1) (e 6) w) (endD Tryz.prog [.tmp 2, .tmp 3] K) noE := by intro Y0; kernel_rfl
  exact seg 1 (Eq.mp (e1 (fun a1 a6 w => F68_6 a1 a6 w K)) h) (fun e w h => ok68_6 hn hr he e w h) hr he
def F68_4b (s1 s5 : Value) (w : World) (K : V1) (Y0 : V2) (Y1 : V1) : Prop :=
bindP (pFieldAddr 1 s1) fun v16 =>
bindP (ld1 v16 w) fun v17 =>
bindP (lenL v17) fun v18 =>
bindP (bLt s5 v18) fun v19 =>
ifB v19 (
bindP (ldN 3 s1 w) fun v20 =>
callP G112 [v20, s5] w fun v22 w21 =>
bindP (uNot v22) fun v23 =>
ifB v23 (
bindP (pFieldAddr 1 s1) fun v24 =>
bindP (ld1 v24 w21) fun v25 =>
bindP (pIndexL 8 v25 s5) fun v26 =>
bindP (pFieldAddr 1 v26) fun v27 =>
bindP (ld1 v27 w21) fun v28 =>
K (.tuple #[v28, (.int .i64 160)]) w21) (
bindP (bAdd s5 (.int .i64 1)) fun v29 =>
Y0 s1 v29 w21)) (
Y1 s1 w)
def F68_4L : Nat → Value → Value → World → (V1) → Prop
  | 0, _, _, _, _ => False
  | n + 1, s1, s5, w, K => F68_4b s1 s5 w K (fun a1 a5 w => F68_4L n a1 a5 w K) (fun a1 w => F68_5 a1 w K)
def F68_4 (s1 s5 : Value) (w : World) (K : V1) : Prop := F68_4L fuel s1 s5 w K
theorem ok68_4 {K : V1}
    (hn : HN (fun e w => K (.tuple #[(e 2), (e 3)]) w) kn) (hr : HR Tryz.prog [.tmp 2, .tmp 3] K kr) (he : HE noE ke) :
    ∀ e w, F68_4 (e 1) (e 5) w K → denL Tryz.prog (tabOf T68) 76 fuel ((flat (bodyOf Tryz.f68)).drop 6) e w kn kr ke := by
  intro e w h
  unfold F68_4 at h
  refine seg_loop (id := 2) (body := (loopB (blkB (nthC (flat (bodyOf Tryz.f68)) 6)))) (l2 := (flat (bodyOf Tryz.f68)).drop 7) (by kernel_rfl) ?_
  refine loop_ok (FL := fun m e w => F68_4L m (e 1) (e 5) w K) (fr := endD Tryz.prog [.tmp 2, .tmp 3] K) (fe := (blkK 2 (fun e w => F68_5 (e 1) w K) noE)) (fun _ _ h => h) ?_ hr (blkK_mono (fun e w h => ok68_5 hn hr he e w h) he) fuel e w h
  intro m e w h
  have h : F68_4L (m + 1) (e 1) (e 5) w K := h
  rw [F68_4L] at h
  have e1 : ∀ (Y0 : V2) (Y1 : V1), F68_4b (e 1) (e 5) w K Y0 Y1 = denL Tryz.prog (tabOf T68) 76 fuel (flat (loopB (blkB (nthC (flat (bodyOf Tryz.f68)) 6)))) e w (fun e w => Y0 (e 1) (e 5) w) (endD Tryz.prog [.tmp 2, .tmp 3] K) (blkK 2 (fun e w => Y1 (e 1) w) noE) := by intro Y0 Y1; kernel_rfl
  exact Eq.mp (e1 (fun a1 a5 w => F68_4L m a1 a5 w K) (fun a1 w => F68_5 a1 w K)) h
def F68_3b (s1 : Value) (w : World) (_K : V1) (Y0 : V2) : Prop :=
Y0 s1 (.int .i64 0) w
def F68_3 (s1 : Value) (w : World) (K : V1) : Prop := F68_3b s1 w K (fun a1 a5 w => F68_4 a1 a5 w K)
theorem ok68_3 {K : V1}
    (hn : HN (fun e w => K (.tuple #[(e 2), (e 3)]) w) kn) (hr : HR Tryz.prog [.tmp 2, .tmp 3] K kr) (he : HE noE ke) :
    ∀ e w, F68_3 (e 1) w K → denL Tryz.prog (tabOf T68) 76 fuel ((flat (bodyOf Tryz.f68)).drop 5) e w kn kr ke := by
  intro e w h
  unfold F68_3 at h
  have e1 : ∀ (Y0 : V2), F68_3b (e 1) w K Y0 = denL Tryz.prog (tabOf T68) 76 fuel (((flat (bodyOf Tryz.f68)).drop 5).take 1) e w (fun e w => Y0 (e 1) (e 5) w) (endD Tryz.prog [.tmp 2, .tmp 3] K) noE := by intro Y0; kernel_rfl
  exact seg 1 (Eq.mp (e1 (fun a1 a5 w => F68_4 a1 a5 w K)) h) (fun e w h => ok68_4 hn hr he e w h) hr he
def F68_2b (s1 s4 : Value) (w : World) (K : V1) (Y0 : V2) (Y1 : V1) : Prop :=
bindP (pFieldAddr 0 s1) fun v30 =>
bindP (ld1 v30 w) fun v31 =>
bindP (lenL v31) fun v32 =>
bindP (bLt s4 v32) fun v33 =>
ifB v33 (
bindP (pFieldAddr 0 s1) fun v34 =>
bindP (ld1 v34 w) fun v35 =>
callP G111 [v35, s4] w fun v37 w36 =>
bindP (uNot v37) fun v38 =>
ifB v38 (
bindP (pFieldAddr 0 s1) fun v39 =>
bindP (ld1 v39 w36) fun v40 =>
bindP (pIndexL 4 v40 s4) fun v41 =>
bindP (pFieldAddr 1 v41) fun v42 =>
bindP (ld1 v42 w36) fun v43 =>
K (.tuple #[v43, (.int .i64 160)]) w36) (
bindP (bAdd s4 (.int .i64 1)) fun v44 =>
Y0 s1 v44 w36)) (
Y1 s1 w)
def F68_2L : Nat → Value → Value → World → (V1) → Prop
  | 0, _, _, _, _ => False
  | n + 1, s1, s4, w, K => F68_2b s1 s4 w K (fun a1 a4 w => F68_2L n a1 a4 w K) (fun a1 w => F68_3 a1 w K)
def F68_2 (s1 s4 : Value) (w : World) (K : V1) : Prop := F68_2L fuel s1 s4 w K
theorem ok68_2 {K : V1}
    (hn : HN (fun e w => K (.tuple #[(e 2), (e 3)]) w) kn) (hr : HR Tryz.prog [.tmp 2, .tmp 3] K kr) (he : HE noE ke) :
    ∀ e w, F68_2 (e 1) (e 4) w K → denL Tryz.prog (tabOf T68) 76 fuel ((flat (bodyOf Tryz.f68)).drop 4) e w kn kr ke := by
  intro e w h
  unfold F68_2 at h
  refine seg_loop (id := 0) (body := (loopB (blkB (nthC (flat (bodyOf Tryz.f68)) 4)))) (l2 := (flat (bodyOf Tryz.f68)).drop 5) (by kernel_rfl) ?_
  refine loop_ok (FL := fun m e w => F68_2L m (e 1) (e 4) w K) (fr := endD Tryz.prog [.tmp 2, .tmp 3] K) (fe := (blkK 0 (fun e w => F68_3 (e 1) w K) noE)) (fun _ _ h => h) ?_ hr (blkK_mono (fun e w h => ok68_3 hn hr he e w h) he) fuel e w h
  intro m e w h
  have h : F68_2L (m + 1) (e 1) (e 4) w K := h
  rw [F68_2L] at h
  have e1 : ∀ (Y0 : V2) (Y1 : V1), F68_2b (e 1) (e 4) w K Y0 Y1 = denL Tryz.prog (tabOf T68) 76 fuel (flat (loopB (blkB (nthC (flat (bodyOf Tryz.f68)) 4)))) e w (fun e w => Y0 (e 1) (e 4) w) (endD Tryz.prog [.tmp 2, .tmp 3] K) (blkK 0 (fun e w => Y1 (e 1) w) noE) := by intro Y0 Y1; kernel_rfl
  exact Eq.mp (e1 (fun a1 a4 w => F68_2L m a1 a4 w K) (fun a1 w => F68_3 a1 w K)) h
def F68_1b (s0 : Value) (w : World) (K : V1) (Y0 : V2) : Prop :=
eBox 58 s0 w fun v46 w45 =>
bindP (pFieldAddr 0 v46) fun v47 =>
bindP (ld1 v47 w45) fun v48 =>
bindP (lenL v48) fun v49 =>
bindP (bGt v49 (.int .i64 64)) fun v50 =>
Sx.stepG (gd false v50) (pFieldAddr 1 v46) fun v51 =>
Sx.stepG (gd false v50) (ld1 v51 w45) fun v52 =>
Sx.stepG (gd false v50) (lenL v52) fun v53 =>
Sx.stepG (gd false v50) (bGt v53 (.int .i64 256)) fun v54 =>
bindP (pPick v50 (.bool true) v54) fun v55 =>
Sx.stepG (gd false v55) (pFieldAddr 2 v46) fun v56 =>
Sx.stepG (gd false v55) (ld1 v56 w45) fun v57 =>
Sx.stepG (gd false v55) (lenL v57) fun v58 =>
Sx.stepG (gd false v55) (bGt v58 (.int .i64 64)) fun v59 =>
bindP (pPick v55 (.bool true) v59) fun v60 =>
ifB v60 (
K (.tuple #[(.int .i64 0), (.int .i64 2)]) w45) (
Y0 v46 (.int .i64 0) w45)
def F68_1 (s0 : Value) (w : World) (K : V1) : Prop := F68_1b s0 w K (fun a1 a4 w => F68_2 a1 a4 w K)
theorem ok68_1 {K : V1}
    (hn : HN (fun e w => K (.tuple #[(e 2), (e 3)]) w) kn) (hr : HR Tryz.prog [.tmp 2, .tmp 3] K kr) (he : HE noE ke) :
    ∀ e w, F68_1 (e 0) w K → denL Tryz.prog (tabOf T68) 76 fuel ((flat (bodyOf Tryz.f68)).drop 0) e w kn kr ke := by
  intro e w h
  unfold F68_1 at h
  have e1 : ∀ (Y0 : V2), F68_1b (e 0) w K Y0 = denL Tryz.prog (tabOf T68) 76 fuel (((flat (bodyOf Tryz.f68)).drop 0).take 4) e w (fun e w => Y0 (e 1) (e 4) w) (endD Tryz.prog [.tmp 2, .tmp 3] K) noE := by intro Y0; kernel_rfl
  exact seg 4 (Eq.mp (e1 (fun a1 a4 w => F68_2 a1 a4 w K)) h) (fun e w h => ok68_2 hn hr he e w h) hr he
def F68 (x0 : Value) (w : World) (K : V1) : Prop := F68_1 x0 w K
def G68 : FnT := fun args w K => on1 (fun x0 => F68 x0 w K) args
theorem c68 {x0 : Value} {w : World} {K : V1} (h : F68 x0 w K) : callP G68 [x0] w K := callP_intro (on1_mk (p := fun x0 => F68 x0 w K) h)
theorem ok68 : OkF Tryz.prog 68 G68 := by
  refine okF_of (tab_ok (l := T68) ⟨ok111, ok112, ok113, trivial⟩) mixed (n := fuel) Tryz.func68 Tryz.call68 fun args w K h => ?_
  obtain ⟨x0, rfl, hh⟩ := of_on1 h
  unfold F68 at hh
  exact fnD_list (c := bodyOf Tryz.f68) (by kernel_rfl) (by kernel_rfl) (ok68_1 (fun _ _ h => h) (fun _ _ h => h) (fun _ _ _ h => h) (initE [x0]) w hh)
def T36 : List (Nat × FnT) := [(68, G68), (69, G69), (70, G70)]
def F36 (x0 x1 x2 x3 : Value) (w : World) (K : V1) : Prop :=
eBox 58 x0 w fun v2 w1 =>
bindP (ldN 3 v2 w1) fun v3 =>
callP G68 [v3] w1 fun v5 w4 =>
bindP (pTuple v5 0) fun _ =>
bindP (pTuple v5 1) fun v7 =>
bindP (bNe Tryz.prog 39 (.tmp 21) (.const (.int .i64 0)) v7 (.int .i64 0)) fun v8 =>
ifB v8 (
K (.tuple #[(.pointer none), (.int .i64 160)]) w4) (
callP G69 [x1] w4 fun v10 w9 =>
bindP (pTuple v10 0) fun v11 =>
bindP (pTuple v10 1) fun v12 =>
callP G70 [x2] w9 fun v14 w13 =>
bindP (pTuple v14 0) fun v15 =>
bindP (pTuple v14 1) fun v16 =>
bindP (bNe Tryz.prog 39 (.tmp 33) (.const (.int .i64 0)) v12 (.int .i64 0)) fun v17 =>
stepM (gd false v17) v16 fun v18 =>
Sx.stepG (gd false v17) (bNe Tryz.prog 39 (.tmp 36) (.const (.int .i64 0)) v18 (.int .i64 0)) fun v19 =>
bindP (pPick v17 (.bool true) v19) fun v20 =>
stepM (gd false v20) x3 fun v21 =>
Sx.stepG (gd false v20) (bLt v21 (.int .i64 0)) fun v22 =>
bindP (pPick v20 (.bool true) v22) fun v23 =>
stepM (gd false v23) x3 fun v24 =>
Sx.stepG (gd false v23) (bGt v24 (.int .i64 144115188075855872)) fun v25 =>
bindP (pPick v23 (.bool true) v25) fun v26 =>
ifB v26 (
K (.tuple #[(.pointer none), (.int .i64 1)]) w13) (
bindP (ldN 3 v2 w13) fun v27 =>
bindP (fBuild Tryz.prog 73 [(0, v27), (1, v11), (2, v15), (3, x3)]) fun v28 =>
eBox 73 v28 w13 fun v30 w29 =>
K (.tuple #[v30, (.int .i64 0)]) w29))
def G36 : FnT := fun args w K => on4 (fun x0 x1 x2 x3 => F36 x0 x1 x2 x3 w K) args
theorem c36 {x0 x1 x2 x3 : Value} {w : World} {K : V1} (h : F36 x0 x1 x2 x3 w K) : callP G36 [x0, x1, x2, x3] w K := callP_intro (on4_mk (p := fun x0 x1 x2 x3 => F36 x0 x1 x2 x3 w K) h)
theorem ok36 : OkF Tryz.prog 36 G36 := by
  refine okF_of (tab_ok (l := T36) ⟨ok68, ok69, ok70, trivial⟩) mixed (n := fuel) Tryz.func36 Tryz.call36 fun args w K h => ?_
  obtain ⟨x0, x1, x2, x3, rfl, hh⟩ := of_on4 h
  exact fnD_list (c := bodyOf Tryz.f36) (by kernel_rfl) (by kernel_rfl) (Eq.mp (by kernel_rfl) hh)
def T18 : List (Nat × FnT) := [(36, G36), (37, G37)]
def F18_3b (s4 s6 : Value) (w : World) (K : V1) : Prop :=
bindP (fBuild Tryz.prog 78 [(0, s4), (1, s6)]) fun v1 =>
eBox 78 v1 w fun v3 w2 =>
K (.tuple #[v3, (.int .i64 0)]) w2
def F18_3 (s4 s6 : Value) (w : World) (K : V1) : Prop := F18_3b s4 s6 w K
theorem ok18_3 {K : V1}
    (hn : HN (fun e w => K (.tuple #[(e 2), (e 3)]) w) kn) (hr : HR Tryz.prog [.tmp 2, .tmp 3] K kr) (he : HE noE ke) :
    ∀ e w, F18_3 (e 4) (e 6) w K → denL Tryz.prog (tabOf T18) 68 fuel ((flat (bodyOf Tryz.f18)).drop 9) e w kn kr ke := by
  intro e w h
  unfold F18_3 at h
  have e1 : ∀ (_ : Unit), F18_3b (e 4) (e 6) w K = denL Tryz.prog (tabOf T18) 68 fuel ((flat (bodyOf Tryz.f18)).drop 9) e w (fun e w => K (.tuple #[(e 2), (e 3)]) w) (endD Tryz.prog [.tmp 2, .tmp 3] K) noE := by intro _; kernel_rfl
  exact seg_end (Eq.mp (e1 ()) h) hn hr he
def F18_2b (s1 s4 s6 s7 : Value) (w : World) (K : V1) (Y0 : V4) (Y1 : V2) : Prop :=
bindP (pFieldAddr 9 s1) fun v4 =>
bindP (ld1 v4 w) fun v5 =>
bindP (lenL v5) fun v6 =>
bindP (bLt s7 v6) fun v7 =>
ifB v7 (
bindP (pFieldAddr 9 s1) fun v8 =>
bindP (ld1 v8 w) fun v9 =>
bindP (pIndexL 1 v9 s7) fun v10 =>
bindP (ld1 v10 w) fun v11 =>
bindP (lenS v11) fun v12 =>
bindP (bLt v12 (.int .i64 1)) fun v13 =>
Sx.stepG (gd false v13) (pFieldAddr 9 s1) fun v14 =>
Sx.stepG (gd false v13) (ld1 v14 w) fun v15 =>
stepM (gd false v13) s7 fun v16 =>
Sx.stepG (gd false v13) (pIndexL 1 v15 v16) fun v17 =>
Sx.stepG (gd false v13) (ld1 v17 w) fun v18 =>
Sx.stepG (gd false v13) (lenS v18) fun v19 =>
Sx.stepG (gd false v13) (bGt v19 (.int .i64 64)) fun v20 =>
bindP (pPick v13 (.bool true) v20) fun v21 =>
ifB v21 (
K (.tuple #[(.pointer none), (.int .i64 1)]) w) (
bindP (bAdd s7 (.int .i64 1)) fun v22 =>
Y0 s1 s4 s6 v22 w)) (
Y1 s4 s6 w)
def F18_2L : Nat → Value → Value → Value → Value → World → (V1) → Prop
  | 0, _, _, _, _, _, _ => False
  | n + 1, s1, s4, s6, s7, w, K => F18_2b s1 s4 s6 s7 w K (fun a1 a4 a6 a7 w => F18_2L n a1 a4 a6 a7 w K) (fun a4 a6 w => F18_3 a4 a6 w K)
def F18_2 (s1 s4 s6 s7 : Value) (w : World) (K : V1) : Prop := F18_2L fuel s1 s4 s6 s7 w K
theorem ok18_2 {K : V1}
    (hn : HN (fun e w => K (.tuple #[(e 2), (e 3)]) w) kn) (hr : HR Tryz.prog [.tmp 2, .tmp 3] K kr) (he : HE noE ke) :
    ∀ e w, F18_2 (e 1) (e 4) (e 6) (e 7) w K → denL Tryz.prog (tabOf T18) 68 fuel ((flat (bodyOf Tryz.f18)).drop 8) e w kn kr ke := by
  intro e w h
  unfold F18_2 at h
  refine seg_loop (id := 0) (body := (loopB (blkB (nthC (flat (bodyOf Tryz.f18)) 8)))) (l2 := (flat (bodyOf Tryz.f18)).drop 9) (by kernel_rfl) ?_
  refine loop_ok (FL := fun m e w => F18_2L m (e 1) (e 4) (e 6) (e 7) w K) (fr := endD Tryz.prog [.tmp 2, .tmp 3] K) (fe := (blkK 0 (fun e w => F18_3 (e 4) (e 6) w K) noE)) (fun _ _ h => h) ?_ hr (blkK_mono (fun e w h => ok18_3 hn hr he e w h) he) fuel e w h
  intro m e w h
  have h : F18_2L (m + 1) (e 1) (e 4) (e 6) (e 7) w K := h
  rw [F18_2L] at h
  have e1 : ∀ (Y0 : V4) (Y1 : V2), F18_2b (e 1) (e 4) (e 6) (e 7) w K Y0 Y1 = denL Tryz.prog (tabOf T18) 68 fuel (flat (loopB (blkB (nthC (flat (bodyOf Tryz.f18)) 8)))) e w (fun e w => Y0 (e 1) (e 4) (e 6) (e 7) w) (endD Tryz.prog [.tmp 2, .tmp 3] K) (blkK 0 (fun e w => Y1 (e 4) (e 6) w) noE) := by intro Y0 Y1; kernel_rfl
  exact Eq.mp (e1 (fun a1 a4 a6 a7 w => F18_2L m a1 a4 a6 a7 w K) (fun a4 a6 w => F18_3 a4 a6 w K)) h
def F18_1b (s0 : Value) (w : World) (K : V1) (Y0 : V4) : Prop :=
eBox 66 s0 w fun v24 w23 =>
bindP (pFieldAddr 0 v24) fun v25 =>
bindP (ldN 3 v25 w23) fun v26 =>
bindP (pFieldAddr 3 v24) fun v27 =>
bindP (ld1 v27 w23) fun v28 =>
bindP (pFieldAddr 4 v24) fun v29 =>
bindP (ld1 v29 w23) fun v30 =>
bindP (pFieldAddr 5 v24) fun v31 =>
bindP (ld1 v31 w23) fun v32 =>
callP G36 [v26, v28, v30, v32] w23 fun v34 w33 =>
bindP (pTuple v34 0) fun v35 =>
bindP (pTuple v34 1) fun v36 =>
bindP (bNe Tryz.prog 39 (.tmp 20) (.const (.int .i64 0)) v36 (.int .i64 0)) fun v37 =>
ifB v37 (
K (.tuple #[(.pointer none), v36]) w33) (
bindP (pFieldAddr 6 v24) fun v38 =>
bindP (ld1 v38 w33) fun v39 =>
bindP (pFieldAddr 7 v24) fun v40 =>
bindP (ld1 v40 w33) fun v41 =>
bindP (pFieldAddr 8 v24) fun v42 =>
bindP (ld1 v42 w33) fun v43 =>
callP G37 [v39, v41, v43] w33 fun v45 w44 =>
bindP (pTuple v45 0) fun v46 =>
bindP (pTuple v45 1) fun v47 =>
bindP (bNe Tryz.prog 39 (.tmp 33) (.const (.int .i64 0)) v47 (.int .i64 0)) fun v48 =>
Sx.stepG (gd false v48) (pFieldAddr 9 v24) fun v49 =>
Sx.stepG (gd false v48) (ld1 v49 w44) fun v50 =>
Sx.stepG (gd false v48) (lenL v50) fun v51 =>
Sx.stepG (gd false v48) (bGt v51 (.int .i64 64)) fun v52 =>
bindP (pPick v48 (.bool true) v52) fun v53 =>
ifB v53 (
K (.tuple #[(.pointer none), (.int .i64 1)]) w44) (
Y0 v24 v35 v46 (.int .i64 0) w44))
def F18_1 (s0 : Value) (w : World) (K : V1) : Prop := F18_1b s0 w K (fun a1 a4 a6 a7 w => F18_2 a1 a4 a6 a7 w K)
theorem ok18_1 {K : V1}
    (hn : HN (fun e w => K (.tuple #[(e 2), (e 3)]) w) kn) (hr : HR Tryz.prog [.tmp 2, .tmp 3] K kr) (he : HE noE ke) :
    ∀ e w, F18_1 (e 0) w K → denL Tryz.prog (tabOf T18) 68 fuel ((flat (bodyOf Tryz.f18)).drop 0) e w kn kr ke := by
  intro e w h
  unfold F18_1 at h
  have e1 : ∀ (Y0 : V4), F18_1b (e 0) w K Y0 = denL Tryz.prog (tabOf T18) 68 fuel (((flat (bodyOf Tryz.f18)).drop 0).take 8) e w (fun e w => Y0 (e 1) (e 4) (e 6) (e 7) w) (endD Tryz.prog [.tmp 2, .tmp 3] K) noE := by intro Y0; kernel_rfl
  exact seg 8 (Eq.mp (e1 (fun a1 a4 a6 a7 w => F18_2 a1 a4 a6 a7 w K)) h) (fun e w h => ok18_2 hn hr he e w h) hr he
def F18 (x0 : Value) (w : World) (K : V1) : Prop := F18_1 x0 w K
def G18 : FnT := fun args w K => on1 (fun x0 => F18 x0 w K) args
theorem c18 {x0 : Value} {w : World} {K : V1} (h : F18 x0 w K) : callP G18 [x0] w K := callP_intro (on1_mk (p := fun x0 => F18 x0 w K) h)
theorem ok18 : OkF Tryz.prog 18 G18 := by
  refine okF_of (tab_ok (l := T18) ⟨ok36, ok37, trivial⟩) mixed (n := fuel) Tryz.func18 Tryz.call18 fun args w K h => ?_
  obtain ⟨x0, rfl, hh⟩ := of_on1 h
  unfold F18 at hh
  exact fnD_list (c := bodyOf Tryz.f18) (by kernel_rfl) (by kernel_rfl) (ok18_1 (fun _ _ h => h) (fun _ _ h => h) (fun _ _ _ h => h) (initE [x0]) w hh)
def T7 : List (Nat × FnT) := []
def F7 (x0 : Value) (w : World) (K : V1) : Prop :=
bindP (pNil x0) fun v1 =>
bindP (pFieldAddr 1 v1) fun v2 =>
bindP (ld1 v2 w) fun v3 =>
K v3 w
def G7 : FnT := fun args w K => on1 (fun x0 => F7 x0 w K) args
theorem c7 {x0 : Value} {w : World} {K : V1} (h : F7 x0 w K) : callP G7 [x0] w K := callP_intro (on1_mk (p := fun x0 => F7 x0 w K) h)
theorem ok7 : OkF Tryz.prog 7 G7 := by
  refine okF_of (tab_ok (l := T7) trivial) mixed (n := fuel) Tryz.func7 Tryz.call7 fun args w K h => ?_
  obtain ⟨x0, rfl, hh⟩ := of_on1 h
  exact fnD_list (c := bodyOf Tryz.f7) (by kernel_rfl) (by kernel_rfl) (Eq.mp (by kernel_rfl) hh)
def T92 : List (Nat × FnT) := []
def F92 (x0 : Value) (w : World) (K : V1) : Prop :=
bindP (pNil x0) fun v1 =>
bindP (pFieldAddr 2 v1) fun v2 =>
bindP (ld1 v2 w) fun v3 =>
K v3 w
def G92 : FnT := fun args w K => on1 (fun x0 => F92 x0 w K) args
theorem c92 {x0 : Value} {w : World} {K : V1} (h : F92 x0 w K) : callP G92 [x0] w K := callP_intro (on1_mk (p := fun x0 => F92 x0 w K) h)
theorem ok92 : OkF Tryz.prog 92 G92 := by
  refine okF_of (tab_ok (l := T92) trivial) mixed (n := fuel) Tryz.func92 Tryz.call92 fun args w K h => ?_
  obtain ⟨x0, rfl, hh⟩ := of_on1 h
  exact fnD_list (c := bodyOf Tryz.f92) (by kernel_rfl) (by kernel_rfl) (Eq.mp (by kernel_rfl) hh)
def T89 : List (Nat × FnT) := []
def F89 (x0 : Value) (w : World) (K : V1) : Prop :=
eAlloc Tryz.prog 84 w fun v2 w1 =>
bindP (pNil x0) fun v3 =>
bindP (pFieldAddr 5 v3) fun v4 =>
bindP (ldN 7 v4 w1) fun v5 =>
bindW (st 7 v2 v5 w1) fun w6 =>
bindP (ldN 7 v2 w6) fun v8 =>
K v8 w6
def G89 : FnT := fun args w K => on1 (fun x0 => F89 x0 w K) args
theorem c89 {x0 : Value} {w : World} {K : V1} (h : F89 x0 w K) : callP G89 [x0] w K := callP_intro (on1_mk (p := fun x0 => F89 x0 w K) h)
theorem ok89 : OkF Tryz.prog 89 G89 := by
  refine okF_of (tab_ok (l := T89) trivial) mixed (n := fuel) Tryz.func89 Tryz.call89 fun args w K h => ?_
  obtain ⟨x0, rfl, hh⟩ := of_on1 h
  exact fnD_list (c := bodyOf Tryz.f89) (by kernel_rfl) (by kernel_rfl) (Eq.mp (by kernel_rfl) hh)
def T90 : List (Nat × FnT) := []
def F90 (x0 : Value) (w : World) (K : V1) : Prop :=
bindP (pNil x0) fun v1 =>
bindP (pFieldAddr 4 v1) fun v2 =>
bindP (ld1 v2 w) fun v3 =>
K v3 w
def G90 : FnT := fun args w K => on1 (fun x0 => F90 x0 w K) args
theorem c90 {x0 : Value} {w : World} {K : V1} (h : F90 x0 w K) : callP G90 [x0] w K := callP_intro (on1_mk (p := fun x0 => F90 x0 w K) h)
theorem ok90 : OkF Tryz.prog 90 G90 := by
  refine okF_of (tab_ok (l := T90) trivial) mixed (n := fuel) Tryz.func90 Tryz.call90 fun args w K h => ?_
  obtain ⟨x0, rfl, hh⟩ := of_on1 h
  exact fnD_list (c := bodyOf Tryz.f90) (by kernel_rfl) (by kernel_rfl) (Eq.mp (by kernel_rfl) hh)
end Go.Proofs.Gong

/- So5 -/
set_option linter.all false
namespace Go.Sx
open Go.Proofs
section
variable {w0 w w' : World} {L : List HP}
theorem Sat.below (h : Sat w0 L w) (hb : RowKit.Below w.heap.size w w') : Sat w0 L w' := (h.ofOwn (es := 1) (ty := 0) .nil (stp_of_below hb [] (by simp))).drop
theorem below_grow {k : Nat} {os : Array Obj} : RowKit.Below w.heap.size w (Go.Sort.grow (w.drewN k) os) := by
  refine ⟨rfl, rfl, rfl, ?_, fun b hb => ?_⟩
  · show _ ≤ (w.heap ++ os).size
    rw [Array.size_append]; omega
  · show (w.heap ++ os)[b]? = w.heap[b]?
    rw [Array.getElem?_append_left hb]
theorem Sat.var (h : Sat w0 L w) {P : Program} {n : String} {cs : Array Value} (hv : w0.var? P n = some cs) : w.var? P n = some cs := by
  unfold World.var? at hv ⊢
  cases hg : P.globalNamed n with
  | none => simp [hg] at hv
  | some g =>
    simp only [hg, Option.bind_some] at hv ⊢
    cases hb : w0.heap[g]? with
    | none => simp [hb] at hv
    | some o => rw [h.old (lt_of_blk hb), hb]; rwa [hb] at hv
end
def PowIs (P : Program) (w : World) : Prop := Lib.TabIs P w "internal/strconv.uint64pow10" .u64 Lib.pow10Tab
def gItoa (P : Program) : FnT := fun args w K => ∃ n : Int, args = [.int .i64 n] ∧ -9223372036854775808 ≤ n ∧ n ≤ 9223372036854775807 ∧ PowIs P w ∧ ∀ w', RowKit.Below w.heap.size w w' → K (.string (bs (Lib.itoa n))) w'
theorem okItoa {P : Program} {ρ : Go.Shelf.Ren} {f : Nat} (T : LaysM.n171 P ρ) (hf : ρ.f 171 = f) (ef : ∀ args w, (callFunc f args).run P w = .ok (.enter f args) w) : OkF P f (gItoa P) := by
  subst hf
  intro args w K ⟨n, ha, h0, h1, hT, hk⟩
  subst ha
  refine .inl ⟨ef _ _, ?_⟩
  refine (Any.strconv_Itoa T n h0 h1 w hT).mono fun e w' ⟨he, k, os, hw⟩ => ⟨_, he, hk w' ?_⟩
  rw [hw]; exact below_grow
theorem itoa_sat {P : Program} {n : Int} {w0 w : World} {L : List HP} {K : Value → World → Prop} (T : PowIs P w0) (h : Sat w0 L w) (h0 : -9223372036854775808 ≤ n) (h1 : n ≤ 9223372036854775807) (hK : ∀ w', Sat w0 L w' → K (.string (bs (Lib.itoa n))) w') : callP (gItoa P) [.int .i64 n] w K :=
  callP_intro ⟨n, rfl, h0, h1, h.var T, fun w' hb => hK w' (h.below hb)⟩
def gAtoi : FnT := fun args w K => ∃ (s : List UInt8) (n : Int), args = [.string (bs s)] ∧ s.length ≤ 18 ∧ Lib.atoi s = some n ∧ ∀ w', RowKit.Below w.heap.size w w' → K (.tuple #[.int .i64 n, .nilIface]) w'
theorem okAtoi {P : Program} {ρ : Go.Shelf.Ren} {f : Nat} (T : Lays.n172 P ρ) (hf : ρ.f 172 = f) (ef : ∀ args w, (callFunc f args).run P w = .ok (.enter f args) w) : OkF P f gAtoi := by
  subst hf
  intro args w K ⟨s, n, ha, hl, hn, hk⟩
  subst ha
  refine .inl ⟨ef _ _, ?_⟩
  refine (Any.strconv_Atoi T (bs s) n (by simpa [bs, ByteArray.size] using hl) (by simpa [bs] using hn) w).mono fun e w' ⟨he, t, hw⟩ => ⟨_, he, hk w' ?_⟩
  rw [hw]
  exact ⟨rfl, rfl, rfl, by rw [Lib.bytesWorld_size]; omega, fun j hj => Lib.bytesWorld_at_old w (ρ.t 5) t j hj⟩
theorem atoi_sat {s : List UInt8} {n : Int} {w0 w : World} {L : List HP} {K : Value → World → Prop} (h : Sat w0 L w) (hl : s.length ≤ 18) (hn : Lib.atoi s = some n) (hK : ∀ w', Sat w0 L w' → K (.tuple #[.int .i64 n, .nilIface]) w') : callP gAtoi [.string (bs s)] w K :=
  callP_intro ⟨s, n, rfl, hl, hn, fun w' hb => hK w' (h.below hb)⟩
def gSplit (gm : Nat) (ty : TypeId) : FnT := fun args w K => ∃ (s sep : List UInt8) (m : Int), args = [.string (bs s), .string (bs sep)] ∧ s.length < 4294967281 ∧ 1 ≤ sep.length ∧ w.cell? ⟨gm, 0, none⟩ = some (.int .i64 m) ∧
  K (.slice (some ⟨w.heap.size, 0, none⟩) (Lib.countB (bs s) (bs sep) + 1) (Lib.countB (bs s) (bs sep) + 1)) (w.alloc (.cells ((Lib.splitB (bs sep) 0 (Lib.countB (bs s) (bs sep)) (bs s)).map Value.string).toArray ty))
theorem okSplit {P : Program} {ρ : Go.Shelf.Ren} {f gm : Nat} {ty : TypeId} (T : Lays.n146 P ρ) (hi : (P.info? (ρ.t 9)).map (fun i => (i.zero, i.size, i.bytes)) = some (some (.string ByteArray.empty), 1, 16)) (hf : ρ.f 146 = f) (hg : ρ.g 1 = gm) (ht : ρ.t 9 = ty) (ef : ∀ args w, (callFunc f args).run P w = .ok (.enter f args) w) : OkF P f (gSplit gm ty) := by
  subst hf hg ht
  intro args w K ⟨s, sep, m, ha, hl, h1, hm, hk⟩
  subst ha
  refine .inl ⟨ef _ _, ?_⟩
  refine (Any.strings_Split T hi (bs s) (bs sep) m w (by simpa [bs, ByteArray.size] using hl) hm (by simpa [bs, ByteArray.size] using h1)).mono fun e w' ⟨he, hw⟩ => ⟨_, he, ?_⟩
  rw [hw]; exact hk
def splitL (s sep : List UInt8) : List (List UInt8) := (Lib.splitB (bs sep) 0 (Lib.countB (bs s) (bs sep)) (bs s)).map (·.data.toList)
theorem split_sat {gm : Nat} {ty : TypeId} {s sep : List UInt8} {m : Int} {w0 w : World} {L : List HP} {K : Value → World → Prop} (hm : w0.cell? ⟨gm, 0, none⟩ = some (.int .i64 m)) (h : Sat w0 L w) (hl : s.length < 4294967281) (h1 : 1 ≤ sep.length)
    (hK : ∀ v w', Sat w0 (LsH cSt 1 ty v (splitL s sep) :: L) w' → K v w') : callP (gSplit gm ty) [.string (bs s), .string (bs sep)] w K := by
  refine callP_intro ⟨s, sep, m, rfl, hl, h1, h.cellOld hm, ?_⟩
  have hlen : (Lib.splitB (bs sep) 0 (Lib.countB (bs s) (bs sep)) (bs s)).length = Lib.countB (bs s) (bs sep) + 1 := Lib.splitB_all (bs sep) (by simpa [bs, ByteArray.size] using h1) 0 _ (bs s) rfl
  have e : ((Lib.splitB (bs sep) 0 (Lib.countB (bs s) (bs sep)) (bs s)).map Value.string) = (splitL s sep).flatMap cSt := by
    unfold splitL
    induction Lib.splitB (bs sep) 0 (Lib.countB (bs s) (bs sep)) (bs s) with
    | nil => rfl
    | cons a l ih => simp [cSt, kSt, ih, bs]
  have hn : (splitL s sep).length = Lib.countB (bs s) (bs sep) + 1 := by unfold splitL; rw [List.length_map, hlen]
  rw [← hn, e]
  generalize splitL s sep = l at *
  have hl1 : (l.flatMap cSt).length = l.length := by
    rw [flat_len (f := cSt) (es := 1) ⟨fun _ => rfl, fun _ => rfl, by omega⟩ l]; omega
  have ho : Own (w.alloc (.cells (l.flatMap cSt).toArray ty)) 1 ty [w.heap.size] (.slice (some ⟨w.heap.size, 0, none⟩) l.length l.length) l.length (l.flatMap cSt) := .blk (heap_alloc_new _ _) (Nat.le_refl _) (by simp [hl1]) (by
    rw [List.drop_zero, List.take_of_length_le (by simp [hl1])])
  exact hK _ _ (h.ofOwn ho ⟨Fr.alloc _ _ _, fun b hb => .inr (by simp at hb; omega)⟩)
def gTrimR1 : FnT := fun args w K => ∃ (s : List UInt8) (c : UInt8), args = [.string (bs s), .string ⟨#[c]⟩] ∧ c.toNat < 128 ∧ s.length ≤ 9223372036854775807 ∧ K (.string (bs (Lib.trimRightB s c))) w
theorem okTrimR1 {P : Program} {ρ : Go.Shelf.Ren} {f : Nat} (T : Lays.n162 P ρ) (hf : ρ.f 162 = f) (ef : ∀ args w, (callFunc f args).run P w = .ok (.enter f args) w) : OkF P f gTrimR1 := by
  subst hf
  intro args w K ⟨s, c, ha, hc, hl, hk⟩
  subst ha
  refine .inl ⟨ef _ _, ?_⟩
  refine (Any.strings_TrimRight_one T (bs s) c hc w (by simpa [bs, ByteArray.size] using hl)).mono fun e w' ⟨he, hw⟩ => ⟨_, he, ?_⟩
  rw [hw]; exact hk
theorem trimR1_sat {s : List UInt8} {c : UInt8} {w : World} {K : Value → World → Prop} (hc : c.toNat < 128) (hl : s.length ≤ 9223372036854775807) (hK : K (.string (bs (Lib.trimRightB s c))) w) : callP gTrimR1 [.string (bs s), .string ⟨#[c]⟩] w K :=
  callP_intro ⟨s, c, rfl, hc, hl, hK⟩
theorem rd_strs {w : World} {b o : Nat} {a : Array Value} {ty : TypeId} {fz : Nat × Nat} {xs : List (List UInt8)} (hb : w.heap[b]? = some (.cells a ty fz)) (ha : o + xs.length * 1 ≤ a.size) (hc : xs.flatMap cSt = (a.toList.drop o).take (xs.length * 1)) : ∀ (j : Nat) x, xs[j]? = some x → w.cell? ⟨b, o + j, none⟩ = some (.string (bs x)) := by
  intro j x hx
  have hj : j < xs.length := by
    rcases Nat.lt_or_ge j xs.length with h | h
    · exact h
    · rw [List.getElem?_eq_none h] at hx; cases hx
  have e : xs.flatMap cSt = xs.map fun x => Value.string (bs x) := by
    clear hc hx ha hj
    induction xs with
    | nil => rfl
    | cons a l ih => simp [cSt, ih]
  rw [e] at hc
  have := congrArg (·[j]?) hc
  simp only [List.getElem?_map, hx, Option.map_some] at this
  rw [List.getElem?_take, if_pos (by omega), List.getElem?_drop] at this
  simp only [World.cell?, hb]
  simpa using this.symm
def gContS : FnT := fun args w K => ∃ (v : Value) (xs : List (List UInt8)) (x : List UInt8), args = [v, .string (bs x)] ∧ Rd w 1 v xs.length (xs.flatMap cSt) ∧ xs.length ≤ 9223372036854775807 ∧ K (.bool (decide (x ∈ xs))) w
theorem okContS {P : Program} {ρ : Go.Shelf.Ren} {f : Nat} (Y : Lays.n110 P ρ) (hf : ρ.f 110 = f) (ef : ∀ args w, (callFunc f args).run P w = .ok (.enter f args) w) : OkF P f gContS := by
  subst hf
  intro args w K ⟨v, xs, x, ha, hr, hn, hk⟩
  subst ha
  refine .inl ⟨ef _ _, ?_⟩
  generalize hcs : xs.flatMap cSt = cs at hr
  generalize hlen : xs.length = n at hr
  cases hr with
  | emp a c =>
    obtain rfl := List.eq_nil_of_length_eq_zero hlen
    exact (Any.slices_Contains_string_empty Y a c (bs x) w).mono fun e w' ⟨he, hw⟩ => ⟨_, he, by rw [hw]; simpa using hk⟩
  | blk hb hn2 ha hc =>
    rename_i b o cap a ty fz
    subst hlen
    have h1 := rd_strs hb ha (hcs.trans hc)
    refine (Any.slices_Contains_string Y b o xs.length cap (xs.map bs) (bs x) w (by rw [List.length_map]; omega) hn fun j hj => ?_).mono fun e w' ⟨he, hw⟩ => ⟨_, he, ?_⟩
    · rw [List.length_map] at hj
      rw [h1 j xs[j] (List.getElem?_eq_getElem hj)]
      simp [List.getD, hj]
    · rw [hw]
      have e : Lib.containsS ((xs.map bs).take xs.length) (bs x) = decide (x ∈ xs) := by
        rw [List.take_of_length_le (by rw [List.length_map]; omega), Bool.eq_iff_iff, Lib.containsS_iff, decide_eq_true_eq, List.mem_map]
        exact ⟨fun ⟨y, h1, h2⟩ => by
          have : y = x := by have := congrArg (fun b : ByteArray => b.data.toList) h2; simpa [bs] using this
          exact this ▸ h1, fun h => ⟨x, h, rfl⟩⟩
      rw [e]; exact hk
theorem contS_sat {v : Value} {xs : List (List UInt8)} {x : List UInt8} {w : World} {K : Value → World → Prop} (hr : Rd w 1 v xs.length (xs.flatMap cSt)) (hn : xs.length ≤ 9223372036854775807) (hK : K (.bool (decide (x ∈ xs))) w) : callP gContS [v, .string (bs x)] w K :=
  callP_intro ⟨v, xs, x, rfl, hr, hn, hK⟩
section
variable {w0 wB w w' : World} {L : List HP} {b : Nat} {x p v : Value} {T : TypeId}
theorem Sat.setc0 (h : Sat w0 (Cl b #[p, v] T :: L) w) (x : Value) : Sat w0 (Cl b #[x, v] T :: L) (w.setCell ⟨b, 0, none⟩ x) := by
  have hb := h.cl
  refine (h.setc #[x, v]).same ?_ rfl rfl rfl
  have hlt := lt_of_blk hb
  apply Array.ext_getElem?
  intro i
  show (w.heap.modify b _)[i]? = (w.heap.setIfInBounds b _)[i]?
  rw [Array.getElem?_modify, Array.getElem?_setIfInBounds]
  by_cases hi : b = i
  · subst hi
    rw [if_pos rfl, if_pos rfl, if_pos hlt, hb]
    rfl
  · rw [if_neg hi, if_neg hi]
theorem Sat.base (h : Sat wB L w) (hb : RowKit.Below wB.heap.size w w') : Sat wB [] w' :=
  ⟨⟨hb.os.trans h.fr.os, hb.tape.trans h.fr.tape, hb.output.trans h.fr.output, Nat.le_trans h.fr.size hb.size, fun b hb' hn => (hb.block b hb').trans (h.fr.blk b hb' hn)⟩, fun _ => none, trivial, fun _ _ h => by cases h⟩
theorem Sat.unbase (h0 : Sat w0 L wB) (h : Sat wB [] w') : Sat w0 L w' :=
  h0.below ⟨h.fr.os, h.fr.tape, h.fr.output, h.fr.size, fun b hb => h.fr.blk b hb (by simp)⟩
end
def Z0 (v : Value) : Prop := ∀ a n c, v = .slice (some a) n c → a.off = 0
def gCopyCk (T : TypeId) : FnT := fun args w K => ∃ (b : Nat) (w0 : World) (L : List HP) (p v : Value), args = [.pointer (some ⟨b, 0, none⟩)] ∧ (p = .pointer none ∨ p = .pointer (some ⟨b, 0, none⟩)) ∧ Sat w0 (Cl b #[p, v] T :: L) w ∧ ∀ w', Sat w0 (Cl b #[.pointer (some ⟨b, 0, none⟩), v] T :: L) w' → K (.tuple #[]) w'
theorem okCopyCk {P : Program} {f : Nat} {T : TypeId}
    (hU : ∀ (b : Nat) (w : World), w.cell? ⟨b, 0, none⟩ = some (.pointer (some ⟨b, 0, none⟩)) → Calls P f #[.pointer (some ⟨b, 0, none⟩)] w fun e w' => e = .returned (.tuple #[]) ∧ w' = w)
    (hF : ∀ (b : Nat) (w : World), w.cell? ⟨b, 0, none⟩ = some (.pointer none) → w.shape? b = some (T, 2) → w.frozen? ⟨b, 0, none⟩ = false → Calls P f #[.pointer (some ⟨b, 0, none⟩)] w fun e w' => e = .returned (.tuple #[]) ∧ w' = w.setCell ⟨b, 0, none⟩ (.pointer (some ⟨b, 0, none⟩)))
    (ef : ∀ args w, (callFunc f args).run P w = .ok (.enter f args) w) : OkF P f (gCopyCk T) := by
  intro args w K ⟨b, w0, L, p, v, ha, hp, h, hk⟩
  subst ha
  refine .inl ⟨ef _ _, ?_⟩
  have hb := h.cl
  rcases hp with rfl | rfl
  · refine (hF b w (by simp [World.cell?, hb]) (by simp [World.shape?, hb]) (by simp [World.frozen?, hb])).mono fun e w' ⟨he, hw⟩ => ⟨_, he, hk w' ?_⟩
    rw [hw]; exact h.setc0 _
  · refine (hU b w (by simp [World.cell?, hb])).mono fun e w' ⟨he, hw⟩ => ⟨_, he, hk w' ?_⟩
    rw [hw]; exact h
abbrev cB8 (x : UInt8) : List Value := [.int .u8 (x.toNat : Nat)]
theorem cB8_cells (l : List UInt8) : l.flatMap cB8 = Lib.byteCells l := by
  induction l with
  | nil => rfl
  | cons a l ih => simp [Lib.byteCells, cB8, ih] at *
def gBString (T e : TypeId) : FnT := fun args w K => ∃ (b : Nat) (wB : World) (L : List HP) (p v : Value) (l : List UInt8), args = [.pointer (some ⟨b, 0, none⟩)] ∧ Sat wB (Cl b #[p, v] T :: LsH cB8 1 e v l :: L) w ∧ Z0 v ∧ l ≠ [] ∧ l.length ≤ 140737488355328 ∧ ∀ w', Sat wB [] w' → K (.string (bs l)) w'
theorem okBString {P : Program} {f : Nat} {T e tb tp ti ts : TypeId} (hp : P.underlying tp = some (.pointer e)) (hce : P.cellsOf e = 1)
    (hC : ∀ (b : Nat) (p v : Value) (w : World) (r : Value) (w2 : World), w.heap[b]? = some (.cells #[p, v] T (0, 0)) → ∀ (n : Nat) (q : Value), (∃ a c, v = .slice a n c) →
      (Builtin.unsafeSliceData_ #[tb] tp #[v]).run P w.drew = .ok q w.drew → (Builtin.unsafeString_ #[tp, ti] ts #[q, .int .i64 n]).run P w.drew = .ok r w2 → Calls P f #[.pointer (some ⟨b, 0, none⟩)] w fun e w' => e = .returned r ∧ w' = w2)
    (ef : ∀ args w, (callFunc f args).run P w = .ok (.enter f args) w) : OkF P f (gBString T e) := by
  intro args w K ⟨b, wB, L, p, v, l, ha, h, hz0, hne, hl, hk⟩
  subst ha
  refine .inl ⟨ef _ _, ?_⟩
  have hb := h.cl
  have hs : wB.heap.size ≤ w.heap.size := h.size
  have h2 := h.f1
  obtain ⟨fp, hO, kk⟩ := Sat.own h2
  generalize hcs : l.flatMap cB8 = cs at hO
  generalize hn : l.length = n at hO
  cases hO with
  | nil => exact absurd (List.eq_nil_of_length_eq_zero hn) hne
  | blk hg hnc hac hc =>
    rename_i g o cap a
    subst hn
    have ho : o = 0 := hz0 _ _ _ rfl
    subst ho
    have hpos : 0 < l.length := List.length_pos_iff.2 hne
    have hgB : wB.heap.size ≤ g := by
      obtain ⟨hh, ⟨x, y, hd, rfl, hP, hL⟩, hin⟩ := h2.ex
      rcases hP with ⟨hv, _⟩ | ⟨g', o', cap', a', hv, _, _, _, hg'⟩
      · cases hv
      · cases hv
        exact (hin g _ (hOr_l hg')).1
    have hcell : ∀ j x, l[j]? = some x → w.drew.cell? ((⟨g, 0, none⟩ : Addr).add j) = some (.int .u8 x.toNat) := by
      intro j x hx
      have hj : j < l.length := by
        rcases Nat.lt_or_ge j l.length with h | h
        · exact h
        · rw [List.getElem?_eq_none h] at hx; cases hx
      rw [← hcs, cB8_cells] at hc
      have := congrArg (·[j]?) hc
      simp only [Lib.byteCells, List.getElem?_map, hx, Option.map_some] at this
      rw [List.getElem?_take, if_pos (by omega), List.getElem?_drop] at this
      have hg' : w.drew.heap[g]? = some (.cells a e (0, 0)) := hg
      have hadd : (⟨g, 0, none⟩ : Addr).add j = ⟨g, j, none⟩ := by
        unfold Addr.add
        split
        · rename_i h0; subst h0; rfl
        · simp
      rw [hadd, Lib.cell_of_heap hg']
      simpa using this.symm
    have hg' : w.drew.heap[g]? = some (.cells a e (0, 0)) := hg
    have hSD := Lib.run_unsafeSliceData_row (P := P) (w := w.drew) #[tb] tp ⟨g, 0, none⟩ l.length cap (by omega)
    have hUS := Lib.run_unsafeString_row (P := P) w.drew tp ti ts e hp hce g a.size (by unfold World.shape?; rw [hg']) l hne (by omega) (by omega) hcell
    exact (hC b p _ w _ _ hb l.length _ ⟨_, _, rfl⟩ hSD hUS).mono fun r w' ⟨hr, hw⟩ => ⟨_, hr, hk w' (by
      rw [hw]
      exact h.base (Lib.below_freeze (RowKit.Below.drew (RowKit.Below.refl _ w)) (p := ⟨g, 0, none⟩) hgB _))⟩
def gBGrow (T e : TypeId) : FnT := fun args w K => ∃ (b n : Nat) (wB : World) (L : List HP), args = [.pointer (some ⟨b, 0, none⟩), .int .i64 n] ∧ Sat wB (Cl b #[.pointer (some ⟨b, 0, none⟩), .slice none 0 0] T :: L) w ∧ n ≤ 281474976710656 ∧
  ∀ v w', Z0 v → Sat wB (Cl b #[.pointer (some ⟨b, 0, none⟩), v] T :: LsH cB8 1 e v ([] : List UInt8) :: []) w' → K (.tuple #[]) w'
def one (b : Nat) (o : Obj) : Hp := fun i => if i = b then some o else none
theorem one_eq {b i : Nat} {o x : Obj} (h : one b o i = some x) : i = b ∧ x = o := by
  unfold one at h
  split at h
  · cases h; exact ⟨by assumption, rfl⟩
  · cases h
theorem one_self {b : Nat} {o : Obj} : one b o b = some o := if_pos rfl
theorem sat_two {wB w' : World} {b g : Nat} {o o' : Obj} {P Q : HP} (h : Sat wB [] w') (hb : wB.heap.size ≤ b) (hc : w'.heap[b]? = some o) (hg : wB.heap.size ≤ g) (hc' : w'.heap[g]? = some o') (hne : g ≠ b) (hP : P (one b o)) (hQ : Q (one g o')) : Sat wB [P, Q] w' := by
  have hd2 : hDisj (one g o') (fun _ => none) := fun _ _ _ => rfl
  have hd1 : hDisj (one b o) (hOr (one g o') (fun _ => none)) := by
    intro i x hi
    obtain ⟨rfl, _⟩ := one_eq hi
    show (match one g o' i with | some o => some o | none => none) = none
    cases hx : one g o' i with
    | none => rfl
    | some y => exact absurd (one_eq hx).1.symm hne
  refine ⟨h.fr, hOr (one b o) (hOr (one g o') fun _ => none), ⟨_, _, hd1, rfl, hP, ⟨_, _, hd2, rfl, hQ, trivial⟩⟩, ?_⟩
  intro i x hi
  cases h1 : one b o i with
  | some y =>
    rw [hOr_l h1] at hi
    cases hi
    obtain ⟨rfl, rfl⟩ := one_eq h1
    exact ⟨hb, hc⟩
  | none =>
    have h2 : hOr (one g o') (fun _ => none) i = some x := by
      have : hOr (one b o) (hOr (one g o') fun _ => none) i = hOr (one g o') (fun _ => none) i := by
        show (match one b o i with | some o => some o | none => _) = _
        rw [h1]
      rw [← this]; exact hi
    cases h3 : one g o' i with
    | some y =>
      rw [hOr_l h3] at h2
      cases h2
      obtain ⟨rfl, rfl⟩ := one_eq h3
      exact ⟨hg, hc'⟩
    | none =>
      have : hOr (one g o') (fun _ => none) i = none := by
        show (match one g o' i with | some o => some o | none => none) = _
        rw [h3]
      rw [this] at h2; cases h2
theorem sat_oneE {wB w' : World} {b : Nat} {o : Obj} {P : HP} (h : Sat wB [] w') (hb : wB.heap.size ≤ b) (hc : w'.heap[b]? = some o) (hP : P (one b o)) : Sat wB [P] w' := by
  refine ⟨h.fr, hOr (one b o) (fun _ => none), ⟨_, _, fun _ _ _ => rfl, rfl, hP, trivial⟩, ?_⟩
  intro i x hi
  cases h1 : one b o i with
  | some y =>
    rw [hOr_l h1] at hi
    cases hi
    obtain ⟨rfl, rfl⟩ := one_eq h1
    exact ⟨hb, hc⟩
  | none =>
    have : hOr (one b o) (fun _ => none) i = none := by
      show (match one b o i with | some o => some o | none => none) = _
      rw [h1]
    rw [this] at hi; cases hi
theorem okBGrow {P : Program} {ρ : Go.Shelf.Ren} {f : Nat} {T e : TypeId} (Y : Lays.n241 P ρ) (X : Builder.Extra P ρ) (hf : ρ.f 241 = f) (hT : ρ.t 72 = T) (he : ρ.t 5 = e) (ef : ∀ args w, (callFunc f args).run P w = .ok (.enter f args) w) : OkF P f (gBGrow T e) := by
  subst hf hT he
  intro args w K ⟨b, n, wB, L, ha, h, hn, hk⟩
  subst ha
  refine .inl ⟨ef _ _, ?_⟩
  refine (Any.Builder_grow_fresh Y X wB.heap.size b n w h.blk_ge h.cl h.size hn).mono fun r w' ⟨hr, ⟨_, v, hv, hown, hne⟩, hw⟩ => ⟨_, hr, ?_⟩
  have h0 := h.base hw
  rcases hown.2 with ⟨rfl, _⟩ | ⟨g, cap, cur, rfl, hg, hgc, _, _, hcs, _⟩
  · have h3 : Sat wB [Cl b #[.pointer (some ⟨b, 0, none⟩), .slice none 0 0] (ρ.t 72)] w' := sat_oneE h0 h.blk_ge hv one_self
    exact hk (.slice none 0 0) w' (fun a n c e => by cases e) (Sat.f1 (Sat.nilsl h3))
  · have hgb : g ≠ b := fun e => hne (by simp [Value.ownBlock, e])
    refine hk (.slice (some ⟨g, 0, none⟩) ([] : List Value).length cap) w' (fun a n c e => by cases e; rfl) (sat_two h0 h.blk_ge hv hg hgc hgb one_self ?_)
    exact .inr ⟨g, 0, cap, cur, rfl, Nat.zero_le _, by omega, by simp, one_self⟩
section
variable {w : World} {es n : Nat} {fp : List Nat} {cs : List Value}
theorem eAppend_ownF {P : Program} {t xt el : TypeId} {bytes m : Nat} {s x : Value} {ds : List Value} {K : Value → World → Prop} (T : SlT P t el es bytes) (hxt : isSS P xt = true)
    (hO : Own w es el fp s n cs) (hlv : lenV x = some m) (hnew : firstC es m x w = some ds.toArray) (hlen : ds.length = m * es) (hd : ds.all (·.oneCell') = true) (hb : (n + m) * bytes ≤ 140737488355328)
    (hK : ∀ w' fp' s', Own w' es el fp' s' (n + m) (cs ++ ds) → Stp fp fp' w w' → K s' w') : eAppend P t xt s x w K := by
  obtain ⟨i, hi, his, hib⟩ := T.i
  obtain ⟨z, hz, hzs⟩ := T.z
  have hrd := hO.rd
  have hold := hrd.firstC (Nat.le_refl n)
  have hlenc := hrd.length
  rw [List.take_of_length_le (by omega)] at hold
  have grow : ∀ sc : Nat, sc < n + m → Builtin.nextslicecap (n + m) sc * i.bytes ≤ 2 ^ 48 ∧ i.bytes ≠ 0 ∧
      (∀ cap, n + m ≤ cap → K (sl w.heap.size (n + m) cap) (w.drew.alloc (.cells (cs.toArray ++ ds.toArray ++ Builtin.zeroCells z.cells (cap - (n + m))) el))) := by
    intro sc hsc
    have := growslice_fits hsc (hib ▸ hb)
    have hbp := T.bpos
    refine ⟨by rw [hib] at this ⊢; omega, by omega, fun cap hcap => hK _ [w.heap.size] _ (.blk (o := 0) (heap_alloc_new _ _) hcap ?_ ?_) ⟨?_, ?_⟩⟩
    · simp [Builtin.zeroCells, hzs, hlen, hlenc, ← Nat.add_mul]
      rw [Nat.add_sub_cancel' hcap]; exact Nat.le_refl _
    · simp only [List.drop_zero, Array.toList_append]
      rw [List.take_append_of_le_length (by simp [hlen, hlenc, Nat.add_mul])]
      rw [List.take_of_length_le (by simp [hlen, hlenc, Nat.add_mul])]
    · exact ((Fr.drew fp w).trans (Fr.alloc fp w.drew _) fun x hx => .inl hx)
    · intro b hb; simp at hb; subst hb; exact .inr (Nat.le_refl _)
  unfold eAppend
  simp only [T.u, hi, hxt, hlv]
  cases hO with
  | nil =>
    simp only [hz, his, hnew, hold]
    refine ⟨fun h => ?_, fun h => ?_⟩
    · have : m = 0 := by omega
      subst this
      have : ds = [] := by cases ds with | nil => rfl | cons => simp at hlen
      subst this
      simp only [stMaybe]
      exact hK _ _ _ .nil (.refl _ _)
    · obtain ⟨h1, h2, h3⟩ := grow 0 h
      exact ⟨h1, h2, h3⟩
  | blk hb' hn ha hc =>
    rename_i b o cap a
    simp only [hz, his, hnew, hold]
    refine ⟨fun h => ?_, fun h => ?_⟩
    · have hm1 := Nat.mul_le_mul_right es h
      rw [Nat.add_mul] at hm1
      simp only [stMaybe]
      rw [stCells_ok hb' (by simp only [hlen]; omega) hd]
      refine hK _ [b] _ (.blk (setBlk_same hb') h (by simpa using ha) ?_) ⟨Fr.set _ _ (by simp), fun x hx => .inl hx⟩
      rw [wr_toList _ _ _ (by rw [hlen]; omega), Nat.add_mul]
      subst hc
      have e1 : List.take (o + n * es) a.toList = List.take o a.toList ++ List.take (n * es) (List.drop o a.toList) := by rw [List.take_add]
      have e2 : (List.take o a.toList).length = o := by simp; omega
      rw [e1]
      simp only [List.append_assoc]
      rw [List.drop_left' e2]
      rw [← List.append_assoc, List.take_left' (by rw [List.length_append, hlen, hlenc])]
    · obtain ⟨h1, h2, h3⟩ := grow cap h
      exact ⟨h1, h2, h3⟩
end
theorem eAppend_z0 {P : Program} {t xt : TypeId} {s x : Value} {w : World} {K : Value → World → Prop} (h : eAppend P t xt s x w K) (hz : Z0 s) : eAppend P t xt s x w fun s' w' => Z0 s' ∧ K s' w' := by
  unfold eAppend at h ⊢
  split
  · rename_i el hu
    rw [hu] at h
    simp only at h
    split
    · rename_i i base sLen sCap n hi hx hn
      simp only [hi, hx, hn] at h
      split
      · rename_i new hf
        simp only [hf] at h
        obtain ⟨h1, h2⟩ := h
        refine ⟨fun hc => ?_, fun hc => ?_⟩
        · have h1 := h1 hc
          split
          · rename_i w' hw
            simp only [hw] at h1
            exact ⟨fun a n c e => hz a sLen sCap (by cases e; rfl), h1⟩
          · rename_i hw
            simp only [hw] at h1
        · obtain ⟨h3, h4, h5⟩ := h2 hc
          refine ⟨h3, h4, ?_⟩
          split
          · rename_i old z ho hz'
            simp only [ho, hz'] at h5
            exact fun cap hcap => ⟨fun a n c e => by cases e; rfl, h5 cap hcap⟩
          · rename_i hno
            split at h5
            · rename_i old z ho hz'
              exact (hno old z ho hz').elim
            · exact h5
      · rename_i hf
        simp only [hf] at h
    · rename_i hno
      split at h
      · rename_i i base sLen sCap n hi hx hn
        exact (hno i base sLen sCap n hi hx rfl hn).elim
      · exact h
  · rename_i hno
    split at h
    · rename_i el hu
      exact (hno el hu).elim
    · exact h
theorem app_str {P : Program} {t xt ty : TypeId} {sv : Value} {l m : List UInt8} {w0 w : World} {L : List HP} {K : Value → World → Prop} (h : Sat w0 (LsH cB8 1 ty sv l :: L) w) (hz : Z0 sv) (T : SlT P t ty 1 1) (hxt : isSS P xt = true) (hb : l.length + m.length ≤ 140737488355328)
    (hK : ∀ s' w', Z0 s' → Sat w0 (LsH cB8 1 ty s' (l ++ m) :: L) w' → K s' w') : eAppend P t xt sv (.string (bs m)) w K := by
  obtain ⟨fp, hO, kk⟩ := Sat.own h
  have := eAppend_ownF (K := fun s' w' => Sat w0 (LsH cB8 1 ty s' (l ++ m) :: L) w') T hxt hO (x := .string (bs m)) (m := m.length) (ds := m.flatMap cB8) (by show some (bs m).size = _; rw [bs_size]) (by
    rw [cB8_cells]
    simp only [firstC]
    congr 1
    have : (bs m).extract 0 m.length = bs m := by
      first | (rw [← bs_size m]; exact ByteArray.extract_zero_size) | (apply ByteArray.ext; simp [bs])
    rw [this]
    apply Array.ext'
    simp [bs, Lib.byteCells]) (by rw [cB8_cells, Lib.byteCells_length]; omega) (by
      simp [List.all_eq_true, List.mem_flatMap]
      try (intro x _; rfl)) (by omega) (fun w' fp' s' hO' st => by
      have := kk _ _ _ _ _ _ _ hO' st
      unfold LsH
      rw [List.length_append, List.flatMap_append]
      exact this)
  exact eAppend_mono (fun s' w' ⟨h1, h2⟩ => hK s' w' h1 h2) (eAppend_z0 this hz)
theorem app_z0 {P : Program} {t xt ty : TypeId} {sv x : Value} {l m : List UInt8} {w0 w : World} {L : List HP} {K : Value → World → Prop} (h : Sat w0 (LsH cB8 1 ty sv l :: L) w) (hz : Z0 sv) (T : SlT P t ty 1 1) (hxt : isSS P xt = true) (hR : Rd w 1 x m.length (m.flatMap cB8)) (hb : l.length + m.length ≤ 140737488355328)
    (hK : ∀ s' w', Z0 s' → Sat w0 (LsH cB8 1 ty s' (l ++ m) :: L) w' → K s' w') : eAppend P t xt sv x w K := by
  have := ls_app (K := fun s' w' => Sat w0 (LsH cB8 1 ty s' (l ++ m) :: L) w') (f := cB8) (es := 1) ⟨fun _ => rfl, fun _ => rfl, by omega⟩ h T hxt hR (by omega) fun s' w' h' => h'
  exact eAppend_mono (fun s' w' ⟨h1, h2⟩ => hK s' w' h1 h2) (eAppend_z0 this hz)
end Go.Sx

/- Txt -/
namespace Go.Proofs.Gong
open Go Go.Sx Go.Proofs
set_option linter.all false
set_option maxRecDepth 100000
set_option maxHeartbeats 4000000
variable {kn kr : ET} {ke : JT}
def Lay10_ren : Go.Shelf.Ren := ⟨fun | 171 => 10 | 243 => 27 | 246 => 55 | 283 => 96 | 284 => 97 | 285 => 98 | 286 => 99 | 129 => 125 | 317 => 140 | 318 => 141 | 319 => 142 | 320 => 143 | 337 => 187 | 338 => 188 | n => n, fun | 3 => 3 | 9 => 9 | 2 => 2 | 4 => 4 | 171 => 194 | 0 => 0 | 53 => 195 | 37 => 150 | 5 => 5 | 173 => 198 | 212 => 255 | 51 => 240 | 20 => 20 | 213 => 256 | 46 => 158 | 232 => 353 | 233 => 354 | n => n, fun | 17 => 0 | 18 => 4 | 19 => 5 | n => n⟩
theorem Lay10 : Go.Proofs.LaysM.n171 Tryz.prog Lay10_ren := {
  mixed := by kernel_rfl
  f129 := Tryz.func125.trans (congrArg some (by kernel_rfl))
  f171 := Tryz.func10.trans (congrArg some (by kernel_rfl))
  f243 := Tryz.func27.trans (congrArg some (by kernel_rfl))
  f246 := Tryz.func55.trans (congrArg some (by kernel_rfl))
  f283 := Tryz.func96.trans (congrArg some (by kernel_rfl))
  f284 := Tryz.func97.trans (congrArg some (by kernel_rfl))
  f285 := Tryz.func98.trans (congrArg some (by kernel_rfl))
  f286 := Tryz.func99.trans (congrArg some (by kernel_rfl))
  f317 := Tryz.func140.trans (congrArg some (by kernel_rfl))
  f318 := Tryz.func141.trans (congrArg some (by kernel_rfl))
  f319 := Tryz.func142.trans (congrArg some (by kernel_rfl))
  f320 := Tryz.func143.trans (congrArg some (by kernel_rfl))
  f337 := Tryz.func187.trans (congrArg some (by kernel_rfl))
  f338 := Tryz.func188.trans (congrArg some (by kernel_rfl))
  t0 := Tryz.underlying0
  a0 := Tryz.isAgg0
  z0 := Tryz.sizeOf0
  v0 := Tryz.zeroValue0
  t2 := Tryz.underlying2
  a2 := Tryz.isAgg2
  z2 := Tryz.sizeOf2
  v2 := Tryz.zeroValue2
  t3 := Tryz.underlying3
  a3 := Tryz.isAgg3
  z3 := Tryz.sizeOf3
  v3 := Tryz.zeroValue3
  t4 := Tryz.underlying4
  a4 := Tryz.isAgg4
  z4 := Tryz.sizeOf4
  v4 := Tryz.zeroValue4
  t5 := Tryz.underlying5
  a5 := Tryz.isAgg5
  z5 := Tryz.sizeOf5
  v5 := Tryz.zeroValue5
  t9 := Tryz.underlying9
  a9 := Tryz.isAgg9
  z9 := Tryz.sizeOf9
  v9 := Tryz.zeroValue9
  t20 := Tryz.underlying20
  a20 := Tryz.isAgg20
  z20 := Tryz.sizeOf20
  v20 := Tryz.zeroValue20
  t37 := Tryz.underlying150
  a37 := Tryz.isAgg150
  z37 := Tryz.sizeOf150
  v37 := Tryz.zeroValue150
  t46 := Tryz.underlying158
  a46 := Tryz.isAgg158
  z46 := Tryz.sizeOf158
  v46 := Tryz.zeroValue158
  t51 := Tryz.underlying240
  a51 := Tryz.isAgg240
  z51 := Tryz.sizeOf240
  v51 := Tryz.zeroValue240
  t53 := Tryz.underlying195
  a53 := Tryz.isAgg195
  z53 := Tryz.sizeOf195
  v53 := Tryz.zeroValue195
  t171 := Tryz.underlying194
  a171 := Tryz.isAgg194
  z171 := Tryz.sizeOf194
  v171 := Tryz.zeroValue194
  t173 := Tryz.underlying198
  a173 := Tryz.isAgg198
  z173 := Tryz.sizeOf198
  v173 := Tryz.zeroValue198
  t212 := Tryz.underlying255
  a212 := Tryz.isAgg255
  z212 := Tryz.sizeOf255
  v212 := Tryz.zeroValue255
  t213 := Tryz.underlying256
  a213 := Tryz.isAgg256
  z213 := Tryz.sizeOf256
  t232 := Tryz.underlying353
  a232 := Tryz.isAgg353
  z232 := Tryz.sizeOf353
  v232 := Tryz.zeroValue353
  t233 := Tryz.underlying354
  a233 := Tryz.isAgg354
  z233 := Tryz.sizeOf354
  v233 := Tryz.zeroValue354
  g17 := by kernel_rfl
  g18 := by kernel_rfl
  g19 := by kernel_rfl
  i0 := by kernel_rfl
  i2 := by kernel_rfl
  i3 := by kernel_rfl
  i4 := by kernel_rfl
  i5 := by kernel_rfl
  i9 := by kernel_rfl
  i20 := by kernel_rfl
  i37 := by kernel_rfl
  i46 := by kernel_rfl
  i51 := by kernel_rfl
  i53 := by kernel_rfl
  i171 := by kernel_rfl
  i173 := by kernel_rfl
  i212 := by kernel_rfl
  i232 := by kernel_rfl
  i233 := by kernel_rfl
  m17 := by kernel_rfl
  m18 := by kernel_rfl
  m19 := by kernel_rfl }
def G10 : FnT := gItoa Tryz.prog
theorem ok10 : OkF Tryz.prog 10 G10 := okItoa Lay10 rfl Tryz.call10
def Lay133_ren : Go.Shelf.Ren := ⟨fun | 172 => 133 | 244 => 178 | 245 => 179 | 247 => 221 | 279 => 222 | 280 => 223 | 281 => 224 | 282 => 225 | 287 => 260 | 316 => 261 | 171 => 10 | 205 => 262 | 321 => 279 | 322 => 280 | 243 => 27 | 246 => 55 | 283 => 96 | 284 => 97 | 285 => 98 | 286 => 99 | 129 => 125 | 317 => 140 | 318 => 141 | 319 => 142 | 320 => 143 | 337 => 187 | 338 => 188 | n => n, fun | 9 => 9 | 3 => 3 | 75 => 154 | 76 => 156 | 4 => 4 | 5 => 5 | 167 => 340 | 37 => 150 | 0 => 0 | 85 => 341 | 2 => 2 | 168 => 343 | 53 => 195 | 175 => 369 | 46 => 158 | 210 => 372 | 127 => 201 | 145 => 387 | 143 => 385 | 21 => 21 | 171 => 194 | 173 => 198 | 212 => 255 | 51 => 240 | 20 => 20 | 213 => 256 | 232 => 353 | 233 => 354 | 80 => 159 | n => n, fun | 15 => 8 | 16 => 9 | 17 => 0 | 18 => 4 | 19 => 5 | n => n⟩
theorem Lay133 : Go.Proofs.Lays.n172 Tryz.prog Lay133_ren := {
  mixed := by kernel_rfl
  f129 := Tryz.func125.trans (congrArg some (by kernel_rfl))
  f171 := Tryz.func10.trans (congrArg some (by kernel_rfl))
  f172 := Tryz.func133.trans (congrArg some (by kernel_rfl))
  f205 := Tryz.func262.trans (congrArg some (by kernel_rfl))
  f243 := Tryz.func27.trans (congrArg some (by kernel_rfl))
  f244 := Tryz.func178.trans (congrArg some (by kernel_rfl))
  f245 := Tryz.func179.trans (congrArg some (by kernel_rfl))
  f246 := Tryz.func55.trans (congrArg some (by kernel_rfl))
  f247 := Tryz.func221.trans (congrArg some (by kernel_rfl))
  f279 := Tryz.func222.trans (congrArg some (by kernel_rfl))
  f280 := Tryz.func223.trans (congrArg some (by kernel_rfl))
  f281 := Tryz.func224.trans (congrArg some (by kernel_rfl))
  f282 := Tryz.func225.trans (congrArg some (by kernel_rfl))
  f283 := Tryz.func96.trans (congrArg some (by kernel_rfl))
  f284 := Tryz.func97.trans (congrArg some (by kernel_rfl))
  f285 := Tryz.func98.trans (congrArg some (by kernel_rfl))
  f286 := Tryz.func99.trans (congrArg some (by kernel_rfl))
  f287 := Tryz.func260.trans (congrArg some (by kernel_rfl))
  f316 := Tryz.func261.trans (congrArg some (by kernel_rfl))
  f317 := Tryz.func140.trans (congrArg some (by kernel_rfl))
  f318 := Tryz.func141.trans (congrArg some (by kernel_rfl))
  f319 := Tryz.func142.trans (congrArg some (by kernel_rfl))
  f320 := Tryz.func143.trans (congrArg some (by kernel_rfl))
  f321 := Tryz.func279.trans (congrArg some (by kernel_rfl))
  f322 := Tryz.func280.trans (congrArg some (by kernel_rfl))
  f337 := Tryz.func187.trans (congrArg some (by kernel_rfl))
  f338 := Tryz.func188.trans (congrArg some (by kernel_rfl))
  t0 := Tryz.underlying0
  a0 := Tryz.isAgg0
  z0 := Tryz.sizeOf0
  v0 := Tryz.zeroValue0
  t2 := Tryz.underlying2
  a2 := Tryz.isAgg2
  z2 := Tryz.sizeOf2
  v2 := Tryz.zeroValue2
  t3 := Tryz.underlying3
  a3 := Tryz.isAgg3
  z3 := Tryz.sizeOf3
  v3 := Tryz.zeroValue3
  t4 := Tryz.underlying4
  a4 := Tryz.isAgg4
  z4 := Tryz.sizeOf4
  v4 := Tryz.zeroValue4
  t5 := Tryz.underlying5
  a5 := Tryz.isAgg5
  z5 := Tryz.sizeOf5
  v5 := Tryz.zeroValue5
  t9 := Tryz.underlying9
  a9 := Tryz.isAgg9
  z9 := Tryz.sizeOf9
  v9 := Tryz.zeroValue9
  t20 := Tryz.underlying20
  a20 := Tryz.isAgg20
  z20 := Tryz.sizeOf20
  v20 := Tryz.zeroValue20
  t21 := Tryz.underlying21
  a21 := Tryz.isAgg21
  z21 := Tryz.sizeOf21
  v21 := Tryz.zeroValue21
  t37 := Tryz.underlying150
  a37 := Tryz.isAgg150
  z37 := Tryz.sizeOf150
  v37 := Tryz.zeroValue150
  t46 := Tryz.underlying158
  a46 := Tryz.isAgg158
  z46 := Tryz.sizeOf158
  v46 := Tryz.zeroValue158
  t51 := Tryz.underlying240
  a51 := Tryz.isAgg240
  z51 := Tryz.sizeOf240
  v51 := Tryz.zeroValue240
  t53 := Tryz.underlying195
  a53 := Tryz.isAgg195
  z53 := Tryz.sizeOf195
  v53 := Tryz.zeroValue195
  t75 := Tryz.underlying154
  a75 := Tryz.isAgg154
  z75 := Tryz.sizeOf154
  v75 := Tryz.zeroValue154
  t76 := Tryz.underlying156
  a76 := Tryz.isAgg156
  z76 := Tryz.sizeOf156
  v76 := Tryz.zeroValue156
  t85 := Tryz.underlying341
  a85 := Tryz.isAgg341
  z85 := Tryz.sizeOf341
  v85 := Tryz.zeroValue341
  t127 := Tryz.underlying201
  a127 := Tryz.isAgg201
  z127 := Tryz.sizeOf201
  v127 := Tryz.zeroValue201
  t143 := Tryz.underlying385
  a143 := Tryz.isAgg385
  z143 := Tryz.sizeOf385
  v143 := Tryz.zeroValue385
  t145 := Tryz.underlying387
  a145 := Tryz.isAgg387
  z145 := Tryz.sizeOf387
  v145 := Tryz.zeroValue387
  t167 := Tryz.underlying340
  a167 := Tryz.isAgg340
  z167 := Tryz.sizeOf340
  v167 := Tryz.zeroValue340
  t168 := Tryz.underlying343
  a168 := Tryz.isAgg343
  z168 := Tryz.sizeOf343
  v168 := Tryz.zeroValue343
  t171 := Tryz.underlying194
  a171 := Tryz.isAgg194
  z171 := Tryz.sizeOf194
  v171 := Tryz.zeroValue194
  t173 := Tryz.underlying198
  a173 := Tryz.isAgg198
  z173 := Tryz.sizeOf198
  v173 := Tryz.zeroValue198
  t175 := Tryz.underlying369
  a175 := Tryz.isAgg369
  z175 := Tryz.sizeOf369
  v175 := Tryz.zeroValue369
  t210 := Tryz.underlying372
  a210 := Tryz.isAgg372
  z210 := Tryz.sizeOf372
  v210 := Tryz.zeroValue372
  t212 := Tryz.underlying255
  a212 := Tryz.isAgg255
  z212 := Tryz.sizeOf255
  v212 := Tryz.zeroValue255
  t213 := Tryz.underlying256
  a213 := Tryz.isAgg256
  z213 := Tryz.sizeOf256
  t232 := Tryz.underlying353
  a232 := Tryz.isAgg353
  z232 := Tryz.sizeOf353
  v232 := Tryz.zeroValue353
  t233 := Tryz.underlying354
  a233 := Tryz.isAgg354
  z233 := Tryz.sizeOf354
  v233 := Tryz.zeroValue354
  g15 := by kernel_rfl
  g16 := by kernel_rfl
  g17 := by kernel_rfl
  g18 := by kernel_rfl
  g19 := by kernel_rfl }
def G133 : FnT := gAtoi
theorem ok133 : OkF Tryz.prog 133 G133 := okAtoi Lay133 rfl Tryz.call133
def Lay81_ren : Go.Shelf.Ren := ⟨fun | 146 => 81 | 221 => 126 | 268 => 175 | 138 => 176 | 143 => 177 | 195 => 217 | 197 => 218 | 218 => 219 | 219 => 220 | 260 => 255 | 217 => 256 | 225 => 257 | 224 => 258 | 267 => 259 | 266 => 277 | 314 => 278 | n => n, fun | 9 => 9 | 31 => 38 | 3 => 3 | 4 => 4 | 0 => 0 | 105 => 304 | 21 => 21 | 5 => 5 | 46 => 158 | 119 => 378 | 139 => 381 | 138 => 380 | 146 => 382 | 51 => 240 | n => n, fun | 1 => 2 | 3 => 10 | 4 => 11 | n => n⟩
theorem Lay81 : Go.Proofs.Lays.n146 Tryz.prog Lay81_ren := {
  mixed := by kernel_rfl
  f138 := Tryz.func176.trans (congrArg some (by kernel_rfl))
  f143 := Tryz.func177.trans (congrArg some (by kernel_rfl))
  f146 := Tryz.func81.trans (congrArg some (by kernel_rfl))
  f195 := Tryz.func217.trans (congrArg some (by kernel_rfl))
  f197 := Tryz.func218.trans (congrArg some (by kernel_rfl))
  f217 := Tryz.func256.trans (congrArg some (by kernel_rfl))
  f218 := Tryz.func219.trans (congrArg some (by kernel_rfl))
  f219 := Tryz.func220.trans (congrArg some (by kernel_rfl))
  f221 := Tryz.func126.trans (congrArg some (by kernel_rfl))
  f224 := Tryz.func258.trans (congrArg some (by kernel_rfl))
  f225 := Tryz.func257.trans (congrArg some (by kernel_rfl))
  f260 := Tryz.func255.trans (congrArg some (by kernel_rfl))
  f266 := Tryz.func277.trans (congrArg some (by kernel_rfl))
  f267 := Tryz.func259.trans (congrArg some (by kernel_rfl))
  f268 := Tryz.func175.trans (congrArg some (by kernel_rfl))
  f314 := Tryz.func278.trans (congrArg some (by kernel_rfl))
  t0 := Tryz.underlying0
  a0 := Tryz.isAgg0
  z0 := Tryz.sizeOf0
  v0 := Tryz.zeroValue0
  t3 := Tryz.underlying3
  a3 := Tryz.isAgg3
  z3 := Tryz.sizeOf3
  v3 := Tryz.zeroValue3
  t4 := Tryz.underlying4
  a4 := Tryz.isAgg4
  z4 := Tryz.sizeOf4
  v4 := Tryz.zeroValue4
  t5 := Tryz.underlying5
  a5 := Tryz.isAgg5
  z5 := Tryz.sizeOf5
  v5 := Tryz.zeroValue5
  t9 := Tryz.underlying9
  a9 := Tryz.isAgg9
  z9 := Tryz.sizeOf9
  v9 := Tryz.zeroValue9
  t21 := Tryz.underlying21
  a21 := Tryz.isAgg21
  z21 := Tryz.sizeOf21
  v21 := Tryz.zeroValue21
  t31 := Tryz.underlying38
  a31 := Tryz.isAgg38
  z31 := Tryz.sizeOf38
  v31 := Tryz.zeroValue38
  t46 := Tryz.underlying158
  a46 := Tryz.isAgg158
  z46 := Tryz.sizeOf158
  v46 := Tryz.zeroValue158
  t51 := Tryz.underlying240
  a51 := Tryz.isAgg240
  z51 := Tryz.sizeOf240
  v51 := Tryz.zeroValue240
  t105 := Tryz.underlying304
  a105 := Tryz.isAgg304
  z105 := Tryz.sizeOf304
  v105 := Tryz.zeroValue304
  t119 := Tryz.underlying378
  a119 := Tryz.isAgg378
  z119 := Tryz.sizeOf378
  t138 := Tryz.underlying380
  a138 := Tryz.isAgg380
  z138 := Tryz.sizeOf380
  v138 := Tryz.zeroValue380
  t139 := Tryz.underlying381
  a139 := Tryz.isAgg381
  z139 := Tryz.sizeOf381
  v139 := Tryz.zeroValue381
  t146 := Tryz.underlying382
  a146 := Tryz.isAgg382
  z146 := Tryz.sizeOf382
  v146 := Tryz.zeroValue382
  g1 := by kernel_rfl
  g3 := by kernel_rfl
  g4 := by kernel_rfl }
def G81 : FnT := gSplit 2 9
theorem ok81 : OkF Tryz.prog 81 G81 := okSplit Lay81 (by kernel_rfl) rfl rfl rfl Tryz.call81
def Lay101_ren : Go.Shelf.Ren := ⟨fun | 162 => 101 | 232 => 147 | 227 => 148 | 234 => 149 | 236 => 150 | 228 => 190 | 271 => 191 | 151 => 192 | 120 => 232 | 197 => 218 | 152 => 233 | 260 => 255 | 137 => 267 | 119 => 268 | 224 => 258 | 225 => 257 | 217 => 256 | 266 => 277 | n => n, fun | 9 => 9 | 4 => 4 | 3 => 3 | 5 => 5 | 117 => 260 | 116 => 259 | 0 => 0 | 124 => 263 | 21 => 21 | 105 => 304 | 46 => 158 | 119 => 378 | 139 => 381 | 138 => 380 | n => n, fun | 3 => 10 | 4 => 11 | n => n⟩
theorem Lay101 : Go.Proofs.Lays.n162 Tryz.prog Lay101_ren := {
  mixed := by kernel_rfl
  f119 := Tryz.func268.trans (congrArg some (by kernel_rfl))
  f120 := Tryz.func232.trans (congrArg some (by kernel_rfl))
  f137 := Tryz.func267.trans (congrArg some (by kernel_rfl))
  f151 := Tryz.func192.trans (congrArg some (by kernel_rfl))
  f152 := Tryz.func233.trans (congrArg some (by kernel_rfl))
  f162 := Tryz.func101.trans (congrArg some (by kernel_rfl))
  f197 := Tryz.func218.trans (congrArg some (by kernel_rfl))
  f217 := Tryz.func256.trans (congrArg some (by kernel_rfl))
  f224 := Tryz.func258.trans (congrArg some (by kernel_rfl))
  f225 := Tryz.func257.trans (congrArg some (by kernel_rfl))
  f227 := Tryz.func148.trans (congrArg some (by kernel_rfl))
  f228 := Tryz.func190.trans (congrArg some (by kernel_rfl))
  f232 := Tryz.func147.trans (congrArg some (by kernel_rfl))
  f234 := Tryz.func149.trans (congrArg some (by kernel_rfl))
  f236 := Tryz.func150.trans (congrArg some (by kernel_rfl))
  f260 := Tryz.func255.trans (congrArg some (by kernel_rfl))
  f266 := Tryz.func277.trans (congrArg some (by kernel_rfl))
  f271 := Tryz.func191.trans (congrArg some (by kernel_rfl))
  t0 := Tryz.underlying0
  a0 := Tryz.isAgg0
  z0 := Tryz.sizeOf0
  v0 := Tryz.zeroValue0
  t3 := Tryz.underlying3
  a3 := Tryz.isAgg3
  z3 := Tryz.sizeOf3
  v3 := Tryz.zeroValue3
  t4 := Tryz.underlying4
  a4 := Tryz.isAgg4
  z4 := Tryz.sizeOf4
  v4 := Tryz.zeroValue4
  t5 := Tryz.underlying5
  a5 := Tryz.isAgg5
  z5 := Tryz.sizeOf5
  v5 := Tryz.zeroValue5
  t9 := Tryz.underlying9
  a9 := Tryz.isAgg9
  z9 := Tryz.sizeOf9
  v9 := Tryz.zeroValue9
  t21 := Tryz.underlying21
  a21 := Tryz.isAgg21
  z21 := Tryz.sizeOf21
  v21 := Tryz.zeroValue21
  t46 := Tryz.underlying158
  a46 := Tryz.isAgg158
  z46 := Tryz.sizeOf158
  v46 := Tryz.zeroValue158
  t105 := Tryz.underlying304
  a105 := Tryz.isAgg304
  z105 := Tryz.sizeOf304
  v105 := Tryz.zeroValue304
  t116 := Tryz.underlying259
  a116 := Tryz.isAgg259
  z116 := Tryz.sizeOf259
  t117 := Tryz.underlying260
  a117 := Tryz.isAgg260
  z117 := Tryz.sizeOf260
  v117 := Tryz.zeroValue260
  t119 := Tryz.underlying378
  a119 := Tryz.isAgg378
  z119 := Tryz.sizeOf378
  t124 := Tryz.underlying263
  a124 := Tryz.isAgg263
  z124 := Tryz.sizeOf263
  v124 := Tryz.zeroValue263
  t138 := Tryz.underlying380
  a138 := Tryz.isAgg380
  z138 := Tryz.sizeOf380
  v138 := Tryz.zeroValue380
  t139 := Tryz.underlying381
  a139 := Tryz.isAgg381
  z139 := Tryz.sizeOf381
  v139 := Tryz.zeroValue381
  g3 := by kernel_rfl
  g4 := by kernel_rfl }
def G101 : FnT := gTrimR1
theorem ok101 : OkF Tryz.prog 101 G101 := okTrimR1 Lay101 rfl Tryz.call101
theorem ckU102 (b : Nat) (w : World) (h0 : w.cell? ⟨b, 0, none⟩ = some (.pointer (some ⟨b, 0, none⟩))) :
    Calls Tryz.prog 102 #[.pointer (some ⟨b, 0, none⟩)] w fun e w' => e = .returned (.tuple #[]) ∧ w' = w := by
  obtain ⟨j, hj, _⟩ := Option.map_eq_some_iff.1 (show (Tryz.prog.info? 152).map (·.size) = some 2 by kernel_rfl)
  go_enter Tryz.func102, Tryz.ntmps102
  go_wp2
  rw [Lib.run_neq_ptr_same w _ Tryz.underlying149 hj]
  go_wp2
  go_end0
  exact ⟨rfl, rfl⟩
theorem ckF102 (b : Nat) (w : World) (h0 : w.cell? ⟨b, 0, none⟩ = some (.pointer none)) (hsh : w.shape? b = some (152, 2)) (hfz : w.frozen? ⟨b, 0, none⟩ = false) :
    Calls Tryz.prog 102 #[.pointer (some ⟨b, 0, none⟩)] w fun e w' => e = .returned (.tuple #[]) ∧ w' = w.setCell ⟨b, 0, none⟩ (.pointer (some ⟨b, 0, none⟩)) := by
  obtain ⟨j, hj, hjs⟩ := Option.map_eq_some_iff.1 (show (Tryz.prog.info? 152).map (·.size) = some 2 by kernel_rfl)
  go_enter Tryz.func102, Tryz.ntmps102
  go_wp2
  rw [Lib.run_to_unsafe w ⟨b, 0, none⟩ Tryz.underlying149 Tryz.underlying264 hj (by rw [hjs]; decide) hsh (Nat.zero_lt_succ 1)]
  simp only [Result.andThen]
  rw [Oper.upon_value]
  go_wp2
  rw [run_callFunc_extern Tryz.func151 (by kernel_rfl) (by kernel_rfl) (by kernel_rfl) (e := Extern.AbiNoEscape.same) (by kernel_rfl), Lib.run_noEscape]
  simp only [Result.andThen]
  rw [Oper.upon_value]
  go_wp2
  rw [Lib.run_from_unsafe w ⟨b, 0, none⟩ Tryz.underlying264 Tryz.underlying149 hj hsh (by kernel_rfl)]
  simp only [Result.andThen]
  rw [Oper.upon_value]
  go_wp2
  go_end0
  exact ⟨rfl, rfl⟩
def G102 : FnT := gCopyCk 152
theorem ok102 : OkF Tryz.prog 102 G102 := okCopyCk ckU102 ckF102 Tryz.call102
def T57 : List (Nat × FnT) := [(102, G102)]
def F57 (x0 x1 : Value) (w : World) (K : V1) : Prop :=
callP G102 [x0] w fun _ w1 =>
bindP (pNil x0) fun v3 =>
bindP (pFieldAddr 1 v3) fun v4 =>
bindP (ld1 v4 w1) fun v5 =>
eBuildSl Tryz.prog 150 1 [(0, x1)] w1 fun v7 w6 =>
eAppend Tryz.prog 150 150 v5 v7 w6 fun v9 w8 =>
bindP (pNil x0) fun v10 =>
bindP (pFieldAddr 1 v10) fun v11 =>
bindW (st 1 v11 v9 w8) fun w12 =>
K .nilIface w12
def G57 : FnT := fun args w K => on2 (fun x0 x1 => F57 x0 x1 w K) args
theorem c57 {x0 x1 : Value} {w : World} {K : V1} (h : F57 x0 x1 w K) : callP G57 [x0, x1] w K := callP_intro (on2_mk (p := fun x0 x1 => F57 x0 x1 w K) h)
theorem ok57 : OkF Tryz.prog 57 G57 := by
  refine okF_of (tab_ok (l := T57) ⟨ok102, trivial⟩) mixed (n := fuel) Tryz.func57 Tryz.call57 fun args w K h => ?_
  obtain ⟨x0, x1, rfl, hh⟩ := of_on2 h
  exact fnD_list (c := bodyOf Tryz.f57) (by kernel_rfl) (by kernel_rfl) (Eq.mp (by kernel_rfl) hh)
def T58 : List (Nat × FnT) := [(102, G102)]
def F58 (x0 x1 : Value) (w : World) (K : V1) : Prop :=
callP G102 [x0] w fun _ w1 =>
bindP (pNil x0) fun v3 =>
bindP (pFieldAddr 1 v3) fun v4 =>
bindP (ld1 v4 w1) fun v5 =>
eAppend Tryz.prog 150 9 v5 x1 w1 fun v7 w6 =>
bindP (pNil x0) fun v8 =>
bindP (pFieldAddr 1 v8) fun v9 =>
bindW (st 1 v9 v7 w6) fun w10 =>
bindP (lenS x1) fun v12 =>
K (.tuple #[v12, .nilIface]) w10
def G58 : FnT := fun args w K => on2 (fun x0 x1 => F58 x0 x1 w K) args
theorem c58 {x0 x1 : Value} {w : World} {K : V1} (h : F58 x0 x1 w K) : callP G58 [x0, x1] w K := callP_intro (on2_mk (p := fun x0 x1 => F58 x0 x1 w K) h)
theorem ok58 : OkF Tryz.prog 58 G58 := by
  refine okF_of (tab_ok (l := T58) ⟨ok102, trivial⟩) mixed (n := fuel) Tryz.func58 Tryz.call58 fun args w K h => ?_
  obtain ⟨x0, x1, rfl, hh⟩ := of_on2 h
  exact fnD_list (c := bodyOf Tryz.f58) (by kernel_rfl) (by kernel_rfl) (Eq.mp (by kernel_rfl) hh)
theorem bsC59 (b : Nat) (p v : Value) (w : World) (r : Value) (w2 : World) (hbk : w.heap[b]? = some (.cells #[p, v] 152 (0, 0))) (n : Nat) (q : Value) (hlen : ∃ a c, v = .slice a n c)
    (hSD : (Builtin.unsafeSliceData_ #[150] 201 #[v]).run Tryz.prog w.drew = .ok q w.drew)
    (hUS : (Builtin.unsafeString_ #[201, 3] 9 #[q, .int .i64 n]).run Tryz.prog w.drew = .ok r w2) :
    Calls Tryz.prog 59 #[.pointer (some ⟨b, 0, none⟩)] w fun e w' => e = .returned r ∧ w' = w2 := by
  obtain ⟨a, c, rfl⟩ := hlen
  have c1 : w.drew.cell? ⟨b, 1, none⟩ = some (.slice a n c) := by
    have : w.drew.heap[b]? = some (.cells #[p, .slice a n c] 152 (0, 0)) := hbk
    rw [Lib.cell_of_heap this]; rfl
  have mixed := mixed
  go_enter Tryz.func59, Tryz.ntmps59
  go_wp2
  go_region_o
  all_goals (go_wp2; go_ret; exact ⟨rfl, rfl⟩)
def G59 : FnT := gBString 152 5
theorem ok59 : OkF Tryz.prog 59 G59 := okBString (tb := 150) (tp := 201) (ti := 3) (ts := 9) Tryz.underlying201 (by kernel_rfl) bsC59 Tryz.call59
def Lay103_ren : Go.Shelf.Ren := ⟨fun | 241 => 103 | 277 => 152 | n => n, fun | 70 => 149 | 3 => 3 | 0 => 0 | 72 => 152 | 37 => 150 | 5 => 5 | n => n, fun | n => n⟩
theorem Lay103 : Go.Proofs.Lays.n241 Tryz.prog Lay103_ren := {
  mixed := by kernel_rfl
  f241 := Tryz.func103.trans (congrArg some (by kernel_rfl))
  f277 := Tryz.func152.trans (congrArg some (by kernel_rfl))
  t0 := Tryz.underlying0
  a0 := Tryz.isAgg0
  z0 := Tryz.sizeOf0
  v0 := Tryz.zeroValue0
  t3 := Tryz.underlying3
  a3 := Tryz.isAgg3
  z3 := Tryz.sizeOf3
  v3 := Tryz.zeroValue3
  t37 := Tryz.underlying150
  a37 := Tryz.isAgg150
  z37 := Tryz.sizeOf150
  v37 := Tryz.zeroValue150
  t70 := Tryz.underlying149
  a70 := Tryz.isAgg149
  z70 := Tryz.sizeOf149
  v70 := Tryz.zeroValue149
  t72 := Tryz.underlying152
  a72 := Tryz.isAgg152
  z72 := Tryz.sizeOf152
  v72 := Tryz.zeroValue152 }
theorem XB103 : Builder.Extra Tryz.prog Lay103_ren where
  sizeBuilder := by kernel_rfl
  liesBuilder := by kernel_rfl
  t5 := by kernel_rfl
  a5 := fun w => by kernel_rfl
  z5 := fun w => by kernel_rfl
  v5 := fun w => by kernel_rfl
  infoByte := by kernel_rfl
  cellsByte := by kernel_rfl
  sizeByte := by kernel_rfl
  neB5 := by decide
def G103 : FnT := gBGrow 152 5
theorem ok103 : OkF Tryz.prog 103 G103 := okBGrow Lay103 XB103 rfl rfl rfl Tryz.call103
def T60 : List (Nat × FnT) := [(102, G102), (103, G103)]
def F60_2b (s0 s1 : Value) (w : World) (K : V1) : Prop :=
bindP (pNil s0) fun v1 =>
bindP (pFieldAddr 1 v1) fun v2 =>
bindP (ld1 v2 w.drew) fun v3 =>
bindP (pCap v3) fun v4 =>
bindP (pNil s0) fun v5 =>
bindP (pFieldAddr 1 v5) fun v6 =>
bindP (ld1 v6 w.drew) fun v7 =>
bindP (lenL v7) fun v8 =>
bindP (bSub v4 v8) fun v9 =>
bindP (bLt v9 s1) fun v10 =>
ifB v10 (
callP G103 [s0, s1] w.drew fun _ w11 =>
K (.tuple #[]) w11) (
K (.tuple #[]) w.drew)
def F60_2 (s0 s1 : Value) (w : World) (K : V1) : Prop := F60_2b s0 s1 w K
theorem ok60_2 {K : V1}
    (hn : HN (fun e w => K (.tuple #[]) w) kn) (hr : HR Tryz.prog [] K kr) (he : HE noE ke) :
    ∀ e w, F60_2 (e 0) (e 1) w K → denL Tryz.prog (tabOf T60) 25 fuel ((flat (bodyOf Tryz.f60)).drop 3) e w kn kr ke := by
  intro e w h
  unfold F60_2 at h
  have e1 : ∀ (_ : Unit), F60_2b (e 0) (e 1) w K = denL Tryz.prog (tabOf T60) 25 fuel ((flat (bodyOf Tryz.f60)).drop 3) e w (fun e w => K (.tuple #[]) w) (endD Tryz.prog [] K) noE := by intro _; kernel_rfl
  exact seg_end (Eq.mp (e1 ()) h) hn hr he
def F60_1b (s0 s1 : Value) (w : World) (_K : V1) (Y0 : V2) : Prop :=
callP G102 [s0] w fun _ w13 =>
bindP (bLt s1 (.int .i64 0)) fun v15 =>
ifB v15 (
bindP (fMkI Tryz.prog 9 (.string ⟨#[115, 116, 114, 105, 110, 103, 115, 46, 66, 117, 105, 108, 100, 101, 114, 46, 71, 114, 111, 119, 58, 32, 110, 101, 103, 97, 116, 105, 118, 101, 32, 99, 111, 117, 110, 116]⟩)) fun _ =>
bindP (none) fun _ =>
Y0 s0 s1 w13) (
Y0 s0 s1 w13)
def F60_1 (s0 s1 : Value) (w : World) (K : V1) : Prop := F60_1b s0 s1 w K (fun a0 a1 w => F60_2 a0 a1 w K)
theorem ok60_1 {K : V1}
    (hn : HN (fun e w => K (.tuple #[]) w) kn) (hr : HR Tryz.prog [] K kr) (he : HE noE ke) :
    ∀ e w, F60_1 (e 0) (e 1) w K → denL Tryz.prog (tabOf T60) 25 fuel ((flat (bodyOf Tryz.f60)).drop 0) e w kn kr ke := by
  intro e w h
  unfold F60_1 at h
  have e1 : ∀ (Y0 : V2), F60_1b (e 0) (e 1) w K Y0 = denL Tryz.prog (tabOf T60) 25 fuel (((flat (bodyOf Tryz.f60)).drop 0).take 3) e w (fun e w => Y0 (e 0) (e 1) w) (endD Tryz.prog [] K) noE := by intro Y0; kernel_rfl
  exact seg 3 (Eq.mp (e1 (fun a0 a1 w => F60_2 a0 a1 w K)) h) (fun e w h => ok60_2 hn hr he e w h) hr he
def F60 (x0 x1 : Value) (w : World) (K : V1) : Prop := F60_1 x0 x1 w K
def G60 : FnT := fun args w K => on2 (fun x0 x1 => F60 x0 x1 w K) args
theorem c60 {x0 x1 : Value} {w : World} {K : V1} (h : F60 x0 x1 w K) : callP G60 [x0, x1] w K := callP_intro (on2_mk (p := fun x0 x1 => F60 x0 x1 w K) h)
theorem ok60 : OkF Tryz.prog 60 G60 := by
  refine okF_of (tab_ok (l := T60) ⟨ok102, ok103, trivial⟩) mixed (n := fuel) Tryz.func60 Tryz.call60 fun args w K h => ?_
  obtain ⟨x0, x1, rfl, hh⟩ := of_on2 h
  unfold F60 at hh
  exact fnD_list (c := bodyOf Tryz.f60) (by kernel_rfl) (by kernel_rfl) (ok60_1 (fun _ _ h => h) (fun _ _ h => h) (fun _ _ _ h => h) (initE [x0, x1]) w hh)
def T30 : List (Nat × FnT) := [(58, G58), (59, G59), (60, G60)]
def F30_7b (s8 : Value) (w : World) (K : V1) : Prop :=
callP G59 [s8] w fun v2 w1 =>
K v2 w1
def F30_7 (s8 : Value) (w : World) (K : V1) : Prop := F30_7b s8 w K
theorem ok30_7 {K : V1}
    (hn : HN (fun e w => K (e 4) w) kn) (hr : HR Tryz.prog [.tmp 4] K kr) (he : HE noE ke) :
    ∀ e w, F30_7 (e 8) w K → denL Tryz.prog (tabOf T30) 75 fuel ((flat (bodyOf Tryz.f30)).drop 13) e w kn kr ke := by
  intro e w h
  unfold F30_7 at h
  have e1 : ∀ (_ : Unit), F30_7b (e 8) w K = denL Tryz.prog (tabOf T30) 75 fuel ((flat (bodyOf Tryz.f30)).drop 13) e w (fun e w => K (e 4) w) (endD Tryz.prog [.tmp 4] K) noE := by intro _; kernel_rfl
  exact seg_end (Eq.mp (e1 ()) h) hn hr he
def F30_6b (s1 s8 s63 s64 s65 : Value) (w : World) (_K : V1) (Y0 : V5) (Y1 : V1) : Prop :=
bindP (bLt s65 s64) fun v3 =>
ifB v3 (
bindP (pIndexL 1 s63 s65) fun v4 =>
bindP (ld1 v4 w) fun v5 =>
callP G58 [s8, s1] w fun _ w6 =>
callP G58 [s8, v5] w6 fun _ w8 =>
bindP (bAdd s65 (.int .i64 1)) fun v10 =>
Y0 s1 s8 s63 s64 v10 w8) (
Y1 s8 w)
def F30_6L : Nat → Value → Value → Value → Value → Value → World → (V1) → Prop
  | 0, _, _, _, _, _, _, _ => False
  | n + 1, s1, s8, s63, s64, s65, w, K => F30_6b s1 s8 s63 s64 s65 w K (fun a1 a8 a63 a64 a65 w => F30_6L n a1 a8 a63 a64 a65 w K) (fun a8 w => F30_7 a8 w K)
def F30_6 (s1 s8 s63 s64 s65 : Value) (w : World) (K : V1) : Prop := F30_6L fuel s1 s8 s63 s64 s65 w K
theorem ok30_6 {K : V1}
    (hn : HN (fun e w => K (e 4) w) kn) (hr : HR Tryz.prog [.tmp 4] K kr) (he : HE noE ke) :
    ∀ e w, F30_6 (e 1) (e 8) (e 63) (e 64) (e 65) w K → denL Tryz.prog (tabOf T30) 75 fuel ((flat (bodyOf Tryz.f30)).drop 12) e w kn kr ke := by
  intro e w h
  unfold F30_6 at h
  refine seg_loop (id := 3) (body := (loopB (blkB (nthC (flat (bodyOf Tryz.f30)) 12)))) (l2 := (flat (bodyOf Tryz.f30)).drop 13) (by kernel_rfl) ?_
  refine loop_ok (FL := fun m e w => F30_6L m (e 1) (e 8) (e 63) (e 64) (e 65) w K) (fr := endD Tryz.prog [.tmp 4] K) (fe := (blkK 3 (fun e w => F30_7 (e 8) w K) noE)) (fun _ _ h => h) ?_ hr (blkK_mono (fun e w h => ok30_7 hn hr he e w h) he) fuel e w h
  intro m e w h
  have h : F30_6L (m + 1) (e 1) (e 8) (e 63) (e 64) (e 65) w K := h
  rw [F30_6L] at h
  have e1 : ∀ (Y0 : V5) (Y1 : V1), F30_6b (e 1) (e 8) (e 63) (e 64) (e 65) w K Y0 Y1 = denL Tryz.prog (tabOf T30) 75 fuel (flat (loopB (blkB (nthC (flat (bodyOf Tryz.f30)) 12)))) e w (fun e w => Y0 (e 1) (e 8) (e 63) (e 64) (e 65) w) (endD Tryz.prog [.tmp 4] K) (blkK 3 (fun e w => Y1 (e 8) w) noE) := by intro Y0 Y1; kernel_rfl
  exact Eq.mp (e1 (fun a1 a8 a63 a64 a65 w => F30_6L m a1 a8 a63 a64 a65 w K) (fun a8 w => F30_7 a8 w K)) h
def F30_5b (s0 s1 s5 : Value) (w : World) (_K : V1) (Y0 : V5) : Prop :=
eAlloc Tryz.prog 152 w fun v12 w11 =>
callP G60 [v12, s5] w11 fun _ w13 =>
bindP (pIndexL 1 s0 (.int .i64 0)) fun v15 =>
bindP (ld1 v15 w13) fun v16 =>
callP G58 [v12, v16] w13 fun _ w17 =>
bindP (pSliceL 1 s0 (some (.int .i64 1)) none none) fun v19 =>
bindP (lenL v19) fun v20 =>
Y0 s1 v12 v19 v20 (.int .i64 0) w17
def F30_5 (s0 s1 s5 : Value) (w : World) (K : V1) : Prop := F30_5b s0 s1 s5 w K (fun a1 a8 a63 a64 a65 w => F30_6 a1 a8 a63 a64 a65 w K)
theorem ok30_5 {K : V1}
    (hn : HN (fun e w => K (e 4) w) kn) (hr : HR Tryz.prog [.tmp 4] K kr) (he : HE noE ke) :
    ∀ e w, F30_5 (e 0) (e 1) (e 5) w K → denL Tryz.prog (tabOf T30) 75 fuel ((flat (bodyOf Tryz.f30)).drop 8) e w kn kr ke := by
  intro e w h
  unfold F30_5 at h
  have e1 : ∀ (Y0 : V5), F30_5b (e 0) (e 1) (e 5) w K Y0 = denL Tryz.prog (tabOf T30) 75 fuel (((flat (bodyOf Tryz.f30)).drop 8).take 4) e w (fun e w => Y0 (e 1) (e 8) (e 63) (e 64) (e 65) w) (endD Tryz.prog [.tmp 4] K) noE := by intro Y0; kernel_rfl
  exact seg 4 (Eq.mp (e1 (fun a1 a8 a63 a64 a65 w => F30_6 a1 a8 a63 a64 a65 w K)) h) (fun e w h => ok30_6 hn hr he e w h) hr he
def F30_10b (s0 s1 s5 s39 s40 s41 : Value) (w : World) (_K : V1) (R7 : V6) : Prop :=
bindP (bAdd s41 (.int .i64 1)) fun v21 =>
R7 s0 s1 s5 s39 s40 v21 w
def F30_10 (s0 s1 s5 s39 s40 s41 : Value) (w : World) (K : V1) (R7 : V6) : Prop := F30_10b s0 s1 s5 s39 s40 s41 w K R7
theorem ok30_10 (R7 : V6) {K : V1}
    (hn : HN (fun e w => R7 (e 0) (e 1) (e 5) (e 39) (e 40) (e 41) w) kn) (hr : HR Tryz.prog [.tmp 4] K kr) (he : HE (blkK 1 (fun e w => F30_5 (e 0) (e 1) (e 5) w K) noE) ke) :
    ∀ e w, F30_10 (e 0) (e 1) (e 5) (e 39) (e 40) (e 41) w K R7 → denL Tryz.prog (tabOf T30) 75 fuel ((flat (loopB (blkB (nthC (flat (bodyOf Tryz.f30)) 7)))).drop 3) e w kn kr ke := by
  intro e w h
  unfold F30_10 at h
  have e1 : ∀ (_ : Unit), F30_10b (e 0) (e 1) (e 5) (e 39) (e 40) (e 41) w K R7 = denL Tryz.prog (tabOf T30) 75 fuel ((flat (loopB (blkB (nthC (flat (bodyOf Tryz.f30)) 7)))).drop 3) e w (fun e w => R7 (e 0) (e 1) (e 5) (e 39) (e 40) (e 41) w) (endD Tryz.prog [.tmp 4] K) (blkK 1 (fun e w => F30_5 (e 0) (e 1) (e 5) w K) noE) := by intro _; kernel_rfl
  exact seg_end (Eq.mp (e1 ()) h) hn hr he
def F30_12b (s0 s1 s5 s7 s39 s40 s41 : Value) (w : World) (_K : V1) (R7 : V6) (Y0 : V6) : Prop :=
bindP (lenS s7) fun v22 =>
bindP (bAdd s5 v22) fun v23 =>
Y0 s0 s1 v23 s39 s40 s41 w
def F30_12 (s0 s1 s5 s7 s39 s40 s41 : Value) (w : World) (K : V1) (R7 : V6) : Prop := F30_12b s0 s1 s5 s7 s39 s40 s41 w K R7 (fun a0 a1 a5 a39 a40 a41 w => F30_10 a0 a1 a5 a39 a40 a41 w K R7)
theorem ok30_12 (R7 : V6) {K : V1}
    (hn : HN (fun e w => F30_10 (e 0) (e 1) (e 5) (e 39) (e 40) (e 41) w K R7) kn) (hr : HR Tryz.prog [.tmp 4] K kr) (he : HE (blkK 2 (fun e w => F30_10 (e 0) (e 1) (e 5) (e 39) (e 40) (e 41) w K R7) (blkK 1 (fun e w => F30_5 (e 0) (e 1) (e 5) w K) noE)) ke) :
    ∀ e w, F30_12 (e 0) (e 1) (e 5) (e 7) (e 39) (e 40) (e 41) w K R7 → denL Tryz.prog (tabOf T30) 75 fuel ((flat (blkB (nthC (flat (loopB (blkB (nthC (flat (bodyOf Tryz.f30)) 7)))) 2))).drop 3) e w kn kr ke := by
  intro e w h
  unfold F30_12 at h
  have e1 : ∀ (Y0 : V6), F30_12b (e 0) (e 1) (e 5) (e 7) (e 39) (e 40) (e 41) w K R7 Y0 = denL Tryz.prog (tabOf T30) 75 fuel ((flat (blkB (nthC (flat (loopB (blkB (nthC (flat (bodyOf Tryz.f30)) 7)))) 2))).drop 3) e w (fun e w => Y0 (e 0) (e 1) (e 5) (e 39) (e 40) (e 41) w) (endD Tryz.prog [.tmp 4] K) (blkK 2 (fun e w => Y0 (e 0) (e 1) (e 5) (e 39) (e 40) (e 41) w) (blkK 1 (fun e w => F30_5 (e 0) (e 1) (e 5) w K) noE)) := by intro Y0; kernel_rfl
  exact seg_end (Eq.mp (e1 (fun a0 a1 a5 a39 a40 a41 w => F30_10 a0 a1 a5 a39 a40 a41 w K R7)) h) hn hr he
def F30_11b (s0 s1 s5 s39 s40 s41 : Value) (w : World) (_K : V1) (R7 : V6) (Y0 : V7) : Prop :=
bindP (pIndexL 1 s39 s41) fun v24 =>
bindP (ld1 v24 w) fun v25 =>
bindP (lenS v25) fun v26 =>
bindP (bSub (.int .i64 9223372036854775807) s5) fun v27 =>
bindP (bGt v26 v27) fun v28 =>
ifB v28 (
bindP (fMkI Tryz.prog 9 (.string ⟨#[115, 116, 114, 105, 110, 103, 115, 58, 32, 74, 111, 105, 110, 32, 111, 117, 116, 112, 117, 116, 32, 108, 101, 110, 103, 116, 104, 32, 111, 118, 101, 114, 102, 108, 111, 119]⟩)) fun _ =>
bindP (none) fun _ =>
Y0 s0 s1 s5 v25 s39 s40 s41 w) (
Y0 s0 s1 s5 v25 s39 s40 s41 w)
def F30_11 (s0 s1 s5 s39 s40 s41 : Value) (w : World) (K : V1) (R7 : V6) : Prop := F30_11b s0 s1 s5 s39 s40 s41 w K R7 (fun a0 a1 a5 a7 a39 a40 a41 w => F30_12 a0 a1 a5 a7 a39 a40 a41 w K R7)
theorem ok30_11 (R7 : V6) {K : V1}
    (hn : HN (fun e w => F30_10 (e 0) (e 1) (e 5) (e 39) (e 40) (e 41) w K R7) kn) (hr : HR Tryz.prog [.tmp 4] K kr) (he : HE (blkK 2 (fun e w => F30_10 (e 0) (e 1) (e 5) (e 39) (e 40) (e 41) w K R7) (blkK 1 (fun e w => F30_5 (e 0) (e 1) (e 5) w K) noE)) ke) :
    ∀ e w, F30_11 (e 0) (e 1) (e 5) (e 39) (e 40) (e 41) w K R7 → denL Tryz.prog (tabOf T30) 75 fuel ((flat (blkB (nthC (flat (loopB (blkB (nthC (flat (bodyOf Tryz.f30)) 7)))) 2))).drop 0) e w kn kr ke := by
  intro e w h
  unfold F30_11 at h
  have e1 : ∀ (Y0 : V7), F30_11b (e 0) (e 1) (e 5) (e 39) (e 40) (e 41) w K R7 Y0 = denL Tryz.prog (tabOf T30) 75 fuel (((flat (blkB (nthC (flat (loopB (blkB (nthC (flat (bodyOf Tryz.f30)) 7)))) 2))).drop 0).take 3) e w (fun e w => Y0 (e 0) (e 1) (e 5) (e 7) (e 39) (e 40) (e 41) w) (endD Tryz.prog [.tmp 4] K) (blkK 2 (fun e w => F30_10 (e 0) (e 1) (e 5) (e 39) (e 40) (e 41) w K R7) (blkK 1 (fun e w => F30_5 (e 0) (e 1) (e 5) w K) noE)) := by intro Y0; kernel_rfl
  exact seg 3 (Eq.mp (e1 (fun a0 a1 a5 a7 a39 a40 a41 w => F30_12 a0 a1 a5 a7 a39 a40 a41 w K R7)) h) (fun e w h => ok30_12 R7 hn hr he e w h) hr he
def F30_9 (s0 s1 s5 s39 s40 s41 : Value) (w : World) (K : V1) (R7 : V6) : Prop := F30_11 s0 s1 s5 s39 s40 s41 w K R7
theorem ok30_9 (R7 : V6) {K : V1}
    (hn : HN (fun e w => R7 (e 0) (e 1) (e 5) (e 39) (e 40) (e 41) w) kn) (hr : HR Tryz.prog [.tmp 4] K kr) (he : HE (blkK 1 (fun e w => F30_5 (e 0) (e 1) (e 5) w K) noE) ke) :
    ∀ e w, F30_9 (e 0) (e 1) (e 5) (e 39) (e 40) (e 41) w K R7 → denL Tryz.prog (tabOf T30) 75 fuel ((flat (loopB (blkB (nthC (flat (bodyOf Tryz.f30)) 7)))).drop 2) e w kn kr ke := by
  intro e w h
  unfold F30_9 at h
  refine seg_block (id := 2) (body := (blkB (nthC (flat (loopB (blkB (nthC (flat (bodyOf Tryz.f30)) 7)))) 2))) (l2 := (flat (loopB (blkB (nthC (flat (bodyOf Tryz.f30)) 7)))).drop 3) (by kernel_rfl) ?_
  exact ok30_11 R7 (fun e w h => ok30_10 R7 hn hr he e w h) hr (blkK_mono (fun e w h => ok30_10 R7 hn hr he e w h) he) e w h
def F30_8b (s0 s1 s5 s39 s40 s41 : Value) (w : World) (_K : V1) (R7 : V6) (Y0 : V6) (Y1 : V3) : Prop :=
bindP (bLt s41 s40) fun v31 =>
ifB v31 (
Y0 s0 s1 s5 s39 s40 s41 w) (
Y1 s0 s1 s5 w)
def F30_8 (s0 s1 s5 s39 s40 s41 : Value) (w : World) (K : V1) (R7 : V6) : Prop := F30_8b s0 s1 s5 s39 s40 s41 w K R7 (fun a0 a1 a5 a39 a40 a41 w => F30_9 a0 a1 a5 a39 a40 a41 w K R7) (fun a0 a1 a5 w => F30_5 a0 a1 a5 w K)
theorem ok30_8 (R7 : V6) {K : V1}
    (hn : HN (fun e w => R7 (e 0) (e 1) (e 5) (e 39) (e 40) (e 41) w) kn) (hr : HR Tryz.prog [.tmp 4] K kr) (he : HE (blkK 1 (fun e w => F30_5 (e 0) (e 1) (e 5) w K) noE) ke) :
    ∀ e w, F30_8 (e 0) (e 1) (e 5) (e 39) (e 40) (e 41) w K R7 → denL Tryz.prog (tabOf T30) 75 fuel ((flat (loopB (blkB (nthC (flat (bodyOf Tryz.f30)) 7)))).drop 0) e w kn kr ke := by
  intro e w h
  unfold F30_8 at h
  have e1 : ∀ (Y0 : V6) (Y1 : V3), F30_8b (e 0) (e 1) (e 5) (e 39) (e 40) (e 41) w K R7 Y0 Y1 = denL Tryz.prog (tabOf T30) 75 fuel (((flat (loopB (blkB (nthC (flat (bodyOf Tryz.f30)) 7)))).drop 0).take 2) e w (fun e w => Y0 (e 0) (e 1) (e 5) (e 39) (e 40) (e 41) w) (endD Tryz.prog [.tmp 4] K) (blkK 1 (fun e w => Y1 (e 0) (e 1) (e 5) w) noE) := by intro Y0 Y1; kernel_rfl
  exact seg 2 (Eq.mp (e1 (fun a0 a1 a5 a39 a40 a41 w => F30_9 a0 a1 a5 a39 a40 a41 w K R7) (fun a0 a1 a5 w => F30_5 a0 a1 a5 w K)) h) (fun e w h => ok30_9 R7 hn hr he e w h) hr he
def F30_4L : Nat → Value → Value → Value → Value → Value → Value → World → (V1) → Prop
  | 0, _, _, _, _, _, _, _, _ => False
  | n + 1, s0, s1, s5, s39, s40, s41, w, K => F30_8 s0 s1 s5 s39 s40 s41 w K (fun a0 a1 a5 a39 a40 a41 w => F30_4L n a0 a1 a5 a39 a40 a41 w K)
def F30_4 (s0 s1 s5 s39 s40 s41 : Value) (w : World) (K : V1) : Prop := F30_4L fuel s0 s1 s5 s39 s40 s41 w K
theorem ok30_4 {K : V1}
    (hn : HN (fun e w => K (e 4) w) kn) (hr : HR Tryz.prog [.tmp 4] K kr) (he : HE noE ke) :
    ∀ e w, F30_4 (e 0) (e 1) (e 5) (e 39) (e 40) (e 41) w K → denL Tryz.prog (tabOf T30) 75 fuel ((flat (bodyOf Tryz.f30)).drop 7) e w kn kr ke := by
  intro e w h
  unfold F30_4 at h
  refine seg_loop (id := 1) (body := (loopB (blkB (nthC (flat (bodyOf Tryz.f30)) 7)))) (l2 := (flat (bodyOf Tryz.f30)).drop 8) (by kernel_rfl) ?_
  refine loop_ok (FL := fun m e w => F30_4L m (e 0) (e 1) (e 5) (e 39) (e 40) (e 41) w K) (fr := endD Tryz.prog [.tmp 4] K) (fe := (blkK 1 (fun e w => F30_5 (e 0) (e 1) (e 5) w K) noE)) (fun _ _ h => h) ?_ hr (blkK_mono (fun e w h => ok30_5 hn hr he e w h) he) fuel e w h
  intro m e w h
  have h : F30_4L (m + 1) (e 0) (e 1) (e 5) (e 39) (e 40) (e 41) w K := h
  rw [F30_4L] at h
  exact ok30_8 (fun a0 a1 a5 a39 a40 a41 w => F30_4L m a0 a1 a5 a39 a40 a41 w K) (fun _ _ h => h) (fun _ _ h => h) (fun _ _ _ h => h) e w h
def F30_3b (s0 s1 s5 : Value) (w : World) (_K : V1) (Y0 : V6) : Prop :=
bindP (lenL s0) fun v32 =>
Y0 s0 s1 s5 s0 v32 (.int .i64 0) w
def F30_3 (s0 s1 s5 : Value) (w : World) (K : V1) : Prop := F30_3b s0 s1 s5 w K (fun a0 a1 a5 a39 a40 a41 w => F30_4 a0 a1 a5 a39 a40 a41 w K)
theorem ok30_3 {K : V1}
    (hn : HN (fun e w => K (e 4) w) kn) (hr : HR Tryz.prog [.tmp 4] K kr) (he : HE noE ke) :
    ∀ e w, F30_3 (e 0) (e 1) (e 5) w K → denL Tryz.prog (tabOf T30) 75 fuel ((flat (bodyOf Tryz.f30)).drop 6) e w kn kr ke := by
  intro e w h
  unfold F30_3 at h
  have e1 : ∀ (Y0 : V6), F30_3b (e 0) (e 1) (e 5) w K Y0 = denL Tryz.prog (tabOf T30) 75 fuel (((flat (bodyOf Tryz.f30)).drop 6).take 1) e w (fun e w => Y0 (e 0) (e 1) (e 5) (e 39) (e 40) (e 41) w) (endD Tryz.prog [.tmp 4] K) noE := by intro Y0; kernel_rfl
  exact seg 1 (Eq.mp (e1 (fun a0 a1 a5 a39 a40 a41 w => F30_4 a0 a1 a5 a39 a40 a41 w K)) h) (fun e w h => ok30_4 hn hr he e w h) hr he
def F30_14b (s0 s1 s5 : Value) (w : World) (_K : V1) (Y0 : V3) : Prop :=
bindP (lenS s1) fun v33 =>
bindP (lenL s0) fun v34 =>
bindP (bSub v34 (.int .i64 1)) fun v35 =>
bindP (bMul v33 v35) fun v36 =>
bindP (bAdd s5 v36) fun v37 =>
Y0 s0 s1 v37 w
def F30_14 (s0 s1 s5 : Value) (w : World) (K : V1) : Prop := F30_14b s0 s1 s5 w K (fun a0 a1 a5 w => F30_3 a0 a1 a5 w K)
theorem ok30_14 {K : V1}
    (hn : HN (fun e w => F30_3 (e 0) (e 1) (e 5) w K) kn) (hr : HR Tryz.prog [.tmp 4] K kr) (he : HE noE ke) :
    ∀ e w, F30_14 (e 0) (e 1) (e 5) w K → denL Tryz.prog (tabOf T30) 75 fuel ((flat (thenC (nthC (flat (bodyOf Tryz.f30)) 5))).drop 2) e w kn kr ke := by
  intro e w h
  unfold F30_14 at h
  have e1 : ∀ (Y0 : V3), F30_14b (e 0) (e 1) (e 5) w K Y0 = denL Tryz.prog (tabOf T30) 75 fuel ((flat (thenC (nthC (flat (bodyOf Tryz.f30)) 5))).drop 2) e w (fun e w => Y0 (e 0) (e 1) (e 5) w) (endD Tryz.prog [.tmp 4] K) noE := by intro Y0; kernel_rfl
  exact seg_end (Eq.mp (e1 (fun a0 a1 a5 w => F30_3 a0 a1 a5 w K)) h) hn hr he
def F30_13b (s0 s1 s5 : Value) (w : World) (_K : V1) (Y0 : V3) : Prop :=
bindP (lenS s1) fun v38 =>
bindP (lenL s0) fun v39 =>
bindP (bSub v39 (.int .i64 1)) fun v40 =>
bindP (bQuo (.int .i64 9223372036854775807) v40) fun v41 =>
bindP (bGe v38 v41) fun v42 =>
ifB v42 (
bindP (fMkI Tryz.prog 9 (.string ⟨#[115, 116, 114, 105, 110, 103, 115, 58, 32, 74, 111, 105, 110, 32, 111, 117, 116, 112, 117, 116, 32, 108, 101, 110, 103, 116, 104, 32, 111, 118, 101, 114, 102, 108, 111, 119]⟩)) fun _ =>
bindP (none) fun _ =>
Y0 s0 s1 s5 w) (
Y0 s0 s1 s5 w)
def F30_13 (s0 s1 s5 : Value) (w : World) (K : V1) : Prop := F30_13b s0 s1 s5 w K (fun a0 a1 a5 w => F30_14 a0 a1 a5 w K)
theorem ok30_13 {K : V1}
    (hn : HN (fun e w => F30_3 (e 0) (e 1) (e 5) w K) kn) (hr : HR Tryz.prog [.tmp 4] K kr) (he : HE noE ke) :
    ∀ e w, F30_13 (e 0) (e 1) (e 5) w K → denL Tryz.prog (tabOf T30) 75 fuel ((flat (thenC (nthC (flat (bodyOf Tryz.f30)) 5))).drop 0) e w kn kr ke := by
  intro e w h
  unfold F30_13 at h
  have e1 : ∀ (Y0 : V3), F30_13b (e 0) (e 1) (e 5) w K Y0 = denL Tryz.prog (tabOf T30) 75 fuel (((flat (thenC (nthC (flat (bodyOf Tryz.f30)) 5))).drop 0).take 2) e w (fun e w => Y0 (e 0) (e 1) (e 5) w) (endD Tryz.prog [.tmp 4] K) noE := by intro Y0; kernel_rfl
  exact seg 2 (Eq.mp (e1 (fun a0 a1 a5 w => F30_14 a0 a1 a5 w K)) h) (fun e w h => ok30_14 hn hr he e w h) hr he
def F30_15b (s0 s1 s5 : Value) (w : World) (_K : V1) (Y0 : V3) : Prop :=
Y0 s0 s1 s5 w
def F30_15 (s0 s1 s5 : Value) (w : World) (K : V1) : Prop := F30_15b s0 s1 s5 w K (fun a0 a1 a5 w => F30_3 a0 a1 a5 w K)
theorem ok30_15 {K : V1}
    (hn : HN (fun e w => F30_3 (e 0) (e 1) (e 5) w K) kn) (hr : HR Tryz.prog [.tmp 4] K kr) (he : HE noE ke) :
    ∀ e w, F30_15 (e 0) (e 1) (e 5) w K → denL Tryz.prog (tabOf T30) 75 fuel ((flat (elseC (nthC (flat (bodyOf Tryz.f30)) 5))).drop 0) e w kn kr ke := by
  intro e w h
  unfold F30_15 at h
  have e1 : ∀ (Y0 : V3), F30_15b (e 0) (e 1) (e 5) w K Y0 = denL Tryz.prog (tabOf T30) 75 fuel ((flat (elseC (nthC (flat (bodyOf Tryz.f30)) 5))).drop 0) e w (fun e w => Y0 (e 0) (e 1) (e 5) w) (endD Tryz.prog [.tmp 4] K) noE := by intro Y0; kernel_rfl
  exact seg_end (Eq.mp (e1 (fun a0 a1 a5 w => F30_3 a0 a1 a5 w K)) h) hn hr he
def F30_2 (s0 s1 s5 s22 : Value) (w : World) (K : V1) : Prop := ifB s22 (F30_13 s0 s1 s5 w K) (F30_15 s0 s1 s5 w K)
theorem ok30_2 {K : V1}
    (hn : HN (fun e w => K (e 4) w) kn) (hr : HR Tryz.prog [.tmp 4] K kr) (he : HE noE ke) :
    ∀ e w, F30_2 (e 0) (e 1) (e 5) (e 22) w K → denL Tryz.prog (tabOf T30) 75 fuel ((flat (bodyOf Tryz.f30)).drop 5) e w kn kr ke := by
  intro e w h
  unfold F30_2 at h
  refine seg_cond (c := (.tmp 22)) (a := thenC (nthC (flat (bodyOf Tryz.f30)) 5)) (b := elseC (nthC (flat (bodyOf Tryz.f30)) 5)) (l2 := (flat (bodyOf Tryz.f30)).drop 6) (by kernel_rfl) h (fun h => ?_) (fun h => ?_)
  · exact ok30_13 (fun e w h => ok30_3 hn hr he e w h) hr he e w h
  · exact ok30_15 (fun e w h => ok30_3 hn hr he e w h) hr he e w h
def F30_1b (s0 s1 : Value) (w : World) (K : V1) (Y0 : V4) : Prop :=
bindP (lenL s0) fun v45 =>
bindP (bEq Tryz.prog 3 (.tmp 12) (.const (.int .i64 0)) v45 (.int .i64 0)) fun v46 =>
ifB v46 (
K (.string ⟨#[]⟩) w) (
bindP (bEq Tryz.prog 3 (.tmp 12) (.const (.int .i64 1)) v45 (.int .i64 1)) fun v47 =>
ifB v47 (
bindP (pIndexL 1 s0 (.int .i64 0)) fun v48 =>
bindP (ld1 v48 w) fun v49 =>
K v49 w) (
bindP (lenS s1) fun v50 =>
bindP (bGt v50 (.int .i64 0)) fun v51 =>
Y0 s0 s1 (.int .i64 0) v51 w))
def F30_1 (s0 s1 : Value) (w : World) (K : V1) : Prop := F30_1b s0 s1 w K (fun a0 a1 a5 a22 w => F30_2 a0 a1 a5 a22 w K)
theorem ok30_1 {K : V1}
    (hn : HN (fun e w => K (e 4) w) kn) (hr : HR Tryz.prog [.tmp 4] K kr) (he : HE noE ke) :
    ∀ e w, F30_1 (e 0) (e 1) w K → denL Tryz.prog (tabOf T30) 75 fuel ((flat (bodyOf Tryz.f30)).drop 0) e w kn kr ke := by
  intro e w h
  unfold F30_1 at h
  have e1 : ∀ (Y0 : V4), F30_1b (e 0) (e 1) w K Y0 = denL Tryz.prog (tabOf T30) 75 fuel (((flat (bodyOf Tryz.f30)).drop 0).take 5) e w (fun e w => Y0 (e 0) (e 1) (e 5) (e 22) w) (endD Tryz.prog [.tmp 4] K) noE := by intro Y0; kernel_rfl
  exact seg 5 (Eq.mp (e1 (fun a0 a1 a5 a22 w => F30_2 a0 a1 a5 a22 w K)) h) (fun e w h => ok30_2 hn hr he e w h) hr he
def F30 (x0 x1 : Value) (w : World) (K : V1) : Prop := F30_1 x0 x1 w K
def G30 : FnT := fun args w K => on2 (fun x0 x1 => F30 x0 x1 w K) args
theorem c30 {x0 x1 : Value} {w : World} {K : V1} (h : F30 x0 x1 w K) : callP G30 [x0, x1] w K := callP_intro (on2_mk (p := fun x0 x1 => F30 x0 x1 w K) h)
theorem ok30 : OkF Tryz.prog 30 G30 := by
  refine okF_of (tab_ok (l := T30) ⟨ok58, ok59, ok60, trivial⟩) mixed (n := fuel) Tryz.func30 Tryz.call30 fun args w K h => ?_
  obtain ⟨x0, x1, rfl, hh⟩ := of_on2 h
  unfold F30 at hh
  exact fnD_list (c := bodyOf Tryz.f30) (by kernel_rfl) (by kernel_rfl) (ok30_1 (fun _ _ h => h) (fun _ _ h => h) (fun _ _ _ h => h) (initE [x0, x1]) w hh)
end Go.Proofs.Gong

/- Lex -/
namespace Go.Proofs.Gong
open Go Go.Sx Go.Proofs
set_option linter.all false
set_option maxRecDepth 100000
set_option maxHeartbeats 4000000
variable {kn kr : ET} {ke : JT}
def T29 : List (Nat × FnT) := [(57, G57), (58, G58), (59, G59)]
def F29_3b (s3 : Value) (w : World) (K : V1) : Prop :=
callP G57 [s3, (.int .u8 34)] w fun _ w1 =>
callP G59 [s3] w1 fun v4 w3 =>
K v4 w3
def F29_3 (s3 : Value) (w : World) (K : V1) : Prop := F29_3b s3 w K
theorem ok29_3 {K : V1}
    (hn : HN (fun e w => K (e 2) w) kn) (hr : HR Tryz.prog [.tmp 2] K kr) (he : HE noE ke) :
    ∀ e w, F29_3 (e 3) w K → denL Tryz.prog (tabOf T29) 54 fuel ((flat (bodyOf Tryz.f29)).drop 5) e w kn kr ke := by
  intro e w h
  unfold F29_3 at h
  have e1 : ∀ (_ : Unit), F29_3b (e 3) w K = denL Tryz.prog (tabOf T29) 54 fuel ((flat (bodyOf Tryz.f29)).drop 5) e w (fun e w => K (e 2) w) (endD Tryz.prog [.tmp 2] K) noE := by intro _; kernel_rfl
  exact seg_end (Eq.mp (e1 ()) h) hn hr he
def F29_5b (s3 s8 s9 s10 : Value) (w : World) (_K : V1) (R3 : V4) : Prop :=
bindP (bAdd s10 (.int .i64 1)) fun v5 =>
R3 s3 s8 s9 v5 w
def F29_5 (s3 s8 s9 s10 : Value) (w : World) (K : V1) (R3 : V4) : Prop := F29_5b s3 s8 s9 s10 w K R3
theorem ok29_5 (R3 : V4) {K : V1}
    (hn : HN (fun e w => R3 (e 3) (e 8) (e 9) (e 10) w) kn) (hr : HR Tryz.prog [.tmp 2] K kr) (he : HE (blkK 0 (fun e w => F29_3 (e 3) w K) noE) ke) :
    ∀ e w, F29_5 (e 3) (e 8) (e 9) (e 10) w K R3 → denL Tryz.prog (tabOf T29) 54 fuel ((flat (loopB (blkB (nthC (flat (bodyOf Tryz.f29)) 4)))).drop 3) e w kn kr ke := by
  intro e w h
  unfold F29_5 at h
  have e1 : ∀ (_ : Unit), F29_5b (e 3) (e 8) (e 9) (e 10) w K R3 = denL Tryz.prog (tabOf T29) 54 fuel ((flat (loopB (blkB (nthC (flat (bodyOf Tryz.f29)) 4)))).drop 3) e w (fun e w => R3 (e 3) (e 8) (e 9) (e 10) w) (endD Tryz.prog [.tmp 2] K) (blkK 0 (fun e w => F29_3 (e 3) w K) noE) := by intro _; kernel_rfl
  exact seg_end (Eq.mp (e1 ()) h) hn hr he
def F29_4b (s3 s8 s9 s10 : Value) (w : World) (_K : V1) (R3 : V4) (Y0 : V4) (Y1 : V1) : Prop :=
bindP (bLt s10 s9) fun v6 =>
ifB v6 (
bindP (pIndexL 1 s8 s10) fun v7 =>
bindP (ld1 v7 w) fun v8 =>
bindP (bEq Tryz.prog 5 (.tmp 17) (.const (.int .u8 34)) v8 (.int .u8 34)) fun v9 =>
stepM (gd false v9) v8 fun v10 =>
Sx.stepG (gd false v9) (bEq Tryz.prog 5 (.tmp 20) (.const (.int .u8 92)) v10 (.int .u8 92)) fun v11 =>
bindP (pPick v9 (.bool true) v11) fun v12 =>
ifB v12 (
callP G57 [s3, (.int .u8 92)] w fun _ w13 =>
callP G57 [s3, v8] w13 fun _ w15 =>
Y0 s3 s8 s9 s10 w15) (
bindP (bEq Tryz.prog 5 (.tmp 27) (.const (.int .u8 10)) v8 (.int .u8 10)) fun v17 =>
ifB v17 (
callP G58 [s3, (.string ⟨#[92, 110]⟩)] w fun _ w18 =>
Y0 s3 s8 s9 s10 w18) (
bindP (bEq Tryz.prog 5 (.tmp 31) (.const (.int .u8 9)) v8 (.int .u8 9)) fun v20 =>
ifB v20 (
callP G58 [s3, (.string ⟨#[92, 116]⟩)] w fun _ w21 =>
Y0 s3 s8 s9 s10 w21) (
bindP (bLt v8 (.int .u8 32)) fun v23 =>
stepM (gd false v23) v8 fun v24 =>
Sx.stepG (gd false v23) (bGe v24 (.int .u8 127)) fun v25 =>
bindP (pPick v23 (.bool true) v25) fun v26 =>
ifB v26 (
bindP (bShr v8 (.int .u64 4)) fun v27 =>
bindP (pIndexS (.string ⟨#[48, 49, 50, 51, 52, 53, 54, 55, 56, 57, 97, 98, 99, 100, 101, 102]⟩) v27) fun v28 =>
bindP (bBit .and v8 (.int .u8 15)) fun v29 =>
bindP (pIndexS (.string ⟨#[48, 49, 50, 51, 52, 53, 54, 55, 56, 57, 97, 98, 99, 100, 101, 102]⟩) v29) fun v30 =>
eBuildSl Tryz.prog 150 2 [(0, v28), (1, v30)] w.drew fun v32 w31 =>
bindP (cBytes v32 w31) fun v33 =>
bindP (bAdd (.string ⟨#[92, 120]⟩) v33) fun v34 =>
callP G58 [s3, v34] w31 fun _ w35 =>
Y0 s3 s8 s9 s10 w35) (
callP G57 [s3, v8] w fun _ w37 =>
Y0 s3 s8 s9 s10 w37))))) (
Y1 s3 w)
def F29_4 (s3 s8 s9 s10 : Value) (w : World) (K : V1) (R3 : V4) : Prop := F29_4b s3 s8 s9 s10 w K R3 (fun a3 a8 a9 a10 w => F29_5 a3 a8 a9 a10 w K R3) (fun a3 w => F29_3 a3 w K)
theorem ok29_4 (R3 : V4) {K : V1}
    (hn : HN (fun e w => R3 (e 3) (e 8) (e 9) (e 10) w) kn) (hr : HR Tryz.prog [.tmp 2] K kr) (he : HE (blkK 0 (fun e w => F29_3 (e 3) w K) noE) ke) :
    ∀ e w, F29_4 (e 3) (e 8) (e 9) (e 10) w K R3 → denL Tryz.prog (tabOf T29) 54 fuel ((flat (loopB (blkB (nthC (flat (bodyOf Tryz.f29)) 4)))).drop 0) e w kn kr ke := by
  intro e w h
  unfold F29_4 at h
  have e1 : ∀ (Y0 : V4) (Y1 : V1), F29_4b (e 3) (e 8) (e 9) (e 10) w K R3 Y0 Y1 = denL Tryz.prog (tabOf T29) 54 fuel (((flat (loopB (blkB (nthC (flat (bodyOf Tryz.f29)) 4)))).drop 0).take 3) e w (fun e w => Y0 (e 3) (e 8) (e 9) (e 10) w) (endD Tryz.prog [.tmp 2] K) (blkK 0 (fun e w => Y1 (e 3) w) noE) := by intro Y0 Y1; kernel_rfl
  exact seg 3 (Eq.mp (e1 (fun a3 a8 a9 a10 w => F29_5 a3 a8 a9 a10 w K R3) (fun a3 w => F29_3 a3 w K)) h) (fun e w h => ok29_5 R3 hn hr he e w h) hr he
def F29_2L : Nat → Value → Value → Value → Value → World → (V1) → Prop
  | 0, _, _, _, _, _, _ => False
  | n + 1, s3, s8, s9, s10, w, K => F29_4 s3 s8 s9 s10 w K (fun a3 a8 a9 a10 w => F29_2L n a3 a8 a9 a10 w K)
def F29_2 (s3 s8 s9 s10 : Value) (w : World) (K : V1) : Prop := F29_2L fuel s3 s8 s9 s10 w K
theorem ok29_2 {K : V1}
    (hn : HN (fun e w => K (e 2) w) kn) (hr : HR Tryz.prog [.tmp 2] K kr) (he : HE noE ke) :
    ∀ e w, F29_2 (e 3) (e 8) (e 9) (e 10) w K → denL Tryz.prog (tabOf T29) 54 fuel ((flat (bodyOf Tryz.f29)).drop 4) e w kn kr ke := by
  intro e w h
  unfold F29_2 at h
  refine seg_loop (id := 0) (body := (loopB (blkB (nthC (flat (bodyOf Tryz.f29)) 4)))) (l2 := (flat (bodyOf Tryz.f29)).drop 5) (by kernel_rfl) ?_
  refine loop_ok (FL := fun m e w => F29_2L m (e 3) (e 8) (e 9) (e 10) w K) (fr := endD Tryz.prog [.tmp 2] K) (fe := (blkK 0 (fun e w => F29_3 (e 3) w K) noE)) (fun _ _ h => h) ?_ hr (blkK_mono (fun e w h => ok29_3 hn hr he e w h) he) fuel e w h
  intro m e w h
  have h : F29_2L (m + 1) (e 3) (e 8) (e 9) (e 10) w K := h
  rw [F29_2L] at h
  exact ok29_4 (fun a3 a8 a9 a10 w => F29_2L m a3 a8 a9 a10 w K) (fun _ _ h => h) (fun _ _ h => h) (fun _ _ _ h => h) e w h
def F29_1b (s0 : Value) (w : World) (_K : V1) (Y0 : V4) : Prop :=
eAlloc Tryz.prog 152 w fun v40 w39 =>
callP G57 [v40, (.int .u8 34)] w39 fun _ w41 =>
eToBytes Tryz.prog 9 150 s0 w41 fun v44 w43 =>
bindP (lenL v44) fun v45 =>
Y0 v40 v44 v45 (.int .i64 0) w43
def F29_1 (s0 : Value) (w : World) (K : V1) : Prop := F29_1b s0 w K (fun a3 a8 a9 a10 w => F29_2 a3 a8 a9 a10 w K)
theorem ok29_1 {K : V1}
    (hn : HN (fun e w => K (e 2) w) kn) (hr : HR Tryz.prog [.tmp 2] K kr) (he : HE noE ke) :
    ∀ e w, F29_1 (e 0) w K → denL Tryz.prog (tabOf T29) 54 fuel ((flat (bodyOf Tryz.f29)).drop 0) e w kn kr ke := by
  intro e w h
  unfold F29_1 at h
  have e1 : ∀ (Y0 : V4), F29_1b (e 0) w K Y0 = denL Tryz.prog (tabOf T29) 54 fuel (((flat (bodyOf Tryz.f29)).drop 0).take 4) e w (fun e w => Y0 (e 3) (e 8) (e 9) (e 10) w) (endD Tryz.prog [.tmp 2] K) noE := by intro Y0; kernel_rfl
  exact seg 4 (Eq.mp (e1 (fun a3 a8 a9 a10 w => F29_2 a3 a8 a9 a10 w K)) h) (fun e w h => ok29_2 hn hr he e w h) hr he
def F29 (x0 : Value) (w : World) (K : V1) : Prop := F29_1 x0 w K
def G29 : FnT := fun args w K => on1 (fun x0 => F29 x0 w K) args
theorem c29 {x0 : Value} {w : World} {K : V1} (h : F29 x0 w K) : callP G29 [x0] w K := callP_intro (on1_mk (p := fun x0 => F29 x0 w K) h)
theorem ok29 : OkF Tryz.prog 29 G29 := by
  refine okF_of (tab_ok (l := T29) ⟨ok57, ok58, ok59, trivial⟩) mixed (n := fuel) Tryz.func29 Tryz.call29 fun args w K h => ?_
  obtain ⟨x0, rfl, hh⟩ := of_on1 h
  unfold F29 at hh
  exact fnD_list (c := bodyOf Tryz.f29) (by kernel_rfl) (by kernel_rfl) (ok29_1 (fun _ _ h => h) (fun _ _ h => h) (fun _ _ _ h => h) (initE [x0]) w hh)
end Go.Proofs.Gong

/- So8 -/
set_option linter.all false
namespace Go.Sx
open Go.Proofs
def gGrowNil (es bytes : Nat) (ty : TypeId) : FnT := fun args w K => ∃ (n : Nat) (w0 : World) (L : List HP), args = [.slice none 0 0, .int .i64 n] ∧ 0 < n ∧ n * bytes ≤ 140737488355328 ∧ n ≤ 4611686018427387904 ∧ Sat w0 L w ∧ ∀ v w', Sat w0 (SlH es ty v 0 [] :: L) w' → K v w'
theorem okGrowNil {P : Program} {ρ : Go.Shelf.Ren} {f es bytes : Nat} {ty : TypeId} (Y : Lays8.n4 P ρ) (i0 : TypeInfo) (z : Value) (hi0 : P.info? ty = some i0) (hz0 : i0.zero = some z) (hzc : z.cells.size = es) (hs : i0.size = es) (hb : i0.bytes = bytes) (hes : 0 < es) (hf : ρ.f 4 = f) (ht : ρ.t 25 = ty) (ef : ∀ args w, (callFunc f args).run P w = .ok (.enter f args) w) : OkF P f (gGrowNil es bytes ty) := by
  subst hf ht
  intro args w K ⟨n, w0, L, ha, hn, hbig, h63, h, hk⟩
  subst ha
  refine .inl ⟨ef _ _, ?_⟩
  have hc := Any8.slices_Grow_grow Y i0 z hi0 hz0 (by omega) none 0 0 n [] w (Nat.le_refl _) (by omega) (by rw [Nat.zero_add, hb]; exact hbig) (by omega) (by simp) (fun _ => rfl) (fun a e => by cases e)
  refine hc.mono fun e w' ⟨he, hw⟩ => ⟨_, he, hk _ w' ?_⟩
  subst hw
  generalize grownCap w (0 + n) 0 (ρ.t 25) = cap
  have hsz : (([] : List Value).toArray ++ Builtin.zeroCells z.cells (0 + n - 0) ++ Builtin.zeroCells z.cells (cap - (0 + n))).size = n * es + (cap - n) * es := by
    simp [Builtin.zeroCells, hzc]
  have ho : Own (w.drew.alloc (.cells (([] : List Value).toArray ++ Builtin.zeroCells z.cells (0 + n - 0) ++ Builtin.zeroCells z.cells (cap - (0 + n))) (ρ.t 25))) es (ρ.t 25) [w.heap.size] (.slice (some ⟨w.heap.size, 0, none⟩) 0 cap) 0 [] := by
    refine .blk (heap_alloc_new _ _) (Nat.zero_le _) ?_ (by simp)
    rw [hsz, ← Nat.add_mul, Nat.zero_add]
    exact Nat.mul_le_mul_right _ (by omega)
  exact h.ofOwn ho ⟨((Fr.drew [] w).trans (Fr.alloc [] w.drew _) fun x hx => .inl hx), fun b hb => .inr (by simp at hb; omega)⟩
theorem growNil_sat {α : Type} {f : α → List Value} {es bytes n : Nat} {ty : TypeId} {w0 w : World} {L : List HP} {K : Value → World → Prop} (h : Sat w0 L w) (hn : 0 < n) (hb : n * bytes ≤ 140737488355328) (h63 : n ≤ 4611686018427387904) (hK : ∀ v w', Sat w0 (LsH f es ty v ([] : List α) :: L) w' → K v w') : callP (gGrowNil es bytes ty) [.slice none 0 0, .int .i64 n] w K :=
  callP_intro ⟨n, w0, L, rfl, hn, hb, h63, h, fun v w' h' => hK v w' h'⟩
end Go.Sx

/- Stamp -/
namespace Go.Proofs.Gong
open Go Go.Sx Go.Proofs
set_option linter.all false
set_option maxRecDepth 100000
set_option maxHeartbeats 4000000
variable {kn kr : ET} {ke : JT}
def T144 : List (Nat × FnT) := []
def F144 (x0 : Value) (w : World) (K : V1) : Prop :=
bindP (bSub x0 (.int .i64 1)) fun v1 =>
bindP (bMul v1 (.int .i64 365)) fun v2 =>
bindP (bQuo v1 (.int .i64 4)) fun v3 =>
bindP (bAdd v2 v3) fun v4 =>
bindP (bQuo v1 (.int .i64 100)) fun v5 =>
bindP (bSub v4 v5) fun v6 =>
bindP (bQuo v1 (.int .i64 400)) fun v7 =>
bindP (bAdd v6 v7) fun v8 =>
bindP (bSub v8 (.int .i64 719162)) fun v9 =>
K v9 w
def G144 : FnT := fun args w K => on1 (fun x0 => F144 x0 w K) args
theorem c144 {x0 : Value} {w : World} {K : V1} (h : F144 x0 w K) : callP G144 [x0] w K := callP_intro (on1_mk (p := fun x0 => F144 x0 w K) h)
theorem ok144 : OkF Tryz.prog 144 G144 := by
  refine okF_of (tab_ok (l := T144) trivial) mixed (n := fuel) Tryz.func144 Tryz.call144 fun args w K h => ?_
  obtain ⟨x0, rfl, hh⟩ := of_on1 h
  exact fnD_list (c := bodyOf Tryz.f144) (by kernel_rfl) (by kernel_rfl) (Eq.mp (by kernel_rfl) hh)
def T189 : List (Nat × FnT) := []
def F189 (x0 : Value) (w : World) (K : V1) : Prop :=
bindP (bRem x0 (.int .i64 4)) fun v1 =>
bindP (bEq Tryz.prog 3 (.tmp 4) (.const (.int .i64 0)) v1 (.int .i64 0)) fun v2 =>
stepM (gd true v2) x0 fun v3 =>
Sx.stepG (gd true v2) (bRem v3 (.int .i64 100)) fun v4 =>
Sx.stepG (gd true v2) (bNe Tryz.prog 3 (.tmp 8) (.const (.int .i64 0)) v4 (.int .i64 0)) fun v5 =>
stepM (gd true v2) v5 fun v6 =>
stepM (gd false v6) x0 fun v7 =>
Sx.stepG (gd false v6) (bRem v7 (.int .i64 400)) fun v8 =>
Sx.stepG (gd false v6) (bEq Tryz.prog 3 (.tmp 12) (.const (.int .i64 0)) v8 (.int .i64 0)) fun v9 =>
Sx.stepG (gd true v2) (pPick v6 (.bool true) v9) fun v10 =>
bindP (pPick v2 v10 (.bool false)) fun v11 =>
ifB v11 (
K (.int .i64 1) w) (
K (.int .i64 0) w)
def G189 : FnT := fun args w K => on1 (fun x0 => F189 x0 w K) args
theorem c189 {x0 : Value} {w : World} {K : V1} (h : F189 x0 w K) : callP G189 [x0] w K := callP_intro (on1_mk (p := fun x0 => F189 x0 w K) h)
theorem ok189 : OkF Tryz.prog 189 G189 := by
  refine okF_of (tab_ok (l := T189) trivial) mixed (n := fuel) Tryz.func189 Tryz.call189 fun args w K h => ?_
  obtain ⟨x0, rfl, hh⟩ := of_on1 h
  exact fnD_list (c := bodyOf Tryz.f189) (by kernel_rfl) (by kernel_rfl) (Eq.mp (by kernel_rfl) hh)
def T145 : List (Nat × FnT) := [(189, G189)]
def F145 (x0 x1 : Value) (w : World) (K : V1) : Prop :=
bindP (bGt x1 (.int .i64 2)) fun v1 =>
ifB v1 (
bindP (pIndexP 14 1 (.pointer (some ⟨1, 0, none⟩)) x1) fun v2 =>
bindP (ld1 v2 w.drew) fun v3 =>
callP G189 [x0] w.drew fun v5 w4 =>
fok true (ld1 v2 w4) v3 ∧ (bindP (bAdd v3 v5) fun v6 =>
K v6 w4)) (
bindP (pIndexP 14 1 (.pointer (some ⟨1, 0, none⟩)) x1) fun v7 =>
bindP (ld1 v7 w) fun v8 =>
K v8 w)
def G145 : FnT := fun args w K => on2 (fun x0 x1 => F145 x0 x1 w K) args
theorem c145 {x0 x1 : Value} {w : World} {K : V1} (h : F145 x0 x1 w K) : callP G145 [x0, x1] w K := callP_intro (on2_mk (p := fun x0 x1 => F145 x0 x1 w K) h)
theorem ok145 : OkF Tryz.prog 145 G145 := by
  refine okF_of (tab_ok (l := T145) ⟨ok189, trivial⟩) mixed (n := fuel) Tryz.func145 Tryz.call145 fun args w K h => ?_
  obtain ⟨x0, x1, rfl, hh⟩ := of_on2 h
  exact fnD_list (c := bodyOf Tryz.f145) (by kernel_rfl) (by kernel_rfl) (Eq.mp (by kernel_rfl) hh)
def T146 : List (Nat × FnT) := []
def F146 (x0 : Value) (w : World) (K : V1) : Prop :=
bindP (bQuo x0 (.int .i64 10)) fun v1 =>
bindP (bAdd (.int .i64 48) v1) fun v2 =>
bindP (cInt .u8 v2) fun v3 =>
bindP (bRem x0 (.int .i64 10)) fun v4 =>
bindP (bAdd (.int .i64 48) v4) fun v5 =>
bindP (cInt .u8 v5) fun v6 =>
eBuildSl Tryz.prog 150 2 [(0, v3), (1, v6)] w fun v8 w7 =>
bindP (cBytes v8 w7) fun v9 =>
K v9 w7
def G146 : FnT := fun args w K => on1 (fun x0 => F146 x0 w K) args
theorem c146 {x0 : Value} {w : World} {K : V1} (h : F146 x0 w K) : callP G146 [x0] w K := callP_intro (on1_mk (p := fun x0 => F146 x0 w K) h)
theorem ok146 : OkF Tryz.prog 146 G146 := by
  refine okF_of (tab_ok (l := T146) trivial) mixed (n := fuel) Tryz.func146 Tryz.call146 fun args w K h => ?_
  obtain ⟨x0, rfl, hh⟩ := of_on1 h
  exact fnD_list (c := bodyOf Tryz.f146) (by kernel_rfl) (by kernel_rfl) (Eq.mp (by kernel_rfl) hh)
def T100 : List (Nat × FnT) := [(144, G144), (145, G145), (146, G146)]
def F100_5b (s3 s4 s5 s6 : Value) (w : World) (K : V1) : Prop :=
bindP (bQuo s5 (.int .i64 100)) fun v1 =>
callP G146 [v1] w fun v3 w2 =>
bindP (bRem s5 (.int .i64 100)) fun v4 =>
callP G146 [v4] w2 fun v6 w5 =>
bindP (bAdd v3 v6) fun v7 =>
bindP (bAdd v7 (.string ⟨#[45]⟩)) fun v8 =>
callP G146 [s6] w5 fun v10 w9 =>
bindP (bAdd v8 v10) fun v11 =>
bindP (bAdd v11 (.string ⟨#[45]⟩)) fun v12 =>
callP G145 [s5, s6] w9 fun v14 w13 =>
bindP (bSub s3 v14) fun v15 =>
bindP (bAdd v15 (.int .i64 1)) fun v16 =>
callP G146 [v16] w13 fun v18 w17 =>
bindP (bAdd v12 v18) fun v19 =>
bindP (bAdd v19 (.string ⟨#[84]⟩)) fun v20 =>
bindP (bQuo s4 (.int .i64 3600)) fun v21 =>
callP G146 [v21] w17 fun v23 w22 =>
bindP (bAdd v20 v23) fun v24 =>
bindP (bAdd v24 (.string ⟨#[58]⟩)) fun v25 =>
bindP (bQuo s4 (.int .i64 60)) fun v26 =>
bindP (bRem v26 (.int .i64 60)) fun v27 =>
callP G146 [v27] w22 fun v29 w28 =>
bindP (bAdd v25 v29) fun v30 =>
bindP (bAdd v30 (.string ⟨#[58]⟩)) fun v31 =>
bindP (bRem s4 (.int .i64 60)) fun v32 =>
callP G146 [v32] w28 fun v34 w33 =>
bindP (bAdd v31 v34) fun v35 =>
K v35 w33
def F100_5 (s3 s4 s5 s6 : Value) (w : World) (K : V1) : Prop := F100_5b s3 s4 s5 s6 w K
theorem ok100_5 {K : V1}
    (hn : HN (fun e w => K (e 2) w) kn) (hr : HR Tryz.prog [.tmp 2] K kr) (he : HE noE ke) :
    ∀ e w, F100_5 (e 3) (e 4) (e 5) (e 6) w K → denL Tryz.prog (tabOf T100) 71 fuel ((flat (bodyOf Tryz.f100)).drop 7) e w kn kr ke := by
  intro e w h
  unfold F100_5 at h
  have e1 : ∀ (_ : Unit), F100_5b (e 3) (e 4) (e 5) (e 6) w K = denL Tryz.prog (tabOf T100) 71 fuel ((flat (bodyOf Tryz.f100)).drop 7) e w (fun e w => K (e 2) w) (endD Tryz.prog [.tmp 2] K) noE := by intro _; kernel_rfl
  exact seg_end (Eq.mp (e1 ()) h) hn hr he
def F100_4b (s3 s4 s5 s6 : Value) (w : World) (_K : V1) (Y0 : V4) (Y1 : V4) : Prop :=
bindP (bAdd s6 (.int .i64 1)) fun v36 =>
callP G145 [s5, v36] w fun v38 w37 =>
bindP (bLe v38 s3) fun v39 =>
ifB v39 (
bindP (bAdd s6 (.int .i64 1)) fun v40 =>
Y0 s3 s4 s5 v40 w37) (
Y1 s3 s4 s5 s6 w37)
def F100_4L : Nat → Value → Value → Value → Value → World → (V1) → Prop
  | 0, _, _, _, _, _, _ => False
  | n + 1, s3, s4, s5, s6, w, K => F100_4b s3 s4 s5 s6 w K (fun a3 a4 a5 a6 w => F100_4L n a3 a4 a5 a6 w K) (fun a3 a4 a5 a6 w => F100_5 a3 a4 a5 a6 w K)
def F100_4 (s3 s4 s5 s6 : Value) (w : World) (K : V1) : Prop := F100_4L fuel s3 s4 s5 s6 w K
theorem ok100_4 {K : V1}
    (hn : HN (fun e w => K (e 2) w) kn) (hr : HR Tryz.prog [.tmp 2] K kr) (he : HE noE ke) :
    ∀ e w, F100_4 (e 3) (e 4) (e 5) (e 6) w K → denL Tryz.prog (tabOf T100) 71 fuel ((flat (bodyOf Tryz.f100)).drop 6) e w kn kr ke := by
  intro e w h
  unfold F100_4 at h
  refine seg_loop (id := 2) (body := (loopB (blkB (nthC (flat (bodyOf Tryz.f100)) 6)))) (l2 := (flat (bodyOf Tryz.f100)).drop 7) (by kernel_rfl) ?_
  refine loop_ok (FL := fun m e w => F100_4L m (e 3) (e 4) (e 5) (e 6) w K) (fr := endD Tryz.prog [.tmp 2] K) (fe := (blkK 2 (fun e w => F100_5 (e 3) (e 4) (e 5) (e 6) w K) noE)) (fun _ _ h => h) ?_ hr (blkK_mono (fun e w h => ok100_5 hn hr he e w h) he) fuel e w h
  intro m e w h
  have h : F100_4L (m + 1) (e 3) (e 4) (e 5) (e 6) w K := h
  rw [F100_4L] at h
  have e1 : ∀ (Y0 : V4) (Y1 : V4), F100_4b (e 3) (e 4) (e 5) (e 6) w K Y0 Y1 = denL Tryz.prog (tabOf T100) 71 fuel (flat (loopB (blkB (nthC (flat (bodyOf Tryz.f100)) 6)))) e w (fun e w => Y0 (e 3) (e 4) (e 5) (e 6) w) (endD Tryz.prog [.tmp 2] K) (blkK 2 (fun e w => Y1 (e 3) (e 4) (e 5) (e 6) w) noE) := by intro Y0 Y1; kernel_rfl
  exact Eq.mp (e1 (fun a3 a4 a5 a6 w => F100_4L m a3 a4 a5 a6 w K) (fun a3 a4 a5 a6 w => F100_5 a3 a4 a5 a6 w K)) h
def F100_3b (s3 s4 s5 : Value) (w : World) (_K : V1) (Y0 : V4) : Prop :=
callP G144 [s5] w fun v42 w41 =>
bindP (bSub s3 v42) fun v43 =>
Y0 v43 s4 s5 (.int .i64 1) w41
def F100_3 (s3 s4 s5 : Value) (w : World) (K : V1) : Prop := F100_3b s3 s4 s5 w K (fun a3 a4 a5 a6 w => F100_4 a3 a4 a5 a6 w K)
theorem ok100_3 {K : V1}
    (hn : HN (fun e w => K (e 2) w) kn) (hr : HR Tryz.prog [.tmp 2] K kr) (he : HE noE ke) :
    ∀ e w, F100_3 (e 3) (e 4) (e 5) w K → denL Tryz.prog (tabOf T100) 71 fuel ((flat (bodyOf Tryz.f100)).drop 4) e w kn kr ke := by
  intro e w h
  unfold F100_3 at h
  have e1 : ∀ (Y0 : V4), F100_3b (e 3) (e 4) (e 5) w K Y0 = denL Tryz.prog (tabOf T100) 71 fuel (((flat (bodyOf Tryz.f100)).drop 4).take 2) e w (fun e w => Y0 (e 3) (e 4) (e 5) (e 6) w) (endD Tryz.prog [.tmp 2] K) noE := by intro Y0; kernel_rfl
  exact seg 2 (Eq.mp (e1 (fun a3 a4 a5 a6 w => F100_4 a3 a4 a5 a6 w K)) h) (fun e w h => ok100_4 hn hr he e w h) hr he
def F100_2b (s3 s4 s5 : Value) (w : World) (_K : V1) (Y0 : V3) (Y1 : V3) : Prop :=
bindP (bAdd s5 (.int .i64 1)) fun v44 =>
callP G144 [v44] w fun v46 w45 =>
bindP (bLe v46 s3) fun v47 =>
ifB v47 (
bindP (bAdd s5 (.int .i64 1)) fun v48 =>
Y0 s3 s4 v48 w45) (
Y1 s3 s4 s5 w45)
def F100_2L : Nat → Value → Value → Value → World → (V1) → Prop
  | 0, _, _, _, _, _ => False
  | n + 1, s3, s4, s5, w, K => F100_2b s3 s4 s5 w K (fun a3 a4 a5 w => F100_2L n a3 a4 a5 w K) (fun a3 a4 a5 w => F100_3 a3 a4 a5 w K)
def F100_2 (s3 s4 s5 : Value) (w : World) (K : V1) : Prop := F100_2L fuel s3 s4 s5 w K
theorem ok100_2 {K : V1}
    (hn : HN (fun e w => K (e 2) w) kn) (hr : HR Tryz.prog [.tmp 2] K kr) (he : HE noE ke) :
    ∀ e w, F100_2 (e 3) (e 4) (e 5) w K → denL Tryz.prog (tabOf T100) 71 fuel ((flat (bodyOf Tryz.f100)).drop 3) e w kn kr ke := by
  intro e w h
  unfold F100_2 at h
  refine seg_loop (id := 0) (body := (loopB (blkB (nthC (flat (bodyOf Tryz.f100)) 3)))) (l2 := (flat (bodyOf Tryz.f100)).drop 4) (by kernel_rfl) ?_
  refine loop_ok (FL := fun m e w => F100_2L m (e 3) (e 4) (e 5) w K) (fr := endD Tryz.prog [.tmp 2] K) (fe := (blkK 0 (fun e w => F100_3 (e 3) (e 4) (e 5) w K) noE)) (fun _ _ h => h) ?_ hr (blkK_mono (fun e w h => ok100_3 hn hr he e w h) he) fuel e w h
  intro m e w h
  have h : F100_2L (m + 1) (e 3) (e 4) (e 5) w K := h
  rw [F100_2L] at h
  have e1 : ∀ (Y0 : V3) (Y1 : V3), F100_2b (e 3) (e 4) (e 5) w K Y0 Y1 = denL Tryz.prog (tabOf T100) 71 fuel (flat (loopB (blkB (nthC (flat (bodyOf Tryz.f100)) 3)))) e w (fun e w => Y0 (e 3) (e 4) (e 5) w) (endD Tryz.prog [.tmp 2] K) (blkK 0 (fun e w => Y1 (e 3) (e 4) (e 5) w) noE) := by intro Y0 Y1; kernel_rfl
  exact Eq.mp (e1 (fun a3 a4 a5 w => F100_2L m a3 a4 a5 w K) (fun a3 a4 a5 w => F100_3 a3 a4 a5 w K)) h
def F100_1b (s0 : Value) (w : World) (_K : V1) (Y0 : V3) : Prop :=
bindP (bQuo s0 (.int .i64 86400)) fun v49 =>
bindP (bRem s0 (.int .i64 86400)) fun v50 =>
bindP (bQuo v49 (.int .i64 366)) fun v51 =>
bindP (bAdd (.int .i64 1970) v51) fun v52 =>
Y0 v49 v50 v52 w
def F100_1 (s0 : Value) (w : World) (K : V1) : Prop := F100_1b s0 w K (fun a3 a4 a5 w => F100_2 a3 a4 a5 w K)
theorem ok100_1 {K : V1}
    (hn : HN (fun e w => K (e 2) w) kn) (hr : HR Tryz.prog [.tmp 2] K kr) (he : HE noE ke) :
    ∀ e w, F100_1 (e 0) w K → denL Tryz.prog (tabOf T100) 71 fuel ((flat (bodyOf Tryz.f100)).drop 0) e w kn kr ke := by
  intro e w h
  unfold F100_1 at h
  have e1 : ∀ (Y0 : V3), F100_1b (e 0) w K Y0 = denL Tryz.prog (tabOf T100) 71 fuel (((flat (bodyOf Tryz.f100)).drop 0).take 3) e w (fun e w => Y0 (e 3) (e 4) (e 5) w) (endD Tryz.prog [.tmp 2] K) noE := by intro Y0; kernel_rfl
  exact seg 3 (Eq.mp (e1 (fun a3 a4 a5 w => F100_2 a3 a4 a5 w K)) h) (fun e w h => ok100_2 hn hr he e w h) hr he
def F100 (x0 : Value) (w : World) (K : V1) : Prop := F100_1 x0 w K
def G100 : FnT := fun args w K => on1 (fun x0 => F100 x0 w K) args
theorem c100 {x0 : Value} {w : World} {K : V1} (h : F100 x0 w K) : callP G100 [x0] w K := callP_intro (on1_mk (p := fun x0 => F100 x0 w K) h)
theorem ok100 : OkF Tryz.prog 100 G100 := by
  refine okF_of (tab_ok (l := T100) ⟨ok144, ok145, ok146, trivial⟩) mixed (n := fuel) Tryz.func100 Tryz.call100 fun args w K h => ?_
  obtain ⟨x0, rfl, hh⟩ := of_on1 h
  unfold F100 at hh
  exact fnD_list (c := bodyOf Tryz.f100) (by kernel_rfl) (by kernel_rfl) (ok100_1 (fun _ _ h => h) (fun _ _ h => h) (fun _ _ _ h => h) (initE [x0]) w hh)
def T56 : List (Nat × FnT) := [(10, G10), (100, G100), (101, G101)]
def F56 (x0 x1 : Value) (w : World) (K : V1) : Prop :=
callP G100 [x0] w fun v2 w1 =>
bindP (bEq Tryz.prog 3 (.tmp 9) (.const (.int .i64 0)) x1 (.int .i64 0)) fun v3 =>
ifB v3 (
K v2 w1) (
bindP (bAdd (.int .i64 1000000000) x1) fun v4 =>
callP G10 [v4] w1 fun v6 w5 =>
bindP (bAdd v2 (.string ⟨#[46]⟩)) fun v7 =>
bindP (pSliceS v6 (some (.int .i64 1)) none) fun v8 =>
callP G101 [v8, (.string ⟨#[48]⟩)] w5 fun v10 w9 =>
bindP (bAdd v7 v10) fun v11 =>
K v11 w9)
def G56 : FnT := fun args w K => on2 (fun x0 x1 => F56 x0 x1 w K) args
theorem c56 {x0 x1 : Value} {w : World} {K : V1} (h : F56 x0 x1 w K) : callP G56 [x0, x1] w K := callP_intro (on2_mk (p := fun x0 x1 => F56 x0 x1 w K) h)
theorem ok56 : OkF Tryz.prog 56 G56 := by
  refine okF_of (tab_ok (l := T56) ⟨ok10, ok100, ok101, trivial⟩) mixed (n := fuel) Tryz.func56 Tryz.call56 fun args w K h => ?_
  obtain ⟨x0, x1, rfl, hh⟩ := of_on2 h
  exact fnD_list (c := bodyOf Tryz.f56) (by kernel_rfl) (by kernel_rfl) (Eq.mp (by kernel_rfl) hh)
def T28 : List (Nat × FnT) := [(56, G56)]
def F28 (x0 : Value) (w : World) (K : V1) : Prop :=
bindP (bLt x0 (.int .i64 0)) fun v1 =>
stepM (gd false v1) x0 fun v2 =>
Sx.stepG (gd false v1) (bGt v2 (.int .i64 2305843009213693952)) fun v3 =>
bindP (pPick v1 (.bool true) v3) fun v4 =>
ifB v4 (
K (.tuple #[(.string ⟨#[]⟩), (.int .i64 1)]) w) (
bindP (bQuo x0 (.int .i64 1000000000)) fun v5 =>
bindP (bRem x0 (.int .i64 1000000000)) fun v6 =>
callP G56 [v5, v6] w fun v8 w7 =>
bindP (bAdd v8 (.string ⟨#[90]⟩)) fun v9 =>
K (.tuple #[v9, (.int .i64 0)]) w7)
def G28 : FnT := fun args w K => on1 (fun x0 => F28 x0 w K) args
theorem c28 {x0 : Value} {w : World} {K : V1} (h : F28 x0 w K) : callP G28 [x0] w K := callP_intro (on1_mk (p := fun x0 => F28 x0 w K) h)
theorem ok28 : OkF Tryz.prog 28 G28 := by
  refine okF_of (tab_ok (l := T28) ⟨ok56, trivial⟩) mixed (n := fuel) Tryz.func28 Tryz.call28 fun args w K h => ?_
  obtain ⟨x0, rfl, hh⟩ := of_on1 h
  exact fnD_list (c := bodyOf Tryz.f28) (by kernel_rfl) (by kernel_rfl) (Eq.mp (by kernel_rfl) hh)
end Go.Proofs.Gong
