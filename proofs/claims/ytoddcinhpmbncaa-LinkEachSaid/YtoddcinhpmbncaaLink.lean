/- A part of the proofs: what stands below it, told in lemmas. No condition. -/
import Derived.Test.YtoddcinhpmbncaaChecked
import Derived.Test.YtoddcinhpmbncaaSz1
namespace Go.Proofs.Gong
open Go Go.Sx Go.Proofs
set_option maxRecDepth 100000
theorem mixed : Try.prog.follows .mixedOrders = true := by kernel_rfl

-- facts on types
theorem z0 : fZero Try.prog 0 = some (.tuple #[]) := by kernel_rfl
theorem z1 : fZero Try.prog 1 = some .nilFunc := by kernel_rfl
theorem z2 : fZero Try.prog 2 = some (.int .i64 0) := by kernel_rfl
theorem z3 : fZero Try.prog 3 = some (.int .i64 0) := by kernel_rfl
theorem ub4 : Try.prog.underlying 4 = some .bool := by kernel_rfl
theorem z4 : fZero Try.prog 4 = some (.bool false) := by kernel_rfl
theorem z5 : fZero Try.prog 5 = some (.int .u8 0) := by kernel_rfl
theorem z6 : fZero Try.prog 6 = some (.int .u8 0) := by kernel_rfl
theorem z7 : fZero Try.prog 7 = some (.agg #[(.int .i64 0), (.int .i64 0), (.bool false), (.int .u8 0)]) := by kernel_rfl
theorem z8 : fZero Try.prog 8 = some (.agg #[(.int .i64 0), (.int .i64 0), (.bool false), (.int .u8 0)]) := by kernel_rfl
theorem ss9 : isSS Try.prog 9 = true := by kernel_rfl
theorem z9 : fZero Try.prog 9 = some (.string ⟨#[]⟩) := by kernel_rfl
theorem ss10 : isSS Try.prog 10 = true := by kernel_rfl
theorem z10 : fZero Try.prog 10 = some (.string ⟨#[]⟩) := by kernel_rfl
theorem ss11 : isSS Try.prog 11 = true := by kernel_rfl
theorem z11 : fZero Try.prog 11 = some (.string ⟨#[]⟩) := by kernel_rfl
theorem z12 : fZero Try.prog 12 = some (.int .u64 0) := by kernel_rfl
theorem z13 : fZero Try.prog 13 = some (.agg #[(.string ⟨#[]⟩), (.int .u64 0)]) := by kernel_rfl
theorem z14 : fZero Try.prog 14 = some (.agg #[(.string ⟨#[]⟩), (.int .u64 0)]) := by kernel_rfl
theorem up15 : Try.prog.underlying 15 = some (.pointer 67) := by kernel_rfl
theorem z15 : fZero Try.prog 15 = some (.pointer none) := by kernel_rfl
theorem up16 : Try.prog.underlying 16 = some (.pointer 70) := by kernel_rfl
theorem z16 : fZero Try.prog 16 = some (.pointer none) := by kernel_rfl
theorem up17 : Try.prog.underlying 17 = some (.pointer 79) := by kernel_rfl
theorem z17 : fZero Try.prog 17 = some (.pointer none) := by kernel_rfl
theorem z18 : fZero Try.prog 18 = some (.agg #[(.pointer none)]) := by kernel_rfl
theorem z19 : fZero Try.prog 19 = some (.agg #[(.pointer none)]) := by kernel_rfl
theorem z20 : fZero Try.prog 20 = some .nilIface := by kernel_rfl
theorem z21 : fZero Try.prog 21 = some (.int .i32 0) := by kernel_rfl
theorem z22 : fZero Try.prog 22 = some .nilFunc := by kernel_rfl
theorem up23 : Try.prog.underlying 23 = some (.pointer 51) := by kernel_rfl
theorem z23 : fZero Try.prog 23 = some (.pointer none) := by kernel_rfl
theorem z24 : fZero Try.prog 24 = some (.int .i64 0) := by kernel_rfl
theorem z25 : fZero Try.prog 25 = some (.tuple #[(.pointer none), (.int .i64 0)]) := by kernel_rfl
theorem z26 : fZero Try.prog 26 = some .nilFunc := by kernel_rfl
theorem z27 : fZero Try.prog 27 = some .nilFunc := by kernel_rfl
theorem z28 : fZero Try.prog 28 = some (.tuple #[(.bool false), (.int .i64 0)]) := by kernel_rfl
theorem z29 : fZero Try.prog 29 = some .nilFunc := by kernel_rfl
theorem z30 : fZero Try.prog 30 = some (.agg #[(.int .i64 0), (.int .i64 0), (.int .i64 0), (.int .i64 0)]) := by kernel_rfl
theorem z31 : fZero Try.prog 31 = some (.agg #[(.int .i64 0), (.int .i64 0), (.int .i64 0), (.int .i64 0)]) := by kernel_rfl
theorem z32 : fZero Try.prog 32 = some .nilFunc := by kernel_rfl
theorem z33 : fZero Try.prog 33 = some .nilFunc := by kernel_rfl
theorem u34 : Try.prog.underlying 34 = some (.slice 37) := by kernel_rfl
theorem ss34 : isSS Try.prog 34 = true := by kernel_rfl
theorem sl34 : SlT Try.prog 34 37 3 32 := .of (by kernel_rfl) (by kernel_rfl) (by kernel_rfl) (by omega) (by omega)
theorem z34 : fZero Try.prog 34 = some (.slice none 0 0) := by kernel_rfl
theorem um35 : Try.prog.underlying 35 = some (.map 9 3) := by kernel_rfl
theorem z35 : fZero Try.prog 35 = some (.map none) := by kernel_rfl
theorem z36 : fZero Try.prog 36 = some (.agg #[(.int .i64 0), (.int .i64 0), (.string ⟨#[]⟩)]) := by kernel_rfl
theorem z37 : fZero Try.prog 37 = some (.agg #[(.int .i64 0), (.int .i64 0), (.string ⟨#[]⟩)]) := by kernel_rfl
theorem z38 : fZero Try.prog 38 = some .nilFunc := by kernel_rfl
theorem z39 : fZero Try.prog 39 = some (.tuple #[(.string ⟨#[]⟩), (.int .i64 0)]) := by kernel_rfl
theorem z40 : fZero Try.prog 40 = some .nilFunc := by kernel_rfl
theorem z41 : fZero Try.prog 41 = some .nilFunc := by kernel_rfl
theorem z42 : fZero Try.prog 42 = some .nilFunc := by kernel_rfl
theorem z43 : fZero Try.prog 43 = some .nilFunc := by kernel_rfl
theorem up44 : Try.prog.underlying 44 = some (.pointer 59) := by kernel_rfl
theorem z44 : fZero Try.prog 44 = some (.pointer none) := by kernel_rfl
theorem z45 : fZero Try.prog 45 = some (.tuple #[(.pointer none), (.int .i64 0)]) := by kernel_rfl
theorem z46 : fZero Try.prog 46 = some .nilFunc := by kernel_rfl
theorem z47 : fZero Try.prog 47 = some .nilFunc := by kernel_rfl
theorem z48 : fZero Try.prog 48 = some .nilFunc := by kernel_rfl
theorem u49 : Try.prog.underlying 49 = some (.slice 9) := by kernel_rfl
theorem ss49 : isSS Try.prog 49 = true := by kernel_rfl
theorem sl49 : SlT Try.prog 49 9 1 16 := .of (by kernel_rfl) (by kernel_rfl) (by kernel_rfl) (by omega) (by omega)
theorem z49 : fZero Try.prog 49 = some (.slice none 0 0) := by kernel_rfl
theorem z50 : fZero Try.prog 50 = some (.agg #[(.int .i64 0), (.slice none 0 0), (.int .i64 0), (.int .i64 0), (.int .i64 0), (.int .i64 0), (.int .i64 0)]) := by kernel_rfl
theorem z51 : fZero Try.prog 51 = some (.agg #[(.int .i64 0), (.slice none 0 0), (.int .i64 0), (.int .i64 0), (.int .i64 0), (.int .i64 0), (.int .i64 0)]) := by kernel_rfl
theorem z52 : fZero Try.prog 52 = some .nilFunc := by kernel_rfl
theorem z53 : fZero Try.prog 53 = some .nilFunc := by kernel_rfl
theorem z54 : fZero Try.prog 54 = some .nilFunc := by kernel_rfl
theorem z55 : fZero Try.prog 55 = some .nilFunc := by kernel_rfl
theorem z56 : fZero Try.prog 56 = some .nilFunc := by kernel_rfl
theorem z57 : fZero Try.prog 57 = some (.agg #[(.int .i64 0), (.int .i64 0), (.int .i64 0), (.int .i64 0)]) := by kernel_rfl
theorem z58 : fZero Try.prog 58 = some (.agg #[(.int .i64 0), (.int .i64 0), (.slice none 0 0), (.int .i64 0), (.int .i64 0), (.int .i64 0), (.int .i64 0)]) := by kernel_rfl
theorem z59 : fZero Try.prog 59 = some (.agg #[(.int .i64 0), (.int .i64 0), (.slice none 0 0), (.int .i64 0), (.int .i64 0), (.int .i64 0), (.int .i64 0)]) := by kernel_rfl
theorem z60 : fZero Try.prog 60 = some .nilFunc := by kernel_rfl
theorem z61 : fZero Try.prog 61 = some .nilFunc := by kernel_rfl
theorem z62 : fZero Try.prog 62 = some .nilFunc := by kernel_rfl
theorem z63 : fZero Try.prog 63 = some (.tuple #[(.string ⟨#[]⟩), (.bool false)]) := by kernel_rfl
theorem z64 : fZero Try.prog 64 = some .nilFunc := by kernel_rfl
theorem z65 : fZero Try.prog 65 = some .nilFunc := by kernel_rfl
theorem z66 : fZero Try.prog 66 = some (.agg #[(.pointer none), (.pointer none), (.pointer none), (.string ⟨#[]⟩)]) := by kernel_rfl
theorem z67 : fZero Try.prog 67 = some (.agg #[(.pointer none), (.pointer none), (.pointer none), (.string ⟨#[]⟩)]) := by kernel_rfl
theorem z68 : fZero Try.prog 68 = some (.agg #[]) := by kernel_rfl
theorem z69 : fZero Try.prog 69 = some (.agg #[]) := by kernel_rfl
theorem z70 : fZero Try.prog 70 = some (.agg #[]) := by kernel_rfl
theorem z71 : fZero Try.prog 71 = some (.int .u32 0) := by kernel_rfl
theorem z72 : fZero Try.prog 72 = some (.int .u8 0) := by kernel_rfl
theorem z73 : fZero Try.prog 73 = some (.int .u8 0) := by kernel_rfl
theorem z74 : fZero Try.prog 74 = some .nilFunc := by kernel_rfl
theorem up75 : Try.prog.underlying 75 = some (.pointer 5) := by kernel_rfl
theorem z75 : fZero Try.prog 75 = some (.pointer none) := by kernel_rfl
theorem z76 : fZero Try.prog 76 = some (.int .i32 0) := by kernel_rfl
theorem z77 : fZero Try.prog 77 = some (.int .i32 0) := by kernel_rfl
theorem z78 : fZero Try.prog 78 = some (.agg #[(.int .u64 0), (.int .u64 0), (.int .u32 0), (.int .u8 0), (.int .u8 0), (.int .u8 0), (.int .u8 0), .nilFunc, (.pointer none), (.int .i32 0), (.int .i32 0)]) := by kernel_rfl
theorem z79 : fZero Try.prog 79 = some (.agg #[(.int .u64 0), (.int .u64 0), (.int .u32 0), (.int .u8 0), (.int .u8 0), (.int .u8 0), (.int .u8 0), .nilFunc, (.pointer none), (.int .i32 0), (.int .i32 0)]) := by kernel_rfl
theorem z80 : fZero Try.prog 80 = some (.pointer none) := by kernel_rfl

-- 6 gong/gongbook.Below
def T6 : List (Nat × FnT) := []
def F6 (x0 : Value) (x1 : Value) (w : World) (K : Value → World → Prop) : Prop :=
bindP (bRem x0 x1) fun v1 =>
bindP (bAdd v1 x1) fun v2 =>
bindP (bRem v2 x1) fun v3 =>
K v3 w

def G6 : FnT := fun args w K => on2 (fun x0 x1 => F6 x0 x1 w K) args
theorem c6 {x0 x1 : Value} {w : World} {K : Value → World → Prop} (h : F6 x0 x1 w K) : callP G6 [x0, x1] w K := callP_intro h
theorem ok6 : OkF Try.prog 6 G6 := by
  refine okF_of (tab_ok (l := T6) trivial) mixed (n := fuel) Try.func6 Try.call6 fun args w K h => ?_
  obtain ⟨x0, x1, rfl, hh⟩ := of_on2 h
  exact fnD_list (c := bodyOf Try.f6) (by kernel_rfl) (by kernel_rfl) (Eq.mp (by kernel_rfl) hh)

-- 7 gong/link.New
def T7 : List (Nat × FnT) := []
def F7 (x0 : Value) (w : World) (K : Value → World → Prop) : Prop :=
bindP (bLt x0 (.int .i64 1)) fun v1 =>
stepM (gd false v1) x0 fun v2 =>
Sx.stepG (gd false v1) (bGt v2 (.int .i64 65536)) fun v3 =>
bindP (pPick v1 (.bool true) v3) fun v4 =>
ifB v4 (
K (.tuple #[(.pointer none), (.int .i64 1)]) w) (
bindP (fBuild Try.prog 51 [(0, x0)]) fun v5 =>
eBox 51 v5 w fun v7 w6 =>
K (.tuple #[v7, (.int .i64 0)]) w6)

def G7 : FnT := fun args w K => on1 (fun x0 => F7 x0 w K) args
theorem c7 {x0 : Value} {w : World} {K : Value → World → Prop} (h : F7 x0 w K) : callP G7 [x0] w K := callP_intro h
theorem ok7 : OkF Try.prog 7 G7 := by
  refine okF_of (tab_ok (l := T7) trivial) mixed (n := fuel) Try.func7 Try.call7 fun args w K h => ?_
  obtain ⟨x0, rfl, hh⟩ := of_on1 h
  exact fnD_list (c := bodyOf Try.f7) (by kernel_rfl) (by kernel_rfl) (Eq.mp (by kernel_rfl) hh)

-- 22 (*gong/link.Link).put
def T22 : List (Nat × FnT) := []
def F22 (x0 : Value) (x1 : Value) (w : World) (K : Value → World → Prop) : Prop :=
bindP (pNil x0) fun v1 =>
bindP (pFieldAddr 1 v1) fun v2 =>
bindP (ld1 v2 w.drew) fun v3 =>
bindP (lenL v3) fun v4 =>
bindP (pNil x0) fun v5 =>
bindP (pFieldAddr 0 v5) fun v6 =>
bindP (ld1 v6 w.drew) fun v7 =>
bindP (bGe v4 v7) fun v8 =>
ifB v8 (
K (.bool false) w.drew) (
bindP (pNil x0) fun v9 =>
bindP (pFieldAddr 1 v9) fun v10 =>
bindP (ld1 v10 w.drew) fun v11 =>
eBuildSl Try.prog 49 1 [(0, x1)] w.drew fun v13 w12 =>
eAppend Try.prog 49 49 v11 v13 w12 fun v15 w14 =>
bindP (pNil x0) fun v16 =>
bindP (pFieldAddr 1 v16) fun v17 =>
bindW (st 1 v17 v15 w14) fun w18 =>
K (.bool true) w18)

def G22 : FnT := fun args w K => on2 (fun x0 x1 => F22 x0 x1 w K) args
theorem c22 {x0 x1 : Value} {w : World} {K : Value → World → Prop} (h : F22 x0 x1 w K) : callP G22 [x0, x1] w K := callP_intro h
theorem ok22 : OkF Try.prog 22 G22 := by
  refine okF_of (tab_ok (l := T22) trivial) mixed (n := fuel) Try.func22 Try.call22 fun args w K h => ?_
  obtain ⟨x0, x1, rfl, hh⟩ := of_on2 h
  exact fnD_list (c := bodyOf Try.f22) (by kernel_rfl) (by kernel_rfl) (Eq.mp (by kernel_rfl) hh)

-- 11 (*gong/link.Link).Send
def T11 : List (Nat × FnT) := [(22, G22)]
def F11 (x0 : Value) (x1 : Value) (w : World) (K : Value → World → Prop) : Prop :=
callP G22 [x0, x1] w fun v2 w1 =>
bindP (uNot v2) fun v3 =>
ifB v3 (
K (.int .i64 200) w1) (
bindP (pNil x0) fun v4 =>
bindP (pFieldAddr 3 v4) fun v5 =>
bindP (pFieldAddr 0 v5) fun v6 =>
bindP (ld1 v6 w1) fun v7 =>
bindP (bAdd v7 (.int .i64 1)) fun v8 =>
bindP (pNil x0) fun v9 =>
bindP (pFieldAddr 3 v9) fun v10 =>
bindP (pFieldAddr 0 v10) fun v11 =>
bindW (st 1 v11 v8 w1) fun w12 =>
K (.int .i64 0) w12)

def G11 : FnT := fun args w K => on2 (fun x0 x1 => F11 x0 x1 w K) args
theorem c11 {x0 x1 : Value} {w : World} {K : Value → World → Prop} (h : F11 x0 x1 w K) : callP G11 [x0, x1] w K := callP_intro h
theorem ok11 : OkF Try.prog 11 G11 := by
  refine okF_of (tab_ok (l := T11) ⟨ok22, trivial⟩) mixed (n := fuel) Try.func11 Try.call11 fun args w K h => ?_
  obtain ⟨x0, x1, rfl, hh⟩ := of_on2 h
  exact fnD_list (c := bodyOf Try.f11) (by kernel_rfl) (by kernel_rfl) (Eq.mp (by kernel_rfl) hh)

-- 23 (*gong/link.Link).at
def T23 : List (Nat × FnT) := []
def F23 (x0 : Value) (x1 : Value) (w : World) (K : Value → World → Prop) : Prop :=
bindP (bGe x1 (.int .i64 0)) fun v1 =>
stepM (gd true v1) x1 fun v2 =>
stepM (gd true v1) x0 fun v3 =>
Sx.stepG (gd true v1) (pNil v3) fun v4 =>
Sx.stepG (gd true v1) (pFieldAddr 1 v4) fun v5 =>
Sx.stepG (gd true v1) (ld1 v5 w) fun v6 =>
Sx.stepG (gd true v1) (lenL v6) fun v7 =>
Sx.stepG (gd true v1) (bLt v2 v7) fun v8 =>
bindP (pPick v1 v8 (.bool false)) fun v9 =>
K v9 w

def G23 : FnT := fun args w K => on2 (fun x0 x1 => F23 x0 x1 w K) args
theorem c23 {x0 x1 : Value} {w : World} {K : Value → World → Prop} (h : F23 x0 x1 w K) : callP G23 [x0, x1] w K := callP_intro h
theorem ok23 : OkF Try.prog 23 G23 := by
  refine okF_of (tab_ok (l := T23) trivial) mixed (n := fuel) Try.func23 Try.call23 fun args w K h => ?_
  obtain ⟨x0, x1, rfl, hh⟩ := of_on2 h
  exact fnD_list (c := bodyOf Try.f23) (by kernel_rfl) (by kernel_rfl) (Eq.mp (by kernel_rfl) hh)

-- 24 (*gong/link.Link).cut
def T24 : List (Nat × FnT) := []
def F24 (x0 : Value) (x1 : Value) (w : World) (K : Value → World → Prop) : Prop :=
bindP (pNil x0) fun v1 =>
bindP (pFieldAddr 1 v1) fun v2 =>
bindP (ld1 v2 w) fun v3 =>
bindP (pIndexL 1 v3 x1) fun v4 =>
bindP (ld1 v4 w) fun v5 =>
bindP (pNil x0) fun v6 =>
bindP (pFieldAddr 1 v6) fun v7 =>
bindP (ld1 v7 w.drew) fun v8 =>
bindP (pSliceL 1 v8 none (some x1) (some x1)) fun v9 =>
bindP (pNil x0) fun v10 =>
bindP (pFieldAddr 1 v10) fun v11 =>
bindP (ld1 v11 w.drew) fun v12 =>
bindP (bAdd x1 (.int .i64 1)) fun v13 =>
bindP (pSliceL 1 v12 (some v13) none none) fun v14 =>
eAppend Try.prog 49 49 v9 v14 w.drew fun v16 w15 =>
bindP (pNil x0) fun v17 =>
bindP (pFieldAddr 1 v17) fun v18 =>
bindW (st 1 v18 v16 w15) fun w19 =>
K v5 w19

def G24 : FnT := fun args w K => on2 (fun x0 x1 => F24 x0 x1 w K) args
theorem c24 {x0 x1 : Value} {w : World} {K : Value → World → Prop} (h : F24 x0 x1 w K) : callP G24 [x0, x1] w K := callP_intro h
theorem ok24 : OkF Try.prog 24 G24 := by
  refine okF_of (tab_ok (l := T24) trivial) mixed (n := fuel) Try.func24 Try.call24 fun args w K h => ?_
  obtain ⟨x0, x1, rfl, hh⟩ := of_on2 h
  exact fnD_list (c := bodyOf Try.f24) (by kernel_rfl) (by kernel_rfl) (Eq.mp (by kernel_rfl) hh)

-- 12 (*gong/link.Link).Take
def T12 : List (Nat × FnT) := [(23, G23), (24, G24)]
def F12 (x0 : Value) (x1 : Value) (w : World) (K : Value → World → Prop) : Prop :=
callP G23 [x0, x1] w fun v2 w1 =>
bindP (uNot v2) fun v3 =>
ifB v3 (
K (.tuple #[(.string ⟨#[]⟩), (.int .i64 5)]) w1) (
bindP (pNil x0) fun v4 =>
bindP (pFieldAddr 3 v4) fun v5 =>
bindP (pFieldAddr 1 v5) fun v6 =>
bindP (ld1 v6 w1) fun v7 =>
bindP (bAdd v7 (.int .i64 1)) fun v8 =>
bindP (pNil x0) fun v9 =>
bindP (pFieldAddr 3 v9) fun v10 =>
bindP (pFieldAddr 1 v10) fun v11 =>
bindW (st 1 v11 v8 w1) fun w12 =>
callP G24 [x0, x1] w12 fun v15 w14 =>
K (.tuple #[v15, (.int .i64 0)]) w14)

def G12 : FnT := fun args w K => on2 (fun x0 x1 => F12 x0 x1 w K) args
theorem c12 {x0 x1 : Value} {w : World} {K : Value → World → Prop} (h : F12 x0 x1 w K) : callP G12 [x0, x1] w K := callP_intro h
theorem ok12 : OkF Try.prog 12 G12 := by
  refine okF_of (tab_ok (l := T12) ⟨ok23, ok24, trivial⟩) mixed (n := fuel) Try.func12 Try.call12 fun args w K h => ?_
  obtain ⟨x0, x1, rfl, hh⟩ := of_on2 h
  exact fnD_list (c := bodyOf Try.f12) (by kernel_rfl) (by kernel_rfl) (Eq.mp (by kernel_rfl) hh)

-- 14 (*gong/link.Link).Double
def T14 : List (Nat × FnT) := [(22, G22), (23, G23)]
def F14 (x0 : Value) (x1 : Value) (w : World) (K : Value → World → Prop) : Prop :=
callP G23 [x0, x1] w fun v2 w1 =>
bindP (uNot v2) fun v3 =>
ifB v3 (
K (.int .i64 5) w1) (
bindP (pNil x0) fun v4 =>
bindP (pFieldAddr 1 v4) fun v5 =>
bindP (ld1 v5 w1) fun v6 =>
bindP (pIndexL 1 v6 x1) fun v7 =>
bindP (ld1 v7 w1) fun v8 =>
callP G22 [x0, v8] w1 fun v10 w9 =>
bindP (uNot v10) fun v11 =>
ifB v11 (
K (.int .i64 200) w9) (
bindP (pNil x0) fun v12 =>
bindP (pFieldAddr 3 v12) fun v13 =>
bindP (pFieldAddr 3 v13) fun v14 =>
bindP (ld1 v14 w9) fun v15 =>
bindP (bAdd v15 (.int .i64 1)) fun v16 =>
bindP (pNil x0) fun v17 =>
bindP (pFieldAddr 3 v17) fun v18 =>
bindP (pFieldAddr 3 v18) fun v19 =>
bindW (st 1 v19 v16 w9) fun w20 =>
K (.int .i64 0) w20))

def G14 : FnT := fun args w K => on2 (fun x0 x1 => F14 x0 x1 w K) args
theorem c14 {x0 x1 : Value} {w : World} {K : Value → World → Prop} (h : F14 x0 x1 w K) : callP G14 [x0, x1] w K := callP_intro h
theorem ok14 : OkF Try.prog 14 G14 := by
  refine okF_of (tab_ok (l := T14) ⟨ok22, ok23, trivial⟩) mixed (n := fuel) Try.func14 Try.call14 fun args w K h => ?_
  obtain ⟨x0, x1, rfl, hh⟩ := of_on2 h
  exact fnD_list (c := bodyOf Try.f14) (by kernel_rfl) (by kernel_rfl) (Eq.mp (by kernel_rfl) hh)

-- 20 gong/gongbook.SameTexts
def T20 : List (Nat × FnT) := []
def F20_3b (s5 : Value) (w : World) (K : Value → World → Prop) : Prop :=
K s5 w

def F20_3 (s5 : Value) (w : World) (K : Value → World → Prop) : Prop := F20_3b s5 w K

theorem ok20_3 {K : Value → World → Prop} {kn kr : Env → World → Prop} {ke : Nat → Env → World → Prop}
    (hn : ∀ e w, (fun e w => K (e 4) w) e w → kn e w) (hr : ∀ e w, endD Try.prog [.tmp 4] K e w → kr e w) (he : ∀ i e w, noE i e w → ke i e w) :
    ∀ e w, F20_3 (e 5) w K → denL Try.prog (tabOf T20) 31 fuel ((flat (bodyOf Try.f20)).drop 4) e w kn kr ke := by
  intro e w h
  unfold F20_3 at h
  have e1 : ∀ (_ : Unit), F20_3b (e 5) w K = denL Try.prog (tabOf T20) 31 fuel ((flat (bodyOf Try.f20)).drop 4) e w (fun e w => K (e 4) w) (endD Try.prog [.tmp 4] K) noE := by intro _; kernel_rfl
  exact seg_end (Eq.mp (e1 ()) h) hn hr he

def F20_2b (s0 : Value) (s1 : Value) (s5 : Value) (s6 : Value) (w : World) (_K : Value → World → Prop) (Y0 : Value → Value → Value → Value → World → Prop) (Y1 : Value → World → Prop) : Prop :=
stepM (gd true s5) s6 fun v1 =>
stepM (gd true s5) s0 fun v2 =>
Sx.stepG (gd true s5) (lenL v2) fun v3 =>
Sx.stepG (gd true s5) (bLt v1 v3) fun v4 =>
bindP (pPick s5 v4 (.bool false)) fun v5 =>
ifB v5 (
bindP (pIndexL 1 s0 s6) fun v6 =>
bindP (ld1 v6 w.drew) fun v7 =>
bindP (pIndexL 1 s1 s6) fun v8 =>
bindP (ld1 v8 w.drew) fun v9 =>
bindP (bEq Try.prog 9 (.tmp 24) (.tmp 28) v7 v9) fun v10 =>
bindP (bAdd s6 (.int .i64 1)) fun v11 =>
Y0 s0 s1 v10 v11 w.drew) (
Y1 s5 w)

def F20_2L : Nat → Value → Value → Value → Value → World → (Value → World → Prop) → Prop
  | 0, _, _, _, _, _, _ => False
  | n + 1, s0, s1, s5, s6, w, K => F20_2b s0 s1 s5 s6 w K (fun a0 a1 a5 a6 w => F20_2L n a0 a1 a5 a6 w K) (fun a5 w => F20_3 a5 w K)

def F20_2 (s0 : Value) (s1 : Value) (s5 : Value) (s6 : Value) (w : World) (K : Value → World → Prop) : Prop := F20_2L fuel s0 s1 s5 s6 w K

theorem ok20_2 {K : Value → World → Prop} {kn kr : Env → World → Prop} {ke : Nat → Env → World → Prop}
    (hn : ∀ e w, (fun e w => K (e 4) w) e w → kn e w) (hr : ∀ e w, endD Try.prog [.tmp 4] K e w → kr e w) (he : ∀ i e w, noE i e w → ke i e w) :
    ∀ e w, F20_2 (e 0) (e 1) (e 5) (e 6) w K → denL Try.prog (tabOf T20) 31 fuel ((flat (bodyOf Try.f20)).drop 3) e w kn kr ke := by
  intro e w h
  unfold F20_2 at h
  refine seg_loop (id := 0) (body := (loopB (blkB (nthC (flat (bodyOf Try.f20)) 3)))) (l2 := (flat (bodyOf Try.f20)).drop 4) (by kernel_rfl) ?_
  refine loop_ok (FL := fun m e w => F20_2L m (e 0) (e 1) (e 5) (e 6) w K) (fr := endD Try.prog [.tmp 4] K) (fe := (blkK 0 (fun e w => F20_3 (e 5) w K) noE)) (fun _ _ h => h) ?_ hr (blkK_mono (fun e w h => ok20_3 hn hr he e w h) he) fuel e w h
  intro m e w h
  have h : F20_2L (m + 1) (e 0) (e 1) (e 5) (e 6) w K := h
  rw [F20_2L] at h
  have e1 : ∀ (Y0 : Value → Value → Value → Value → World → Prop) (Y1 : Value → World → Prop), F20_2b (e 0) (e 1) (e 5) (e 6) w K Y0 Y1 = denL Try.prog (tabOf T20) 31 fuel (flat (loopB (blkB (nthC (flat (bodyOf Try.f20)) 3)))) e w (fun e w => Y0 (e 0) (e 1) (e 5) (e 6) w) (endD Try.prog [.tmp 4] K) (blkK 0 (fun e w => Y1 (e 5) w) noE) := by intro Y0 Y1; kernel_rfl
  exact Eq.mp (e1 (fun a0 a1 a5 a6 w => F20_2L m a0 a1 a5 a6 w K) (fun a5 w => F20_3 a5 w K)) h

def F20_1b (s0 : Value) (s1 : Value) (w : World) (_K : Value → World → Prop) (Y0 : Value → Value → Value → Value → World → Prop) : Prop :=
bindP (lenL s0) fun v12 =>
bindP (lenL s1) fun v13 =>
bindP (bEq Try.prog 3 (.tmp 8) (.tmp 10) v12 v13) fun v14 =>
Y0 s0 s1 v14 (.int .i64 0) w

def F20_1 (s0 : Value) (s1 : Value) (w : World) (K : Value → World → Prop) : Prop := F20_1b s0 s1 w K (fun a0 a1 a5 a6 w => F20_2 a0 a1 a5 a6 w K)

theorem ok20_1 {K : Value → World → Prop} {kn kr : Env → World → Prop} {ke : Nat → Env → World → Prop}
    (hn : ∀ e w, (fun e w => K (e 4) w) e w → kn e w) (hr : ∀ e w, endD Try.prog [.tmp 4] K e w → kr e w) (he : ∀ i e w, noE i e w → ke i e w) :
    ∀ e w, F20_1 (e 0) (e 1) w K → denL Try.prog (tabOf T20) 31 fuel ((flat (bodyOf Try.f20)).drop 0) e w kn kr ke := by
  intro e w h
  unfold F20_1 at h
  have e1 : ∀ (Y0 : Value → Value → Value → Value → World → Prop), F20_1b (e 0) (e 1) w K Y0 = denL Try.prog (tabOf T20) 31 fuel (((flat (bodyOf Try.f20)).drop 0).take 3) e w (fun e w => Y0 (e 0) (e 1) (e 5) (e 6) w) (endD Try.prog [.tmp 4] K) noE := by intro Y0; kernel_rfl
  exact seg 3 (Eq.mp (e1 (fun a0 a1 a5 a6 w => F20_2 a0 a1 a5 a6 w K)) h) (fun e w h => ok20_2 hn hr he e w h) hr he

def F20 (x0 : Value) (x1 : Value) (w : World) (K : Value → World → Prop) : Prop := F20_1 x0 x1 w K

def G20 : FnT := fun args w K => on2 (fun x0 x1 => F20 x0 x1 w K) args
theorem c20 {x0 x1 : Value} {w : World} {K : Value → World → Prop} (h : F20 x0 x1 w K) : callP G20 [x0, x1] w K := callP_intro h
theorem ok20 : OkF Try.prog 20 G20 := by
  refine okF_of (tab_ok (l := T20) trivial) mixed (n := fuel) Try.func20 Try.call20 fun args w K h => ?_
  obtain ⟨x0, x1, rfl, hh⟩ := of_on2 h
  unfold F20 at hh
  exact fnD_list (c := bodyOf Try.f20) (by kernel_rfl) (by kernel_rfl) (ok20_1 (fun _ _ h => h) (fun _ _ h => h) (fun _ _ _ h => h) (initE [x0, x1]) w hh)

-- 21 (*gong/link.Link).All
def T21 : List (Nat × FnT) := []
def F21 (x0 : Value) (w : World) (K : Value → World → Prop) : Prop :=
bindP (pNil x0) fun v1 =>
bindP (pFieldAddr 1 v1) fun v2 =>
bindP (ld1 v2 w) fun v3 =>
bindP (lenL v3) fun v4 =>
eMakeSl Try.prog 49 v4 v4 w fun v6 w5 =>
bindP (pNil x0) fun v7 =>
bindP (pFieldAddr 1 v7) fun v8 =>
bindP (ld1 v8 w5) fun v9 =>
eCopy Try.prog 49 v6 v9 w5 fun _ w10 =>
K v6 w10

def G21 : FnT := fun args w K => on1 (fun x0 => F21 x0 w K) args
theorem c21 {x0 : Value} {w : World} {K : Value → World → Prop} (h : F21 x0 w K) : callP G21 [x0] w K := callP_intro h
theorem ok21 : OkF Try.prog 21 G21 := by
  refine okF_of (tab_ok (l := T21) trivial) mixed (n := fuel) Try.func21 Try.call21 fun args w K h => ?_
  obtain ⟨x0, rfl, hh⟩ := of_on1 h
  exact fnD_list (c := bodyOf Try.f21) (by kernel_rfl) (by kernel_rfl) (Eq.mp (by kernel_rfl) hh)

-- 8 gong/gonglaw32.works
def T8 : List (Nat × FnT) := [(7, G7), (11, G11), (12, G12), (14, G14), (20, G20), (21, G21)]
def F8 (w : World) (K : Value → World → Prop) : Prop :=
callP G7 [(.int .i64 9)] w fun v2 w1 =>
bindP (pTuple v2 0) fun v3 =>
bindP (pTuple v2 1) fun v4 =>
bindP (bEq Try.prog 23 (.tmp 8) (.const (.pointer none)) v3 (.pointer none)) fun v5 =>
stepM (gd false v5) v4 fun v6 =>
Sx.stepG (gd false v5) (bNe Try.prog 24 (.tmp 11) (.const (.int .i64 0)) v6 (.int .i64 0)) fun v7 =>
bindP (pPick v5 (.bool true) v7) fun v8 =>
stepM (gd false v8) v3 fun v9 =>
stepE (gd false v8) (fun k => callP G11 [v9, (.string ⟨#[97]⟩)] w1 k) w1 fun v11 w10 =>
Sx.stepG (gd false v8) (bNe Try.prog 24 (.tmp 16) (.const (.int .i64 0)) v11 (.int .i64 0)) fun v12 =>
bindP (pPick v8 (.bool true) v12) fun v13 =>
stepM (gd false v13) v3 fun v14 =>
stepE (gd false v13) (fun k => callP G11 [v14, (.string ⟨#[98]⟩)] w10 k) w10 fun v16 w15 =>
Sx.stepG (gd false v13) (bNe Try.prog 24 (.tmp 21) (.const (.int .i64 0)) v16 (.int .i64 0)) fun v17 =>
bindP (pPick v13 (.bool true) v17) fun v18 =>
stepM (gd false v18) v3 fun v19 =>
stepE (gd false v18) (fun k => callP G14 [v19, (.int .i64 0)] w15 k) w15 fun v21 w20 =>
Sx.stepG (gd false v18) (bNe Try.prog 24 (.tmp 26) (.const (.int .i64 0)) v21 (.int .i64 0)) fun v22 =>
bindP (pPick v18 (.bool true) v22) fun v23 =>
ifB v23 (
K (.bool false) w20) (
callP G12 [v3, (.int .i64 1)] w20 fun v25 w24 =>
bindP (pTuple v25 0) fun v26 =>
bindP (pTuple v25 1) fun v27 =>
bindP (bEq Try.prog 9 (.tmp 34) (.const (.string ⟨#[98]⟩)) v26 (.string ⟨#[98]⟩)) fun v28 =>
stepM (gd true v28) v27 fun v29 =>
Sx.stepG (gd true v28) (bEq Try.prog 24 (.tmp 37) (.const (.int .i64 0)) v29 (.int .i64 0)) fun v30 =>
bindP (pPick v28 v30 (.bool false)) fun v31 =>
stepM (gd true v31) v3 fun v32 =>
stepE (gd true v31) (fun k => callP G21 [v32] w24 k) w24 fun v34 w33 =>
stepE (gd true v31) (fun k => eBuildSl Try.prog 49 2 [(0, (.string ⟨#[97]⟩)), (1, (.string ⟨#[97]⟩))] w33 k) w33 fun v36 w35 =>
stepE (gd true v31) (fun k => callP G20 [v34, v36] w35 k) w35 fun v38 w37 =>
bindP (pPick v31 v38 (.bool false)) fun v39 =>
K v39 w37)

def G8 : FnT := fun args w K => on0 (F8 w K) args
theorem c8 {w : World} {K : Value → World → Prop} (h : F8 w K) : callP G8 [] w K := callP_intro h
theorem ok8 : OkF Try.prog 8 G8 := by
  refine okF_of (tab_ok (l := T8) ⟨ok7, ok11, ok12, ok14, ok20, ok21, trivial⟩) mixed (n := fuel) Try.func8 Try.call8 fun args w K h => ?_
  obtain ⟨rfl, hh⟩ := of_on0 h
  exact fnD_list (c := bodyOf Try.f8) (by kernel_rfl) (by kernel_rfl) (Eq.mp (by kernel_rfl) hh)

-- 9 (*gong/link.Link).Pass
def T9 : List (Nat × FnT) := []
def F9 (x0 : Value) (_x1 : Value) (x2 : Value) (w : World) (K : Value → World → Prop) : Prop :=
bindP (bLt x2 (.int .i64 1)) fun v1 =>
ifB v1 (
K (.tuple #[(.bool false), (.int .i64 1)]) w) (
bindP (pNil x0) fun v2 =>
bindP (pFieldAddr 3 v2) fun v3 =>
bindP (pFieldAddr 0 v3) fun v4 =>
bindP (ld1 v4 w) fun v5 =>
bindP (bAdd v5 (.int .i64 1)) fun v6 =>
bindP (pNil x0) fun v7 =>
bindP (pFieldAddr 3 v7) fun v8 =>
bindP (pFieldAddr 0 v8) fun v9 =>
bindW (st 1 v9 v6 w) fun w10 =>
bindP (pNil x0) fun v12 =>
bindP (pFieldAddr 2 v12) fun v13 =>
bindP (ld1 v13 w10) fun v14 =>
bindP (bAdd v14 (.int .i64 1)) fun v15 =>
bindP (pNil x0) fun v16 =>
bindP (pFieldAddr 2 v16) fun v17 =>
bindW (st 1 v17 v15 w10) fun w18 =>
bindP (pNil x0) fun v20 =>
bindP (pFieldAddr 2 v20) fun v21 =>
bindP (ld1 v21 w18) fun v22 =>
bindP (bLt v22 x2) fun v23 =>
ifB v23 (
bindP (pNil x0) fun v24 =>
bindP (pFieldAddr 3 v24) fun v25 =>
bindP (pFieldAddr 2 v25) fun v26 =>
bindP (ld1 v26 w18) fun v27 =>
bindP (bAdd v27 (.int .i64 1)) fun v28 =>
bindP (pNil x0) fun v29 =>
bindP (pFieldAddr 3 v29) fun v30 =>
bindP (pFieldAddr 2 v30) fun v31 =>
bindW (st 1 v31 v28 w18) fun w32 =>
K (.tuple #[(.bool false), (.int .i64 0)]) w32) (
bindP (pNil x0) fun v34 =>
bindP (pFieldAddr 2 v34) fun v35 =>
bindW (st 1 v35 (.int .i64 0) w18) fun w36 =>
bindP (pNil x0) fun v38 =>
bindP (pFieldAddr 3 v38) fun v39 =>
bindP (pFieldAddr 1 v39) fun v40 =>
bindP (ld1 v40 w36) fun v41 =>
bindP (bAdd v41 (.int .i64 1)) fun v42 =>
bindP (pNil x0) fun v43 =>
bindP (pFieldAddr 3 v43) fun v44 =>
bindP (pFieldAddr 1 v44) fun v45 =>
bindW (st 1 v45 v42 w36) fun w46 =>
K (.tuple #[(.bool true), (.int .i64 0)]) w46))

def G9 : FnT := fun args w K => on3 (fun x0 x1 x2 => F9 x0 x1 x2 w K) args
theorem c9 {x0 x1 x2 : Value} {w : World} {K : Value → World → Prop} (h : F9 x0 x1 x2 w K) : callP G9 [x0, x1, x2] w K := callP_intro h
theorem ok9 : OkF Try.prog 9 G9 := by
  refine okF_of (tab_ok (l := T9) trivial) mixed (n := fuel) Try.func9 Try.call9 fun args w K h => ?_
  obtain ⟨x0, x1, x2, rfl, hh⟩ := of_on3 h
  exact fnD_list (c := bodyOf Try.f9) (by kernel_rfl) (by kernel_rfl) (Eq.mp (by kernel_rfl) hh)

-- 10 (*gong/link.Link).Tally
def T10 : List (Nat × FnT) := []
def F10 (x0 : Value) (w : World) (K : Value → World → Prop) : Prop :=
eAlloc Try.prog 31 w fun v2 w1 =>
bindP (pNil x0) fun v3 =>
bindP (pFieldAddr 3 v3) fun v4 =>
bindP (ldN 4 v4 w1) fun v5 =>
bindW (st 4 v2 v5 w1) fun w6 =>
bindP (ldN 4 v2 w6) fun v8 =>
K v8 w6

def G10 : FnT := fun args w K => on1 (fun x0 => F10 x0 w K) args
theorem c10 {x0 : Value} {w : World} {K : Value → World → Prop} (h : F10 x0 w K) : callP G10 [x0] w K := callP_intro h
theorem ok10 : OkF Try.prog 10 G10 := by
  refine okF_of (tab_ok (l := T10) trivial) mixed (n := fuel) Try.func10 Try.call10 fun args w K h => ?_
  obtain ⟨x0, rfl, hh⟩ := of_on1 h
  exact fnD_list (c := bodyOf Try.f10) (by kernel_rfl) (by kernel_rfl) (Eq.mp (by kernel_rfl) hh)

-- 3 gong/gonglaw32.LinkPass
def T3 : List (Nat × FnT) := [(6, G6), (7, G7), (8, G8), (9, G9), (10, G10)]
def F3_3b (s0 : Value) (s1 : Value) (s5 : Value) (w : World) (K : Value → World → Prop) : Prop :=
bindP (bQuo s1 s0) fun v1 =>
bindP (bQuo s1 s0) fun v2 =>
bindP (bSub s1 v2) fun v3 =>
bindP (fBuild Try.prog 31 [(0, s1), (1, v1), (2, v3)]) fun v4 =>
callP G10 [s5] w.drew fun v6 w5 =>
bindP (bEq Try.prog 31 (.tmp 51) (.tmp 61) v6 v4) fun v7 =>
K v7 w5

def F3_3 (s0 : Value) (s1 : Value) (s5 : Value) (w : World) (K : Value → World → Prop) : Prop := F3_3b s0 s1 s5 w K

theorem ok3_3 {K : Value → World → Prop} {kn kr : Env → World → Prop} {ke : Nat → Env → World → Prop}
    (hn : ∀ e w, (fun e w => K (e 4) w) e w → kn e w) (hr : ∀ e w, endD Try.prog [.tmp 4] K e w → kr e w) (he : ∀ i e w, noE i e w → ke i e w) :
    ∀ e w, F3_3 (e 0) (e 1) (e 5) w K → denL Try.prog (tabOf T3) 63 fuel ((flat (bodyOf Try.f3)).drop 7) e w kn kr ke := by
  intro e w h
  unfold F3_3 at h
  have e1 : ∀ (_ : Unit), F3_3b (e 0) (e 1) (e 5) w K = denL Try.prog (tabOf T3) 63 fuel ((flat (bodyOf Try.f3)).drop 7) e w (fun e w => K (e 4) w) (endD Try.prog [.tmp 4] K) noE := by intro _; kernel_rfl
  exact seg_end (Eq.mp (e1 ()) h) hn hr he

def F3_2b (s0 : Value) (s1 : Value) (s5 : Value) (s7 : Value) (w : World) (K : Value → World → Prop) (Y0 : Value → Value → Value → Value → World → Prop) (Y1 : Value → Value → Value → World → Prop) : Prop :=
bindP (bLe s7 s1) fun v8 =>
ifB v8 (
callP G9 [s5, (.string ⟨#[120]⟩), s0] w fun v10 w9 =>
bindP (pTuple v10 0) fun v11 =>
bindP (pTuple v10 1) fun v12 =>
bindP (bNe Try.prog 24 (.tmp 40) (.const (.int .i64 0)) v12 (.int .i64 0)) fun v13 =>
stepM (gd false v13) v11 fun v14 =>
stepM (gd false v13) s7 fun v15 =>
stepM (gd false v13) s0 fun v16 =>
Sx.stepG (gd false v13) (bRem v15 v16) fun v17 =>
Sx.stepG (gd false v13) (bEq Try.prog 3 (.tmp 46) (.const (.int .i64 0)) v17 (.int .i64 0)) fun v18 =>
Sx.stepG (gd false v13) (bNe Try.prog 4 (.tmp 43) (.tmp 47) v14 v18) fun v19 =>
bindP (pPick v13 (.bool true) v19) fun v20 =>
ifB v20 (
K (.bool false) w9) (
bindP (bAdd s7 (.int .i64 1)) fun v21 =>
Y0 s0 s1 s5 v21 w9)) (
Y1 s0 s1 s5 w)

def F3_2L : Nat → Value → Value → Value → Value → World → (Value → World → Prop) → Prop
  | 0, _, _, _, _, _, _ => False
  | n + 1, s0, s1, s5, s7, w, K => F3_2b s0 s1 s5 s7 w K (fun a0 a1 a5 a7 w => F3_2L n a0 a1 a5 a7 w K) (fun a0 a1 a5 w => F3_3 a0 a1 a5 w K)

def F3_2 (s0 : Value) (s1 : Value) (s5 : Value) (s7 : Value) (w : World) (K : Value → World → Prop) : Prop := F3_2L fuel s0 s1 s5 s7 w K

theorem ok3_2 {K : Value → World → Prop} {kn kr : Env → World → Prop} {ke : Nat → Env → World → Prop}
    (hn : ∀ e w, (fun e w => K (e 4) w) e w → kn e w) (hr : ∀ e w, endD Try.prog [.tmp 4] K e w → kr e w) (he : ∀ i e w, noE i e w → ke i e w) :
    ∀ e w, F3_2 (e 0) (e 1) (e 5) (e 7) w K → denL Try.prog (tabOf T3) 63 fuel ((flat (bodyOf Try.f3)).drop 6) e w kn kr ke := by
  intro e w h
  unfold F3_2 at h
  refine seg_loop (id := 0) (body := (loopB (blkB (nthC (flat (bodyOf Try.f3)) 6)))) (l2 := (flat (bodyOf Try.f3)).drop 7) (by kernel_rfl) ?_
  refine loop_ok (FL := fun m e w => F3_2L m (e 0) (e 1) (e 5) (e 7) w K) (fr := endD Try.prog [.tmp 4] K) (fe := (blkK 0 (fun e w => F3_3 (e 0) (e 1) (e 5) w K) noE)) (fun _ _ h => h) ?_ hr (blkK_mono (fun e w h => ok3_3 hn hr he e w h) he) fuel e w h
  intro m e w h
  have h : F3_2L (m + 1) (e 0) (e 1) (e 5) (e 7) w K := h
  rw [F3_2L] at h
  have e1 : ∀ (Y0 : Value → Value → Value → Value → World → Prop) (Y1 : Value → Value → Value → World → Prop), F3_2b (e 0) (e 1) (e 5) (e 7) w K Y0 Y1 = denL Try.prog (tabOf T3) 63 fuel (flat (loopB (blkB (nthC (flat (bodyOf Try.f3)) 6)))) e w (fun e w => Y0 (e 0) (e 1) (e 5) (e 7) w) (endD Try.prog [.tmp 4] K) (blkK 0 (fun e w => Y1 (e 0) (e 1) (e 5) w) noE) := by intro Y0 Y1; kernel_rfl
  exact Eq.mp (e1 (fun a0 a1 a5 a7 w => F3_2L m a0 a1 a5 a7 w K) (fun a0 a1 a5 w => F3_3 a0 a1 a5 w K)) h

def F3_1b (s0 : Value) (s1 : Value) (w : World) (K : Value → World → Prop) (Y0 : Value → Value → Value → Value → World → Prop) : Prop :=
callP G6 [s0, (.int .i64 20)] w fun v23 w22 =>
bindP (bAdd (.int .i64 1) v23) fun v24 =>
callP G6 [s1, (.int .i64 100)] w22 fun v26 w25 =>
callP G7 [(.int .i64 1)] w25 fun v28 w27 =>
bindP (pTuple v28 0) fun v29 =>
bindP (pTuple v28 1) fun v30 =>
bindP (bEq Try.prog 23 (.tmp 19) (.const (.pointer none)) v29 (.pointer none)) fun v31 =>
stepM (gd false v31) v30 fun v32 =>
Sx.stepG (gd false v31) (bNe Try.prog 24 (.tmp 22) (.const (.int .i64 0)) v32 (.int .i64 0)) fun v33 =>
bindP (pPick v31 (.bool true) v33) fun v34 =>
stepE (gd false v34) (fun k => callP G8 [] w27 k) w27 fun v36 w35 =>
Sx.stepG (gd false v34) (uNot v36) fun v37 =>
bindP (pPick v34 (.bool true) v37) fun v38 =>
ifB v38 (
K (.bool false) w35) (
Y0 v24 v26 v29 (.int .i64 1) w35)

def F3_1 (s0 : Value) (s1 : Value) (w : World) (K : Value → World → Prop) : Prop := F3_1b s0 s1 w K (fun a0 a1 a5 a7 w => F3_2 a0 a1 a5 a7 w K)

theorem ok3_1 {K : Value → World → Prop} {kn kr : Env → World → Prop} {ke : Nat → Env → World → Prop}
    (hn : ∀ e w, (fun e w => K (e 4) w) e w → kn e w) (hr : ∀ e w, endD Try.prog [.tmp 4] K e w → kr e w) (he : ∀ i e w, noE i e w → ke i e w) :
    ∀ e w, F3_1 (e 0) (e 1) w K → denL Try.prog (tabOf T3) 63 fuel ((flat (bodyOf Try.f3)).drop 0) e w kn kr ke := by
  intro e w h
  unfold F3_1 at h
  have e1 : ∀ (Y0 : Value → Value → Value → Value → World → Prop), F3_1b (e 0) (e 1) w K Y0 = denL Try.prog (tabOf T3) 63 fuel (((flat (bodyOf Try.f3)).drop 0).take 6) e w (fun e w => Y0 (e 0) (e 1) (e 5) (e 7) w) (endD Try.prog [.tmp 4] K) noE := by intro Y0; kernel_rfl
  exact seg 6 (Eq.mp (e1 (fun a0 a1 a5 a7 w => F3_2 a0 a1 a5 a7 w K)) h) (fun e w h => ok3_2 hn hr he e w h) hr he

def F3 (x0 : Value) (x1 : Value) (w : World) (K : Value → World → Prop) : Prop := F3_1 x0 x1 w K

def G3 : FnT := fun args w K => on2 (fun x0 x1 => F3 x0 x1 w K) args
theorem c3 {x0 x1 : Value} {w : World} {K : Value → World → Prop} (h : F3 x0 x1 w K) : callP G3 [x0, x1] w K := callP_intro h
theorem ok3 : OkF Try.prog 3 G3 := by
  refine okF_of (tab_ok (l := T3) ⟨ok6, ok7, ok8, ok9, ok10, trivial⟩) mixed (n := fuel) Try.func3 Try.call3 fun args w K h => ?_
  obtain ⟨x0, x1, rfl, hh⟩ := of_on2 h
  unfold F3 at hh
  exact fnD_list (c := bodyOf Try.f3) (by kernel_rfl) (by kernel_rfl) (ok3_1 (fun _ _ h => h) (fun _ _ h => h) (fun _ _ _ h => h) (initE [x0, x1]) w hh)

-- 13 (*gong/link.Link).Lose
def T13 : List (Nat × FnT) := [(23, G23), (24, G24)]
def F13 (x0 : Value) (x1 : Value) (w : World) (K : Value → World → Prop) : Prop :=
callP G23 [x0, x1] w fun v2 w1 =>
bindP (uNot v2) fun v3 =>
ifB v3 (
K (.int .i64 5) w1) (
callP G24 [x0, x1] w1 fun _ w4 =>
bindP (pNil x0) fun v6 =>
bindP (pFieldAddr 3 v6) fun v7 =>
bindP (pFieldAddr 2 v7) fun v8 =>
bindP (ld1 v8 w4) fun v9 =>
bindP (bAdd v9 (.int .i64 1)) fun v10 =>
bindP (pNil x0) fun v11 =>
bindP (pFieldAddr 3 v11) fun v12 =>
bindP (pFieldAddr 2 v12) fun v13 =>
bindW (st 1 v13 v10 w4) fun w14 =>
K (.int .i64 0) w14)

def G13 : FnT := fun args w K => on2 (fun x0 x1 => F13 x0 x1 w K) args
theorem c13 {x0 x1 : Value} {w : World} {K : Value → World → Prop} (h : F13 x0 x1 w K) : callP G13 [x0, x1] w K := callP_intro h
theorem ok13 : OkF Try.prog 13 G13 := by
  refine okF_of (tab_ok (l := T13) ⟨ok23, ok24, trivial⟩) mixed (n := fuel) Try.func13 Try.call13 fun args w K h => ?_
  obtain ⟨x0, x1, rfl, hh⟩ := of_on2 h
  exact fnD_list (c := bodyOf Try.f13) (by kernel_rfl) (by kernel_rfl) (Eq.mp (by kernel_rfl) hh)

-- 15 (*gong/link.Link).Clear
def T15 : List (Nat × FnT) := []
def F15 (x0 : Value) (w : World) (K : Value → World → Prop) : Prop :=
bindP (pNil x0) fun v1 =>
bindP (pFieldAddr 3 v1) fun v2 =>
bindP (pFieldAddr 2 v2) fun v3 =>
bindP (ld1 v3 w.drew) fun v4 =>
bindP (pNil x0) fun v5 =>
bindP (pFieldAddr 1 v5) fun v6 =>
bindP (ld1 v6 w.drew) fun v7 =>
bindP (lenL v7) fun v8 =>
bindP (bAdd v4 v8) fun v9 =>
bindP (pNil x0) fun v10 =>
bindP (pFieldAddr 3 v10) fun v11 =>
bindP (pFieldAddr 2 v11) fun v12 =>
bindW (st 1 v12 v9 w.drew) fun w13 =>
bindP (pNil x0) fun v15 =>
bindP (pFieldAddr 1 v15) fun v16 =>
bindW (st 1 v16 (.slice none 0 0) w13) fun w17 =>
K (.tuple #[]) w17

def G15 : FnT := fun args w K => on1 (fun x0 => F15 x0 w K) args
theorem c15 {x0 : Value} {w : World} {K : Value → World → Prop} (h : F15 x0 w K) : callP G15 [x0] w K := callP_intro h
theorem ok15 : OkF Try.prog 15 G15 := by
  refine okF_of (tab_ok (l := T15) trivial) mixed (n := fuel) Try.func15 Try.call15 fun args w K h => ?_
  obtain ⟨x0, rfl, hh⟩ := of_on1 h
  exact fnD_list (c := bodyOf Try.f15) (by kernel_rfl) (by kernel_rfl) (Eq.mp (by kernel_rfl) hh)

-- 16 (*gong/link.Link).Len
def T16 : List (Nat × FnT) := []
def F16 (x0 : Value) (w : World) (K : Value → World → Prop) : Prop :=
bindP (pNil x0) fun v1 =>
bindP (pFieldAddr 1 v1) fun v2 =>
bindP (ld1 v2 w) fun v3 =>
bindP (lenL v3) fun v4 =>
K v4 w

def G16 : FnT := fun args w K => on1 (fun x0 => F16 x0 w K) args
theorem c16 {x0 : Value} {w : World} {K : Value → World → Prop} (h : F16 x0 w K) : callP G16 [x0] w K := callP_intro h
theorem ok16 : OkF Try.prog 16 G16 := by
  refine okF_of (tab_ok (l := T16) trivial) mixed (n := fuel) Try.func16 Try.call16 fun args w K h => ?_
  obtain ⟨x0, rfl, hh⟩ := of_on1 h
  exact fnD_list (c := bodyOf Try.f16) (by kernel_rfl) (by kernel_rfl) (Eq.mp (by kernel_rfl) hh)

-- 4 gong/gonglaw32.LinkEach
def T4 : List (Nat × FnT) := [(6, G6), (7, G7), (8, G8), (9, G9), (10, G10), (11, G11), (12, G12), (13, G13), (14, G14), (15, G15), (16, G16)]
def F4_3b (w : World) (K : Value → World → Prop) : Prop :=
K (.bool true) w

def F4_3 (w : World) (K : Value → World → Prop) : Prop := F4_3b w K

theorem ok4_3 {K : Value → World → Prop} {kn kr : Env → World → Prop} {ke : Nat → Env → World → Prop}
    (hn : ∀ e w, (fun e w => K (e 4) w) e w → kn e w) (hr : ∀ e w, endD Try.prog [.tmp 4] K e w → kr e w) (he : ∀ i e w, noE i e w → ke i e w) :
    ∀ e w, F4_3 w K → denL Try.prog (tabOf T4) 128 fuel ((flat (bodyOf Try.f4)).drop 8) e w kn kr ke := by
  intro e w h
  unfold F4_3 at h
  have e1 : ∀ (_ : Unit), F4_3b w K = denL Try.prog (tabOf T4) 128 fuel ((flat (bodyOf Try.f4)).drop 8) e w (fun e w => K (e 4) w) (endD Try.prog [.tmp 4] K) noE := by intro _; kernel_rfl
  exact seg_end (Eq.mp (e1 ()) h) hn hr he

def F4_6b (s0 : Value) (s1 : Value) (s5 : Value) (s7 : Value) (s8 : Value) (w : World) (_K : Value → World → Prop) (R3 : Value → Value → Value → Value → Value → World → Prop) : Prop :=
bindP (bAdd s8 (.int .i64 1)) fun v1 =>
R3 s0 s1 s5 s7 v1 w

def F4_6 (s0 : Value) (s1 : Value) (s5 : Value) (s7 : Value) (s8 : Value) (w : World) (K : Value → World → Prop) (R3 : Value → Value → Value → Value → Value → World → Prop) : Prop := F4_6b s0 s1 s5 s7 s8 w K R3

theorem ok4_6 (R3 : Value → Value → Value → Value → Value → World → Prop) {K : Value → World → Prop} {kn kr : Env → World → Prop} {ke : Nat → Env → World → Prop}
    (hn : ∀ e w, (fun e w => R3 (e 0) (e 1) (e 5) (e 7) (e 8) w) e w → kn e w) (hr : ∀ e w, endD Try.prog [.tmp 4] K e w → kr e w) (he : ∀ i e w, (blkK 0 (fun e w => F4_3 w K) noE) i e w → ke i e w) :
    ∀ e w, F4_6 (e 0) (e 1) (e 5) (e 7) (e 8) w K R3 → denL Try.prog (tabOf T4) 128 fuel ((flat (loopB (blkB (nthC (flat (bodyOf Try.f4)) 7)))).drop 3) e w kn kr ke := by
  intro e w h
  unfold F4_6 at h
  have e1 : ∀ (_ : Unit), F4_6b (e 0) (e 1) (e 5) (e 7) (e 8) w K R3 = denL Try.prog (tabOf T4) 128 fuel ((flat (loopB (blkB (nthC (flat (bodyOf Try.f4)) 7)))).drop 3) e w (fun e w => R3 (e 0) (e 1) (e 5) (e 7) (e 8) w) (endD Try.prog [.tmp 4] K) (blkK 0 (fun e w => F4_3 w K) noE) := by intro _; kernel_rfl
  exact seg_end (Eq.mp (e1 ()) h) hn hr he

def F4_8b (s0 : Value) (s1 : Value) (s5 : Value) (s7 : Value) (s8 : Value) (w : World) (K : Value → World → Prop) (R3 : Value → Value → Value → Value → Value → World → Prop) (Y0 : Value → Value → Value → Value → Value → World → Prop) : Prop :=
callP G10 [s5] w fun v3 w2 =>
eAlloc Try.prog 31 w2 fun v5 w4 =>
bindW (st 4 v5 v3 w4) fun w6 =>
bindP (pFieldAddr 0 v5) fun v8 =>
bindP (ld1 v8 w6.drew) fun v9 =>
bindP (pFieldAddr 3 v5) fun v10 =>
bindP (ld1 v10 w6.drew) fun v11 =>
bindP (bAdd v9 v11) fun v12 =>
bindP (pFieldAddr 1 v5) fun v13 =>
bindP (ld1 v13 w6.drew) fun v14 =>
bindP (pFieldAddr 2 v5) fun v15 =>
bindP (ld1 v15 w6.drew) fun v16 =>
bindP (bAdd v14 v16) fun v17 =>
callP G16 [s5] w6.drew fun v19 w18 =>
(fok true (ld1 v8 w18) v9 ∧ fok true (ld1 v10 w18) v11 ∧ fok true (ld1 v13 w18) v14 ∧ fok true (ld1 v15 w18) v16) ∧ (bindP (bAdd v17 v19) fun v20 =>
bindP (bNe Try.prog 3 (.tmp 112) (.tmp 120) v12 v20) fun v21 =>
stepM (gd false v21) s5 fun v22 =>
stepM (gd false v21) s0 fun v23 =>
stepE (gd false v21) (fun k => callP G16 [v22] w18 k) w18 fun v25 w24 =>
Sx.stepG (gd false v21) (bGt v25 v23) fun v26 =>
bindP (pPick v21 (.bool true) v26) fun v27 =>
ifB v27 (
K (.bool false) w24) (
Y0 s0 s1 s5 s7 s8 w24))

def F4_8 (s0 : Value) (s1 : Value) (s5 : Value) (s7 : Value) (s8 : Value) (w : World) (K : Value → World → Prop) (R3 : Value → Value → Value → Value → Value → World → Prop) : Prop := F4_8b s0 s1 s5 s7 s8 w K R3 (fun a0 a1 a5 a7 a8 w => F4_6 a0 a1 a5 a7 a8 w K R3)

theorem ok4_8 (R3 : Value → Value → Value → Value → Value → World → Prop) {K : Value → World → Prop} {kn kr : Env → World → Prop} {ke : Nat → Env → World → Prop}
    (hn : ∀ e w, (fun e w => F4_6 (e 0) (e 1) (e 5) (e 7) (e 8) w K R3) e w → kn e w) (hr : ∀ e w, endD Try.prog [.tmp 4] K e w → kr e w) (he : ∀ i e w, (blkK 1 (fun e w => F4_6 (e 0) (e 1) (e 5) (e 7) (e 8) w K R3) (blkK 0 (fun e w => F4_3 w K) noE)) i e w → ke i e w) :
    ∀ e w, F4_8 (e 0) (e 1) (e 5) (e 7) (e 8) w K R3 → denL Try.prog (tabOf T4) 128 fuel ((flat (blkB (nthC (flat (loopB (blkB (nthC (flat (bodyOf Try.f4)) 7)))) 2))).drop 5) e w kn kr ke := by
  intro e w h
  unfold F4_8 at h
  have e1 : ∀ (Y0 : Value → Value → Value → Value → Value → World → Prop), F4_8b (e 0) (e 1) (e 5) (e 7) (e 8) w K R3 Y0 = denL Try.prog (tabOf T4) 128 fuel ((flat (blkB (nthC (flat (loopB (blkB (nthC (flat (bodyOf Try.f4)) 7)))) 2))).drop 5) e w (fun e w => Y0 (e 0) (e 1) (e 5) (e 7) (e 8) w) (endD Try.prog [.tmp 4] K) (blkK 1 (fun e w => Y0 (e 0) (e 1) (e 5) (e 7) (e 8) w) (blkK 0 (fun e w => F4_3 w K) noE)) := by intro Y0; kernel_rfl
  exact seg_end (Eq.mp (e1 (fun a0 a1 a5 a7 a8 w => F4_6 a0 a1 a5 a7 a8 w K R3)) h) hn hr he

def F4_7b (s0 : Value) (s1 : Value) (s5 : Value) (s7 : Value) (s8 : Value) (w : World) (K : Value → World → Prop) (R3 : Value → Value → Value → Value → Value → World → Prop) (Y0 : Value → Value → Value → Value → Value → World → Prop) (Y1 : Value → Value → Value → Value → Value → World → Prop) : Prop :=
bindP (pIndexL 3 s1 s8) fun v28 =>
bindP (ldN 3 v28 w) fun v29 =>
eAlloc Try.prog 37 w fun v31 w30 =>
bindW (st 3 v31 v29 w30) fun w32 =>
bindP (pFieldAddr 2 v31) fun v34 =>
bindP (ld1 v34 w32) fun v35 =>
bindP (lenS v35) fun v36 =>
bindP (bGt v36 (.int .i64 100)) fun v37 =>
ifB v37 (
Y0 s0 s1 s5 s7 s8 w32) (
bindP (pFieldAddr 0 v31) fun v38 =>
bindP (ld1 v38 w32) fun v39 =>
callP G6 [v39, (.int .i64 6)] w32 fun v41 w40 =>
bindP (bEq Try.prog 3 (.tmp 52) (.const (.int .i64 0)) v41 (.int .i64 0)) fun v42 =>
ifB v42 (
bindP (pFieldAddr 2 v31) fun v43 =>
bindP (ld1 v43 w40) fun v44 =>
callP G11 [s5, v44] w40 fun v46 w45 =>
bindP (bEq Try.prog 24 (.tmp 60) (.const (.int .i64 0)) v46 (.int .i64 0)) fun v47 =>
ifB v47 (
bindP (pFieldAddr 2 v31) fun v48 =>
bindP (ld1 v48 w45) fun v49 =>
bindP (fLook Try.prog 35 s7 v49 false w45) fun v50 =>
bindP (bAdd v50 (.int .i64 1)) fun v51 =>
eMapSet Try.prog 35 s7 v49 v51 w45 fun _ w52 =>
Y1 s0 s1 s5 s7 s8 w52) (
Y1 s0 s1 s5 s7 s8 w45)) (
bindP (bEq Try.prog 3 (.tmp 52) (.const (.int .i64 1)) v41 (.int .i64 1)) fun v54 =>
ifB v54 (
bindP (pFieldAddr 1 v31) fun v55 =>
bindP (ld1 v55 w40) fun v56 =>
callP G12 [s5, v56] w40 fun v58 w57 =>
bindP (pTuple v58 0) fun v59 =>
bindP (pTuple v58 1) fun v60 =>
bindP (bEq Try.prog 24 (.tmp 76) (.const (.int .i64 0)) v60 (.int .i64 0)) fun v61 =>
stepM (gd true v61) s7 fun v62 =>
stepM (gd true v61) v59 fun v63 =>
Sx.stepG (gd true v61) (fLook Try.prog 35 v62 v63 false w57) fun v64 =>
Sx.stepG (gd true v61) (bEq Try.prog 3 (.tmp 81) (.const (.int .i64 0)) v64 (.int .i64 0)) fun v65 =>
bindP (pPick v61 v65 (.bool false)) fun v66 =>
ifB v66 (
K (.bool false) w57) (
Y1 s0 s1 s5 s7 s8 w57)) (
bindP (bEq Try.prog 3 (.tmp 52) (.const (.int .i64 2)) v41 (.int .i64 2)) fun v67 =>
ifB v67 (
bindP (pFieldAddr 1 v31) fun v68 =>
bindP (ld1 v68 w40) fun v69 =>
callP G13 [s5, v69] w40 fun _ w70 =>
Y1 s0 s1 s5 s7 s8 w70) (
bindP (bEq Try.prog 3 (.tmp 52) (.const (.int .i64 3)) v41 (.int .i64 3)) fun v72 =>
ifB v72 (
bindP (pFieldAddr 1 v31) fun v73 =>
bindP (ld1 v73 w40) fun v74 =>
callP G14 [s5, v74] w40 fun _ w75 =>
Y1 s0 s1 s5 s7 s8 w75) (
bindP (bEq Try.prog 3 (.tmp 52) (.const (.int .i64 4)) v41 (.int .i64 4)) fun v77 =>
ifB v77 (
bindP (pFieldAddr 2 v31) fun v78 =>
bindP (ld1 v78 w40.drew) fun v79 =>
bindP (pFieldAddr 1 v31) fun v80 =>
bindP (ld1 v80 w40.drew) fun v81 =>
callP G6 [v81, (.int .i64 5)] w40.drew fun v83 w82 =>
fok true (ld1 v78 w82) v79 ∧ (bindP (bAdd (.int .i64 1) v83) fun v84 =>
callP G9 [s5, v79, v84] w82 fun _ w85 =>
Y1 s0 s1 s5 s7 s8 w85)) (
callP G15 [s5] w40 fun _ w87 =>
Y1 s0 s1 s5 s7 s8 w87))))))

def F4_7 (s0 : Value) (s1 : Value) (s5 : Value) (s7 : Value) (s8 : Value) (w : World) (K : Value → World → Prop) (R3 : Value → Value → Value → Value → Value → World → Prop) : Prop := F4_7b s0 s1 s5 s7 s8 w K R3 (fun a0 a1 a5 a7 a8 w => F4_6 a0 a1 a5 a7 a8 w K R3) (fun a0 a1 a5 a7 a8 w => F4_8 a0 a1 a5 a7 a8 w K R3)

theorem ok4_7 (R3 : Value → Value → Value → Value → Value → World → Prop) {K : Value → World → Prop} {kn kr : Env → World → Prop} {ke : Nat → Env → World → Prop}
    (hn : ∀ e w, (fun e w => F4_6 (e 0) (e 1) (e 5) (e 7) (e 8) w K R3) e w → kn e w) (hr : ∀ e w, endD Try.prog [.tmp 4] K e w → kr e w) (he : ∀ i e w, (blkK 1 (fun e w => F4_6 (e 0) (e 1) (e 5) (e 7) (e 8) w K R3) (blkK 0 (fun e w => F4_3 w K) noE)) i e w → ke i e w) :
    ∀ e w, F4_7 (e 0) (e 1) (e 5) (e 7) (e 8) w K R3 → denL Try.prog (tabOf T4) 128 fuel ((flat (blkB (nthC (flat (loopB (blkB (nthC (flat (bodyOf Try.f4)) 7)))) 2))).drop 0) e w kn kr ke := by
  intro e w h
  unfold F4_7 at h
  have e1 : ∀ (Y0 : Value → Value → Value → Value → Value → World → Prop) (Y1 : Value → Value → Value → Value → Value → World → Prop), F4_7b (e 0) (e 1) (e 5) (e 7) (e 8) w K R3 Y0 Y1 = denL Try.prog (tabOf T4) 128 fuel (((flat (blkB (nthC (flat (loopB (blkB (nthC (flat (bodyOf Try.f4)) 7)))) 2))).drop 0).take 5) e w (fun e w => Y1 (e 0) (e 1) (e 5) (e 7) (e 8) w) (endD Try.prog [.tmp 4] K) (blkK 1 (fun e w => Y0 (e 0) (e 1) (e 5) (e 7) (e 8) w) (blkK 0 (fun e w => F4_3 w K) noE)) := by intro Y0 Y1; kernel_rfl
  exact seg 5 (Eq.mp (e1 (fun a0 a1 a5 a7 a8 w => F4_6 a0 a1 a5 a7 a8 w K R3) (fun a0 a1 a5 a7 a8 w => F4_8 a0 a1 a5 a7 a8 w K R3)) h) (fun e w h => ok4_8 R3 hn hr he e w h) hr he

def F4_5 (s0 : Value) (s1 : Value) (s5 : Value) (s7 : Value) (s8 : Value) (w : World) (K : Value → World → Prop) (R3 : Value → Value → Value → Value → Value → World → Prop) : Prop := F4_7 s0 s1 s5 s7 s8 w K R3

theorem ok4_5 (R3 : Value → Value → Value → Value → Value → World → Prop) {K : Value → World → Prop} {kn kr : Env → World → Prop} {ke : Nat → Env → World → Prop}
    (hn : ∀ e w, (fun e w => R3 (e 0) (e 1) (e 5) (e 7) (e 8) w) e w → kn e w) (hr : ∀ e w, endD Try.prog [.tmp 4] K e w → kr e w) (he : ∀ i e w, (blkK 0 (fun e w => F4_3 w K) noE) i e w → ke i e w) :
    ∀ e w, F4_5 (e 0) (e 1) (e 5) (e 7) (e 8) w K R3 → denL Try.prog (tabOf T4) 128 fuel ((flat (loopB (blkB (nthC (flat (bodyOf Try.f4)) 7)))).drop 2) e w kn kr ke := by
  intro e w h
  unfold F4_5 at h
  refine seg_block (id := 1) (body := (blkB (nthC (flat (loopB (blkB (nthC (flat (bodyOf Try.f4)) 7)))) 2))) (l2 := (flat (loopB (blkB (nthC (flat (bodyOf Try.f4)) 7)))).drop 3) (by kernel_rfl) ?_
  exact ok4_7 R3 (fun e w h => ok4_6 R3 hn hr he e w h) hr (blkK_mono (fun e w h => ok4_6 R3 hn hr he e w h) he) e w h

def F4_4b (s0 : Value) (s1 : Value) (s5 : Value) (s7 : Value) (s8 : Value) (w : World) (_K : Value → World → Prop) (R3 : Value → Value → Value → Value → Value → World → Prop) (Y0 : Value → Value → Value → Value → Value → World → Prop) (Y1 : World → Prop) : Prop :=
bindP (lenL s1) fun v89 =>
bindP (bLt s8 v89) fun v90 =>
stepM (gd true v90) s8 fun v91 =>
Sx.stepG (gd true v90) (bLt v91 (.int .i64 80)) fun v92 =>
bindP (pPick v90 v92 (.bool false)) fun v93 =>
ifB v93 (
Y0 s0 s1 s5 s7 s8 w) (
Y1 w)

def F4_4 (s0 : Value) (s1 : Value) (s5 : Value) (s7 : Value) (s8 : Value) (w : World) (K : Value → World → Prop) (R3 : Value → Value → Value → Value → Value → World → Prop) : Prop := F4_4b s0 s1 s5 s7 s8 w K R3 (fun a0 a1 a5 a7 a8 w => F4_5 a0 a1 a5 a7 a8 w K R3) (fun w => F4_3 w K)

theorem ok4_4 (R3 : Value → Value → Value → Value → Value → World → Prop) {K : Value → World → Prop} {kn kr : Env → World → Prop} {ke : Nat → Env → World → Prop}
    (hn : ∀ e w, (fun e w => R3 (e 0) (e 1) (e 5) (e 7) (e 8) w) e w → kn e w) (hr : ∀ e w, endD Try.prog [.tmp 4] K e w → kr e w) (he : ∀ i e w, (blkK 0 (fun e w => F4_3 w K) noE) i e w → ke i e w) :
    ∀ e w, F4_4 (e 0) (e 1) (e 5) (e 7) (e 8) w K R3 → denL Try.prog (tabOf T4) 128 fuel ((flat (loopB (blkB (nthC (flat (bodyOf Try.f4)) 7)))).drop 0) e w kn kr ke := by
  intro e w h
  unfold F4_4 at h
  have e1 : ∀ (Y0 : Value → Value → Value → Value → Value → World → Prop) (Y1 : World → Prop), F4_4b (e 0) (e 1) (e 5) (e 7) (e 8) w K R3 Y0 Y1 = denL Try.prog (tabOf T4) 128 fuel (((flat (loopB (blkB (nthC (flat (bodyOf Try.f4)) 7)))).drop 0).take 2) e w (fun e w => Y0 (e 0) (e 1) (e 5) (e 7) (e 8) w) (endD Try.prog [.tmp 4] K) (blkK 0 (fun e w => Y1 w) noE) := by intro Y0 Y1; kernel_rfl
  exact seg 2 (Eq.mp (e1 (fun a0 a1 a5 a7 a8 w => F4_5 a0 a1 a5 a7 a8 w K R3) (fun w => F4_3 w K)) h) (fun e w h => ok4_5 R3 hn hr he e w h) hr he

def F4_2L : Nat → Value → Value → Value → Value → Value → World → (Value → World → Prop) → Prop
  | 0, _, _, _, _, _, _, _ => False
  | n + 1, s0, s1, s5, s7, s8, w, K => F4_4 s0 s1 s5 s7 s8 w K (fun a0 a1 a5 a7 a8 w => F4_2L n a0 a1 a5 a7 a8 w K)

def F4_2 (s0 : Value) (s1 : Value) (s5 : Value) (s7 : Value) (s8 : Value) (w : World) (K : Value → World → Prop) : Prop := F4_2L fuel s0 s1 s5 s7 s8 w K

theorem ok4_2 {K : Value → World → Prop} {kn kr : Env → World → Prop} {ke : Nat → Env → World → Prop}
    (hn : ∀ e w, (fun e w => K (e 4) w) e w → kn e w) (hr : ∀ e w, endD Try.prog [.tmp 4] K e w → kr e w) (he : ∀ i e w, noE i e w → ke i e w) :
    ∀ e w, F4_2 (e 0) (e 1) (e 5) (e 7) (e 8) w K → denL Try.prog (tabOf T4) 128 fuel ((flat (bodyOf Try.f4)).drop 7) e w kn kr ke := by
  intro e w h
  unfold F4_2 at h
  refine seg_loop (id := 0) (body := (loopB (blkB (nthC (flat (bodyOf Try.f4)) 7)))) (l2 := (flat (bodyOf Try.f4)).drop 8) (by kernel_rfl) ?_
  refine loop_ok (FL := fun m e w => F4_2L m (e 0) (e 1) (e 5) (e 7) (e 8) w K) (fr := endD Try.prog [.tmp 4] K) (fe := (blkK 0 (fun e w => F4_3 w K) noE)) (fun _ _ h => h) ?_ hr (blkK_mono (fun e w h => ok4_3 hn hr he e w h) he) fuel e w h
  intro m e w h
  have h : F4_2L (m + 1) (e 0) (e 1) (e 5) (e 7) (e 8) w K := h
  rw [F4_2L] at h
  exact ok4_4 (fun a0 a1 a5 a7 a8 w => F4_2L m a0 a1 a5 a7 a8 w K) (fun _ _ h => h) (fun _ _ h => h) (fun _ _ _ h => h) e w h

def F4_1b (s0 : Value) (s1 : Value) (w : World) (K : Value → World → Prop) (Y0 : Value → Value → Value → Value → Value → World → Prop) : Prop :=
callP G6 [s0, (.int .i64 20)] w fun v95 w94 =>
bindP (bAdd (.int .i64 1) v95) fun v96 =>
callP G7 [v96] w94 fun v98 w97 =>
bindP (pTuple v98 0) fun v99 =>
bindP (pTuple v98 1) fun v100 =>
bindP (bEq Try.prog 23 (.tmp 21) (.const (.pointer none)) v99 (.pointer none)) fun v101 =>
stepM (gd false v101) v100 fun v102 =>
Sx.stepG (gd false v101) (bNe Try.prog 24 (.tmp 24) (.const (.int .i64 0)) v102 (.int .i64 0)) fun v103 =>
bindP (pPick v101 (.bool true) v103) fun v104 =>
stepE (gd false v104) (fun k => callP G8 [] w97 k) w97 fun v106 w105 =>
Sx.stepG (gd false v104) (uNot v106) fun v107 =>
bindP (pPick v104 (.bool true) v107) fun v108 =>
ifB v108 (
K (.bool false) w105) (
eMakeMap none w105 fun v110 w109 =>
Y0 v96 s1 v99 v110 (.int .i64 0) w109)

def F4_1 (s0 : Value) (s1 : Value) (w : World) (K : Value → World → Prop) : Prop := F4_1b s0 s1 w K (fun a0 a1 a5 a7 a8 w => F4_2 a0 a1 a5 a7 a8 w K)

theorem ok4_1 {K : Value → World → Prop} {kn kr : Env → World → Prop} {ke : Nat → Env → World → Prop}
    (hn : ∀ e w, (fun e w => K (e 4) w) e w → kn e w) (hr : ∀ e w, endD Try.prog [.tmp 4] K e w → kr e w) (he : ∀ i e w, noE i e w → ke i e w) :
    ∀ e w, F4_1 (e 0) (e 1) w K → denL Try.prog (tabOf T4) 128 fuel ((flat (bodyOf Try.f4)).drop 0) e w kn kr ke := by
  intro e w h
  unfold F4_1 at h
  have e1 : ∀ (Y0 : Value → Value → Value → Value → Value → World → Prop), F4_1b (e 0) (e 1) w K Y0 = denL Try.prog (tabOf T4) 128 fuel (((flat (bodyOf Try.f4)).drop 0).take 7) e w (fun e w => Y0 (e 0) (e 1) (e 5) (e 7) (e 8) w) (endD Try.prog [.tmp 4] K) noE := by intro Y0; kernel_rfl
  exact seg 7 (Eq.mp (e1 (fun a0 a1 a5 a7 a8 w => F4_2 a0 a1 a5 a7 a8 w K)) h) (fun e w h => ok4_2 hn hr he e w h) hr he

def F4 (x0 : Value) (x1 : Value) (w : World) (K : Value → World → Prop) : Prop := F4_1 x0 x1 w K

def G4 : FnT := fun args w K => on2 (fun x0 x1 => F4 x0 x1 w K) args
theorem c4 {x0 x1 : Value} {w : World} {K : Value → World → Prop} (h : F4 x0 x1 w K) : callP G4 [x0, x1] w K := callP_intro h
theorem ok4 : OkF Try.prog 4 G4 := by
  refine okF_of (tab_ok (l := T4) ⟨ok6, ok7, ok8, ok9, ok10, ok11, ok12, ok13, ok14, ok15, ok16, trivial⟩) mixed (n := fuel) Try.func4 Try.call4 fun args w K h => ?_
  obtain ⟨x0, x1, rfl, hh⟩ := of_on2 h
  unfold F4 at hh
  exact fnD_list (c := bodyOf Try.f4) (by kernel_rfl) (by kernel_rfl) (ok4_1 (fun _ _ h => h) (fun _ _ h => h) (fun _ _ _ h => h) (initE [x0, x1]) w hh)

-- 17 gong/gongref32.New
def T17 : List (Nat × FnT) := []
def F17 (x0 : Value) (w : World) (K : Value → World → Prop) : Prop :=
bindP (bLt x0 (.int .i64 1)) fun v1 =>
stepM (gd false v1) x0 fun v2 =>
Sx.stepG (gd false v1) (bGt v2 (.int .i64 65536)) fun v3 =>
bindP (pPick v1 (.bool true) v3) fun v4 =>
ifB v4 (
K (.tuple #[(.pointer none), (.int .i64 1)]) w) (
bindP (fBuild Try.prog 59 [(0, x0)]) fun v5 =>
eBox 59 v5 w fun v7 w6 =>
K (.tuple #[v7, (.int .i64 0)]) w6)

def G17 : FnT := fun args w K => on1 (fun x0 => F17 x0 w K) args
theorem c17 {x0 : Value} {w : World} {K : Value → World → Prop} (h : F17 x0 w K) : callP G17 [x0] w K := callP_intro h
theorem ok17 : OkF Try.prog 17 G17 := by
  refine okF_of (tab_ok (l := T17) trivial) mixed (n := fuel) Try.func17 Try.call17 fun args w K h => ?_
  obtain ⟨x0, rfl, hh⟩ := of_on1 h
  exact fnD_list (c := bodyOf Try.f17) (by kernel_rfl) (by kernel_rfl) (Eq.mp (by kernel_rfl) hh)

-- 32 gong/gongbook.SpoilTexts
def T32 : List (Nat × FnT) := []
def F32_2b (s0 : Value) (s2 : Value) (w : World) (K : Value → World → Prop) (Y0 : Value → Value → World → Prop) : Prop :=
bindP (lenL s0) fun v1 =>
bindP (bLt s2 v1) fun v2 =>
ifB v2 (
bindP (pIndexL 1 s0 s2) fun v3 =>
bindW (st 1 v3 (.string ⟨#[97, 110, 111, 116, 104, 101, 114, 32, 111, 110, 101]⟩) w) fun w4 =>
bindP (bAdd s2 (.int .i64 1)) fun v6 =>
Y0 s0 v6 w4) (
K (.tuple #[]) w)

def F32_2L : Nat → Value → Value → World → (Value → World → Prop) → Prop
  | 0, _, _, _, _ => False
  | n + 1, s0, s2, w, K => F32_2b s0 s2 w K (fun a0 a2 w => F32_2L n a0 a2 w K)

def F32_2 (s0 : Value) (s2 : Value) (w : World) (K : Value → World → Prop) : Prop := F32_2L fuel s0 s2 w K

theorem ok32_2 {K : Value → World → Prop} {kn kr : Env → World → Prop} {ke : Nat → Env → World → Prop}
    (hn : ∀ e w, (fun e w => K (.tuple #[]) w) e w → kn e w) (hr : ∀ e w, endD Try.prog [] K e w → kr e w) (he : ∀ i e w, noE i e w → ke i e w) :
    ∀ e w, F32_2 (e 0) (e 2) w K → denL Try.prog (tabOf T32) 12 fuel ((flat (bodyOf Try.f32)).drop 1) e w kn kr ke := by
  intro e w h
  unfold F32_2 at h
  refine seg_loop (id := 0) (body := (loopB (blkB (nthC (flat (bodyOf Try.f32)) 1)))) (l2 := (flat (bodyOf Try.f32)).drop 2) (by kernel_rfl) ?_
  refine loop_ok (FL := fun m e w => F32_2L m (e 0) (e 2) w K) (fr := endD Try.prog [] K) (fe := (blkK 0 (fun e w => K (.tuple #[]) w) noE)) (fun _ _ h => h) ?_ hr (blkK_mono hn he) fuel e w h
  intro m e w h
  have h : F32_2L (m + 1) (e 0) (e 2) w K := h
  rw [F32_2L] at h
  have e1 : ∀ (Y0 : Value → Value → World → Prop), F32_2b (e 0) (e 2) w K Y0 = denL Try.prog (tabOf T32) 12 fuel (flat (loopB (blkB (nthC (flat (bodyOf Try.f32)) 1)))) e w (fun e w => Y0 (e 0) (e 2) w) (endD Try.prog [] K) (blkK 0 (fun e w => K (.tuple #[]) w) noE) := by intro Y0; kernel_rfl
  exact Eq.mp (e1 (fun a0 a2 w => F32_2L m a0 a2 w K)) h

def F32_1b (s0 : Value) (w : World) (_K : Value → World → Prop) (Y0 : Value → Value → World → Prop) : Prop :=
Y0 s0 (.int .i64 0) w

def F32_1 (s0 : Value) (w : World) (K : Value → World → Prop) : Prop := F32_1b s0 w K (fun a0 a2 w => F32_2 a0 a2 w K)

theorem ok32_1 {K : Value → World → Prop} {kn kr : Env → World → Prop} {ke : Nat → Env → World → Prop}
    (hn : ∀ e w, (fun e w => K (.tuple #[]) w) e w → kn e w) (hr : ∀ e w, endD Try.prog [] K e w → kr e w) (he : ∀ i e w, noE i e w → ke i e w) :
    ∀ e w, F32_1 (e 0) w K → denL Try.prog (tabOf T32) 12 fuel ((flat (bodyOf Try.f32)).drop 0) e w kn kr ke := by
  intro e w h
  unfold F32_1 at h
  have e1 : ∀ (Y0 : Value → Value → World → Prop), F32_1b (e 0) w K Y0 = denL Try.prog (tabOf T32) 12 fuel (((flat (bodyOf Try.f32)).drop 0).take 1) e w (fun e w => Y0 (e 0) (e 2) w) (endD Try.prog [] K) noE := by intro Y0; kernel_rfl
  exact seg 1 (Eq.mp (e1 (fun a0 a2 w => F32_2 a0 a2 w K)) h) (fun e w h => ok32_2 hn hr he e w h) hr he

def F32 (x0 : Value) (w : World) (K : Value → World → Prop) : Prop := F32_1 x0 w K

def G32 : FnT := fun args w K => on1 (fun x0 => F32 x0 w K) args
theorem c32 {x0 : Value} {w : World} {K : Value → World → Prop} (h : F32 x0 w K) : callP G32 [x0] w K := callP_intro h
theorem ok32 : OkF Try.prog 32 G32 := by
  refine okF_of (tab_ok (l := T32) trivial) mixed (n := fuel) Try.func32 Try.call32 fun args w K h => ?_
  obtain ⟨x0, rfl, hh⟩ := of_on1 h
  unfold F32 at hh
  exact fnD_list (c := bodyOf Try.f32) (by kernel_rfl) (by kernel_rfl) (ok32_1 (fun _ _ h => h) (fun _ _ h => h) (fun _ _ _ h => h) (initE [x0]) w hh)

-- 19 gong/gonglaw32.stands
def T19 : List (Nat × FnT) := [(10, G10), (16, G16), (20, G20), (21, G21), (32, G32)]
def F19 (x0 : Value) (x1 : Value) (w : World) (K : Value → World → Prop) : Prop :=
callP G10 [x0] w fun v2 w1 =>
eAlloc Try.prog 31 w1 fun v4 w3 =>
bindW (st 4 v4 v2 w3) fun w5 =>
callP G21 [x0] w5 fun v8 w7 =>
bindP (pNil x1) fun v9 =>
bindP (pFieldAddr 2 v9) fun v10 =>
bindP (ld1 v10 w7) fun v11 =>
callP G20 [v8, v11] w7 fun v13 w12 =>
callP G32 [v8] w12 fun _ w14 =>
stepM (gd true v13) x0 fun v16 =>
stepM (gd true v13) x1 fun v17 =>
Sx.stepG (gd true v13) (pNil v17) fun v18 =>
Sx.stepG (gd true v13) (pFieldAddr 2 v18) fun v19 =>
Sx.stepG (gd true v13) (ld1 v19 w14.drew) fun v20 =>
stepE (gd true v13) (fun k => callP G21 [v16] w14.drew k) w14.drew fun v22 w21 =>
fok (gd true v13) (ld1 v19 w21) v20 ∧ (stepE (gd true v13) (fun k => callP G20 [v22, v20] w21 k) w21 fun v24 w23 =>
bindP (pPick v13 v24 (.bool false)) fun v25 =>
stepM (gd true v25) x0 fun v26 =>
stepM (gd true v25) x1 fun v27 =>
Sx.stepG (gd true v25) (pNil v27) fun v28 =>
Sx.stepG (gd true v25) (pFieldAddr 2 v28) fun v29 =>
Sx.stepG (gd true v25) (ld1 v29 w23) fun v30 =>
Sx.stepG (gd true v25) (lenL v30) fun v31 =>
stepE (gd true v25) (fun k => callP G16 [v26] w23 k) w23 fun v33 w32 =>
(fok (gd true v25) (ld1 v29 w32) v30 ∧ fok (gd true v25) (lenL v30) v31) ∧ (Sx.stepG (gd true v25) (bEq Try.prog 3 (.tmp 32) (.tmp 37) v33 v31) fun v34 =>
bindP (pPick v25 v34 (.bool false)) fun v35 =>
Sx.stepG (gd true v35) (pFieldAddr 0 v4) fun v36 =>
Sx.stepG (gd true v35) (ld1 v36 w32) fun v37 =>
stepM (gd true v35) x1 fun v38 =>
Sx.stepG (gd true v35) (pNil v38) fun v39 =>
Sx.stepG (gd true v35) (pFieldAddr 3 v39) fun v40 =>
Sx.stepG (gd true v35) (pFieldAddr 0 v40) fun v41 =>
Sx.stepG (gd true v35) (ld1 v41 w32) fun v42 =>
Sx.stepG (gd true v35) (bEq Try.prog 3 (.tmp 42) (.tmp 47) v37 v42) fun v43 =>
bindP (pPick v35 v43 (.bool false)) fun v44 =>
Sx.stepG (gd true v44) (pFieldAddr 1 v4) fun v45 =>
Sx.stepG (gd true v44) (ld1 v45 w32) fun v46 =>
stepM (gd true v44) x1 fun v47 =>
Sx.stepG (gd true v44) (pNil v47) fun v48 =>
Sx.stepG (gd true v44) (pFieldAddr 3 v48) fun v49 =>
Sx.stepG (gd true v44) (pFieldAddr 1 v49) fun v50 =>
Sx.stepG (gd true v44) (ld1 v50 w32) fun v51 =>
Sx.stepG (gd true v44) (bEq Try.prog 3 (.tmp 52) (.tmp 57) v46 v51) fun v52 =>
bindP (pPick v44 v52 (.bool false)) fun v53 =>
Sx.stepG (gd true v53) (pFieldAddr 2 v4) fun v54 =>
Sx.stepG (gd true v53) (ld1 v54 w32) fun v55 =>
stepM (gd true v53) x1 fun v56 =>
Sx.stepG (gd true v53) (pNil v56) fun v57 =>
Sx.stepG (gd true v53) (pFieldAddr 3 v57) fun v58 =>
Sx.stepG (gd true v53) (pFieldAddr 2 v58) fun v59 =>
Sx.stepG (gd true v53) (ld1 v59 w32) fun v60 =>
Sx.stepG (gd true v53) (bEq Try.prog 3 (.tmp 62) (.tmp 67) v55 v60) fun v61 =>
bindP (pPick v53 v61 (.bool false)) fun v62 =>
Sx.stepG (gd true v62) (pFieldAddr 3 v4) fun v63 =>
Sx.stepG (gd true v62) (ld1 v63 w32) fun v64 =>
stepM (gd true v62) x1 fun v65 =>
Sx.stepG (gd true v62) (pNil v65) fun v66 =>
Sx.stepG (gd true v62) (pFieldAddr 3 v66) fun v67 =>
Sx.stepG (gd true v62) (pFieldAddr 3 v67) fun v68 =>
Sx.stepG (gd true v62) (ld1 v68 w32) fun v69 =>
Sx.stepG (gd true v62) (bEq Try.prog 3 (.tmp 72) (.tmp 77) v64 v69) fun v70 =>
bindP (pPick v62 v70 (.bool false)) fun v71 =>
K v71 w32))

def G19 : FnT := fun args w K => on2 (fun x0 x1 => F19 x0 x1 w K) args
theorem c19 {x0 x1 : Value} {w : World} {K : Value → World → Prop} (h : F19 x0 x1 w K) : callP G19 [x0, x1] w K := callP_intro h
theorem ok19 : OkF Try.prog 19 G19 := by
  refine okF_of (tab_ok (l := T19) ⟨ok10, ok16, ok20, ok21, ok32, trivial⟩) mixed (n := fuel) Try.func19 Try.call19 fun args w K h => ?_
  obtain ⟨x0, x1, rfl, hh⟩ := of_on2 h
  exact fnD_list (c := bodyOf Try.f19) (by kernel_rfl) (by kernel_rfl) (Eq.mp (by kernel_rfl) hh)

-- 25 (*gong/gongref32.Link).Send
def T25 : List (Nat × FnT) := []
def F25 (x0 : Value) (x1 : Value) (w : World) (K : Value → World → Prop) : Prop :=
bindP (pNil x0) fun v1 =>
bindP (pFieldAddr 2 v1) fun v2 =>
bindP (ld1 v2 w.drew) fun v3 =>
bindP (lenL v3) fun v4 =>
bindP (pNil x0) fun v5 =>
bindP (pFieldAddr 0 v5) fun v6 =>
bindP (ld1 v6 w.drew) fun v7 =>
bindP (bGe v4 v7) fun v8 =>
ifB v8 (
K (.int .i64 200) w.drew) (
bindP (pNil x0) fun v9 =>
bindP (pFieldAddr 3 v9) fun v10 =>
bindP (pFieldAddr 0 v10) fun v11 =>
bindP (ld1 v11 w.drew) fun v12 =>
bindP (bAdd v12 (.int .i64 1)) fun v13 =>
bindP (pNil x0) fun v14 =>
bindP (pFieldAddr 3 v14) fun v15 =>
bindP (pFieldAddr 0 v15) fun v16 =>
bindW (st 1 v16 v13 w.drew) fun w17 =>
eBuildSl Try.prog 49 0 [] w17 fun v20 w19 =>
bindP (pNil x0) fun v21 =>
bindP (pFieldAddr 2 v21) fun v22 =>
bindP (ld1 v22 w19) fun v23 =>
eAppend Try.prog 49 49 v20 v23 w19 fun v25 w24 =>
eBuildSl Try.prog 49 1 [(0, x1)] w24 fun v27 w26 =>
eAppend Try.prog 49 49 v25 v27 w26 fun v29 w28 =>
bindP (pNil x0) fun v30 =>
bindP (pFieldAddr 2 v30) fun v31 =>
bindW (st 1 v31 v29 w28) fun w32 =>
K (.int .i64 0) w32)

def G25 : FnT := fun args w K => on2 (fun x0 x1 => F25 x0 x1 w K) args
theorem c25 {x0 x1 : Value} {w : World} {K : Value → World → Prop} (h : F25 x0 x1 w K) : callP G25 [x0, x1] w K := callP_intro h
theorem ok25 : OkF Try.prog 25 G25 := by
  refine okF_of (tab_ok (l := T25) trivial) mixed (n := fuel) Try.func25 Try.call25 fun args w K h => ?_
  obtain ⟨x0, x1, rfl, hh⟩ := of_on2 h
  exact fnD_list (c := bodyOf Try.f25) (by kernel_rfl) (by kernel_rfl) (Eq.mp (by kernel_rfl) hh)

-- 33 (*gong/gongref32.Link).take
def T33 : List (Nat × FnT) := []
def F33 (x0 : Value) (x1 : Value) (w : World) (K : Value → World → Prop) : Prop :=
bindP (bLt x1 (.int .i64 0)) fun v1 =>
stepM (gd false v1) x1 fun v2 =>
stepM (gd false v1) x0 fun v3 =>
Sx.stepG (gd false v1) (pNil v3) fun v4 =>
Sx.stepG (gd false v1) (pFieldAddr 2 v4) fun v5 =>
Sx.stepG (gd false v1) (ld1 v5 w) fun v6 =>
Sx.stepG (gd false v1) (lenL v6) fun v7 =>
Sx.stepG (gd false v1) (bGe v2 v7) fun v8 =>
bindP (pPick v1 (.bool true) v8) fun v9 =>
ifB v9 (
K (.tuple #[(.string ⟨#[]⟩), (.bool false)]) w) (
bindP (pNil x0) fun v10 =>
bindP (pFieldAddr 2 v10) fun v11 =>
bindP (ld1 v11 w) fun v12 =>
bindP (pIndexL 1 v12 x1) fun v13 =>
bindP (ld1 v13 w) fun v14 =>
bindP (pNil x0) fun v15 =>
bindP (pFieldAddr 2 v15) fun v16 =>
bindP (ld1 v16 w.drew) fun v17 =>
bindP (pSliceL 1 v17 none (some x1) none) fun v18 =>
bindP (pNil x0) fun v19 =>
bindP (pFieldAddr 2 v19) fun v20 =>
bindP (ld1 v20 w.drew) fun v21 =>
bindP (bAdd x1 (.int .i64 1)) fun v22 =>
bindP (pSliceL 1 v21 (some v22) none none) fun v23 =>
eBuildSl Try.prog 49 0 [] w.drew fun v25 w24 =>
(fok true (ld1 v16 w24) v17 ∧ fok true (ld1 v20 w24) v21) ∧ (eAppend Try.prog 49 49 v25 v18 w24 fun v27 w26 =>
fok true (ld1 v20 w26) v21 ∧ (eAppend Try.prog 49 49 v27 v23 w26 fun v29 w28 =>
bindP (pNil x0) fun v30 =>
bindP (pFieldAddr 2 v30) fun v31 =>
bindW (st 1 v31 v29 w28) fun w32 =>
K (.tuple #[v14, (.bool true)]) w32)))

def G33 : FnT := fun args w K => on2 (fun x0 x1 => F33 x0 x1 w K) args
theorem c33 {x0 x1 : Value} {w : World} {K : Value → World → Prop} (h : F33 x0 x1 w K) : callP G33 [x0, x1] w K := callP_intro h
theorem ok33 : OkF Try.prog 33 G33 := by
  refine okF_of (tab_ok (l := T33) trivial) mixed (n := fuel) Try.func33 Try.call33 fun args w K h => ?_
  obtain ⟨x0, x1, rfl, hh⟩ := of_on2 h
  exact fnD_list (c := bodyOf Try.f33) (by kernel_rfl) (by kernel_rfl) (Eq.mp (by kernel_rfl) hh)

-- 26 (*gong/gongref32.Link).Take
def T26 : List (Nat × FnT) := [(33, G33)]
def F26 (x0 : Value) (x1 : Value) (w : World) (K : Value → World → Prop) : Prop :=
callP G33 [x0, x1] w fun v2 w1 =>
bindP (pTuple v2 0) fun v3 =>
bindP (pTuple v2 1) fun v4 =>
bindP (uNot v4) fun v5 =>
ifB v5 (
K (.tuple #[(.string ⟨#[]⟩), (.int .i64 5)]) w1) (
bindP (pNil x0) fun v6 =>
bindP (pFieldAddr 3 v6) fun v7 =>
bindP (pFieldAddr 1 v7) fun v8 =>
bindP (ld1 v8 w1) fun v9 =>
bindP (bAdd v9 (.int .i64 1)) fun v10 =>
bindP (pNil x0) fun v11 =>
bindP (pFieldAddr 3 v11) fun v12 =>
bindP (pFieldAddr 1 v12) fun v13 =>
bindW (st 1 v13 v10 w1) fun w14 =>
K (.tuple #[v3, (.int .i64 0)]) w14)

def G26 : FnT := fun args w K => on2 (fun x0 x1 => F26 x0 x1 w K) args
theorem c26 {x0 x1 : Value} {w : World} {K : Value → World → Prop} (h : F26 x0 x1 w K) : callP G26 [x0, x1] w K := callP_intro h
theorem ok26 : OkF Try.prog 26 G26 := by
  refine okF_of (tab_ok (l := T26) ⟨ok33, trivial⟩) mixed (n := fuel) Try.func26 Try.call26 fun args w K h => ?_
  obtain ⟨x0, x1, rfl, hh⟩ := of_on2 h
  exact fnD_list (c := bodyOf Try.f26) (by kernel_rfl) (by kernel_rfl) (Eq.mp (by kernel_rfl) hh)

-- 27 (*gong/gongref32.Link).Lose
def T27 : List (Nat × FnT) := [(33, G33)]
def F27 (x0 : Value) (x1 : Value) (w : World) (K : Value → World → Prop) : Prop :=
callP G33 [x0, x1] w fun v2 w1 =>
bindP (pTuple v2 0) fun _ =>
bindP (pTuple v2 1) fun v4 =>
bindP (uNot v4) fun v5 =>
ifB v5 (
K (.int .i64 5) w1) (
bindP (pNil x0) fun v6 =>
bindP (pFieldAddr 3 v6) fun v7 =>
bindP (pFieldAddr 2 v7) fun v8 =>
bindP (ld1 v8 w1) fun v9 =>
bindP (bAdd v9 (.int .i64 1)) fun v10 =>
bindP (pNil x0) fun v11 =>
bindP (pFieldAddr 3 v11) fun v12 =>
bindP (pFieldAddr 2 v12) fun v13 =>
bindW (st 1 v13 v10 w1) fun w14 =>
K (.int .i64 0) w14)

def G27 : FnT := fun args w K => on2 (fun x0 x1 => F27 x0 x1 w K) args
theorem c27 {x0 x1 : Value} {w : World} {K : Value → World → Prop} (h : F27 x0 x1 w K) : callP G27 [x0, x1] w K := callP_intro h
theorem ok27 : OkF Try.prog 27 G27 := by
  refine okF_of (tab_ok (l := T27) ⟨ok33, trivial⟩) mixed (n := fuel) Try.func27 Try.call27 fun args w K h => ?_
  obtain ⟨x0, x1, rfl, hh⟩ := of_on2 h
  exact fnD_list (c := bodyOf Try.f27) (by kernel_rfl) (by kernel_rfl) (Eq.mp (by kernel_rfl) hh)

-- 28 (*gong/gongref32.Link).Double
def T28 : List (Nat × FnT) := []
def F28 (x0 : Value) (x1 : Value) (w : World) (K : Value → World → Prop) : Prop :=
bindP (bLt x1 (.int .i64 0)) fun v1 =>
stepM (gd false v1) x1 fun v2 =>
stepM (gd false v1) x0 fun v3 =>
Sx.stepG (gd false v1) (pNil v3) fun v4 =>
Sx.stepG (gd false v1) (pFieldAddr 2 v4) fun v5 =>
Sx.stepG (gd false v1) (ld1 v5 w) fun v6 =>
Sx.stepG (gd false v1) (lenL v6) fun v7 =>
Sx.stepG (gd false v1) (bGe v2 v7) fun v8 =>
bindP (pPick v1 (.bool true) v8) fun v9 =>
ifB v9 (
K (.int .i64 5) w) (
bindP (pNil x0) fun v10 =>
bindP (pFieldAddr 2 v10) fun v11 =>
bindP (ld1 v11 w.drew) fun v12 =>
bindP (lenL v12) fun v13 =>
bindP (pNil x0) fun v14 =>
bindP (pFieldAddr 0 v14) fun v15 =>
bindP (ld1 v15 w.drew) fun v16 =>
bindP (bGe v13 v16) fun v17 =>
ifB v17 (
K (.int .i64 200) w.drew) (
bindP (pNil x0) fun v18 =>
bindP (pFieldAddr 3 v18) fun v19 =>
bindP (pFieldAddr 3 v19) fun v20 =>
bindP (ld1 v20 w.drew) fun v21 =>
bindP (bAdd v21 (.int .i64 1)) fun v22 =>
bindP (pNil x0) fun v23 =>
bindP (pFieldAddr 3 v23) fun v24 =>
bindP (pFieldAddr 3 v24) fun v25 =>
bindW (st 1 v25 v22 w.drew) fun w26 =>
bindP (pNil x0) fun v28 =>
bindP (pFieldAddr 2 v28) fun v29 =>
bindP (ld1 v29 w26.drew) fun v30 =>
bindP (pNil x0) fun v31 =>
bindP (pFieldAddr 2 v31) fun v32 =>
bindP (ld1 v32 w26.drew) fun v33 =>
bindP (pIndexL 1 v33 x1) fun v34 =>
bindP (ld1 v34 w26.drew) fun v35 =>
(eBuildSl Try.prog 49 0 [] w26.drew fun v37 w36 =>
(fok true (ld1 v29 w36) v30 ∧ fok true (ld1 v32 w36) v33 ∧ fok true (ld1 v34 w36) v35) ∧ ((eAppend Try.prog 49 49 v37 v30 w36 fun v39 w38 =>
(fok true (ld1 v32 w38) v33 ∧ fok true (ld1 v34 w38) v35) ∧ (eBuildSl Try.prog 49 1 [(0, v35)] w38 fun v41 w40 =>
fok true (ld1 v29 w40) v30 ∧ (eAppend Try.prog 49 49 v39 v41 w40 fun v43 w42 =>
bindP (pNil x0) fun v44 =>
bindP (pFieldAddr 2 v44) fun v45 =>
bindW (st 1 v45 v43 w42) fun w46 =>
K (.int .i64 0) w46))) ∧ (eBuildSl Try.prog 49 1 [(0, v35)] w36 fun v49 w48 =>
fok true (ld1 v29 w48) v30 ∧ (eAppend Try.prog 49 49 v37 v30 w48 fun v51 w50 =>
(fok true (ld1 v32 w50) v33 ∧ fok true (ld1 v34 w50) v35) ∧ (eAppend Try.prog 49 49 v51 v49 w50 fun v53 w52 =>
bindP (pNil x0) fun v54 =>
bindP (pFieldAddr 2 v54) fun v55 =>
bindW (st 1 v55 v53 w52) fun w56 =>
K (.int .i64 0) w56))))) ∧ (eBuildSl Try.prog 49 1 [(0, v35)] w26.drew fun v59 w58 =>
fok true (ld1 v29 w58) v30 ∧ (eBuildSl Try.prog 49 0 [] w58 fun v61 w60 =>
(fok true (ld1 v29 w60) v30 ∧ fok true (ld1 v32 w60) v33 ∧ fok true (ld1 v34 w60) v35) ∧ (eAppend Try.prog 49 49 v61 v30 w60 fun v63 w62 =>
(fok true (ld1 v32 w62) v33 ∧ fok true (ld1 v34 w62) v35) ∧ (eAppend Try.prog 49 49 v63 v59 w62 fun v65 w64 =>
bindP (pNil x0) fun v66 =>
bindP (pFieldAddr 2 v66) fun v67 =>
bindW (st 1 v67 v65 w64) fun w68 =>
K (.int .i64 0) w68))))))

def G28 : FnT := fun args w K => on2 (fun x0 x1 => F28 x0 x1 w K) args
theorem c28 {x0 x1 : Value} {w : World} {K : Value → World → Prop} (h : F28 x0 x1 w K) : callP G28 [x0, x1] w K := callP_intro h
theorem ok28 : OkF Try.prog 28 G28 := by
  refine okF_of (tab_ok (l := T28) trivial) mixed (n := fuel) Try.func28 Try.call28 fun args w K h => ?_
  obtain ⟨x0, x1, rfl, hh⟩ := of_on2 h
  exact fnD_list (c := bodyOf Try.f28) (by kernel_rfl) (by kernel_rfl) (Eq.mp (by kernel_rfl) hh)

-- 29 (*gong/gongref32.Link).Pass
def T29 : List (Nat × FnT) := []
def F29 (x0 : Value) (x1 : Value) (w : World) (K : Value → World → Prop) : Prop :=
bindP (bLt x1 (.int .i64 1)) fun v1 =>
ifB v1 (
K (.tuple #[(.bool false), (.int .i64 1)]) w) (
bindP (pNil x0) fun v2 =>
bindP (pFieldAddr 3 v2) fun v3 =>
bindP (pFieldAddr 0 v3) fun v4 =>
bindP (ld1 v4 w) fun v5 =>
bindP (bAdd v5 (.int .i64 1)) fun v6 =>
bindP (pNil x0) fun v7 =>
bindP (pFieldAddr 3 v7) fun v8 =>
bindP (pFieldAddr 0 v8) fun v9 =>
bindW (st 1 v9 v6 w) fun w10 =>
bindP (pNil x0) fun v12 =>
bindP (pFieldAddr 1 v12) fun v13 =>
bindP (ld1 v13 w10) fun v14 =>
bindP (bAdd v14 (.int .i64 1)) fun v15 =>
bindP (pNil x0) fun v16 =>
bindP (pFieldAddr 1 v16) fun v17 =>
bindW (st 1 v17 v15 w10) fun w18 =>
bindP (pNil x0) fun v20 =>
bindP (pFieldAddr 1 v20) fun v21 =>
bindP (ld1 v21 w18) fun v22 =>
bindP (bGe v22 x1) fun v23 =>
ifB v23 (
bindP (pNil x0) fun v24 =>
bindP (pFieldAddr 1 v24) fun v25 =>
bindW (st 1 v25 (.int .i64 0) w18) fun w26 =>
bindP (pNil x0) fun v28 =>
bindP (pFieldAddr 3 v28) fun v29 =>
bindP (pFieldAddr 1 v29) fun v30 =>
bindP (ld1 v30 w26) fun v31 =>
bindP (bAdd v31 (.int .i64 1)) fun v32 =>
bindP (pNil x0) fun v33 =>
bindP (pFieldAddr 3 v33) fun v34 =>
bindP (pFieldAddr 1 v34) fun v35 =>
bindW (st 1 v35 v32 w26) fun w36 =>
K (.tuple #[(.bool true), (.int .i64 0)]) w36) (
bindP (pNil x0) fun v38 =>
bindP (pFieldAddr 3 v38) fun v39 =>
bindP (pFieldAddr 2 v39) fun v40 =>
bindP (ld1 v40 w18) fun v41 =>
bindP (bAdd v41 (.int .i64 1)) fun v42 =>
bindP (pNil x0) fun v43 =>
bindP (pFieldAddr 3 v43) fun v44 =>
bindP (pFieldAddr 2 v44) fun v45 =>
bindW (st 1 v45 v42 w18) fun w46 =>
K (.tuple #[(.bool false), (.int .i64 0)]) w46))

def G29 : FnT := fun args w K => on2 (fun x0 x1 => F29 x0 x1 w K) args
theorem c29 {x0 x1 : Value} {w : World} {K : Value → World → Prop} (h : F29 x0 x1 w K) : callP G29 [x0, x1] w K := callP_intro h
theorem ok29 : OkF Try.prog 29 G29 := by
  refine okF_of (tab_ok (l := T29) trivial) mixed (n := fuel) Try.func29 Try.call29 fun args w K h => ?_
  obtain ⟨x0, x1, rfl, hh⟩ := of_on2 h
  exact fnD_list (c := bodyOf Try.f29) (by kernel_rfl) (by kernel_rfl) (Eq.mp (by kernel_rfl) hh)

-- 30 (*gong/gongref32.Link).Clear
def T30 : List (Nat × FnT) := []
def F30 (x0 : Value) (w : World) (K : Value → World → Prop) : Prop :=
bindP (pNil x0) fun v1 =>
bindP (pFieldAddr 3 v1) fun v2 =>
bindP (pFieldAddr 2 v2) fun v3 =>
bindP (ld1 v3 w.drew) fun v4 =>
bindP (pNil x0) fun v5 =>
bindP (pFieldAddr 2 v5) fun v6 =>
bindP (ld1 v6 w.drew) fun v7 =>
bindP (lenL v7) fun v8 =>
bindP (bAdd v4 v8) fun v9 =>
bindP (pNil x0) fun v10 =>
bindP (pFieldAddr 3 v10) fun v11 =>
bindP (pFieldAddr 2 v11) fun v12 =>
bindW (st 1 v12 v9 w.drew) fun w13 =>
bindP (pNil x0) fun v15 =>
bindP (pFieldAddr 2 v15) fun v16 =>
bindW (st 1 v16 (.slice none 0 0) w13) fun w17 =>
K (.tuple #[]) w17

def G30 : FnT := fun args w K => on1 (fun x0 => F30 x0 w K) args
theorem c30 {x0 : Value} {w : World} {K : Value → World → Prop} (h : F30 x0 w K) : callP G30 [x0] w K := callP_intro h
theorem ok30 : OkF Try.prog 30 G30 := by
  refine okF_of (tab_ok (l := T30) trivial) mixed (n := fuel) Try.func30 Try.call30 fun args w K h => ?_
  obtain ⟨x0, rfl, hh⟩ := of_on1 h
  exact fnD_list (c := bodyOf Try.f30) (by kernel_rfl) (by kernel_rfl) (Eq.mp (by kernel_rfl) hh)

-- 31 (*gong/link.Link).Fork
def T31 : List (Nat × FnT) := [(21, G21)]
def F31 (x0 : Value) (w : World) (K : Value → World → Prop) : Prop :=
bindP (pNil x0) fun v1 =>
bindP (ldN 7 v1 w) fun v2 =>
eAlloc Try.prog 51 w fun v4 w3 =>
bindW (st 7 v4 v2 w3) fun w5 =>
callP G21 [x0] w5 fun v8 w7 =>
bindP (pFieldAddr 1 v4) fun v9 =>
bindW (st 1 v9 v8 w7) fun w10 =>
K v4 w10

def G31 : FnT := fun args w K => on1 (fun x0 => F31 x0 w K) args
theorem c31 {x0 : Value} {w : World} {K : Value → World → Prop} (h : F31 x0 w K) : callP G31 [x0] w K := callP_intro h
theorem ok31 : OkF Try.prog 31 G31 := by
  refine okF_of (tab_ok (l := T31) ⟨ok21, trivial⟩) mixed (n := fuel) Try.func31 Try.call31 fun args w K h => ?_
  obtain ⟨x0, rfl, hh⟩ := of_on1 h
  exact fnD_list (c := bodyOf Try.f31) (by kernel_rfl) (by kernel_rfl) (Eq.mp (by kernel_rfl) hh)

-- 18 gong/gonglaw32.does
def T18 : List (Nat × FnT) := [(6, G6), (9, G9), (11, G11), (12, G12), (13, G13), (14, G14), (15, G15), (19, G19), (25, G25), (26, G26), (27, G27), (28, G28), (29, G29), (30, G30), (31, G31)]
def F18 (x0 : Value) (x1 : Value) (x2 : Value) (w : World) (K : Value → World → Prop) : Prop :=
eBox 37 x2 w fun v2 w1 =>
bindP (pFieldAddr 0 v2) fun v3 =>
bindP (ld1 v3 w1) fun v4 =>
callP G6 [v4, (.int .i64 7)] w1 fun v6 w5 =>
bindP (bEq Try.prog 3 (.tmp 18) (.const (.int .i64 0)) v6 (.int .i64 0)) fun v7 =>
ifB v7 (
bindP (pFieldAddr 2 v2) fun v8 =>
bindP (ld1 v8 w5.drew) fun v9 =>
bindP (pFieldAddr 2 v2) fun v10 =>
bindP (ld1 v10 w5.drew) fun v11 =>
callP G11 [x0, v9] w5.drew fun v13 w12 =>
fok true (ld1 v10 w12) v11 ∧ (callP G25 [x1, v11] w12 fun v15 w14 =>
bindP (bEq Try.prog 24 (.tmp 40) (.tmp 44) v13 v15) fun v16 =>
K v16 w14)) (
bindP (bEq Try.prog 3 (.tmp 18) (.const (.int .i64 1)) v6 (.int .i64 1)) fun v17 =>
ifB v17 (
bindP (pFieldAddr 1 v2) fun v18 =>
bindP (ld1 v18 w5) fun v19 =>
callP G12 [x0, v19] w5 fun v21 w20 =>
bindP (pTuple v21 0) fun v22 =>
bindP (pTuple v21 1) fun v23 =>
bindP (pFieldAddr 1 v2) fun v24 =>
bindP (ld1 v24 w20) fun v25 =>
callP G26 [x1, v25] w20 fun v27 w26 =>
bindP (pTuple v27 0) fun v28 =>
bindP (pTuple v27 1) fun v29 =>
bindP (bEq Try.prog 9 (.tmp 62) (.tmp 63) v22 v28) fun v30 =>
stepM (gd true v30) v23 fun v31 =>
stepM (gd true v30) v29 fun v32 =>
Sx.stepG (gd true v30) (bEq Try.prog 24 (.tmp 66) (.tmp 67) v31 v32) fun v33 =>
bindP (pPick v30 v33 (.bool false)) fun v34 =>
K v34 w26) (
bindP (bEq Try.prog 3 (.tmp 18) (.const (.int .i64 2)) v6 (.int .i64 2)) fun v35 =>
ifB v35 (
bindP (pFieldAddr 1 v2) fun v36 =>
bindP (ld1 v36 w5.drew) fun v37 =>
bindP (pFieldAddr 1 v2) fun v38 =>
bindP (ld1 v38 w5.drew) fun v39 =>
callP G13 [x0, v37] w5.drew fun v41 w40 =>
fok true (ld1 v38 w40) v39 ∧ (callP G27 [x1, v39] w40 fun v43 w42 =>
bindP (bEq Try.prog 24 (.tmp 75) (.tmp 79) v41 v43) fun v44 =>
K v44 w42)) (
bindP (bEq Try.prog 3 (.tmp 18) (.const (.int .i64 3)) v6 (.int .i64 3)) fun v45 =>
ifB v45 (
bindP (pFieldAddr 1 v2) fun v46 =>
bindP (ld1 v46 w5.drew) fun v47 =>
bindP (pFieldAddr 1 v2) fun v48 =>
bindP (ld1 v48 w5.drew) fun v49 =>
callP G14 [x0, v47] w5.drew fun v51 w50 =>
fok true (ld1 v48 w50) v49 ∧ (callP G28 [x1, v49] w50 fun v53 w52 =>
bindP (bEq Try.prog 24 (.tmp 86) (.tmp 90) v51 v53) fun v54 =>
K v54 w52)) (
bindP (bEq Try.prog 3 (.tmp 18) (.const (.int .i64 4)) v6 (.int .i64 4)) fun v55 =>
ifB v55 (
bindP (pFieldAddr 2 v2) fun v56 =>
bindP (ld1 v56 w5) fun v57 =>
bindP (pFieldAddr 1 v2) fun v58 =>
bindP (ld1 v58 w5) fun v59 =>
callP G9 [x0, v57, v59] w5 fun v61 w60 =>
bindP (pTuple v61 0) fun v62 =>
bindP (pTuple v61 1) fun v63 =>
bindP (pFieldAddr 1 v2) fun v64 =>
bindP (ld1 v64 w60) fun v65 =>
callP G29 [x1, v65] w60 fun v67 w66 =>
bindP (pTuple v67 0) fun v68 =>
bindP (pTuple v67 1) fun v69 =>
bindP (bEq Try.prog 4 (.tmp 110) (.tmp 111) v62 v68) fun v70 =>
stepM (gd true v70) v63 fun v71 =>
stepM (gd true v70) v69 fun v72 =>
Sx.stepG (gd true v70) (bEq Try.prog 24 (.tmp 114) (.tmp 115) v71 v72) fun v73 =>
bindP (pPick v70 v73 (.bool false)) fun v74 =>
K v74 w66) (
bindP (bEq Try.prog 3 (.tmp 18) (.const (.int .i64 5)) v6 (.int .i64 5)) fun v75 =>
ifB v75 (
callP G15 [x0] w5 fun _ w76 =>
callP G30 [x1] w76 fun _ w78 =>
K (.bool true) w78) (
callP G31 [x0] w5 fun v81 w80 =>
bindP (bEq Try.prog 23 (.tmp 21) (.const (.pointer none)) v81 (.pointer none)) fun v82 =>
stepM (gd false v82) v81 fun v83 =>
stepM (gd false v82) x1 fun v84 =>
stepE (gd false v82) (fun k => callP G19 [v83, v84] w80 k) w80 fun v86 w85 =>
Sx.stepG (gd false v82) (uNot v86) fun v87 =>
bindP (pPick v82 (.bool true) v87) fun v88 =>
ifB v88 (
K (.bool false) w85) (
callP G11 [v81, (.string ⟨#[120]⟩)] w85 fun _ w89 =>
callP G13 [v81, (.int .i64 0)] w89 fun _ w91 =>
callP G9 [v81, (.string ⟨#[121]⟩), (.int .i64 1)] w91 fun _ w93 =>
K (.bool true) w93)))))))

def G18 : FnT := fun args w K => on3 (fun x0 x1 x2 => F18 x0 x1 x2 w K) args
theorem c18 {x0 x1 x2 : Value} {w : World} {K : Value → World → Prop} (h : F18 x0 x1 x2 w K) : callP G18 [x0, x1, x2] w K := callP_intro h
theorem ok18 : OkF Try.prog 18 G18 := by
  refine okF_of (tab_ok (l := T18) ⟨ok6, ok9, ok11, ok12, ok13, ok14, ok15, ok19, ok25, ok26, ok27, ok28, ok29, ok30, ok31, trivial⟩) mixed (n := fuel) Try.func18 Try.call18 fun args w K h => ?_
  obtain ⟨x0, x1, x2, rfl, hh⟩ := of_on3 h
  exact fnD_list (c := bodyOf Try.f18) (by kernel_rfl) (by kernel_rfl) (Eq.mp (by kernel_rfl) hh)

-- 5 gong/gonglaw32.LinkPlays
def T5 : List (Nat × FnT) := [(7, G7), (8, G8), (17, G17), (18, G18), (19, G19)]
def F5_3b (w : World) (K : Value → World → Prop) : Prop :=
K (.bool true) w

def F5_3 (w : World) (K : Value → World → Prop) : Prop := F5_3b w K

theorem ok5_3 {K : Value → World → Prop} {kn kr : Env → World → Prop} {ke : Nat → Env → World → Prop}
    (hn : ∀ e w, (fun e w => K (e 4) w) e w → kn e w) (hr : ∀ e w, endD Try.prog [.tmp 4] K e w → kr e w) (he : ∀ i e w, noE i e w → ke i e w) :
    ∀ e w, F5_3 w K → denL Try.prog (tabOf T5) 71 fuel ((flat (bodyOf Try.f5)).drop 7) e w kn kr ke := by
  intro e w h
  unfold F5_3 at h
  have e1 : ∀ (_ : Unit), F5_3b w K = denL Try.prog (tabOf T5) 71 fuel ((flat (bodyOf Try.f5)).drop 7) e w (fun e w => K (e 4) w) (endD Try.prog [.tmp 4] K) noE := by intro _; kernel_rfl
  exact seg_end (Eq.mp (e1 ()) h) hn hr he

def F5_2b (s1 : Value) (s5 : Value) (s7 : Value) (s9 : Value) (w : World) (K : Value → World → Prop) (Y0 : Value → Value → Value → Value → World → Prop) (Y1 : World → Prop) : Prop :=
bindP (bNe Try.prog 44 (.tmp 34) (.const (.pointer none)) s7 (.pointer none)) fun v1 =>
stepM (gd true v1) s9 fun v2 =>
stepM (gd true v1) s1 fun v3 =>
Sx.stepG (gd true v1) (lenL v3) fun v4 =>
Sx.stepG (gd true v1) (bLt v2 v4) fun v5 =>
bindP (pPick v1 v5 (.bool false)) fun v6 =>
stepM (gd true v6) s9 fun v7 =>
Sx.stepG (gd true v6) (bLt v7 (.int .i64 80)) fun v8 =>
bindP (pPick v6 v8 (.bool false)) fun v9 =>
ifB v9 (
bindP (pIndexL 3 s1 s9) fun v10 =>
bindP (pFieldAddr 2 v10) fun v11 =>
bindP (ld1 v11 w) fun v12 =>
bindP (lenS v12) fun v13 =>
bindP (bLe v13 (.int .i64 1000)) fun v14 =>
stepM (gd true v14) s5 fun v15 =>
stepM (gd true v14) s7 fun v16 =>
stepM (gd true v14) s1 fun v17 =>
stepM (gd true v14) s9 fun v18 =>
Sx.stepG (gd true v14) (pIndexL 3 v17 v18) fun v19 =>
Sx.stepG (gd true v14) (ldN 3 v19 w) fun v20 =>
stepE (gd true v14) (fun k => callP G18 [v15, v16, v20] w k) w fun v22 w21 =>
Sx.stepG (gd true v14) (uNot v22) fun v23 =>
stepM (gd true v14) v23 fun v24 =>
stepM (gd false v24) s5 fun v25 =>
stepM (gd false v24) s7 fun v26 =>
stepE (gd false v24) (fun k => callP G19 [v25, v26] w21 k) w21 fun v28 w27 =>
Sx.stepG (gd false v24) (uNot v28) fun v29 =>
Sx.stepG (gd true v14) (pPick v24 (.bool true) v29) fun v30 =>
bindP (pPick v14 v30 (.bool false)) fun v31 =>
ifB v31 (
K (.bool false) w27) (
bindP (bAdd s9 (.int .i64 1)) fun v32 =>
Y0 s1 s5 s7 v32 w27)) (
Y1 w)

def F5_2L : Nat → Value → Value → Value → Value → World → (Value → World → Prop) → Prop
  | 0, _, _, _, _, _, _ => False
  | n + 1, s1, s5, s7, s9, w, K => F5_2b s1 s5 s7 s9 w K (fun a1 a5 a7 a9 w => F5_2L n a1 a5 a7 a9 w K) (fun w => F5_3 w K)

def F5_2 (s1 : Value) (s5 : Value) (s7 : Value) (s9 : Value) (w : World) (K : Value → World → Prop) : Prop := F5_2L fuel s1 s5 s7 s9 w K

theorem ok5_2 {K : Value → World → Prop} {kn kr : Env → World → Prop} {ke : Nat → Env → World → Prop}
    (hn : ∀ e w, (fun e w => K (e 4) w) e w → kn e w) (hr : ∀ e w, endD Try.prog [.tmp 4] K e w → kr e w) (he : ∀ i e w, noE i e w → ke i e w) :
    ∀ e w, F5_2 (e 1) (e 5) (e 7) (e 9) w K → denL Try.prog (tabOf T5) 71 fuel ((flat (bodyOf Try.f5)).drop 6) e w kn kr ke := by
  intro e w h
  unfold F5_2 at h
  refine seg_loop (id := 0) (body := (loopB (blkB (nthC (flat (bodyOf Try.f5)) 6)))) (l2 := (flat (bodyOf Try.f5)).drop 7) (by kernel_rfl) ?_
  refine loop_ok (FL := fun m e w => F5_2L m (e 1) (e 5) (e 7) (e 9) w K) (fr := endD Try.prog [.tmp 4] K) (fe := (blkK 0 (fun e w => F5_3 w K) noE)) (fun _ _ h => h) ?_ hr (blkK_mono (fun e w h => ok5_3 hn hr he e w h) he) fuel e w h
  intro m e w h
  have h : F5_2L (m + 1) (e 1) (e 5) (e 7) (e 9) w K := h
  rw [F5_2L] at h
  have e1 : ∀ (Y0 : Value → Value → Value → Value → World → Prop) (Y1 : World → Prop), F5_2b (e 1) (e 5) (e 7) (e 9) w K Y0 Y1 = denL Try.prog (tabOf T5) 71 fuel (flat (loopB (blkB (nthC (flat (bodyOf Try.f5)) 6)))) e w (fun e w => Y0 (e 1) (e 5) (e 7) (e 9) w) (endD Try.prog [.tmp 4] K) (blkK 0 (fun e w => Y1 w) noE) := by intro Y0 Y1; kernel_rfl
  exact Eq.mp (e1 (fun a1 a5 a7 a9 w => F5_2L m a1 a5 a7 a9 w K) (fun w => F5_3 w K)) h

def F5_1b (s0 : Value) (s1 : Value) (w : World) (K : Value → World → Prop) (Y0 : Value → Value → Value → Value → World → Prop) : Prop :=
callP G7 [s0] w fun v34 w33 =>
bindP (pTuple v34 0) fun v35 =>
bindP (pTuple v34 1) fun v36 =>
callP G17 [s0] w33 fun v38 w37 =>
bindP (pTuple v38 0) fun v39 =>
bindP (pTuple v38 1) fun v40 =>
bindP (bNe Try.prog 24 (.tmp 20) (.tmp 21) v36 v40) fun v41 =>
stepM (gd false v41) v35 fun v42 =>
Sx.stepG (gd false v41) (bEq Try.prog 23 (.tmp 24) (.const (.pointer none)) v42 (.pointer none)) fun v43 =>
stepM (gd false v41) v39 fun v44 =>
Sx.stepG (gd false v41) (bEq Try.prog 44 (.tmp 26) (.const (.pointer none)) v44 (.pointer none)) fun v45 =>
Sx.stepG (gd false v41) (bNe Try.prog 4 (.tmp 25) (.tmp 27) v43 v45) fun v46 =>
bindP (pPick v41 (.bool true) v46) fun v47 =>
stepE (gd false v47) (fun k => callP G8 [] w37 k) w37 fun v49 w48 =>
Sx.stepG (gd false v47) (uNot v49) fun v50 =>
bindP (pPick v47 (.bool true) v50) fun v51 =>
ifB v51 (
K (.bool false) w48) (
Y0 s1 v35 v39 (.int .i64 0) w48)

def F5_1 (s0 : Value) (s1 : Value) (w : World) (K : Value → World → Prop) : Prop := F5_1b s0 s1 w K (fun a1 a5 a7 a9 w => F5_2 a1 a5 a7 a9 w K)

theorem ok5_1 {K : Value → World → Prop} {kn kr : Env → World → Prop} {ke : Nat → Env → World → Prop}
    (hn : ∀ e w, (fun e w => K (e 4) w) e w → kn e w) (hr : ∀ e w, endD Try.prog [.tmp 4] K e w → kr e w) (he : ∀ i e w, noE i e w → ke i e w) :
    ∀ e w, F5_1 (e 0) (e 1) w K → denL Try.prog (tabOf T5) 71 fuel ((flat (bodyOf Try.f5)).drop 0) e w kn kr ke := by
  intro e w h
  unfold F5_1 at h
  have e1 : ∀ (Y0 : Value → Value → Value → Value → World → Prop), F5_1b (e 0) (e 1) w K Y0 = denL Try.prog (tabOf T5) 71 fuel (((flat (bodyOf Try.f5)).drop 0).take 6) e w (fun e w => Y0 (e 1) (e 5) (e 7) (e 9) w) (endD Try.prog [.tmp 4] K) noE := by intro Y0; kernel_rfl
  exact seg 6 (Eq.mp (e1 (fun a1 a5 a7 a9 w => F5_2 a1 a5 a7 a9 w K)) h) (fun e w h => ok5_2 hn hr he e w h) hr he

def F5 (x0 : Value) (x1 : Value) (w : World) (K : Value → World → Prop) : Prop := F5_1 x0 x1 w K

def G5 : FnT := fun args w K => on2 (fun x0 x1 => F5 x0 x1 w K) args
theorem c5 {x0 x1 : Value} {w : World} {K : Value → World → Prop} (h : F5 x0 x1 w K) : callP G5 [x0, x1] w K := callP_intro h
theorem ok5 : OkF Try.prog 5 G5 := by
  refine okF_of (tab_ok (l := T5) ⟨ok7, ok8, ok17, ok18, ok19, trivial⟩) mixed (n := fuel) Try.func5 Try.call5 fun args w K h => ?_
  obtain ⟨x0, x1, rfl, hh⟩ := of_on2 h
  unfold F5 at hh
  exact fnD_list (c := bodyOf Try.f5) (by kernel_rfl) (by kernel_rfl) (ok5_1 (fun _ _ h => h) (fun _ _ h => h) (fun _ _ _ h => h) (initE [x0, x1]) w hh)

-- == of aggregates
theorem eqv31 (x y : Operand) (a0 b0 : Int) (a1 b1 : Int) (a2 b2 : Int) (a3 b3 : Int) : bEqv Try.prog 31 x y (.agg #[.int .i64 a0, .int .i64 a1, .int .i64 a2, .int .i64 a3]) (.agg #[.int .i64 b0, .int .i64 b1, .int .i64 b2, .int .i64 b3]) = andO (some (a0 == b0)) (andO (some (a1 == b1)) (andO (some (a2 == b2)) (andO (some (a3 == b3)) (some true)))) := by kernel_rfl
theorem eq31 (x y : Operand) (a0 b0 : Int) (a1 b1 : Int) (a2 b2 : Int) (a3 b3 : Int) : bEq Try.prog 31 x y (.agg #[.int .i64 a0, .int .i64 a1, .int .i64 a2, .int .i64 a3]) (.agg #[.int .i64 b0, .int .i64 b1, .int .i64 b2, .int .i64 b3]) = some (.bool ((a0 == b0) && ((a1 == b1) && ((a2 == b2) && ((a3 == b3) && true))))) := by simp only [bEq, eqv31, andO_some, Option.map_some]
theorem ne31 (x y : Operand) (a0 b0 : Int) (a1 b1 : Int) (a2 b2 : Int) (a3 b3 : Int) : bNe Try.prog 31 x y (.agg #[.int .i64 a0, .int .i64 a1, .int .i64 a2, .int .i64 a3]) (.agg #[.int .i64 b0, .int .i64 b1, .int .i64 b2, .int .i64 b3]) = some (.bool (!((a0 == b0) && ((a1 == b1) && ((a2 == b2) && ((a3 == b3) && true)))))) := by simp only [bNe, eqv31, andO_some, Option.map_some]
end Go.Proofs.Gong
