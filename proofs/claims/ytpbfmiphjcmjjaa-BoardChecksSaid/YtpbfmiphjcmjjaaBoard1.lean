/- A part of the proofs: what stands below it, told in lemmas. No condition. -/
import Derived.Test.YtpbfmiphjcmjjaaTy
import Derived.Test.YtpbfmiphjcmjjaaBook
import Derived.Test.YtpbfmiphjcmjjaaNorm
set_option linter.all false
namespace Go.Proofs.Gong
open Go Go.Sx Go.Proofs
set_option maxRecDepth 100000
-- 13 gong/board.New
def T13 : List (Nat × FnT) := []
def F13 (x0 : Value) (w : World) (K : Value → World → Prop) : Prop :=
bindP (bLt x0 (.int .i64 1)) fun v1 =>
stepM (gd false v1) x0 fun v2 =>
Sx.stepG (gd false v1) (bGt v2 (.int .i64 65536)) fun v3 =>
bindP (pPick v1 (.bool true) v3) fun v4 =>
ifB v4 (
K (.tuple #[(.pointer none), (.int .i64 1)]) w) (
eMakeMap none w fun v6 w5 =>
eMakeMap none w5 fun v8 w7 =>
bindP (fBuild Try.prog 110 [(0, x0), (1, (.int .i64 1)), (2, v6), (3, v8)]) fun v9 =>
eBox 110 v9 w7 fun v11 w10 =>
K (.tuple #[v11, (.int .i64 0)]) w10)

def G13 : FnT := fun args w K => on1 (fun x0 => F13 x0 w K) args
theorem c13 {x0 : Value} {w : World} {K : Value → World → Prop} (h : F13 x0 w K) : callP G13 [x0] w K := callP_intro (on1_mk (p := fun x0 => F13 x0 w K) h)
theorem ok13 : OkF Try.prog 13 G13 := by
  refine okF_of (tab_ok (l := T13) trivial) mixed (n := fuel) Try.func13 Try.call13 fun args w K h => ?_
  obtain ⟨x0, rfl, hh⟩ := of_on1 h
  exact fnD_list (c := bodyOf Try.f13) (by kernel_rfl) (by kernel_rfl) (Eq.mp (by kernel_rfl) hh)

-- 62 gong/board.isTime
def T62 : List (Nat × FnT) := []
def F62 (x0 : Value) (w : World) (K : Value → World → Prop) : Prop :=
bindP (bGe x0 (.int .i64 0)) fun v1 =>
stepM (gd true v1) x0 fun v2 =>
Sx.stepG (gd true v1) (bLe v2 (.int .i64 2305843009213693952)) fun v3 =>
bindP (pPick v1 v3 (.bool false)) fun v4 =>
K v4 w

def G62 : FnT := fun args w K => on1 (fun x0 => F62 x0 w K) args
theorem c62 {x0 : Value} {w : World} {K : Value → World → Prop} (h : F62 x0 w K) : callP G62 [x0] w K := callP_intro (on1_mk (p := fun x0 => F62 x0 w K) h)
theorem ok62 : OkF Try.prog 62 G62 := by
  refine okF_of (tab_ok (l := T62) trivial) mixed (n := fuel) Try.func62 Try.call62 fun args w K h => ?_
  obtain ⟨x0, rfl, hh⟩ := of_on1 h
  exact fnD_list (c := bodyOf Try.f62) (by kernel_rfl) (by kernel_rfl) (Eq.mp (by kernel_rfl) hh)

-- 63 gong/board.of
def T63 : List (Nat × FnT) := []
def F63 (x0 : Value) (w : World) (K : Value → World → Prop) : Prop :=
eBox 31 x0 w fun v2 w1 =>
eAlloc Try.prog 114 w1 fun v4 w3 =>
bindP (pFieldAddr 0 v2) fun v5 =>
bindP (ld1 v5 w3) fun v6 =>
bindP (pFieldAddr 1 v2) fun v7 =>
bindP (ld1 v7 w3) fun v8 =>
bindP (pFieldAddr 2 v2) fun v9 =>
bindP (ld1 v9 w3) fun v10 =>
bindP (fBuild Try.prog 114 [(0, v6), (1, v8), (2, v10)]) fun v11 =>
bindW (st 3 v4 v11 w3) fun w12 =>
bindP (ldN 3 v4 w12) fun v14 =>
K v14 w12

def G63 : FnT := fun args w K => on1 (fun x0 => F63 x0 w K) args
theorem c63 {x0 : Value} {w : World} {K : Value → World → Prop} (h : F63 x0 w K) : callP G63 [x0] w K := callP_intro (on1_mk (p := fun x0 => F63 x0 w K) h)
theorem ok63 : OkF Try.prog 63 G63 := by
  refine okF_of (tab_ok (l := T63) trivial) mixed (n := fuel) Try.func63 Try.call63 fun args w K h => ?_
  obtain ⟨x0, rfl, hh⟩ := of_on1 h
  exact fnD_list (c := bodyOf Try.f63) (by kernel_rfl) (by kernel_rfl) (Eq.mp (by kernel_rfl) hh)

-- 64 (*gong/board.Board).take
def T64 : List (Nat × FnT) := [(63, G63)]
def F64 (x0 : Value) (x1 : Value) (w : World) (K : Value → World → Prop) : Prop :=
eBox 33 x1 w fun v2 w1 =>
bindP (pNil x0) fun v3 =>
bindP (pFieldAddr 2 v3) fun v4 =>
bindP (ld1 v4 w1.drew) fun v5 =>
bindP (pFieldAddr 0 v2) fun v6 =>
bindP (ld1 v6 w1.drew) fun v7 =>
eDelete Try.prog 107 v5 v7 w1.drew fun _ w8 =>
bindP (pNil x0) fun v10 =>
bindP (pFieldAddr 3 v10) fun v11 =>
bindP (ld1 v11 w8.drew) fun v12 =>
bindP (pFieldAddr 1 v2) fun v13 =>
bindP (ldN 5 v13 w8.drew) fun v14 =>
callP G63 [v14] w8.drew fun v16 w15 =>
fok true (ld1 v11 w15) v12 ∧ (eDelete Try.prog 108 v12 v16 w15 fun _ w17 =>
K (.tuple #[]) w17)

def G64 : FnT := fun args w K => on2 (fun x0 x1 => F64 x0 x1 w K) args
theorem c64 {x0 x1 : Value} {w : World} {K : Value → World → Prop} (h : F64 x0 x1 w K) : callP G64 [x0, x1] w K := callP_intro (on2_mk (p := fun x0 x1 => F64 x0 x1 w K) h)
theorem ok64 : OkF Try.prog 64 G64 := by
  refine okF_of (tab_ok (l := T64) ⟨ok63, trivial⟩) mixed (n := fuel) Try.func64 Try.call64 fun args w K h => ?_
  obtain ⟨x0, x1, rfl, hh⟩ := of_on2 h
  exact fnD_list (c := bodyOf Try.f64) (by kernel_rfl) (by kernel_rfl) (Eq.mp (by kernel_rfl) hh)

-- 65 gong/board.again
def T65 : List (Nat × FnT) := []
def F65_2b (s3 : Value) (s4 : Value) (s6 : Value) (w : World) (K : Value → World → Prop) : Prop :=
bindP (pFieldAddr 3 s4) fun v1 =>
bindP (ld1 v1 w) fun v2 =>
bindP (pFieldAddr 1 s3) fun v3 =>
bindP (pFieldAddr 3 v3) fun v4 =>
bindW (st 1 v4 v2 w) fun w5 =>
bindP (ldN 11 s3 w5) fun v7 =>
bindW (st 11 s6 v7 w5) fun w8 =>
bindP (ldN 11 s6 w8) fun v10 =>
K (.tuple #[v10, (.int .i64 2)]) w8

def F65_2 (s3 : Value) (s4 : Value) (s6 : Value) (w : World) (K : Value → World → Prop) : Prop := F65_2b s3 s4 s6 w K

theorem ok65_2 {K : Value → World → Prop} {kn kr : Env → World → Prop} {ke : Nat → Env → World → Prop}
    (hn : ∀ e w, (fun e w => bindP (ldN 11 (e 6) w) fun v12 =>
K (.tuple #[v12, (e 7)]) w) e w → kn e w) (hr : ∀ e w, endD Try.prog [.cell 6 33, .tmp 7] K e w → kr e w) (he : ∀ i e w, noE i e w → ke i e w) :
    ∀ e w, F65_2 (e 3) (e 4) (e 6) w K → denL Try.prog (tabOf T65) 42 fuel ((flat (bodyOf Try.f65)).drop 8) e w kn kr ke := by
  intro e w h
  unfold F65_2 at h
  have e1 : ∀ (_ : Unit), F65_2b (e 3) (e 4) (e 6) w K = denL Try.prog (tabOf T65) 42 fuel ((flat (bodyOf Try.f65)).drop 8) e w (fun e w => bindP (ldN 11 (e 6) w) fun v11 =>
K (.tuple #[v11, (e 7)]) w) (endD Try.prog [.cell 6 33, .tmp 7] K) noE := by intro _; kernel_rfl
  exact seg_end (Eq.mp (e1 ()) h) hn hr he

def F65_1b (s0 : Value) (s1 : Value) (s2 : Value) (w : World) (K : Value → World → Prop) (Y0 : Value → Value → Value → World → Prop) : Prop :=
eBox 33 s0 w fun v14 w13 =>
eBox 31 s1 w13 fun v16 w15 =>
eAlloc Try.prog 33 w15 fun v18 w17 =>
bindP (pFieldAddr 6 v14) fun v19 =>
bindP (ld1 v19 w17) fun v20 =>
bindP (bAdd v20 (.int .i64 1)) fun v21 =>
bindP (pMin v21 (.int .i64 1099511627776)) fun v22 =>
bindP (pFieldAddr 6 v14) fun v23 =>
bindW (st 1 v23 v22 w17) fun w24 =>
bindP (pFieldAddr 8 v14) fun v26 =>
bindP (ld1 v26 w24) fun v27 =>
bindP (pMax v27 s2) fun v28 =>
bindP (pFieldAddr 8 v14) fun v29 =>
bindW (st 1 v29 v28 w24) fun w30 =>
bindP (pFieldAddr 4 v16) fun v32 =>
bindP (ld1 v32 w30) fun v33 =>
bindP (pFieldAddr 1 v14) fun v34 =>
bindP (pFieldAddr 4 v34) fun v35 =>
bindW (st 1 v35 v33 w30) fun w36 =>
bindP (pFieldAddr 1 v14) fun v38 =>
bindP (pFieldAddr 3 v38) fun v39 =>
bindP (ld1 v39 w36) fun v40 =>
bindP (pFieldAddr 3 v16) fun v41 =>
bindP (ld1 v41 w36) fun v42 =>
bindP (bEq Try.prog 3 (.tmp 24) (.tmp 26) v40 v42) fun v43 =>
ifB v43 (
bindP (ldN 11 v14 w36) fun v44 =>
bindW (st 11 v18 v44 w36) fun w45 =>
bindP (ldN 11 v18 w45) fun v47 =>
K (.tuple #[v47, (.int .i64 0)]) w45) (
bindP (pFieldAddr 3 v16) fun v48 =>
bindP (ld1 v48 w36) fun v49 =>
bindP (pFieldAddr 1 v14) fun v50 =>
bindP (pFieldAddr 3 v50) fun v51 =>
bindP (ld1 v51 w36) fun v52 =>
bindP (bGt v49 v52) fun v53 =>
ifB v53 (
bindP (pFieldAddr 9 v14) fun v54 =>
bindW (st 1 v54 (.bool false) w36) fun w55 =>
bindP (pFieldAddr 10 v14) fun v57 =>
bindW (st 1 v57 (.string ⟨#[]⟩) w55) fun w58 =>
Y0 v14 v16 v18 w58) (
Y0 v14 v16 v18 w36))

def F65_1 (s0 : Value) (s1 : Value) (s2 : Value) (w : World) (K : Value → World → Prop) : Prop := F65_1b s0 s1 s2 w K (fun a3 a4 a6 w => F65_2 a3 a4 a6 w K)

theorem ok65_1 {K : Value → World → Prop} {kn kr : Env → World → Prop} {ke : Nat → Env → World → Prop}
    (hn : ∀ e w, (fun e w => bindP (ldN 11 (e 6) w) fun v60 =>
K (.tuple #[v60, (e 7)]) w) e w → kn e w) (hr : ∀ e w, endD Try.prog [.cell 6 33, .tmp 7] K e w → kr e w) (he : ∀ i e w, noE i e w → ke i e w) :
    ∀ e w, F65_1 (e 0) (e 1) (e 2) w K → denL Try.prog (tabOf T65) 42 fuel ((flat (bodyOf Try.f65)).drop 0) e w kn kr ke := by
  intro e w h
  unfold F65_1 at h
  have e1 : ∀ (Y0 : Value → Value → Value → World → Prop), F65_1b (e 0) (e 1) (e 2) w K Y0 = denL Try.prog (tabOf T65) 42 fuel (((flat (bodyOf Try.f65)).drop 0).take 8) e w (fun e w => Y0 (e 3) (e 4) (e 6) w) (endD Try.prog [.cell 6 33, .tmp 7] K) noE := by intro Y0; kernel_rfl
  exact seg 8 (Eq.mp (e1 (fun a3 a4 a6 w => F65_2 a3 a4 a6 w K)) h) (fun e w h => ok65_2 hn hr he e w h) hr he

def F65 (x0 : Value) (x1 : Value) (x2 : Value) (w : World) (K : Value → World → Prop) : Prop := F65_1 x0 x1 x2 w K

def G65 : FnT := fun args w K => on3 (fun x0 x1 x2 => F65 x0 x1 x2 w K) args
theorem c65 {x0 x1 x2 : Value} {w : World} {K : Value → World → Prop} (h : F65 x0 x1 x2 w K) : callP G65 [x0, x1, x2] w K := callP_intro (on3_mk (p := fun x0 x1 x2 => F65 x0 x1 x2 w K) h)
theorem ok65 : OkF Try.prog 65 G65 := by
  refine okF_of (tab_ok (l := T65) trivial) mixed (n := fuel) Try.func65 Try.call65 fun args w K h => ?_
  obtain ⟨x0, x1, x2, rfl, hh⟩ := of_on3 h
  unfold F65 at hh
  exact fnD_list (c := bodyOf Try.f65) (by kernel_rfl) (by kernel_rfl) (ok65_1 (fun _ _ h => h) (fun _ _ h => h) (fun _ _ _ h => h) (initE [x0, x1, x2]) w hh)

-- 66 (*gong/board.Board).put
def T66 : List (Nat × FnT) := [(63, G63)]
def F66 (x0 : Value) (x1 : Value) (w : World) (K : Value → World → Prop) : Prop :=
eBox 33 x1 w fun v2 w1 =>
bindP (pNil x0) fun v3 =>
bindP (pFieldAddr 2 v3) fun v4 =>
bindP (ld1 v4 w1.drew) fun v5 =>
bindP (pFieldAddr 0 v2) fun v6 =>
bindP (ld1 v6 w1.drew) fun v7 =>
bindP (ldN 11 v2 w1.drew) fun v8 =>
eMapSet Try.prog 107 v5 v7 v8 w1.drew fun _ w9 =>
bindP (pNil x0) fun v11 =>
bindP (pFieldAddr 3 v11) fun v12 =>
bindP (ld1 v12 w9.drew) fun v13 =>
bindP (pFieldAddr 1 v2) fun v14 =>
bindP (ldN 5 v14 w9.drew) fun v15 =>
bindP (pFieldAddr 0 v2) fun v16 =>
bindP (ld1 v16 w9.drew) fun v17 =>
callP G63 [v15] w9.drew fun v19 w18 =>
(fok true (ld1 v12 w18) v13 ∧ fok true (ld1 v16 w18) v17) ∧ (eMapSet Try.prog 108 v13 v19 v17 w18 fun _ w20 =>
K (.tuple #[]) w20)

def G66 : FnT := fun args w K => on2 (fun x0 x1 => F66 x0 x1 w K) args
theorem c66 {x0 x1 : Value} {w : World} {K : Value → World → Prop} (h : F66 x0 x1 w K) : callP G66 [x0, x1] w K := callP_intro (on2_mk (p := fun x0 x1 => F66 x0 x1 w K) h)
theorem ok66 : OkF Try.prog 66 G66 := by
  refine okF_of (tab_ok (l := T66) ⟨ok63, trivial⟩) mixed (n := fuel) Try.func66 Try.call66 fun args w K h => ?_
  obtain ⟨x0, x1, rfl, hh⟩ := of_on2 h
  exact fnD_list (c := bodyOf Try.f66) (by kernel_rfl) (by kernel_rfl) (Eq.mp (by kernel_rfl) hh)

-- 16 (*gong/board.Board).Raise
def T16 : List (Nat × FnT) := [(61, G61), (62, G62), (63, G63), (64, G64), (65, G65), (66, G66)]
def F16_2b (s0 : Value) (s6 : Value) (s7 : Value) (w : World) (K : Value → World → Prop) : Prop :=
bindP (ldN 11 s6 w) fun v1 =>
callP G66 [s0, v1] w fun _ w2 =>
bindP (ldN 11 s6 w2) fun v4 =>
bindW (st 11 s6 v4 w2) fun w5 =>
bindP (ldN 11 s6 w5) fun v7 =>
K (.tuple #[v7, s7, (.int .i64 0)]) w5

def F16_2 (s0 : Value) (s6 : Value) (s7 : Value) (w : World) (K : Value → World → Prop) : Prop := F16_2b s0 s6 s7 w K

theorem ok16_2 {K : Value → World → Prop} {kn kr : Env → World → Prop} {ke : Nat → Env → World → Prop}
    (hn : ∀ e w, (fun e w => bindP (ldN 11 (e 6) w) fun v9 =>
K (.tuple #[v9, (e 7), (e 8)]) w) e w → kn e w) (hr : ∀ e w, endD Try.prog [.cell 6 33, .tmp 7, .tmp 8] K e w → kr e w) (he : ∀ i e w, noE i e w → ke i e w) :
    ∀ e w, F16_2 (e 0) (e 6) (e 7) w K → denL Try.prog (tabOf T16) 101 fuel ((flat (bodyOf Try.f16)).drop 4) e w kn kr ke := by
  intro e w h
  unfold F16_2 at h
  have e1 : ∀ (_ : Unit), F16_2b (e 0) (e 6) (e 7) w K = denL Try.prog (tabOf T16) 101 fuel ((flat (bodyOf Try.f16)).drop 4) e w (fun e w => bindP (ldN 11 (e 6) w) fun v8 =>
K (.tuple #[v8, (e 7), (e 8)]) w) (endD Try.prog [.cell 6 33, .tmp 7, .tmp 8] K) noE := by intro _; kernel_rfl
  exact seg_end (Eq.mp (e1 ()) h) hn hr he

def F16_1b (s0 : Value) (s1 : Value) (s2 : Value) (w : World) (K : Value → World → Prop) (Y0 : Value → Value → Value → World → Prop) : Prop :=
eBox 31 s1 w fun v11 w10 =>
eAlloc Try.prog 33 w10 fun v13 w12 =>
bindP (ldN 5 v11 w12) fun v14 =>
callP G61 [v14] w12 fun v16 w15 =>
bindP (bNe Try.prog 24 (.tmp 13) (.const (.int .i64 0)) v16 (.int .i64 0)) fun v17 =>
ifB v17 (
bindP (fBuild Try.prog 33 []) fun v18 =>
bindW (st 11 v13 v18 w15) fun w19 =>
bindP (ldN 11 v13 w19) fun v21 =>
K (.tuple #[v21, (.int .i64 0), (.int .i64 180)]) w19) (
callP G62 [s2] w15 fun v23 w22 =>
bindP (uNot v23) fun v24 =>
ifB v24 (
bindP (fBuild Try.prog 33 []) fun v25 =>
bindW (st 11 v13 v25 w22) fun w26 =>
bindP (ldN 11 v13 w26) fun v28 =>
K (.tuple #[v28, (.int .i64 0), (.int .i64 1)]) w26) (
bindP (pNil s0) fun v29 =>
bindP (pFieldAddr 3 v29) fun v30 =>
bindP (ld1 v30 w22.drew) fun v31 =>
bindP (ldN 5 v11 w22.drew) fun v32 =>
callP G63 [v32] w22.drew fun v34 w33 =>
fok true (ld1 v30 w33) v31 ∧ (bindP (fLook Try.prog 108 v31 v34 true w33) fun v35 =>
bindP (pTuple v35 0) fun v36 =>
bindP (pTuple v35 1) fun v37 =>
bindP (pFieldAddr 3 v11) fun v38 =>
bindP (ld1 v38 w33) fun v39 =>
bindP (bEq Try.prog 3 (.tmp 48) (.const (.int .i64 0)) v39 (.int .i64 0)) fun v40 =>
stepM (gd true v40) v37 fun v41 =>
Sx.stepG (gd true v40) (uNot v41) fun v42 =>
bindP (pPick v40 v42 (.bool false)) fun v43 =>
ifB v43 (
bindP (fBuild Try.prog 33 []) fun v44 =>
bindW (st 11 v13 v44 w33) fun w45 =>
bindP (ldN 11 v13 w45) fun v47 =>
K (.tuple #[v47, (.int .i64 0), (.int .i64 5)]) w45) (
bindP (pFieldAddr 3 v11) fun v48 =>
bindP (ld1 v48 w33) fun v49 =>
bindP (bEq Try.prog 3 (.tmp 57) (.const (.int .i64 0)) v49 (.int .i64 0)) fun v50 =>
ifB v50 (
bindP (pNil s0) fun v51 =>
bindP (pFieldAddr 2 v51) fun v52 =>
bindP (ld1 v52 w33) fun v53 =>
bindP (fLook Try.prog 107 v53 v36 false w33) fun v54 =>
bindW (st 11 v13 v54 w33) fun w55 =>
bindP (ldN 11 v13 w55) fun v57 =>
callP G64 [s0, v57] w55 fun _ w58 =>
bindP (ldN 11 v13 w58) fun v60 =>
bindW (st 11 v13 v60 w58) fun w61 =>
bindP (ldN 11 v13 w61) fun v63 =>
K (.tuple #[v63, (.int .i64 3), (.int .i64 0)]) w61) (
ifB v37 (
bindP (pNil s0) fun v64 =>
bindP (pFieldAddr 2 v64) fun v65 =>
bindP (ld1 v65 w33.drew) fun v66 =>
bindP (fLook Try.prog 107 v66 v36 false w33.drew) fun v67 =>
bindP (ldN 5 v11 w33.drew) fun v68 =>
callP G65 [v67, v68, s2] w33.drew fun v70 w69 =>
bindP (pTuple v70 0) fun v71 =>
bindP (pTuple v70 1) fun v72 =>
bindW (st 11 v13 v71 w69) fun w73 =>
Y0 s0 v13 v72 w73) (
bindP (pNil s0) fun v75 =>
bindP (pFieldAddr 2 v75) fun v76 =>
bindP (ld1 v76 w33.drew) fun v77 =>
bindP (lenM v77 w33.drew) fun v78 =>
bindP (pNil s0) fun v79 =>
bindP (pFieldAddr 0 v79) fun v80 =>
bindP (ld1 v80 w33.drew) fun v81 =>
bindP (bGe v78 v81) fun v82 =>
ifB v82 (
bindP (fBuild Try.prog 33 []) fun v83 =>
bindW (st 11 v13 v83 w33.drew) fun w84 =>
bindP (ldN 11 v13 w84) fun v86 =>
K (.tuple #[v86, (.int .i64 0), (.int .i64 200)]) w84) (
bindP (pNil s0) fun v87 =>
bindP (pFieldAddr 1 v87) fun v88 =>
bindP (ld1 v88 (w33.drew).drew) fun v89 =>
bindP (ldN 5 v11 (w33.drew).drew) fun v90 =>
bindP (fBuild Try.prog 33 [(0, v89), (1, v90), (2, (.int .i64 1)), (3, s2), (4, s2)]) fun v91 =>
bindW (st 11 v13 v91 (w33.drew).drew) fun w92 =>
bindP (pNil s0) fun v94 =>
bindP (pFieldAddr 1 v94) fun v95 =>
bindP (ld1 v95 w92) fun v96 =>
bindP (bAdd v96 (.int .i64 1)) fun v97 =>
bindP (pNil s0) fun v98 =>
bindP (pFieldAddr 1 v98) fun v99 =>
bindW (st 1 v99 v97 w92) fun w100 =>
Y0 s0 v13 (.int .i64 1) w100)))))))

def F16_1 (s0 : Value) (s1 : Value) (s2 : Value) (w : World) (K : Value → World → Prop) : Prop := F16_1b s0 s1 s2 w K (fun a0 a6 a7 w => F16_2 a0 a6 a7 w K)

theorem ok16_1 {K : Value → World → Prop} {kn kr : Env → World → Prop} {ke : Nat → Env → World → Prop}
    (hn : ∀ e w, (fun e w => bindP (ldN 11 (e 6) w) fun v102 =>
K (.tuple #[v102, (e 7), (e 8)]) w) e w → kn e w) (hr : ∀ e w, endD Try.prog [.cell 6 33, .tmp 7, .tmp 8] K e w → kr e w) (he : ∀ i e w, noE i e w → ke i e w) :
    ∀ e w, F16_1 (e 0) (e 1) (e 2) w K → denL Try.prog (tabOf T16) 101 fuel ((flat (bodyOf Try.f16)).drop 0) e w kn kr ke := by
  intro e w h
  unfold F16_1 at h
  have e1 : ∀ (Y0 : Value → Value → Value → World → Prop), F16_1b (e 0) (e 1) (e 2) w K Y0 = denL Try.prog (tabOf T16) 101 fuel (((flat (bodyOf Try.f16)).drop 0).take 4) e w (fun e w => Y0 (e 0) (e 6) (e 7) w) (endD Try.prog [.cell 6 33, .tmp 7, .tmp 8] K) noE := by intro Y0; kernel_rfl
  exact seg 4 (Eq.mp (e1 (fun a0 a6 a7 w => F16_2 a0 a6 a7 w K)) h) (fun e w h => ok16_2 hn hr he e w h) hr he

def F16 (x0 : Value) (x1 : Value) (x2 : Value) (w : World) (K : Value → World → Prop) : Prop := F16_1 x0 x1 x2 w K

def G16 : FnT := fun args w K => on3 (fun x0 x1 x2 => F16 x0 x1 x2 w K) args
theorem c16 {x0 x1 x2 : Value} {w : World} {K : Value → World → Prop} (h : F16 x0 x1 x2 w K) : callP G16 [x0, x1, x2] w K := callP_intro (on3_mk (p := fun x0 x1 x2 => F16 x0 x1 x2 w K) h)
theorem ok16 : OkF Try.prog 16 G16 := by
  refine okF_of (tab_ok (l := T16) ⟨ok61, ok62, ok63, ok64, ok65, ok66, trivial⟩) mixed (n := fuel) Try.func16 Try.call16 fun args w K h => ?_
  obtain ⟨x0, x1, x2, rfl, hh⟩ := of_on3 h
  unfold F16 at hh
  exact fnD_list (c := bodyOf Try.f16) (by kernel_rfl) (by kernel_rfl) (ok16_1 (fun _ _ h => h) (fun _ _ h => h) (fun _ _ _ h => h) (initE [x0, x1, x2]) w hh)

-- 17 (*gong/board.Board).Len
def T17 : List (Nat × FnT) := []
def F17 (x0 : Value) (w : World) (K : Value → World → Prop) : Prop :=
bindP (pNil x0) fun v1 =>
bindP (pFieldAddr 2 v1) fun v2 =>
bindP (ld1 v2 w) fun v3 =>
bindP (lenM v3 w) fun v4 =>
K v4 w

def G17 : FnT := fun args w K => on1 (fun x0 => F17 x0 w K) args
theorem c17 {x0 : Value} {w : World} {K : Value → World → Prop} (h : F17 x0 w K) : callP G17 [x0] w K := callP_intro (on1_mk (p := fun x0 => F17 x0 w K) h)
theorem ok17 : OkF Try.prog 17 G17 := by
  refine okF_of (tab_ok (l := T17) trivial) mixed (n := fuel) Try.func17 Try.call17 fun args w K h => ?_
  obtain ⟨x0, rfl, hh⟩ := of_on1 h
  exact fnD_list (c := bodyOf Try.f17) (by kernel_rfl) (by kernel_rfl) (Eq.mp (by kernel_rfl) hh)

-- 14 gong/gonglaw20.works
def T14 : List (Nat × FnT) := [(13, G13), (16, G16), (17, G17)]
def F14 (w : World) (K : Value → World → Prop) : Prop :=
callP G13 [(.int .i64 5)] w fun v2 w1 =>
bindP (pTuple v2 0) fun v3 =>
bindP (pTuple v2 1) fun v4 =>
bindP (bEq Try.prog 23 (.tmp 17) (.const (.pointer none)) v3 (.pointer none)) fun v5 =>
stepM (gd false v5) v4 fun v6 =>
Sx.stepG (gd false v5) (bNe Try.prog 24 (.tmp 20) (.const (.int .i64 0)) v6 (.int .i64 0)) fun v7 =>
bindP (pPick v5 (.bool true) v7) fun v8 =>
ifB v8 (
K (.bool false) w1) (
bindP (fBuild Try.prog 31 [(0, (.string ⟨#[110]⟩)), (1, (.string ⟨#[108, 105, 110, 107]⟩)), (3, (.int .i64 4))]) fun v9 =>
bindP (fBuild Try.prog 31 [(0, (.string ⟨#[110]⟩)), (1, (.string ⟨#[108, 105, 110, 107]⟩))]) fun v10 =>
eAlloc Try.prog 31 w1 fun v12 w11 =>
eAlloc Try.prog 31 w11 fun v14 w13 =>
bindW (st 5 v12 v9 w13) fun w15 =>
bindW (st 5 v14 v10 w15) fun w17 =>
bindP (ldN 5 v12 w17) fun v19 =>
callP G16 [v3, v19, (.int .i64 1)] w17 fun v21 w20 =>
bindP (pTuple v21 0) fun v22 =>
bindP (pTuple v21 1) fun v23 =>
bindP (pTuple v21 2) fun v24 =>
eAlloc Try.prog 33 w20 fun v26 w25 =>
bindW (st 11 v26 v22 w25) fun w27 =>
bindP (ldN 5 v12 w27) fun v29 =>
callP G16 [v3, v29, (.int .i64 2)] w27 fun v31 w30 =>
bindP (pTuple v31 0) fun v32 =>
bindP (pTuple v31 1) fun v33 =>
bindP (pTuple v31 2) fun v34 =>
eAlloc Try.prog 33 w30 fun v36 w35 =>
bindW (st 11 v36 v32 w35) fun w37 =>
bindP (ldN 5 v14 w37) fun v39 =>
callP G16 [v3, v39, (.int .i64 3)] w37 fun v41 w40 =>
bindP (pTuple v41 0) fun v42 =>
bindP (pTuple v41 1) fun v43 =>
bindP (pTuple v41 2) fun v44 =>
eAlloc Try.prog 33 w40 fun v46 w45 =>
bindW (st 11 v46 v42 w45) fun w47 =>
bindP (bEq Try.prog 24 (.tmp 46) (.const (.int .i64 0)) v24 (.int .i64 0)) fun v49 =>
stepM (gd true v49) v34 fun v50 =>
Sx.stepG (gd true v49) (bEq Try.prog 24 (.tmp 49) (.const (.int .i64 0)) v50 (.int .i64 0)) fun v51 =>
bindP (pPick v49 v51 (.bool false)) fun v52 =>
stepM (gd true v52) v44 fun v53 =>
Sx.stepG (gd true v52) (bEq Try.prog 24 (.tmp 53) (.const (.int .i64 0)) v53 (.int .i64 0)) fun v54 =>
bindP (pPick v52 v54 (.bool false)) fun v55 =>
stepM (gd true v55) v23 fun v56 =>
Sx.stepG (gd true v55) (bEq Try.prog 3 (.tmp 57) (.const (.int .i64 1)) v56 (.int .i64 1)) fun v57 =>
bindP (pPick v55 v57 (.bool false)) fun v58 =>
stepM (gd true v58) v33 fun v59 =>
Sx.stepG (gd true v58) (bEq Try.prog 3 (.tmp 61) (.const (.int .i64 0)) v59 (.int .i64 0)) fun v60 =>
bindP (pPick v58 v60 (.bool false)) fun v61 =>
stepM (gd true v61) v43 fun v62 =>
Sx.stepG (gd true v61) (bEq Try.prog 3 (.tmp 65) (.const (.int .i64 3)) v62 (.int .i64 3)) fun v63 =>
bindP (pPick v61 v63 (.bool false)) fun v64 =>
Sx.stepG (gd true v64) (pFieldAddr 6 v46) fun v65 =>
Sx.stepG (gd true v64) (ld1 v65 w47) fun v66 =>
Sx.stepG (gd true v64) (bEq Try.prog 3 (.tmp 70) (.const (.int .i64 2)) v66 (.int .i64 2)) fun v67 =>
bindP (pPick v64 v67 (.bool false)) fun v68 =>
stepM (gd true v68) v3 fun v69 =>
stepE (gd true v68) (fun k => callP G17 [v69] w47 k) w47 fun v71 w70 =>
Sx.stepG (gd true v68) (bEq Try.prog 3 (.tmp 75) (.const (.int .i64 0)) v71 (.int .i64 0)) fun v72 =>
bindP (pPick v68 v72 (.bool false)) fun v73 =>
K v73 w70)

def G14 : FnT := fun args w K => on0 (F14 w K) args
theorem c14 {w : World} {K : Value → World → Prop} (h : F14 w K) : callP G14 [] w K := callP_intro (on0_mk (p := F14 w K) h)
theorem ok14 : OkF Try.prog 14 G14 := by
  refine okF_of (tab_ok (l := T14) ⟨ok13, ok16, ok17, trivial⟩) mixed (n := fuel) Try.func14 Try.call14 fun args w K h => ?_
  obtain ⟨rfl, hh⟩ := of_on0 h
  exact fnD_list (c := bodyOf Try.f14) (by kernel_rfl) (by kernel_rfl) (Eq.mp (by kernel_rfl) hh)

-- 67 gong/board.isWho
def T67 : List (Nat × FnT) := [(61, G61)]
def F67 (x0 : Value) (w : World) (K : Value → World → Prop) : Prop :=
bindP (fBuild Try.prog 31 [(0, x0), (1, (.string ⟨#[99]⟩))]) fun v1 =>
callP G61 [v1] w fun v3 w2 =>
bindP (bEq Try.prog 24 (.tmp 5) (.const (.int .i64 0)) v3 (.int .i64 0)) fun v4 =>
K v4 w2

def G67 : FnT := fun args w K => on1 (fun x0 => F67 x0 w K) args
theorem c67 {x0 : Value} {w : World} {K : Value → World → Prop} (h : F67 x0 w K) : callP G67 [x0] w K := callP_intro (on1_mk (p := fun x0 => F67 x0 w K) h)
theorem ok67 : OkF Try.prog 67 G67 := by
  refine okF_of (tab_ok (l := T67) ⟨ok61, trivial⟩) mixed (n := fuel) Try.func67 Try.call67 fun args w K h => ?_
  obtain ⟨x0, rfl, hh⟩ := of_on1 h
  exact fnD_list (c := bodyOf Try.f67) (by kernel_rfl) (by kernel_rfl) (Eq.mp (by kernel_rfl) hh)

-- 18 gong/board.Check
def T18 : List (Nat × FnT) := [(61, G61), (62, G62), (67, G67)]
def F18 (x0 : Value) (w : World) (K : Value → World → Prop) : Prop :=
eBox 33 x0 w fun v2 w1 =>
bindP (pFieldAddr 7 v2) fun v3 =>
bindP (ld1 v3 w1) fun v4 =>
callP G62 [v4] w1 fun v6 w5 =>
Sx.stepG (gd true v6) (pFieldAddr 8 v2) fun v7 =>
Sx.stepG (gd true v6) (ld1 v7 w5) fun v8 =>
stepE (gd true v6) (fun k => callP G62 [v8] w5 k) w5 fun v10 w9 =>
bindP (pPick v6 v10 (.bool false)) fun v11 =>
Sx.stepG (gd true v11) (pFieldAddr 7 v2) fun v12 =>
Sx.stepG (gd true v11) (ld1 v12 w9) fun v13 =>
Sx.stepG (gd true v11) (pFieldAddr 8 v2) fun v14 =>
Sx.stepG (gd true v11) (ld1 v14 w9) fun v15 =>
Sx.stepG (gd true v11) (bLe v13 v15) fun v16 =>
bindP (pPick v11 v16 (.bool false)) fun v17 =>
bindP (pFieldAddr 9 v2) fun v18 =>
bindP (ld1 v18 w9) fun v19 =>
Sx.stepG (gd true v19) (pFieldAddr 10 v2) fun v20 =>
Sx.stepG (gd true v19) (ld1 v20 w9) fun v21 =>
stepE (gd true v19) (fun k => callP G67 [v21] w9 k) w9 fun v23 w22 =>
bindP (pPick v19 v23 (.bool false)) fun v24 =>
Sx.stepG (gd false v24) (pFieldAddr 9 v2) fun v25 =>
Sx.stepG (gd false v24) (ld1 v25 w22) fun v26 =>
Sx.stepG (gd false v24) (uNot v26) fun v27 =>
stepM (gd false v24) v27 fun v28 =>
Sx.stepG (gd true v28) (pFieldAddr 10 v2) fun v29 =>
Sx.stepG (gd true v28) (ld1 v29 w22) fun v30 =>
Sx.stepG (gd true v28) (bEq Try.prog 9 (.tmp 33) (.const (.string ⟨#[]⟩)) v30 (.string ⟨#[]⟩)) fun v31 =>
Sx.stepG (gd false v24) (pPick v28 v31 (.bool false)) fun v32 =>
bindP (pPick v24 (.bool true) v32) fun v33 =>
bindP (pFieldAddr 0 v2) fun v34 =>
bindP (ld1 v34 w22) fun v35 =>
bindP (bLt v35 (.int .i64 1)) fun v36 =>
Sx.stepG (gd false v36) (pFieldAddr 1 v2) fun v37 =>
Sx.stepG (gd false v36) (pFieldAddr 3 v37) fun v38 =>
Sx.stepG (gd false v36) (ld1 v38 w22) fun v39 =>
Sx.stepG (gd false v36) (bLt v39 (.int .i64 1)) fun v40 =>
bindP (pPick v36 (.bool true) v40) fun v41 =>
Sx.stepG (gd false v41) (pFieldAddr 6 v2) fun v42 =>
Sx.stepG (gd false v41) (ld1 v42 w22) fun v43 =>
Sx.stepG (gd false v41) (bLt v43 (.int .i64 1)) fun v44 =>
bindP (pPick v41 (.bool true) v44) fun v45 =>
Sx.stepG (gd false v45) (pFieldAddr 6 v2) fun v46 =>
Sx.stepG (gd false v45) (ld1 v46 w22) fun v47 =>
Sx.stepG (gd false v45) (bGt v47 (.int .i64 1099511627776)) fun v48 =>
bindP (pPick v45 (.bool true) v48) fun v49 =>
stepM (gd false v49) v17 fun v50 =>
Sx.stepG (gd false v49) (uNot v50) fun v51 =>
bindP (pPick v49 (.bool true) v51) fun v52 =>
stepM (gd false v52) v33 fun v53 =>
Sx.stepG (gd false v52) (uNot v53) fun v54 =>
bindP (pPick v52 (.bool true) v54) fun v55 =>
Sx.stepG (gd false v55) (pFieldAddr 1 v2) fun v56 =>
Sx.stepG (gd false v55) (ldN 5 v56 w22) fun v57 =>
stepE (gd false v55) (fun k => callP G61 [v57] w22 k) w22 fun v59 w58 =>
Sx.stepG (gd false v55) (bNe Try.prog 24 (.tmp 67) (.const (.int .i64 0)) v59 (.int .i64 0)) fun v60 =>
bindP (pPick v55 (.bool true) v60) fun v61 =>
ifB v61 (
K (.int .i64 4) w58) (
K (.int .i64 0) w58)

def G18 : FnT := fun args w K => on1 (fun x0 => F18 x0 w K) args
theorem c18 {x0 : Value} {w : World} {K : Value → World → Prop} (h : F18 x0 w K) : callP G18 [x0] w K := callP_intro (on1_mk (p := fun x0 => F18 x0 w K) h)
theorem ok18 : OkF Try.prog 18 G18 := by
  refine okF_of (tab_ok (l := T18) ⟨ok61, ok62, ok67, trivial⟩) mixed (n := fuel) Try.func18 Try.call18 fun args w K h => ?_
  obtain ⟨x0, rfl, hh⟩ := of_on1 h
  exact fnD_list (c := bodyOf Try.f18) (by kernel_rfl) (by kernel_rfl) (Eq.mp (by kernel_rfl) hh)

-- 70 gong/gongref20.IsWho
def T70 : List (Nat × FnT) := [(68, G68)]
def F70 (x0 : Value) (w : World) (K : Value → World → Prop) : Prop :=
bindP (fBuild Try.prog 31 [(0, x0), (1, (.string ⟨#[120]⟩))]) fun v1 =>
callP G68 [v1] w fun v3 w2 =>
bindP (bEq Try.prog 24 (.tmp 5) (.const (.int .i64 0)) v3 (.int .i64 0)) fun v4 =>
K v4 w2

def G70 : FnT := fun args w K => on1 (fun x0 => F70 x0 w K) args
theorem c70 {x0 : Value} {w : World} {K : Value → World → Prop} (h : F70 x0 w K) : callP G70 [x0] w K := callP_intro (on1_mk (p := fun x0 => F70 x0 w K) h)
theorem ok70 : OkF Try.prog 70 G70 := by
  refine okF_of (tab_ok (l := T70) ⟨ok68, trivial⟩) mixed (n := fuel) Try.func70 Try.call70 fun args w K h => ?_
  obtain ⟨x0, rfl, hh⟩ := of_on1 h
  exact fnD_list (c := bodyOf Try.f70) (by kernel_rfl) (by kernel_rfl) (Eq.mp (by kernel_rfl) hh)

-- 19 gong/gongref20.Check
def T19 : List (Nat × FnT) := [(68, G68), (69, G69), (70, G70)]
def F19 (x0 : Value) (w : World) (K : Value → World → Prop) : Prop :=
eBox 33 x0 w fun v2 w1 =>
bindP (pFieldAddr 0 v2) fun v3 =>
bindP (ld1 v3 w1) fun v4 =>
bindP (bLt v4 (.int .i64 1)) fun v5 =>
Sx.stepG (gd false v5) (pFieldAddr 1 v2) fun v6 =>
Sx.stepG (gd false v5) (ldN 5 v6 w1) fun v7 =>
stepE (gd false v5) (fun k => callP G68 [v7] w1 k) w1 fun v9 w8 =>
Sx.stepG (gd false v5) (bNe Try.prog 24 (.tmp 9) (.const (.int .i64 0)) v9 (.int .i64 0)) fun v10 =>
bindP (pPick v5 (.bool true) v10) fun v11 =>
Sx.stepG (gd false v11) (pFieldAddr 1 v2) fun v12 =>
Sx.stepG (gd false v11) (pFieldAddr 3 v12) fun v13 =>
Sx.stepG (gd false v11) (ld1 v13 w8) fun v14 =>
Sx.stepG (gd false v11) (bLt v14 (.int .i64 1)) fun v15 =>
bindP (pPick v11 (.bool true) v15) fun v16 =>
Sx.stepG (gd false v16) (pFieldAddr 6 v2) fun v17 =>
Sx.stepG (gd false v16) (ld1 v17 w8) fun v18 =>
Sx.stepG (gd false v16) (bLt v18 (.int .i64 1)) fun v19 =>
bindP (pPick v16 (.bool true) v19) fun v20 =>
Sx.stepG (gd false v20) (pFieldAddr 6 v2) fun v21 =>
Sx.stepG (gd false v20) (ld1 v21 w8) fun v22 =>
Sx.stepG (gd false v20) (bGt v22 (.int .i64 1099511627776)) fun v23 =>
bindP (pPick v20 (.bool true) v23) fun v24 =>
Sx.stepG (gd false v24) (pFieldAddr 7 v2) fun v25 =>
Sx.stepG (gd false v24) (ld1 v25 w8) fun v26 =>
stepE (gd false v24) (fun k => callP G69 [v26] w8 k) w8 fun v28 w27 =>
Sx.stepG (gd false v24) (uNot v28) fun v29 =>
bindP (pPick v24 (.bool true) v29) fun v30 =>
Sx.stepG (gd false v30) (pFieldAddr 8 v2) fun v31 =>
Sx.stepG (gd false v30) (ld1 v31 w27) fun v32 =>
stepE (gd false v30) (fun k => callP G69 [v32] w27 k) w27 fun v34 w33 =>
Sx.stepG (gd false v30) (uNot v34) fun v35 =>
bindP (pPick v30 (.bool true) v35) fun v36 =>
Sx.stepG (gd false v36) (pFieldAddr 7 v2) fun v37 =>
Sx.stepG (gd false v36) (ld1 v37 w33) fun v38 =>
Sx.stepG (gd false v36) (pFieldAddr 8 v2) fun v39 =>
Sx.stepG (gd false v36) (ld1 v39 w33) fun v40 =>
Sx.stepG (gd false v36) (bGt v38 v40) fun v41 =>
bindP (pPick v36 (.bool true) v41) fun v42 =>
ifB v42 (
K (.int .i64 4) w33) (
bindP (pFieldAddr 9 v2) fun v43 =>
bindP (ld1 v43 w33) fun v44 =>
Sx.stepG (gd true v44) (pFieldAddr 10 v2) fun v45 =>
Sx.stepG (gd true v44) (ld1 v45 w33) fun v46 =>
stepE (gd true v44) (fun k => callP G70 [v46] w33 k) w33 fun v48 w47 =>
Sx.stepG (gd true v44) (uNot v48) fun v49 =>
bindP (pPick v44 v49 (.bool false)) fun v50 =>
Sx.stepG (gd false v50) (pFieldAddr 9 v2) fun v51 =>
Sx.stepG (gd false v50) (ld1 v51 w47) fun v52 =>
Sx.stepG (gd false v50) (uNot v52) fun v53 =>
stepM (gd false v50) v53 fun v54 =>
Sx.stepG (gd true v54) (pFieldAddr 10 v2) fun v55 =>
Sx.stepG (gd true v54) (ld1 v55 w47) fun v56 =>
Sx.stepG (gd true v54) (bNe Try.prog 9 (.tmp 61) (.const (.string ⟨#[]⟩)) v56 (.string ⟨#[]⟩)) fun v57 =>
Sx.stepG (gd false v50) (pPick v54 v57 (.bool false)) fun v58 =>
bindP (pPick v50 (.bool true) v58) fun v59 =>
ifB v59 (
K (.int .i64 4) w47) (
K (.int .i64 0) w47))

def G19 : FnT := fun args w K => on1 (fun x0 => F19 x0 w K) args
theorem c19 {x0 : Value} {w : World} {K : Value → World → Prop} (h : F19 x0 w K) : callP G19 [x0] w K := callP_intro (on1_mk (p := fun x0 => F19 x0 w K) h)
theorem ok19 : OkF Try.prog 19 G19 := by
  refine okF_of (tab_ok (l := T19) ⟨ok68, ok69, ok70, trivial⟩) mixed (n := fuel) Try.func19 Try.call19 fun args w K h => ?_
  obtain ⟨x0, rfl, hh⟩ := of_on1 h
  exact fnD_list (c := bodyOf Try.f19) (by kernel_rfl) (by kernel_rfl) (Eq.mp (by kernel_rfl) hh)

-- 4 gong/gonglaw20.BoardChecks
def T4 : List (Nat × FnT) := [(14, G14), (18, G18), (19, G19)]
def F4 (x0 : Value) (w : World) (K : Value → World → Prop) : Prop :=
eBox 33 x0 w fun v2 w1 =>
bindP (pFieldAddr 1 v2) fun v3 =>
bindP (pFieldAddr 0 v3) fun v4 =>
bindP (ld1 v4 w1) fun v5 =>
bindP (lenS v5) fun v6 =>
bindP (pFieldAddr 1 v2) fun v7 =>
bindP (pFieldAddr 1 v7) fun v8 =>
bindP (ld1 v8 w1) fun v9 =>
bindP (lenS v9) fun v10 =>
bindP (bAdd v6 v10) fun v11 =>
bindP (pFieldAddr 1 v2) fun v12 =>
bindP (pFieldAddr 2 v12) fun v13 =>
bindP (ld1 v13 w1) fun v14 =>
bindP (lenS v14) fun v15 =>
bindP (bAdd v11 v15) fun v16 =>
bindP (pFieldAddr 1 v2) fun v17 =>
bindP (pFieldAddr 4 v17) fun v18 =>
bindP (ld1 v18 w1) fun v19 =>
bindP (lenS v19) fun v20 =>
bindP (bAdd v16 v20) fun v21 =>
bindP (pFieldAddr 10 v2) fun v22 =>
bindP (ld1 v22 w1) fun v23 =>
bindP (lenS v23) fun v24 =>
bindP (bAdd v21 v24) fun v25 =>
bindP (bGt v25 (.int .i64 3000)) fun v26 =>
ifB v26 (
callP G14 [] w1 fun v28 w27 =>
K v28 w27) (
bindP (ldN 11 v2 w1.drew) fun v29 =>
bindP (ldN 11 v2 w1.drew) fun v30 =>
callP G18 [v29] w1.drew fun v32 w31 =>
fok true (ldN 11 v2 w31) v30 ∧ (callP G19 [v30] w31 fun v34 w33 =>
bindP (bEq Try.prog 24 (.tmp 29) (.tmp 31) v32 v34) fun v35 =>
stepE (gd true v35) (fun k => callP G14 [] w33 k) w33 fun v37 w36 =>
bindP (pPick v35 v37 (.bool false)) fun v38 =>
K v38 w36))

def G4 : FnT := fun args w K => on1 (fun x0 => F4 x0 w K) args
theorem c4 {x0 : Value} {w : World} {K : Value → World → Prop} (h : F4 x0 w K) : callP G4 [x0] w K := callP_intro (on1_mk (p := fun x0 => F4 x0 w K) h)
theorem ok4 : OkF Try.prog 4 G4 := by
  refine okF_of (tab_ok (l := T4) ⟨ok14, ok18, ok19, trivial⟩) mixed (n := fuel) Try.func4 Try.call4 fun args w K h => ?_
  obtain ⟨x0, rfl, hh⟩ := of_on1 h
  exact fnD_list (c := bodyOf Try.f4) (by kernel_rfl) (by kernel_rfl) (Eq.mp (by kernel_rfl) hh)

-- 3 gong/gonglaw20.BoardTally
def T3 : List (Nat × FnT) := [(13, G13), (14, G14), (15, G15), (16, G16), (17, G17)]
def F3_3b (w : World) (K : Value → World → Prop) : Prop :=
K (.bool true) w

def F3_3 (w : World) (K : Value → World → Prop) : Prop := F3_3b w K

theorem ok3_3 {K : Value → World → Prop} {kn kr : Env → World → Prop} {ke : Nat → Env → World → Prop}
    (hn : ∀ e w, (fun e w => K (e 2) w) e w → kn e w) (hr : ∀ e w, endD Try.prog [.tmp 2] K e w → kr e w) (he : ∀ i e w, noE i e w → ke i e w) :
    ∀ e w, F3_3 w K → denL Try.prog (tabOf T3) 107 fuel ((flat (bodyOf Try.f3)).drop 7) e w kn kr ke := by
  intro e w h
  unfold F3_3 at h
  have e1 : ∀ (_ : Unit), F3_3b w K = denL Try.prog (tabOf T3) 107 fuel ((flat (bodyOf Try.f3)).drop 7) e w (fun e w => K (e 2) w) (endD Try.prog [.tmp 2] K) noE := by intro _; kernel_rfl
  exact seg_end (Eq.mp (e1 ()) h) hn hr he

def F3_6b (s0 : Value) (s3 : Value) (s5 : Value) (s6 : Value) (w : World) (_K : Value → World → Prop) (R3 : Value → Value → Value → Value → World → Prop) : Prop :=
bindP (bAdd s6 (.int .i64 1)) fun v1 =>
R3 s0 s3 s5 v1 w

def F3_6 (s0 : Value) (s3 : Value) (s5 : Value) (s6 : Value) (w : World) (K : Value → World → Prop) (R3 : Value → Value → Value → Value → World → Prop) : Prop := F3_6b s0 s3 s5 s6 w K R3

theorem ok3_6 (R3 : Value → Value → Value → Value → World → Prop) {K : Value → World → Prop} {kn kr : Env → World → Prop} {ke : Nat → Env → World → Prop}
    (hn : ∀ e w, (fun e w => R3 (e 0) (e 3) (e 5) (e 6) w) e w → kn e w) (hr : ∀ e w, endD Try.prog [.tmp 2] K e w → kr e w) (he : ∀ i e w, (blkK 0 (fun e w => F3_3 w K) noE) i e w → ke i e w) :
    ∀ e w, F3_6 (e 0) (e 3) (e 5) (e 6) w K R3 → denL Try.prog (tabOf T3) 107 fuel ((flat (loopB (blkB (nthC (flat (bodyOf Try.f3)) 6)))).drop 3) e w kn kr ke := by
  intro e w h
  unfold F3_6 at h
  have e1 : ∀ (_ : Unit), F3_6b (e 0) (e 3) (e 5) (e 6) w K R3 = denL Try.prog (tabOf T3) 107 fuel ((flat (loopB (blkB (nthC (flat (bodyOf Try.f3)) 6)))).drop 3) e w (fun e w => R3 (e 0) (e 3) (e 5) (e 6) w) (endD Try.prog [.tmp 2] K) (blkK 0 (fun e w => F3_3 w K) noE) := by intro _; kernel_rfl
  exact seg_end (Eq.mp (e1 ()) h) hn hr he

def F3_8b (s0 : Value) (s3 : Value) (s6 : Value) (s7 : Value) (s8 : Value) (s9 : Value) (s10 : Value) (s11 : Value) (w : World) (K : Value → World → Prop) (R3 : Value → Value → Value → Value → World → Prop) (Y0 : Value → Value → Value → Value → World → Prop) : Prop :=
bindP (bNe Try.prog 24 (.tmp 67) (.const (.int .i64 0)) s10 (.int .i64 0)) fun v2 =>
stepM (gd false v2) s9 fun v3 =>
stepM (gd false v2) s11 fun v4 =>
Sx.stepG (gd false v2) (bNe Try.prog 3 (.tmp 70) (.tmp 71) v3 v4) fun v5 =>
bindP (pPick v2 (.bool true) v5) fun v6 =>
Sx.stepG (gd false v6) (ldN 11 s8 w) fun v7 =>
Sx.stepG (gd false v6) (ldN 5 s7 w) fun v8 =>
stepM (gd false v6) s6 fun v9 =>
Sx.stepG (gd false v6) (bAdd v9 (.int .i64 1)) fun v10 =>
stepM (gd false v6) s6 fun v11 =>
Sx.stepG (gd false v6) (bMul (.int .i64 5) v11) fun v12 =>
Sx.stepG (gd false v6) (fBuild Try.prog 33 [(0, (.int .i64 1)), (1, v8), (2, v10), (3, (.int .i64 0)), (4, v12)]) fun v13 =>
Sx.stepG (gd false v6) (bNe Try.prog 33 (.tmp 75) (.tmp 81) v7 v13) fun v14 =>
bindP (pPick v6 (.bool true) v14) fun v15 =>
ifB v15 (
K (.bool false) w) (
bindP (pFieldAddr 3 s7) fun v16 =>
bindP (ld1 v16 w) fun v17 =>
bindP (fBuild Try.prog 31 [(0, (.string ⟨#[111]⟩)), (1, (.string ⟨#[99]⟩)), (3, (.int .i64 1))]) fun v18 =>
bindP (bMul (.int .i64 5) s6) fun v19 =>
callP G16 [s3, v18, v19] w fun v21 w20 =>
bindP (pTuple v21 0) fun v22 =>
bindP (pTuple v21 1) fun _ =>
bindP (pTuple v21 2) fun v24 =>
eAlloc Try.prog 33 w20 fun v26 w25 =>
bindW (st 11 v26 v22 w25) fun w27 =>
bindP (bNe Try.prog 24 (.tmp 95) (.const (.int .i64 200)) v24 (.int .i64 200)) fun v29 =>
Sx.stepG (gd false v29) (ldN 11 v26 w27) fun v30 =>
Sx.stepG (gd false v29) (fBuild Try.prog 33 []) fun v31 =>
Sx.stepG (gd false v29) (bNe Try.prog 33 (.tmp 98) (.tmp 99) v30 v31) fun v32 =>
bindP (pPick v29 (.bool true) v32) fun v33 =>
stepM (gd false v33) s3 fun v34 =>
stepE (gd false v33) (fun k => callP G17 [v34] w27 k) w27 fun v36 w35 =>
Sx.stepG (gd false v33) (bNe Try.prog 3 (.tmp 104) (.const (.int .i64 1)) v36 (.int .i64 1)) fun v37 =>
bindP (pPick v33 (.bool true) v37) fun v38 =>
ifB v38 (
K (.bool false) w35) (
Y0 s0 s3 v17 s6 w35))

def F3_8 (s0 : Value) (s3 : Value) (s6 : Value) (s7 : Value) (s8 : Value) (s9 : Value) (s10 : Value) (s11 : Value) (w : World) (K : Value → World → Prop) (R3 : Value → Value → Value → Value → World → Prop) : Prop := F3_8b s0 s3 s6 s7 s8 s9 s10 s11 w K R3 (fun a0 a3 a5 a6 w => F3_6 a0 a3 a5 a6 w K R3)

theorem ok3_8 (R3 : Value → Value → Value → Value → World → Prop) {K : Value → World → Prop} {kn kr : Env → World → Prop} {ke : Nat → Env → World → Prop}
    (hn : ∀ e w, (fun e w => F3_6 (e 0) (e 3) (e 5) (e 6) w K R3) e w → kn e w) (hr : ∀ e w, endD Try.prog [.tmp 2] K e w → kr e w) (he : ∀ i e w, (blkK 1 (fun e w => F3_6 (e 0) (e 3) (e 5) (e 6) w K R3) (blkK 0 (fun e w => F3_3 w K) noE)) i e w → ke i e w) :
    ∀ e w, F3_8 (e 0) (e 3) (e 6) (e 7) (e 8) (e 9) (e 10) (e 11) w K R3 → denL Try.prog (tabOf T3) 107 fuel ((flat (blkB (nthC (flat (loopB (blkB (nthC (flat (bodyOf Try.f3)) 6)))) 2))).drop 5) e w kn kr ke := by
  intro e w h
  unfold F3_8 at h
  have e1 : ∀ (Y0 : Value → Value → Value → Value → World → Prop), F3_8b (e 0) (e 3) (e 6) (e 7) (e 8) (e 9) (e 10) (e 11) w K R3 Y0 = denL Try.prog (tabOf T3) 107 fuel ((flat (blkB (nthC (flat (loopB (blkB (nthC (flat (bodyOf Try.f3)) 6)))) 2))).drop 5) e w (fun e w => Y0 (e 0) (e 3) (e 5) (e 6) w) (endD Try.prog [.tmp 2] K) (blkK 1 (fun e w => Y0 (e 0) (e 3) (e 5) (e 6) w) (blkK 0 (fun e w => F3_3 w K) noE)) := by intro Y0; kernel_rfl
  exact seg_end (Eq.mp (e1 (fun a0 a3 a5 a6 w => F3_6 a0 a3 a5 a6 w K R3)) h) hn hr he

def F3_7b (s0 : Value) (s3 : Value) (s5 : Value) (s6 : Value) (w : World) (_K : Value → World → Prop) (R3 : Value → Value → Value → Value → World → Prop) (Y0 : Value → Value → Value → Value → Value → Value → Value → Value → World → Prop) : Prop :=
bindP (pIndexL 1 s0 s6) fun v39 =>
bindP (ld1 v39 w.drew) fun v40 =>
bindP (bRem s6 (.int .i64 20)) fun v41 =>
bindP (bAdd (.int .i64 97) v41) fun v42 =>
bindP (cInt .u8 v42) fun v43 =>
(callP G15 [v40, (.int .i64 5)] w.drew fun v45 w44 =>
fok true (cInt .u8 v42) v43 ∧ (bindP (bAdd (.int .i64 1) v45) fun v46 =>
(eBuildSl Try.prog 29 1 [(0, v43)] w44 fun v48 w47 =>
fok true (ld1 v39 w47) v40 ∧ (bindP (cBytes v48 w47) fun v49 =>
bindP (fBuild Try.prog 31 [(0, (.string ⟨#[110]⟩)), (1, (.string ⟨#[99]⟩)), (2, (.string ⟨#[107]⟩)), (3, v46), (4, v49)]) fun v50 =>
eAlloc Try.prog 31 w47 fun v52 w51 =>
(fok true (ld1 v39 w51) v40 ∧ fok true (cInt .u8 v42) v43 ∧ fok true (cBytes v48 w51) v49) ∧ (bindW (st 5 v52 v50 w51) fun w53 =>
bindP (ldN 5 v52 w53) fun v55 =>
bindP (bMul (.int .i64 5) s6) fun v56 =>
callP G16 [s3, v55, v56] w53 fun v58 w57 =>
bindP (pTuple v58 0) fun v59 =>
bindP (pTuple v58 1) fun v60 =>
bindP (pTuple v58 2) fun v61 =>
eAlloc Try.prog 33 w57 fun v63 w62 =>
bindW (st 11 v63 v59 w62) fun w64 =>
bindP (bEq Try.prog 3 (.tmp 61) (.const (.int .i64 0)) s6 (.int .i64 0)) fun v66 =>
ifB v66 (
Y0 s0 s3 s6 v52 v63 v60 v61 (.int .i64 1) w64) (
bindP (pFieldAddr 3 v52) fun v67 =>
bindP (ld1 v67 w64) fun v68 =>
bindP (bNe Try.prog 3 (.tmp 64) (.tmp 65) v68 s5) fun v69 =>
ifB v69 (
Y0 s0 s3 s6 v52 v63 v60 v61 (.int .i64 2) w64) (
Y0 s0 s3 s6 v52 v63 v60 v61 (.int .i64 0) w64))))) ∧ (eAlloc Try.prog 31 w44 fun v71 w70 =>
(fok true (ld1 v39 w70) v40 ∧ fok true (cInt .u8 v42) v43) ∧ (eBuildSl Try.prog 29 1 [(0, v43)] w70 fun v73 w72 =>
fok true (ld1 v39 w72) v40 ∧ (bindP (cBytes v73 w72) fun v74 =>
bindP (fBuild Try.prog 31 [(0, (.string ⟨#[110]⟩)), (1, (.string ⟨#[99]⟩)), (2, (.string ⟨#[107]⟩)), (3, v46), (4, v74)]) fun v75 =>
bindW (st 5 v71 v75 w72) fun w76 =>
bindP (ldN 5 v71 w76) fun v78 =>
bindP (bMul (.int .i64 5) s6) fun v79 =>
callP G16 [s3, v78, v79] w76 fun v81 w80 =>
bindP (pTuple v81 0) fun v82 =>
bindP (pTuple v81 1) fun v83 =>
bindP (pTuple v81 2) fun v84 =>
eAlloc Try.prog 33 w80 fun v86 w85 =>
bindW (st 11 v86 v82 w85) fun w87 =>
bindP (bEq Try.prog 3 (.tmp 61) (.const (.int .i64 0)) s6 (.int .i64 0)) fun v89 =>
ifB v89 (
Y0 s0 s3 s6 v71 v86 v83 v84 (.int .i64 1) w87) (
bindP (pFieldAddr 3 v71) fun v90 =>
bindP (ld1 v90 w87) fun v91 =>
bindP (bNe Try.prog 3 (.tmp 64) (.tmp 65) v91 s5) fun v92 =>
ifB v92 (
Y0 s0 s3 s6 v71 v86 v83 v84 (.int .i64 2) w87) (
Y0 s0 s3 s6 v71 v86 v83 v84 (.int .i64 0) w87))))))) ∧ (eBuildSl Try.prog 29 1 [(0, v43)] w.drew fun v94 w93 =>
fok true (ld1 v39 w93) v40 ∧ (bindP (cBytes v94 w93) fun v95 =>
(callP G15 [v40, (.int .i64 5)] w93 fun v97 w96 =>
(fok true (cInt .u8 v42) v43 ∧ fok true (cBytes v94 w96) v95) ∧ (bindP (bAdd (.int .i64 1) v97) fun v98 =>
bindP (fBuild Try.prog 31 [(0, (.string ⟨#[110]⟩)), (1, (.string ⟨#[99]⟩)), (2, (.string ⟨#[107]⟩)), (3, v98), (4, v95)]) fun v99 =>
eAlloc Try.prog 31 w96 fun v101 w100 =>
(fok true (ld1 v39 w100) v40 ∧ fok true (cInt .u8 v42) v43 ∧ fok true (cBytes v94 w100) v95) ∧ (bindW (st 5 v101 v99 w100) fun w102 =>
bindP (ldN 5 v101 w102) fun v104 =>
bindP (bMul (.int .i64 5) s6) fun v105 =>
callP G16 [s3, v104, v105] w102 fun v107 w106 =>
bindP (pTuple v107 0) fun v108 =>
bindP (pTuple v107 1) fun v109 =>
bindP (pTuple v107 2) fun v110 =>
eAlloc Try.prog 33 w106 fun v112 w111 =>
bindW (st 11 v112 v108 w111) fun w113 =>
bindP (bEq Try.prog 3 (.tmp 61) (.const (.int .i64 0)) s6 (.int .i64 0)) fun v115 =>
ifB v115 (
Y0 s0 s3 s6 v101 v112 v109 v110 (.int .i64 1) w113) (
bindP (pFieldAddr 3 v101) fun v116 =>
bindP (ld1 v116 w113) fun v117 =>
bindP (bNe Try.prog 3 (.tmp 64) (.tmp 65) v117 s5) fun v118 =>
ifB v118 (
Y0 s0 s3 s6 v101 v112 v109 v110 (.int .i64 2) w113) (
Y0 s0 s3 s6 v101 v112 v109 v110 (.int .i64 0) w113))))) ∧ (eAlloc Try.prog 31 w93 fun v120 w119 =>
(fok true (ld1 v39 w119) v40 ∧ fok true (cInt .u8 v42) v43 ∧ fok true (cBytes v94 w119) v95) ∧ (callP G15 [v40, (.int .i64 5)] w119 fun v122 w121 =>
(fok true (cInt .u8 v42) v43 ∧ fok true (cBytes v94 w121) v95) ∧ (bindP (bAdd (.int .i64 1) v122) fun v123 =>
bindP (fBuild Try.prog 31 [(0, (.string ⟨#[110]⟩)), (1, (.string ⟨#[99]⟩)), (2, (.string ⟨#[107]⟩)), (3, v123), (4, v95)]) fun v124 =>
bindW (st 5 v120 v124 w121) fun w125 =>
bindP (ldN 5 v120 w125) fun v127 =>
bindP (bMul (.int .i64 5) s6) fun v128 =>
callP G16 [s3, v127, v128] w125 fun v130 w129 =>
bindP (pTuple v130 0) fun v131 =>
bindP (pTuple v130 1) fun v132 =>
bindP (pTuple v130 2) fun v133 =>
eAlloc Try.prog 33 w129 fun v135 w134 =>
bindW (st 11 v135 v131 w134) fun w136 =>
bindP (bEq Try.prog 3 (.tmp 61) (.const (.int .i64 0)) s6 (.int .i64 0)) fun v138 =>
ifB v138 (
Y0 s0 s3 s6 v120 v135 v132 v133 (.int .i64 1) w136) (
bindP (pFieldAddr 3 v120) fun v139 =>
bindP (ld1 v139 w136) fun v140 =>
bindP (bNe Try.prog 3 (.tmp 64) (.tmp 65) v140 s5) fun v141 =>
ifB v141 (
Y0 s0 s3 s6 v120 v135 v132 v133 (.int .i64 2) w136) (
Y0 s0 s3 s6 v120 v135 v132 v133 (.int .i64 0) w136))))))) ∧ (eAlloc Try.prog 31 w.drew fun v143 w142 =>
(fok true (ld1 v39 w142) v40 ∧ fok true (cInt .u8 v42) v43) ∧ ((callP G15 [v40, (.int .i64 5)] w142 fun v145 w144 =>
fok true (cInt .u8 v42) v43 ∧ (bindP (bAdd (.int .i64 1) v145) fun v146 =>
eBuildSl Try.prog 29 1 [(0, v43)] w144 fun v148 w147 =>
fok true (ld1 v39 w147) v40 ∧ (bindP (cBytes v148 w147) fun v149 =>
bindP (fBuild Try.prog 31 [(0, (.string ⟨#[110]⟩)), (1, (.string ⟨#[99]⟩)), (2, (.string ⟨#[107]⟩)), (3, v146), (4, v149)]) fun v150 =>
bindW (st 5 v143 v150 w147) fun w151 =>
bindP (ldN 5 v143 w151) fun v153 =>
bindP (bMul (.int .i64 5) s6) fun v154 =>
callP G16 [s3, v153, v154] w151 fun v156 w155 =>
bindP (pTuple v156 0) fun v157 =>
bindP (pTuple v156 1) fun v158 =>
bindP (pTuple v156 2) fun v159 =>
eAlloc Try.prog 33 w155 fun v161 w160 =>
bindW (st 11 v161 v157 w160) fun w162 =>
bindP (bEq Try.prog 3 (.tmp 61) (.const (.int .i64 0)) s6 (.int .i64 0)) fun v164 =>
ifB v164 (
Y0 s0 s3 s6 v143 v161 v158 v159 (.int .i64 1) w162) (
bindP (pFieldAddr 3 v143) fun v165 =>
bindP (ld1 v165 w162) fun v166 =>
bindP (bNe Try.prog 3 (.tmp 64) (.tmp 65) v166 s5) fun v167 =>
ifB v167 (
Y0 s0 s3 s6 v143 v161 v158 v159 (.int .i64 2) w162) (
Y0 s0 s3 s6 v143 v161 v158 v159 (.int .i64 0) w162))))) ∧ (eBuildSl Try.prog 29 1 [(0, v43)] w142 fun v169 w168 =>
fok true (ld1 v39 w168) v40 ∧ (bindP (cBytes v169 w168) fun v170 =>
callP G15 [v40, (.int .i64 5)] w168 fun v172 w171 =>
(fok true (cInt .u8 v42) v43 ∧ fok true (cBytes v169 w171) v170) ∧ (bindP (bAdd (.int .i64 1) v172) fun v173 =>
bindP (fBuild Try.prog 31 [(0, (.string ⟨#[110]⟩)), (1, (.string ⟨#[99]⟩)), (2, (.string ⟨#[107]⟩)), (3, v173), (4, v170)]) fun v174 =>
bindW (st 5 v143 v174 w171) fun w175 =>
bindP (ldN 5 v143 w175) fun v177 =>
bindP (bMul (.int .i64 5) s6) fun v178 =>
callP G16 [s3, v177, v178] w175 fun v180 w179 =>
bindP (pTuple v180 0) fun v181 =>
bindP (pTuple v180 1) fun v182 =>
bindP (pTuple v180 2) fun v183 =>
eAlloc Try.prog 33 w179 fun v185 w184 =>
bindW (st 11 v185 v181 w184) fun w186 =>
bindP (bEq Try.prog 3 (.tmp 61) (.const (.int .i64 0)) s6 (.int .i64 0)) fun v188 =>
ifB v188 (
Y0 s0 s3 s6 v143 v185 v182 v183 (.int .i64 1) w186) (
bindP (pFieldAddr 3 v143) fun v189 =>
bindP (ld1 v189 w186) fun v190 =>
bindP (bNe Try.prog 3 (.tmp 64) (.tmp 65) v190 s5) fun v191 =>
ifB v191 (
Y0 s0 s3 s6 v143 v185 v182 v183 (.int .i64 2) w186) (
Y0 s0 s3 s6 v143 v185 v182 v183 (.int .i64 0) w186)))))))

def F3_7 (s0 : Value) (s3 : Value) (s5 : Value) (s6 : Value) (w : World) (K : Value → World → Prop) (R3 : Value → Value → Value → Value → World → Prop) : Prop := F3_7b s0 s3 s5 s6 w K R3 (fun a0 a3 a6 a7 a8 a9 a10 a11 w => F3_8 a0 a3 a6 a7 a8 a9 a10 a11 w K R3)

theorem ok3_7 (R3 : Value → Value → Value → Value → World → Prop) {K : Value → World → Prop} {kn kr : Env → World → Prop} {ke : Nat → Env → World → Prop}
    (hn : ∀ e w, (fun e w => F3_6 (e 0) (e 3) (e 5) (e 6) w K R3) e w → kn e w) (hr : ∀ e w, endD Try.prog [.tmp 2] K e w → kr e w) (he : ∀ i e w, (blkK 1 (fun e w => F3_6 (e 0) (e 3) (e 5) (e 6) w K R3) (blkK 0 (fun e w => F3_3 w K) noE)) i e w → ke i e w) :
    ∀ e w, F3_7 (e 0) (e 3) (e 5) (e 6) w K R3 → denL Try.prog (tabOf T3) 107 fuel ((flat (blkB (nthC (flat (loopB (blkB (nthC (flat (bodyOf Try.f3)) 6)))) 2))).drop 0) e w kn kr ke := by
  intro e w h
  unfold F3_7 at h
  have e1 : ∀ (Y0 : Value → Value → Value → Value → Value → Value → Value → Value → World → Prop), F3_7b (e 0) (e 3) (e 5) (e 6) w K R3 Y0 = denL Try.prog (tabOf T3) 107 fuel (((flat (blkB (nthC (flat (loopB (blkB (nthC (flat (bodyOf Try.f3)) 6)))) 2))).drop 0).take 5) e w (fun e w => Y0 (e 0) (e 3) (e 6) (e 7) (e 8) (e 9) (e 10) (e 11) w) (endD Try.prog [.tmp 2] K) (blkK 1 (fun e w => F3_6 (e 0) (e 3) (e 5) (e 6) w K R3) (blkK 0 (fun e w => F3_3 w K) noE)) := by intro Y0; kernel_rfl
  exact seg 5 (Eq.mp (e1 (fun a0 a3 a6 a7 a8 a9 a10 a11 w => F3_8 a0 a3 a6 a7 a8 a9 a10 a11 w K R3)) h) (fun e w h => ok3_8 R3 hn hr he e w h) hr he

def F3_5 (s0 : Value) (s3 : Value) (s5 : Value) (s6 : Value) (w : World) (K : Value → World → Prop) (R3 : Value → Value → Value → Value → World → Prop) : Prop := F3_7 s0 s3 s5 s6 w K R3

theorem ok3_5 (R3 : Value → Value → Value → Value → World → Prop) {K : Value → World → Prop} {kn kr : Env → World → Prop} {ke : Nat → Env → World → Prop}
    (hn : ∀ e w, (fun e w => R3 (e 0) (e 3) (e 5) (e 6) w) e w → kn e w) (hr : ∀ e w, endD Try.prog [.tmp 2] K e w → kr e w) (he : ∀ i e w, (blkK 0 (fun e w => F3_3 w K) noE) i e w → ke i e w) :
    ∀ e w, F3_5 (e 0) (e 3) (e 5) (e 6) w K R3 → denL Try.prog (tabOf T3) 107 fuel ((flat (loopB (blkB (nthC (flat (bodyOf Try.f3)) 6)))).drop 2) e w kn kr ke := by
  intro e w h
  unfold F3_5 at h
  refine seg_block (id := 1) (body := (blkB (nthC (flat (loopB (blkB (nthC (flat (bodyOf Try.f3)) 6)))) 2))) (l2 := (flat (loopB (blkB (nthC (flat (bodyOf Try.f3)) 6)))).drop 3) (by kernel_rfl) ?_
  exact ok3_7 R3 (fun e w h => ok3_6 R3 hn hr he e w h) hr (blkK_mono (fun e w h => ok3_6 R3 hn hr he e w h) he) e w h

def F3_4b (s0 : Value) (s3 : Value) (s5 : Value) (s6 : Value) (w : World) (_K : Value → World → Prop) (R3 : Value → Value → Value → Value → World → Prop) (Y0 : Value → Value → Value → Value → World → Prop) (Y1 : World → Prop) : Prop :=
bindP (lenL s0) fun v192 =>
bindP (bLt s6 v192) fun v193 =>
stepM (gd true v193) s6 fun v194 =>
Sx.stepG (gd true v193) (bLt v194 (.int .i64 100)) fun v195 =>
bindP (pPick v193 v195 (.bool false)) fun v196 =>
ifB v196 (
Y0 s0 s3 s5 s6 w) (
Y1 w)

def F3_4 (s0 : Value) (s3 : Value) (s5 : Value) (s6 : Value) (w : World) (K : Value → World → Prop) (R3 : Value → Value → Value → Value → World → Prop) : Prop := F3_4b s0 s3 s5 s6 w K R3 (fun a0 a3 a5 a6 w => F3_5 a0 a3 a5 a6 w K R3) (fun w => F3_3 w K)

theorem ok3_4 (R3 : Value → Value → Value → Value → World → Prop) {K : Value → World → Prop} {kn kr : Env → World → Prop} {ke : Nat → Env → World → Prop}
    (hn : ∀ e w, (fun e w => R3 (e 0) (e 3) (e 5) (e 6) w) e w → kn e w) (hr : ∀ e w, endD Try.prog [.tmp 2] K e w → kr e w) (he : ∀ i e w, (blkK 0 (fun e w => F3_3 w K) noE) i e w → ke i e w) :
    ∀ e w, F3_4 (e 0) (e 3) (e 5) (e 6) w K R3 → denL Try.prog (tabOf T3) 107 fuel ((flat (loopB (blkB (nthC (flat (bodyOf Try.f3)) 6)))).drop 0) e w kn kr ke := by
  intro e w h
  unfold F3_4 at h
  have e1 : ∀ (Y0 : Value → Value → Value → Value → World → Prop) (Y1 : World → Prop), F3_4b (e 0) (e 3) (e 5) (e 6) w K R3 Y0 Y1 = denL Try.prog (tabOf T3) 107 fuel (((flat (loopB (blkB (nthC (flat (bodyOf Try.f3)) 6)))).drop 0).take 2) e w (fun e w => Y0 (e 0) (e 3) (e 5) (e 6) w) (endD Try.prog [.tmp 2] K) (blkK 0 (fun e w => Y1 w) noE) := by intro Y0 Y1; kernel_rfl
  exact seg 2 (Eq.mp (e1 (fun a0 a3 a5 a6 w => F3_5 a0 a3 a5 a6 w K R3) (fun w => F3_3 w K)) h) (fun e w h => ok3_5 R3 hn hr he e w h) hr he

def F3_2L : Nat → Value → Value → Value → Value → World → (Value → World → Prop) → Prop
  | 0, _, _, _, _, _, _ => False
  | n + 1, s0, s3, s5, s6, w, K => F3_4 s0 s3 s5 s6 w K (fun a0 a3 a5 a6 w => F3_2L n a0 a3 a5 a6 w K)

def F3_2 (s0 : Value) (s3 : Value) (s5 : Value) (s6 : Value) (w : World) (K : Value → World → Prop) : Prop := F3_2L fuel s0 s3 s5 s6 w K

theorem ok3_2 {K : Value → World → Prop} {kn kr : Env → World → Prop} {ke : Nat → Env → World → Prop}
    (hn : ∀ e w, (fun e w => K (e 2) w) e w → kn e w) (hr : ∀ e w, endD Try.prog [.tmp 2] K e w → kr e w) (he : ∀ i e w, noE i e w → ke i e w) :
    ∀ e w, F3_2 (e 0) (e 3) (e 5) (e 6) w K → denL Try.prog (tabOf T3) 107 fuel ((flat (bodyOf Try.f3)).drop 6) e w kn kr ke := by
  intro e w h
  unfold F3_2 at h
  refine seg_loop (id := 0) (body := (loopB (blkB (nthC (flat (bodyOf Try.f3)) 6)))) (l2 := (flat (bodyOf Try.f3)).drop 7) (by kernel_rfl) ?_
  refine loop_ok (FL := fun m e w => F3_2L m (e 0) (e 3) (e 5) (e 6) w K) (fr := endD Try.prog [.tmp 2] K) (fe := (blkK 0 (fun e w => F3_3 w K) noE)) (fun _ _ h => h) ?_ hr (blkK_mono (fun e w h => ok3_3 hn hr he e w h) he) fuel e w h
  intro m e w h
  have h : F3_2L (m + 1) (e 0) (e 3) (e 5) (e 6) w K := h
  rw [F3_2L] at h
  exact ok3_4 (fun a0 a3 a5 a6 w => F3_2L m a0 a3 a5 a6 w K) (fun _ _ h => h) (fun _ _ h => h) (fun _ _ _ h => h) e w h

def F3_1b (s0 : Value) (w : World) (K : Value → World → Prop) (Y0 : Value → Value → Value → Value → World → Prop) : Prop :=
callP G13 [(.int .i64 1)] w fun v198 w197 =>
bindP (pTuple v198 0) fun v199 =>
bindP (pTuple v198 1) fun v200 =>
bindP (bEq Try.prog 23 (.tmp 19) (.const (.pointer none)) v199 (.pointer none)) fun v201 =>
stepM (gd false v201) v200 fun v202 =>
Sx.stepG (gd false v201) (bNe Try.prog 24 (.tmp 22) (.const (.int .i64 0)) v202 (.int .i64 0)) fun v203 =>
bindP (pPick v201 (.bool true) v203) fun v204 =>
stepE (gd false v204) (fun k => callP G14 [] w197 k) w197 fun v206 w205 =>
Sx.stepG (gd false v204) (uNot v206) fun v207 =>
bindP (pPick v204 (.bool true) v207) fun v208 =>
ifB v208 (
K (.bool false) w205) (
Y0 s0 v199 (.int .i64 0) (.int .i64 0) w205)

def F3_1 (s0 : Value) (w : World) (K : Value → World → Prop) : Prop := F3_1b s0 w K (fun a0 a3 a5 a6 w => F3_2 a0 a3 a5 a6 w K)

theorem ok3_1 {K : Value → World → Prop} {kn kr : Env → World → Prop} {ke : Nat → Env → World → Prop}
    (hn : ∀ e w, (fun e w => K (e 2) w) e w → kn e w) (hr : ∀ e w, endD Try.prog [.tmp 2] K e w → kr e w) (he : ∀ i e w, noE i e w → ke i e w) :
    ∀ e w, F3_1 (e 0) w K → denL Try.prog (tabOf T3) 107 fuel ((flat (bodyOf Try.f3)).drop 0) e w kn kr ke := by
  intro e w h
  unfold F3_1 at h
  have e1 : ∀ (Y0 : Value → Value → Value → Value → World → Prop), F3_1b (e 0) w K Y0 = denL Try.prog (tabOf T3) 107 fuel (((flat (bodyOf Try.f3)).drop 0).take 6) e w (fun e w => Y0 (e 0) (e 3) (e 5) (e 6) w) (endD Try.prog [.tmp 2] K) noE := by intro Y0; kernel_rfl
  exact seg 6 (Eq.mp (e1 (fun a0 a3 a5 a6 w => F3_2 a0 a3 a5 a6 w K)) h) (fun e w h => ok3_2 hn hr he e w h) hr he

def F3 (x0 : Value) (w : World) (K : Value → World → Prop) : Prop := F3_1 x0 w K

def G3 : FnT := fun args w K => on1 (fun x0 => F3 x0 w K) args
theorem c3 {x0 : Value} {w : World} {K : Value → World → Prop} (h : F3 x0 w K) : callP G3 [x0] w K := callP_intro (on1_mk (p := fun x0 => F3 x0 w K) h)
theorem ok3 : OkF Try.prog 3 G3 := by
  refine okF_of (tab_ok (l := T3) ⟨ok13, ok14, ok15, ok16, ok17, trivial⟩) mixed (n := fuel) Try.func3 Try.call3 fun args w K h => ?_
  obtain ⟨x0, rfl, hh⟩ := of_on1 h
  unfold F3 at hh
  exact fnD_list (c := bodyOf Try.f3) (by kernel_rfl) (by kernel_rfl) (ok3_1 (fun _ _ h => h) (fun _ _ h => h) (fun _ _ _ h => h) (initE [x0]) w hh)

end Go.Proofs.Gong
