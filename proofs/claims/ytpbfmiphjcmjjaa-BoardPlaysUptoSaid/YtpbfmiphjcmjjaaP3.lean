/- A part of the proofs: what stands below it, told in lemmas. No condition. -/
import Derived.Test.YtpbfmiphjcmjjaaP1
import Derived.Test.YtpbfmiphjcmjjaaP2
set_option linter.all false

/- Board1 -/
namespace Go.Proofs.Gong
open Go Go.Sx Go.Proofs
set_option linter.all false
set_option maxRecDepth 100000
def T13 : List (Nat × FnT) := []
def F13 (x0 : Value) (w : World) (K : Value → World → Prop) : Prop :=
bindP (bLt x0 (.int .i64 1)) fun v1 =>
stepM (gd false v1) x0 fun v2 =>
Sx.stepG (gd false v1) (bGt v2 (.int .i64 65536)) fun v3 =>
bindP (pPick v1 (.bool true) v3) fun v4 =>
ifB v4 (
K (.tuple #[(.pointer none), (.int .i64 1)]) w) (
eMakeMap none w fun v6 w5 =>
eMakeMap none w5 fun v8 w7 =>
bindP (fBuild Try.prog 110 [(0, x0), (1, (.int .i64 1)), (2, v6), (3, v8)]) fun v9 =>
eBox 110 v9 w7 fun v11 w10 =>
K (.tuple #[v11, (.int .i64 0)]) w10)
def G13 : FnT := fun args w K => on1 (fun x0 => F13 x0 w K) args
theorem c13 {x0 : Value} {w : World} {K : Value → World → Prop} (h : F13 x0 w K) : callP G13 [x0] w K := callP_intro (on1_mk (p := fun x0 => F13 x0 w K) h)
theorem ok13 : OkF Try.prog 13 G13 := by
  refine okF_of (tab_ok (l := T13) trivial) mixed (n := fuel) Try.func13 Try.call13 fun args w K h => ?_
  obtain ⟨x0, rfl, hh⟩ := of_on1 h
  exact fnD_list (c := bodyOf Try.f13) (by kernel_rfl) (by kernel_rfl) (Eq.mp (by kernel_rfl) hh)
def T62 : List (Nat × FnT) := []
def F62 (x0 : Value) (w : World) (K : Value → World → Prop) : Prop :=
bindP (bGe x0 (.int .i64 0)) fun v1 =>
stepM (gd true v1) x0 fun v2 =>
Sx.stepG (gd true v1) (bLe v2 (.int .i64 2305843009213693952)) fun v3 =>
bindP (pPick v1 v3 (.bool false)) fun v4 =>
K v4 w
def G62 : FnT := fun args w K => on1 (fun x0 => F62 x0 w K) args
theorem c62 {x0 : Value} {w : World} {K : Value → World → Prop} (h : F62 x0 w K) : callP G62 [x0] w K := callP_intro (on1_mk (p := fun x0 => F62 x0 w K) h)
theorem ok62 : OkF Try.prog 62 G62 := by
  refine okF_of (tab_ok (l := T62) trivial) mixed (n := fuel) Try.func62 Try.call62 fun args w K h => ?_
  obtain ⟨x0, rfl, hh⟩ := of_on1 h
  exact fnD_list (c := bodyOf Try.f62) (by kernel_rfl) (by kernel_rfl) (Eq.mp (by kernel_rfl) hh)
def T63 : List (Nat × FnT) := []
def F63 (x0 : Value) (w : World) (K : Value → World → Prop) : Prop :=
eBox 31 x0 w fun v2 w1 =>
eAlloc Try.prog 114 w1 fun v4 w3 =>
bindP (pFieldAddr 0 v2) fun v5 =>
bindP (ld1 v5 w3) fun v6 =>
bindP (pFieldAddr 1 v2) fun v7 =>
bindP (ld1 v7 w3) fun v8 =>
bindP (pFieldAddr 2 v2) fun v9 =>
bindP (ld1 v9 w3) fun v10 =>
bindP (fBuild Try.prog 114 [(0, v6), (1, v8), (2, v10)]) fun v11 =>
bindW (st 3 v4 v11 w3) fun w12 =>
bindP (ldN 3 v4 w12) fun v14 =>
K v14 w12
def G63 : FnT := fun args w K => on1 (fun x0 => F63 x0 w K) args
theorem c63 {x0 : Value} {w : World} {K : Value → World → Prop} (h : F63 x0 w K) : callP G63 [x0] w K := callP_intro (on1_mk (p := fun x0 => F63 x0 w K) h)
theorem ok63 : OkF Try.prog 63 G63 := by
  refine okF_of (tab_ok (l := T63) trivial) mixed (n := fuel) Try.func63 Try.call63 fun args w K h => ?_
  obtain ⟨x0, rfl, hh⟩ := of_on1 h
  exact fnD_list (c := bodyOf Try.f63) (by kernel_rfl) (by kernel_rfl) (Eq.mp (by kernel_rfl) hh)
def T64 : List (Nat × FnT) := [(63, G63)]
def F64 (x0 : Value) (x1 : Value) (w : World) (K : Value → World → Prop) : Prop :=
eBox 33 x1 w fun v2 w1 =>
bindP (pNil x0) fun v3 =>
bindP (pFieldAddr 2 v3) fun v4 =>
bindP (ld1 v4 w1.drew) fun v5 =>
bindP (pFieldAddr 0 v2) fun v6 =>
bindP (ld1 v6 w1.drew) fun v7 =>
eDelete Try.prog 107 v5 v7 w1.drew fun _ w8 =>
bindP (pNil x0) fun v10 =>
bindP (pFieldAddr 3 v10) fun v11 =>
bindP (ld1 v11 w8.drew) fun v12 =>
bindP (pFieldAddr 1 v2) fun v13 =>
bindP (ldN 5 v13 w8.drew) fun v14 =>
callP G63 [v14] w8.drew fun v16 w15 =>
fok true (ld1 v11 w15) v12 ∧ (eDelete Try.prog 108 v12 v16 w15 fun _ w17 =>
K (.tuple #[]) w17)
def G64 : FnT := fun args w K => on2 (fun x0 x1 => F64 x0 x1 w K) args
theorem c64 {x0 x1 : Value} {w : World} {K : Value → World → Prop} (h : F64 x0 x1 w K) : callP G64 [x0, x1] w K := callP_intro (on2_mk (p := fun x0 x1 => F64 x0 x1 w K) h)
theorem ok64 : OkF Try.prog 64 G64 := by
  refine okF_of (tab_ok (l := T64) ⟨ok63, trivial⟩) mixed (n := fuel) Try.func64 Try.call64 fun args w K h => ?_
  obtain ⟨x0, x1, rfl, hh⟩ := of_on2 h
  exact fnD_list (c := bodyOf Try.f64) (by kernel_rfl) (by kernel_rfl) (Eq.mp (by kernel_rfl) hh)
def T65 : List (Nat × FnT) := []
def F65_2b (s3 : Value) (s4 : Value) (s6 : Value) (w : World) (K : Value → World → Prop) : Prop :=
bindP (pFieldAddr 3 s4) fun v1 =>
bindP (ld1 v1 w) fun v2 =>
bindP (pFieldAddr 1 s3) fun v3 =>
bindP (pFieldAddr 3 v3) fun v4 =>
bindW (st 1 v4 v2 w) fun w5 =>
bindP (ldN 11 s3 w5) fun v7 =>
bindW (st 11 s6 v7 w5) fun w8 =>
bindP (ldN 11 s6 w8) fun v10 =>
K (.tuple #[v10, (.int .i64 2)]) w8
def F65_2 (s3 : Value) (s4 : Value) (s6 : Value) (w : World) (K : Value → World → Prop) : Prop := F65_2b s3 s4 s6 w K
theorem ok65_2 {K : Value → World → Prop} {kn kr : Env → World → Prop} {ke : Nat → Env → World → Prop}
    (hn : ∀ e w, (fun e w => bindP (ldN 11 (e 6) w) fun v12 =>
K (.tuple #[v12, (e 7)]) w) e w → kn e w) (hr : ∀ e w, endD Try.prog [.cell 6 33, .tmp 7] K e w → kr e w) (he : ∀ i e w, noE i e w → ke i e w) :
    ∀ e w, F65_2 (e 3) (e 4) (e 6) w K → denL Try.prog (tabOf T65) 42 fuel ((flat (bodyOf Try.f65)).drop 8) e w kn kr ke := by
  intro e w h
  unfold F65_2 at h
  have e1 : ∀ (_ : Unit), F65_2b (e 3) (e 4) (e 6) w K = denL Try.prog (tabOf T65) 42 fuel ((flat (bodyOf Try.f65)).drop 8) e w (fun e w => bindP (ldN 11 (e 6) w) fun v11 =>
K (.tuple #[v11, (e 7)]) w) (endD Try.prog [.cell 6 33, .tmp 7] K) noE := by intro _; kernel_rfl
  exact seg_end (Eq.mp (e1 ()) h) hn hr he
def F65_1b (s0 : Value) (s1 : Value) (s2 : Value) (w : World) (K : Value → World → Prop) (Y0 : Value → Value → Value → World → Prop) : Prop :=
eBox 33 s0 w fun v14 w13 =>
eBox 31 s1 w13 fun v16 w15 =>
eAlloc Try.prog 33 w15 fun v18 w17 =>
bindP (pFieldAddr 6 v14) fun v19 =>
bindP (ld1 v19 w17) fun v20 =>
bindP (bAdd v20 (.int .i64 1)) fun v21 =>
bindP (pMin v21 (.int .i64 1099511627776)) fun v22 =>
bindP (pFieldAddr 6 v14) fun v23 =>
bindW (st 1 v23 v22 w17) fun w24 =>
bindP (pFieldAddr 8 v14) fun v26 =>
bindP (ld1 v26 w24) fun v27 =>
bindP (pMax v27 s2) fun v28 =>
bindP (pFieldAddr 8 v14) fun v29 =>
bindW (st 1 v29 v28 w24) fun w30 =>
bindP (pFieldAddr 4 v16) fun v32 =>
bindP (ld1 v32 w30) fun v33 =>
bindP (pFieldAddr 1 v14) fun v34 =>
bindP (pFieldAddr 4 v34) fun v35 =>
bindW (st 1 v35 v33 w30) fun w36 =>
bindP (pFieldAddr 1 v14) fun v38 =>
bindP (pFieldAddr 3 v38) fun v39 =>
bindP (ld1 v39 w36) fun v40 =>
bindP (pFieldAddr 3 v16) fun v41 =>
bindP (ld1 v41 w36) fun v42 =>
bindP (bEq Try.prog 3 (.tmp 24) (.tmp 26) v40 v42) fun v43 =>
ifB v43 (
bindP (ldN 11 v14 w36) fun v44 =>
bindW (st 11 v18 v44 w36) fun w45 =>
bindP (ldN 11 v18 w45) fun v47 =>
K (.tuple #[v47, (.int .i64 0)]) w45) (
bindP (pFieldAddr 3 v16) fun v48 =>
bindP (ld1 v48 w36) fun v49 =>
bindP (pFieldAddr 1 v14) fun v50 =>
bindP (pFieldAddr 3 v50) fun v51 =>
bindP (ld1 v51 w36) fun v52 =>
bindP (bGt v49 v52) fun v53 =>
ifB v53 (
bindP (pFieldAddr 9 v14) fun v54 =>
bindW (st 1 v54 (.bool false) w36) fun w55 =>
bindP (pFieldAddr 10 v14) fun v57 =>
bindW (st 1 v57 (.string ⟨#[]⟩) w55) fun w58 =>
Y0 v14 v16 v18 w58) (
Y0 v14 v16 v18 w36))
def F65_1 (s0 : Value) (s1 : Value) (s2 : Value) (w : World) (K : Value → World → Prop) : Prop := F65_1b s0 s1 s2 w K (fun a3 a4 a6 w => F65_2 a3 a4 a6 w K)
theorem ok65_1 {K : Value → World → Prop} {kn kr : Env → World → Prop} {ke : Nat → Env → World → Prop}
    (hn : ∀ e w, (fun e w => bindP (ldN 11 (e 6) w) fun v60 =>
K (.tuple #[v60, (e 7)]) w) e w → kn e w) (hr : ∀ e w, endD Try.prog [.cell 6 33, .tmp 7] K e w → kr e w) (he : ∀ i e w, noE i e w → ke i e w) :
    ∀ e w, F65_1 (e 0) (e 1) (e 2) w K → denL Try.prog (tabOf T65) 42 fuel ((flat (bodyOf Try.f65)).drop 0) e w kn kr ke := by
  intro e w h
  unfold F65_1 at h
  have e1 : ∀ (Y0 : Value → Value → Value → World → Prop), F65_1b (e 0) (e 1) (e 2) w K Y0 = denL Try.prog (tabOf T65) 42 fuel (((flat (bodyOf Try.f65)).drop 0).take 8) e w (fun e w => Y0 (e 3) (e 4) (e 6) w) (endD Try.prog [.cell 6 33, .tmp 7] K) noE := by intro Y0; kernel_rfl
  exact seg 8 (Eq.mp (e1 (fun a3 a4 a6 w => F65_2 a3 a4 a6 w K)) h) (fun e w h => ok65_2 hn hr he e w h) hr he
def F65 (x0 : Value) (x1 : Value) (x2 : Value) (w : World) (K : Value → World → Prop) : Prop := F65_1 x0 x1 x2 w K
def G65 : FnT := fun args w K => on3 (fun x0 x1 x2 => F65 x0 x1 x2 w K) args
theorem c65 {x0 x1 x2 : Value} {w : World} {K : Value → World → Prop} (h : F65 x0 x1 x2 w K) : callP G65 [x0, x1, x2] w K := callP_intro (on3_mk (p := fun x0 x1 x2 => F65 x0 x1 x2 w K) h)
theorem ok65 : OkF Try.prog 65 G65 := by
  refine okF_of (tab_ok (l := T65) trivial) mixed (n := fuel) Try.func65 Try.call65 fun args w K h => ?_
  obtain ⟨x0, x1, x2, rfl, hh⟩ := of_on3 h
  unfold F65 at hh
  exact fnD_list (c := bodyOf Try.f65) (by kernel_rfl) (by kernel_rfl) (ok65_1 (fun _ _ h => h) (fun _ _ h => h) (fun _ _ _ h => h) (initE [x0, x1, x2]) w hh)
def T66 : List (Nat × FnT) := [(63, G63)]
def F66 (x0 : Value) (x1 : Value) (w : World) (K : Value → World → Prop) : Prop :=
eBox 33 x1 w fun v2 w1 =>
bindP (pNil x0) fun v3 =>
bindP (pFieldAddr 2 v3) fun v4 =>
bindP (ld1 v4 w1.drew) fun v5 =>
bindP (pFieldAddr 0 v2) fun v6 =>
bindP (ld1 v6 w1.drew) fun v7 =>
bindP (ldN 11 v2 w1.drew) fun v8 =>
eMapSet Try.prog 107 v5 v7 v8 w1.drew fun _ w9 =>
bindP (pNil x0) fun v11 =>
bindP (pFieldAddr 3 v11) fun v12 =>
bindP (ld1 v12 w9.drew) fun v13 =>
bindP (pFieldAddr 1 v2) fun v14 =>
bindP (ldN 5 v14 w9.drew) fun v15 =>
bindP (pFieldAddr 0 v2) fun v16 =>
bindP (ld1 v16 w9.drew) fun v17 =>
callP G63 [v15] w9.drew fun v19 w18 =>
(fok true (ld1 v12 w18) v13 ∧ fok true (ld1 v16 w18) v17) ∧ (eMapSet Try.prog 108 v13 v19 v17 w18 fun _ w20 =>
K (.tuple #[]) w20)
def G66 : FnT := fun args w K => on2 (fun x0 x1 => F66 x0 x1 w K) args
theorem c66 {x0 x1 : Value} {w : World} {K : Value → World → Prop} (h : F66 x0 x1 w K) : callP G66 [x0, x1] w K := callP_intro (on2_mk (p := fun x0 x1 => F66 x0 x1 w K) h)
theorem ok66 : OkF Try.prog 66 G66 := by
  refine okF_of (tab_ok (l := T66) ⟨ok63, trivial⟩) mixed (n := fuel) Try.func66 Try.call66 fun args w K h => ?_
  obtain ⟨x0, x1, rfl, hh⟩ := of_on2 h
  exact fnD_list (c := bodyOf Try.f66) (by kernel_rfl) (by kernel_rfl) (Eq.mp (by kernel_rfl) hh)
def T16 : List (Nat × FnT) := [(61, G61), (62, G62), (63, G63), (64, G64), (65, G65), (66, G66)]
def F16_2b (s0 : Value) (s6 : Value) (s7 : Value) (w : World) (K : Value → World → Prop) : Prop :=
bindP (ldN 11 s6 w) fun v1 =>
callP G66 [s0, v1] w fun _ w2 =>
bindP (ldN 11 s6 w2) fun v4 =>
bindW (st 11 s6 v4 w2) fun w5 =>
bindP (ldN 11 s6 w5) fun v7 =>
K (.tuple #[v7, s7, (.int .i64 0)]) w5
def F16_2 (s0 : Value) (s6 : Value) (s7 : Value) (w : World) (K : Value → World → Prop) : Prop := F16_2b s0 s6 s7 w K
theorem ok16_2 {K : Value → World → Prop} {kn kr : Env → World → Prop} {ke : Nat → Env → World → Prop}
    (hn : ∀ e w, (fun e w => bindP (ldN 11 (e 6) w) fun v9 =>
K (.tuple #[v9, (e 7), (e 8)]) w) e w → kn e w) (hr : ∀ e w, endD Try.prog [.cell 6 33, .tmp 7, .tmp 8] K e w → kr e w) (he : ∀ i e w, noE i e w → ke i e w) :
    ∀ e w, F16_2 (e 0) (e 6) (e 7) w K → denL Try.prog (tabOf T16) 101 fuel ((flat (bodyOf Try.f16)).drop 4) e w kn kr ke := by
  intro e w h
  unfold F16_2 at h
  have e1 : ∀ (_ : Unit), F16_2b (e 0) (e 6) (e 7) w K = denL Try.prog (tabOf T16) 101 fuel ((flat (bodyOf Try.f16)).drop 4) e w (fun e w => bindP (ldN 11 (e 6) w) fun v8 =>
K (.tuple #[v8, (e 7), (e 8)]) w) (endD Try.prog [.cell 6 33, .tmp 7, .tmp 8] K) noE := by intro _; kernel_rfl
  exact seg_end (Eq.mp (e1 ()) h) hn hr he
def F16_1b (s0 : Value) (s1 : Value) (s2 : Value) (w : World) (K : Value → World → Prop) (Y0 : Value → Value → Value → World → Prop) : Prop :=
eBox 31 s1 w fun v11 w10 =>
eAlloc Try.prog 33 w10 fun v13 w12 =>
bindP (ldN 5 v11 w12) fun v14 =>
callP G61 [v14] w12 fun v16 w15 =>
bindP (bNe Try.prog 24 (.tmp 13) (.const (.int .i64 0)) v16 (.int .i64 0)) fun v17 =>
ifB v17 (
bindP (fBuild Try.prog 33 []) fun v18 =>
bindW (st 11 v13 v18 w15) fun w19 =>
bindP (ldN 11 v13 w19) fun v21 =>
K (.tuple #[v21, (.int .i64 0), (.int .i64 180)]) w19) (
callP G62 [s2] w15 fun v23 w22 =>
bindP (uNot v23) fun v24 =>
ifB v24 (
bindP (fBuild Try.prog 33 []) fun v25 =>
bindW (st 11 v13 v25 w22) fun w26 =>
bindP (ldN 11 v13 w26) fun v28 =>
K (.tuple #[v28, (.int .i64 0), (.int .i64 1)]) w26) (
bindP (pNil s0) fun v29 =>
bindP (pFieldAddr 3 v29) fun v30 =>
bindP (ld1 v30 w22.drew) fun v31 =>
bindP (ldN 5 v11 w22.drew) fun v32 =>
callP G63 [v32] w22.drew fun v34 w33 =>
fok true (ld1 v30 w33) v31 ∧ (bindP (fLook Try.prog 108 v31 v34 true w33) fun v35 =>
bindP (pTuple v35 0) fun v36 =>
bindP (pTuple v35 1) fun v37 =>
bindP (pFieldAddr 3 v11) fun v38 =>
bindP (ld1 v38 w33) fun v39 =>
bindP (bEq Try.prog 3 (.tmp 48) (.const (.int .i64 0)) v39 (.int .i64 0)) fun v40 =>
stepM (gd true v40) v37 fun v41 =>
Sx.stepG (gd true v40) (uNot v41) fun v42 =>
bindP (pPick v40 v42 (.bool false)) fun v43 =>
ifB v43 (
bindP (fBuild Try.prog 33 []) fun v44 =>
bindW (st 11 v13 v44 w33) fun w45 =>
bindP (ldN 11 v13 w45) fun v47 =>
K (.tuple #[v47, (.int .i64 0), (.int .i64 5)]) w45) (
bindP (pFieldAddr 3 v11) fun v48 =>
bindP (ld1 v48 w33) fun v49 =>
bindP (bEq Try.prog 3 (.tmp 57) (.const (.int .i64 0)) v49 (.int .i64 0)) fun v50 =>
ifB v50 (
bindP (pNil s0) fun v51 =>
bindP (pFieldAddr 2 v51) fun v52 =>
bindP (ld1 v52 w33) fun v53 =>
bindP (fLook Try.prog 107 v53 v36 false w33) fun v54 =>
bindW (st 11 v13 v54 w33) fun w55 =>
bindP (ldN 11 v13 w55) fun v57 =>
callP G64 [s0, v57] w55 fun _ w58 =>
bindP (ldN 11 v13 w58) fun v60 =>
bindW (st 11 v13 v60 w58) fun w61 =>
bindP (ldN 11 v13 w61) fun v63 =>
K (.tuple #[v63, (.int .i64 3), (.int .i64 0)]) w61) (
ifB v37 (
bindP (pNil s0) fun v64 =>
bindP (pFieldAddr 2 v64) fun v65 =>
bindP (ld1 v65 w33.drew) fun v66 =>
bindP (fLook Try.prog 107 v66 v36 false w33.drew) fun v67 =>
bindP (ldN 5 v11 w33.drew) fun v68 =>
callP G65 [v67, v68, s2] w33.drew fun v70 w69 =>
bindP (pTuple v70 0) fun v71 =>
bindP (pTuple v70 1) fun v72 =>
bindW (st 11 v13 v71 w69) fun w73 =>
Y0 s0 v13 v72 w73) (
bindP (pNil s0) fun v75 =>
bindP (pFieldAddr 2 v75) fun v76 =>
bindP (ld1 v76 w33.drew) fun v77 =>
bindP (lenM v77 w33.drew) fun v78 =>
bindP (pNil s0) fun v79 =>
bindP (pFieldAddr 0 v79) fun v80 =>
bindP (ld1 v80 w33.drew) fun v81 =>
bindP (bGe v78 v81) fun v82 =>
ifB v82 (
bindP (fBuild Try.prog 33 []) fun v83 =>
bindW (st 11 v13 v83 w33.drew) fun w84 =>
bindP (ldN 11 v13 w84) fun v86 =>
K (.tuple #[v86, (.int .i64 0), (.int .i64 200)]) w84) (
bindP (pNil s0) fun v87 =>
bindP (pFieldAddr 1 v87) fun v88 =>
bindP (ld1 v88 (w33.drew).drew) fun v89 =>
bindP (ldN 5 v11 (w33.drew).drew) fun v90 =>
bindP (fBuild Try.prog 33 [(0, v89), (1, v90), (2, (.int .i64 1)), (3, s2), (4, s2)]) fun v91 =>
bindW (st 11 v13 v91 (w33.drew).drew) fun w92 =>
bindP (pNil s0) fun v94 =>
bindP (pFieldAddr 1 v94) fun v95 =>
bindP (ld1 v95 w92) fun v96 =>
bindP (bAdd v96 (.int .i64 1)) fun v97 =>
bindP (pNil s0) fun v98 =>
bindP (pFieldAddr 1 v98) fun v99 =>
bindW (st 1 v99 v97 w92) fun w100 =>
Y0 s0 v13 (.int .i64 1) w100)))))))
def F16_1 (s0 : Value) (s1 : Value) (s2 : Value) (w : World) (K : Value → World → Prop) : Prop := F16_1b s0 s1 s2 w K (fun a0 a6 a7 w => F16_2 a0 a6 a7 w K)
theorem ok16_1 {K : Value → World → Prop} {kn kr : Env → World → Prop} {ke : Nat → Env → World → Prop}
    (hn : ∀ e w, (fun e w => bindP (ldN 11 (e 6) w) fun v102 =>
K (.tuple #[v102, (e 7), (e 8)]) w) e w → kn e w) (hr : ∀ e w, endD Try.prog [.cell 6 33, .tmp 7, .tmp 8] K e w → kr e w) (he : ∀ i e w, noE i e w → ke i e w) :
    ∀ e w, F16_1 (e 0) (e 1) (e 2) w K → denL Try.prog (tabOf T16) 101 fuel ((flat (bodyOf Try.f16)).drop 0) e w kn kr ke := by
  intro e w h
  unfold F16_1 at h
  have e1 : ∀ (Y0 : Value → Value → Value → World → Prop), F16_1b (e 0) (e 1) (e 2) w K Y0 = denL Try.prog (tabOf T16) 101 fuel (((flat (bodyOf Try.f16)).drop 0).take 4) e w (fun e w => Y0 (e 0) (e 6) (e 7) w) (endD Try.prog [.cell 6 33, .tmp 7, .tmp 8] K) noE := by intro Y0; kernel_rfl
  exact seg 4 (Eq.mp (e1 (fun a0 a6 a7 w => F16_2 a0 a6 a7 w K)) h) (fun e w h => ok16_2 hn hr he e w h) hr he
def F16 (x0 : Value) (x1 : Value) (x2 : Value) (w : World) (K : Value → World → Prop) : Prop := F16_1 x0 x1 x2 w K
def G16 : FnT := fun args w K => on3 (fun x0 x1 x2 => F16 x0 x1 x2 w K) args
theorem c16 {x0 x1 x2 : Value} {w : World} {K : Value → World → Prop} (h : F16 x0 x1 x2 w K) : callP G16 [x0, x1, x2] w K := callP_intro (on3_mk (p := fun x0 x1 x2 => F16 x0 x1 x2 w K) h)
theorem ok16 : OkF Try.prog 16 G16 := by
  refine okF_of (tab_ok (l := T16) ⟨ok61, ok62, ok63, ok64, ok65, ok66, trivial⟩) mixed (n := fuel) Try.func16 Try.call16 fun args w K h => ?_
  obtain ⟨x0, x1, x2, rfl, hh⟩ := of_on3 h
  unfold F16 at hh
  exact fnD_list (c := bodyOf Try.f16) (by kernel_rfl) (by kernel_rfl) (ok16_1 (fun _ _ h => h) (fun _ _ h => h) (fun _ _ _ h => h) (initE [x0, x1, x2]) w hh)
def T17 : List (Nat × FnT) := []
def F17 (x0 : Value) (w : World) (K : Value → World → Prop) : Prop :=
bindP (pNil x0) fun v1 =>
bindP (pFieldAddr 2 v1) fun v2 =>
bindP (ld1 v2 w) fun v3 =>
bindP (lenM v3 w) fun v4 =>
K v4 w
def G17 : FnT := fun args w K => on1 (fun x0 => F17 x0 w K) args
theorem c17 {x0 : Value} {w : World} {K : Value → World → Prop} (h : F17 x0 w K) : callP G17 [x0] w K := callP_intro (on1_mk (p := fun x0 => F17 x0 w K) h)
theorem ok17 : OkF Try.prog 17 G17 := by
  refine okF_of (tab_ok (l := T17) trivial) mixed (n := fuel) Try.func17 Try.call17 fun args w K h => ?_
  obtain ⟨x0, rfl, hh⟩ := of_on1 h
  exact fnD_list (c := bodyOf Try.f17) (by kernel_rfl) (by kernel_rfl) (Eq.mp (by kernel_rfl) hh)
def T14 : List (Nat × FnT) := [(13, G13), (16, G16), (17, G17)]
def F14 (w : World) (K : Value → World → Prop) : Prop :=
callP G13 [(.int .i64 5)] w fun v2 w1 =>
bindP (pTuple v2 0) fun v3 =>
bindP (pTuple v2 1) fun v4 =>
bindP (bEq Try.prog 23 (.tmp 17) (.const (.pointer none)) v3 (.pointer none)) fun v5 =>
stepM (gd false v5) v4 fun v6 =>
Sx.stepG (gd false v5) (bNe Try.prog 24 (.tmp 20) (.const (.int .i64 0)) v6 (.int .i64 0)) fun v7 =>
bindP (pPick v5 (.bool true) v7) fun v8 =>
ifB v8 (
K (.bool false) w1) (
bindP (fBuild Try.prog 31 [(0, (.string ⟨#[110]⟩)), (1, (.string ⟨#[108, 105, 110, 107]⟩)), (3, (.int .i64 4))]) fun v9 =>
bindP (fBuild Try.prog 31 [(0, (.string ⟨#[110]⟩)), (1, (.string ⟨#[108, 105, 110, 107]⟩))]) fun v10 =>
eAlloc Try.prog 31 w1 fun v12 w11 =>
eAlloc Try.prog 31 w11 fun v14 w13 =>
bindW (st 5 v12 v9 w13) fun w15 =>
bindW (st 5 v14 v10 w15) fun w17 =>
bindP (ldN 5 v12 w17) fun v19 =>
callP G16 [v3, v19, (.int .i64 1)] w17 fun v21 w20 =>
bindP (pTuple v21 0) fun v22 =>
bindP (pTuple v21 1) fun v23 =>
bindP (pTuple v21 2) fun v24 =>
eAlloc Try.prog 33 w20 fun v26 w25 =>
bindW (st 11 v26 v22 w25) fun w27 =>
bindP (ldN 5 v12 w27) fun v29 =>
callP G16 [v3, v29, (.int .i64 2)] w27 fun v31 w30 =>
bindP (pTuple v31 0) fun v32 =>
bindP (pTuple v31 1) fun v33 =>
bindP (pTuple v31 2) fun v34 =>
eAlloc Try.prog 33 w30 fun v36 w35 =>
bindW (st 11 v36 v32 w35) fun w37 =>
bindP (ldN 5 v14 w37) fun v39 =>
callP G16 [v3, v39, (.int .i64 3)] w37 fun v41 w40 =>
bindP (pTuple v41 0) fun v42 =>
bindP (pTuple v41 1) fun v43 =>
bindP (pTuple v41 2) fun v44 =>
eAlloc Try.prog 33 w40 fun v46 w45 =>
bindW (st 11 v46 v42 w45) fun w47 =>
bindP (bEq Try.prog 24 (.tmp 46) (.const (.int .i64 0)) v24 (.int .i64 0)) fun v49 =>
stepM (gd true v49) v34 fun v50 =>
Sx.stepG (gd true v49) (bEq Try.prog 24 (.tmp 49) (.const (.int .i64 0)) v50 (.int .i64 0)) fun v51 =>
bindP (pPick v49 v51 (.bool false)) fun v52 =>
stepM (gd true v52) v44 fun v53 =>
Sx.stepG (gd true v52) (bEq Try.prog 24 (.tmp 53) (.const (.int .i64 0)) v53 (.int .i64 0)) fun v54 =>
bindP (pPick v52 v54 (.bool false)) fun v55 =>
stepM (gd true v55) v23 fun v56 =>
Sx.stepG (gd true v55) (bEq Try.prog 3 (.tmp 57) (.const (.int .i64 1)) v56 (.int .i64 1)) fun v57 =>
bindP (pPick v55 v57 (.bool false)) fun v58 =>
stepM (gd true v58) v33 fun v59 =>
Sx.stepG (gd true v58) (bEq Try.prog 3 (.tmp 61) (.const (.int .i64 0)) v59 (.int .i64 0)) fun v60 =>
bindP (pPick v58 v60 (.bool false)) fun v61 =>
stepM (gd true v61) v43 fun v62 =>
Sx.stepG (gd true v61) (bEq Try.prog 3 (.tmp 65) (.const (.int .i64 3)) v62 (.int .i64 3)) fun v63 =>
bindP (pPick v61 v63 (.bool false)) fun v64 =>
Sx.stepG (gd true v64) (pFieldAddr 6 v46) fun v65 =>
Sx.stepG (gd true v64) (ld1 v65 w47) fun v66 =>
Sx.stepG (gd true v64) (bEq Try.prog 3 (.tmp 70) (.const (.int .i64 2)) v66 (.int .i64 2)) fun v67 =>
bindP (pPick v64 v67 (.bool false)) fun v68 =>
stepM (gd true v68) v3 fun v69 =>
stepE (gd true v68) (fun k => callP G17 [v69] w47 k) w47 fun v71 w70 =>
Sx.stepG (gd true v68) (bEq Try.prog 3 (.tmp 75) (.const (.int .i64 0)) v71 (.int .i64 0)) fun v72 =>
bindP (pPick v68 v72 (.bool false)) fun v73 =>
K v73 w70)
def G14 : FnT := fun args w K => on0 (F14 w K) args
theorem c14 {w : World} {K : Value → World → Prop} (h : F14 w K) : callP G14 [] w K := callP_intro (on0_mk (p := F14 w K) h)
theorem ok14 : OkF Try.prog 14 G14 := by
  refine okF_of (tab_ok (l := T14) ⟨ok13, ok16, ok17, trivial⟩) mixed (n := fuel) Try.func14 Try.call14 fun args w K h => ?_
  obtain ⟨rfl, hh⟩ := of_on0 h
  exact fnD_list (c := bodyOf Try.f14) (by kernel_rfl) (by kernel_rfl) (Eq.mp (by kernel_rfl) hh)
def T67 : List (Nat × FnT) := [(61, G61)]
def F67 (x0 : Value) (w : World) (K : Value → World → Prop) : Prop :=
bindP (fBuild Try.prog 31 [(0, x0), (1, (.string ⟨#[99]⟩))]) fun v1 =>
callP G61 [v1] w fun v3 w2 =>
bindP (bEq Try.prog 24 (.tmp 5) (.const (.int .i64 0)) v3 (.int .i64 0)) fun v4 =>
K v4 w2
def G67 : FnT := fun args w K => on1 (fun x0 => F67 x0 w K) args
theorem c67 {x0 : Value} {w : World} {K : Value → World → Prop} (h : F67 x0 w K) : callP G67 [x0] w K := callP_intro (on1_mk (p := fun x0 => F67 x0 w K) h)
theorem ok67 : OkF Try.prog 67 G67 := by
  refine okF_of (tab_ok (l := T67) ⟨ok61, trivial⟩) mixed (n := fuel) Try.func67 Try.call67 fun args w K h => ?_
  obtain ⟨x0, rfl, hh⟩ := of_on1 h
  exact fnD_list (c := bodyOf Try.f67) (by kernel_rfl) (by kernel_rfl) (Eq.mp (by kernel_rfl) hh)
def T18 : List (Nat × FnT) := [(61, G61), (62, G62), (67, G67)]
def F18 (x0 : Value) (w : World) (K : Value → World → Prop) : Prop :=
eBox 33 x0 w fun v2 w1 =>
bindP (pFieldAddr 7 v2) fun v3 =>
bindP (ld1 v3 w1) fun v4 =>
callP G62 [v4] w1 fun v6 w5 =>
Sx.stepG (gd true v6) (pFieldAddr 8 v2) fun v7 =>
Sx.stepG (gd true v6) (ld1 v7 w5) fun v8 =>
stepE (gd true v6) (fun k => callP G62 [v8] w5 k) w5 fun v10 w9 =>
bindP (pPick v6 v10 (.bool false)) fun v11 =>
Sx.stepG (gd true v11) (pFieldAddr 7 v2) fun v12 =>
Sx.stepG (gd true v11) (ld1 v12 w9) fun v13 =>
Sx.stepG (gd true v11) (pFieldAddr 8 v2) fun v14 =>
Sx.stepG (gd true v11) (ld1 v14 w9) fun v15 =>
Sx.stepG (gd true v11) (bLe v13 v15) fun v16 =>
bindP (pPick v11 v16 (.bool false)) fun v17 =>
bindP (pFieldAddr 9 v2) fun v18 =>
bindP (ld1 v18 w9) fun v19 =>
Sx.stepG (gd true v19) (pFieldAddr 10 v2) fun v20 =>
Sx.stepG (gd true v19) (ld1 v20 w9) fun v21 =>
stepE (gd true v19) (fun k => callP G67 [v21] w9 k) w9 fun v23 w22 =>
bindP (pPick v19 v23 (.bool false)) fun v24 =>
Sx.stepG (gd false v24) (pFieldAddr 9 v2) fun v25 =>
Sx.stepG (gd false v24) (ld1 v25 w22) fun v26 =>
Sx.stepG (gd false v24) (uNot v26) fun v27 =>
stepM (gd false v24) v27 fun v28 =>
Sx.stepG (gd true v28) (pFieldAddr 10 v2) fun v29 =>
Sx.stepG (gd true v28) (ld1 v29 w22) fun v30 =>
Sx.stepG (gd true v28) (bEq Try.prog 9 (.tmp 33) (.const (.string ⟨#[]⟩)) v30 (.string ⟨#[]⟩)) fun v31 =>
Sx.stepG (gd false v24) (pPick v28 v31 (.bool false)) fun v32 =>
bindP (pPick v24 (.bool true) v32) fun v33 =>
bindP (pFieldAddr 0 v2) fun v34 =>
bindP (ld1 v34 w22) fun v35 =>
bindP (bLt v35 (.int .i64 1)) fun v36 =>
Sx.stepG (gd false v36) (pFieldAddr 1 v2) fun v37 =>
Sx.stepG (gd false v36) (pFieldAddr 3 v37) fun v38 =>
Sx.stepG (gd false v36) (ld1 v38 w22) fun v39 =>
Sx.stepG (gd false v36) (bLt v39 (.int .i64 1)) fun v40 =>
bindP (pPick v36 (.bool true) v40) fun v41 =>
Sx.stepG (gd false v41) (pFieldAddr 6 v2) fun v42 =>
Sx.stepG (gd false v41) (ld1 v42 w22) fun v43 =>
Sx.stepG (gd false v41) (bLt v43 (.int .i64 1)) fun v44 =>
bindP (pPick v41 (.bool true) v44) fun v45 =>
Sx.stepG (gd false v45) (pFieldAddr 6 v2) fun v46 =>
Sx.stepG (gd false v45) (ld1 v46 w22) fun v47 =>
Sx.stepG (gd false v45) (bGt v47 (.int .i64 1099511627776)) fun v48 =>
bindP (pPick v45 (.bool true) v48) fun v49 =>
stepM (gd false v49) v17 fun v50 =>
Sx.stepG (gd false v49) (uNot v50) fun v51 =>
bindP (pPick v49 (.bool true) v51) fun v52 =>
stepM (gd false v52) v33 fun v53 =>
Sx.stepG (gd false v52) (uNot v53) fun v54 =>
bindP (pPick v52 (.bool true) v54) fun v55 =>
Sx.stepG (gd false v55) (pFieldAddr 1 v2) fun v56 =>
Sx.stepG (gd false v55) (ldN 5 v56 w22) fun v57 =>
stepE (gd false v55) (fun k => callP G61 [v57] w22 k) w22 fun v59 w58 =>
Sx.stepG (gd false v55) (bNe Try.prog 24 (.tmp 67) (.const (.int .i64 0)) v59 (.int .i64 0)) fun v60 =>
bindP (pPick v55 (.bool true) v60) fun v61 =>
ifB v61 (
K (.int .i64 4) w58) (
K (.int .i64 0) w58)
def G18 : FnT := fun args w K => on1 (fun x0 => F18 x0 w K) args
theorem c18 {x0 : Value} {w : World} {K : Value → World → Prop} (h : F18 x0 w K) : callP G18 [x0] w K := callP_intro (on1_mk (p := fun x0 => F18 x0 w K) h)
theorem ok18 : OkF Try.prog 18 G18 := by
  refine okF_of (tab_ok (l := T18) ⟨ok61, ok62, ok67, trivial⟩) mixed (n := fuel) Try.func18 Try.call18 fun args w K h => ?_
  obtain ⟨x0, rfl, hh⟩ := of_on1 h
  exact fnD_list (c := bodyOf Try.f18) (by kernel_rfl) (by kernel_rfl) (Eq.mp (by kernel_rfl) hh)
def T70 : List (Nat × FnT) := [(68, G68)]
def F70 (x0 : Value) (w : World) (K : Value → World → Prop) : Prop :=
bindP (fBuild Try.prog 31 [(0, x0), (1, (.string ⟨#[120]⟩))]) fun v1 =>
callP G68 [v1] w fun v3 w2 =>
bindP (bEq Try.prog 24 (.tmp 5) (.const (.int .i64 0)) v3 (.int .i64 0)) fun v4 =>
K v4 w2
def G70 : FnT := fun args w K => on1 (fun x0 => F70 x0 w K) args
theorem c70 {x0 : Value} {w : World} {K : Value → World → Prop} (h : F70 x0 w K) : callP G70 [x0] w K := callP_intro (on1_mk (p := fun x0 => F70 x0 w K) h)
theorem ok70 : OkF Try.prog 70 G70 := by
  refine okF_of (tab_ok (l := T70) ⟨ok68, trivial⟩) mixed (n := fuel) Try.func70 Try.call70 fun args w K h => ?_
  obtain ⟨x0, rfl, hh⟩ := of_on1 h
  exact fnD_list (c := bodyOf Try.f70) (by kernel_rfl) (by kernel_rfl) (Eq.mp (by kernel_rfl) hh)
def T19 : List (Nat × FnT) := [(68, G68), (69, G69), (70, G70)]
def F19 (x0 : Value) (w : World) (K : Value → World → Prop) : Prop :=
eBox 33 x0 w fun v2 w1 =>
bindP (pFieldAddr 0 v2) fun v3 =>
bindP (ld1 v3 w1) fun v4 =>
bindP (bLt v4 (.int .i64 1)) fun v5 =>
Sx.stepG (gd false v5) (pFieldAddr 1 v2) fun v6 =>
Sx.stepG (gd false v5) (ldN 5 v6 w1) fun v7 =>
stepE (gd false v5) (fun k => callP G68 [v7] w1 k) w1 fun v9 w8 =>
Sx.stepG (gd false v5) (bNe Try.prog 24 (.tmp 9) (.const (.int .i64 0)) v9 (.int .i64 0)) fun v10 =>
bindP (pPick v5 (.bool true) v10) fun v11 =>
Sx.stepG (gd false v11) (pFieldAddr 1 v2) fun v12 =>
Sx.stepG (gd false v11) (pFieldAddr 3 v12) fun v13 =>
Sx.stepG (gd false v11) (ld1 v13 w8) fun v14 =>
Sx.stepG (gd false v11) (bLt v14 (.int .i64 1)) fun v15 =>
bindP (pPick v11 (.bool true) v15) fun v16 =>
Sx.stepG (gd false v16) (pFieldAddr 6 v2) fun v17 =>
Sx.stepG (gd false v16) (ld1 v17 w8) fun v18 =>
Sx.stepG (gd false v16) (bLt v18 (.int .i64 1)) fun v19 =>
bindP (pPick v16 (.bool true) v19) fun v20 =>
Sx.stepG (gd false v20) (pFieldAddr 6 v2) fun v21 =>
Sx.stepG (gd false v20) (ld1 v21 w8) fun v22 =>
Sx.stepG (gd false v20) (bGt v22 (.int .i64 1099511627776)) fun v23 =>
bindP (pPick v20 (.bool true) v23) fun v24 =>
Sx.stepG (gd false v24) (pFieldAddr 7 v2) fun v25 =>
Sx.stepG (gd false v24) (ld1 v25 w8) fun v26 =>
stepE (gd false v24) (fun k => callP G69 [v26] w8 k) w8 fun v28 w27 =>
Sx.stepG (gd false v24) (uNot v28) fun v29 =>
bindP (pPick v24 (.bool true) v29) fun v30 =>
Sx.stepG (gd false v30) (pFieldAddr 8 v2) fun v31 =>
Sx.stepG (gd false v30) (ld1 v31 w27) fun v32 =>
stepE (gd false v30) (fun k => callP G69 [v32] w27 k) w27 fun v34 w33 =>
Sx.stepG (gd false v30) (uNot v34) fun v35 =>
bindP (pPick v30 (.bool true) v35) fun v36 =>
Sx.stepG (gd false v36) (pFieldAddr 7 v2) fun v37 =>
Sx.stepG (gd false v36) (ld1 v37 w33) fun v38 =>
Sx.stepG (gd false v36) (pFieldAddr 8 v2) fun v39 =>
Sx.stepG (gd false v36) (ld1 v39 w33) fun v40 =>
Sx.stepG (gd false v36) (bGt v38 v40) fun v41 =>
bindP (pPick v36 (.bool true) v41) fun v42 =>
ifB v42 (
K (.int .i64 4) w33) (
bindP (pFieldAddr 9 v2) fun v43 =>
bindP (ld1 v43 w33) fun v44 =>
Sx.stepG (gd true v44) (pFieldAddr 10 v2) fun v45 =>
Sx.stepG (gd true v44) (ld1 v45 w33) fun v46 =>
stepE (gd true v44) (fun k => callP G70 [v46] w33 k) w33 fun v48 w47 =>
Sx.stepG (gd true v44) (uNot v48) fun v49 =>
bindP (pPick v44 v49 (.bool false)) fun v50 =>
Sx.stepG (gd false v50) (pFieldAddr 9 v2) fun v51 =>
Sx.stepG (gd false v50) (ld1 v51 w47) fun v52 =>
Sx.stepG (gd false v50) (uNot v52) fun v53 =>
stepM (gd false v50) v53 fun v54 =>
Sx.stepG (gd true v54) (pFieldAddr 10 v2) fun v55 =>
Sx.stepG (gd true v54) (ld1 v55 w47) fun v56 =>
Sx.stepG (gd true v54) (bNe Try.prog 9 (.tmp 61) (.const (.string ⟨#[]⟩)) v56 (.string ⟨#[]⟩)) fun v57 =>
Sx.stepG (gd false v50) (pPick v54 v57 (.bool false)) fun v58 =>
bindP (pPick v50 (.bool true) v58) fun v59 =>
ifB v59 (
K (.int .i64 4) w47) (
K (.int .i64 0) w47))
def G19 : FnT := fun args w K => on1 (fun x0 => F19 x0 w K) args
theorem c19 {x0 : Value} {w : World} {K : Value → World → Prop} (h : F19 x0 w K) : callP G19 [x0] w K := callP_intro (on1_mk (p := fun x0 => F19 x0 w K) h)
theorem ok19 : OkF Try.prog 19 G19 := by
  refine okF_of (tab_ok (l := T19) ⟨ok68, ok69, ok70, trivial⟩) mixed (n := fuel) Try.func19 Try.call19 fun args w K h => ?_
  obtain ⟨x0, rfl, hh⟩ := of_on1 h
  exact fnD_list (c := bodyOf Try.f19) (by kernel_rfl) (by kernel_rfl) (Eq.mp (by kernel_rfl) hh)
def F4 (x0 : Value) (w : World) (K : Value → World → Prop) : Prop :=
eBox 33 x0 w fun v2 w1 =>
bindP (pFieldAddr 1 v2) fun v3 =>
bindP (pFieldAddr 0 v3) fun v4 =>
bindP (ld1 v4 w1) fun v5 =>
bindP (lenS v5) fun v6 =>
bindP (pFieldAddr 1 v2) fun v7 =>
bindP (pFieldAddr 1 v7) fun v8 =>
bindP (ld1 v8 w1) fun v9 =>
bindP (lenS v9) fun v10 =>
bindP (bAdd v6 v10) fun v11 =>
bindP (pFieldAddr 1 v2) fun v12 =>
bindP (pFieldAddr 2 v12) fun v13 =>
bindP (ld1 v13 w1) fun v14 =>
bindP (lenS v14) fun v15 =>
bindP (bAdd v11 v15) fun v16 =>
bindP (pFieldAddr 1 v2) fun v17 =>
bindP (pFieldAddr 4 v17) fun v18 =>
bindP (ld1 v18 w1) fun v19 =>
bindP (lenS v19) fun v20 =>
bindP (bAdd v16 v20) fun v21 =>
bindP (pFieldAddr 10 v2) fun v22 =>
bindP (ld1 v22 w1) fun v23 =>
bindP (lenS v23) fun v24 =>
bindP (bAdd v21 v24) fun v25 =>
bindP (bGt v25 (.int .i64 3000)) fun v26 =>
ifB v26 (
callP G14 [] w1 fun v28 w27 =>
K v28 w27) (
bindP (ldN 11 v2 w1.drew) fun v29 =>
bindP (ldN 11 v2 w1.drew) fun v30 =>
callP G18 [v29] w1.drew fun v32 w31 =>
fok true (ldN 11 v2 w31) v30 ∧ (callP G19 [v30] w31 fun v34 w33 =>
bindP (bEq Try.prog 24 (.tmp 29) (.tmp 31) v32 v34) fun v35 =>
stepE (gd true v35) (fun k => callP G14 [] w33 k) w33 fun v37 w36 =>
bindP (pPick v35 v37 (.bool false)) fun v38 =>
K v38 w36))
def G4 : FnT := fun args w K => on1 (fun x0 => F4 x0 w K) args
theorem c4 {x0 : Value} {w : World} {K : Value → World → Prop} (h : F4 x0 w K) : callP G4 [x0] w K := callP_intro (on1_mk (p := fun x0 => F4 x0 w K) h)
def F3_3b (w : World) (K : Value → World → Prop) : Prop :=
K (.bool true) w
def F3_3 (w : World) (K : Value → World → Prop) : Prop := F3_3b w K
def F3_6b (s0 : Value) (s3 : Value) (s5 : Value) (s6 : Value) (w : World) (_K : Value → World → Prop) (R3 : Value → Value → Value → Value → World → Prop) : Prop :=
bindP (bAdd s6 (.int .i64 1)) fun v1 =>
R3 s0 s3 s5 v1 w
def F3_6 (s0 : Value) (s3 : Value) (s5 : Value) (s6 : Value) (w : World) (K : Value → World → Prop) (R3 : Value → Value → Value → Value → World → Prop) : Prop := F3_6b s0 s3 s5 s6 w K R3
def F3_8b (s0 : Value) (s3 : Value) (s6 : Value) (s7 : Value) (s8 : Value) (s9 : Value) (s10 : Value) (s11 : Value) (w : World) (K : Value → World → Prop) (R3 : Value → Value → Value → Value → World → Prop) (Y0 : Value → Value → Value → Value → World → Prop) : Prop :=
bindP (bNe Try.prog 24 (.tmp 67) (.const (.int .i64 0)) s10 (.int .i64 0)) fun v2 =>
stepM (gd false v2) s9 fun v3 =>
stepM (gd false v2) s11 fun v4 =>
Sx.stepG (gd false v2) (bNe Try.prog 3 (.tmp 70) (.tmp 71) v3 v4) fun v5 =>
bindP (pPick v2 (.bool true) v5) fun v6 =>
Sx.stepG (gd false v6) (ldN 11 s8 w) fun v7 =>
Sx.stepG (gd false v6) (ldN 5 s7 w) fun v8 =>
stepM (gd false v6) s6 fun v9 =>
Sx.stepG (gd false v6) (bAdd v9 (.int .i64 1)) fun v10 =>
stepM (gd false v6) s6 fun v11 =>
Sx.stepG (gd false v6) (bMul (.int .i64 5) v11) fun v12 =>
Sx.stepG (gd false v6) (fBuild Try.prog 33 [(0, (.int .i64 1)), (1, v8), (2, v10), (3, (.int .i64 0)), (4, v12)]) fun v13 =>
Sx.stepG (gd false v6) (bNe Try.prog 33 (.tmp 75) (.tmp 81) v7 v13) fun v14 =>
bindP (pPick v6 (.bool true) v14) fun v15 =>
ifB v15 (
K (.bool false) w) (
bindP (pFieldAddr 3 s7) fun v16 =>
bindP (ld1 v16 w) fun v17 =>
bindP (fBuild Try.prog 31 [(0, (.string ⟨#[111]⟩)), (1, (.string ⟨#[99]⟩)), (3, (.int .i64 1))]) fun v18 =>
bindP (bMul (.int .i64 5) s6) fun v19 =>
callP G16 [s3, v18, v19] w fun v21 w20 =>
bindP (pTuple v21 0) fun v22 =>
bindP (pTuple v21 1) fun _ =>
bindP (pTuple v21 2) fun v24 =>
eAlloc Try.prog 33 w20 fun v26 w25 =>
bindW (st 11 v26 v22 w25) fun w27 =>
bindP (bNe Try.prog 24 (.tmp 95) (.const (.int .i64 200)) v24 (.int .i64 200)) fun v29 =>
Sx.stepG (gd false v29) (ldN 11 v26 w27) fun v30 =>
Sx.stepG (gd false v29) (fBuild Try.prog 33 []) fun v31 =>
Sx.stepG (gd false v29) (bNe Try.prog 33 (.tmp 98) (.tmp 99) v30 v31) fun v32 =>
bindP (pPick v29 (.bool true) v32) fun v33 =>
stepM (gd false v33) s3 fun v34 =>
stepE (gd false v33) (fun k => callP G17 [v34] w27 k) w27 fun v36 w35 =>
Sx.stepG (gd false v33) (bNe Try.prog 3 (.tmp 104) (.const (.int .i64 1)) v36 (.int .i64 1)) fun v37 =>
bindP (pPick v33 (.bool true) v37) fun v38 =>
ifB v38 (
K (.bool false) w35) (
Y0 s0 s3 v17 s6 w35))
def F3_8 (s0 : Value) (s3 : Value) (s6 : Value) (s7 : Value) (s8 : Value) (s9 : Value) (s10 : Value) (s11 : Value) (w : World) (K : Value → World → Prop) (R3 : Value → Value → Value → Value → World → Prop) : Prop := F3_8b s0 s3 s6 s7 s8 s9 s10 s11 w K R3 (fun a0 a3 a5 a6 w => F3_6 a0 a3 a5 a6 w K R3)
def F3_7b (s0 : Value) (s3 : Value) (s5 : Value) (s6 : Value) (w : World) (_K : Value → World → Prop) (R3 : Value → Value → Value → Value → World → Prop) (Y0 : Value → Value → Value → Value → Value → Value → Value → Value → World → Prop) : Prop :=
bindP (pIndexL 1 s0 s6) fun v39 =>
bindP (ld1 v39 w.drew) fun v40 =>
bindP (bRem s6 (.int .i64 20)) fun v41 =>
bindP (bAdd (.int .i64 97) v41) fun v42 =>
bindP (cInt .u8 v42) fun v43 =>
(callP G15 [v40, (.int .i64 5)] w.drew fun v45 w44 =>
fok true (cInt .u8 v42) v43 ∧ (bindP (bAdd (.int .i64 1) v45) fun v46 =>
(eBuildSl Try.prog 29 1 [(0, v43)] w44 fun v48 w47 =>
fok true (ld1 v39 w47) v40 ∧ (bindP (cBytes v48 w47) fun v49 =>
bindP (fBuild Try.prog 31 [(0, (.string ⟨#[110]⟩)), (1, (.string ⟨#[99]⟩)), (2, (.string ⟨#[107]⟩)), (3, v46), (4, v49)]) fun v50 =>
eAlloc Try.prog 31 w47 fun v52 w51 =>
(fok true (ld1 v39 w51) v40 ∧ fok true (cInt .u8 v42) v43 ∧ fok true (cBytes v48 w51) v49) ∧ (bindW (st 5 v52 v50 w51) fun w53 =>
bindP (ldN 5 v52 w53) fun v55 =>
bindP (bMul (.int .i64 5) s6) fun v56 =>
callP G16 [s3, v55, v56] w53 fun v58 w57 =>
bindP (pTuple v58 0) fun v59 =>
bindP (pTuple v58 1) fun v60 =>
bindP (pTuple v58 2) fun v61 =>
eAlloc Try.prog 33 w57 fun v63 w62 =>
bindW (st 11 v63 v59 w62) fun w64 =>
bindP (bEq Try.prog 3 (.tmp 61) (.const (.int .i64 0)) s6 (.int .i64 0)) fun v66 =>
ifB v66 (
Y0 s0 s3 s6 v52 v63 v60 v61 (.int .i64 1) w64) (
bindP (pFieldAddr 3 v52) fun v67 =>
bindP (ld1 v67 w64) fun v68 =>
bindP (bNe Try.prog 3 (.tmp 64) (.tmp 65) v68 s5) fun v69 =>
ifB v69 (
Y0 s0 s3 s6 v52 v63 v60 v61 (.int .i64 2) w64) (
Y0 s0 s3 s6 v52 v63 v60 v61 (.int .i64 0) w64))))) ∧ (eAlloc Try.prog 31 w44 fun v71 w70 =>
(fok true (ld1 v39 w70) v40 ∧ fok true (cInt .u8 v42) v43) ∧ (eBuildSl Try.prog 29 1 [(0, v43)] w70 fun v73 w72 =>
fok true (ld1 v39 w72) v40 ∧ (bindP (cBytes v73 w72) fun v74 =>
bindP (fBuild Try.prog 31 [(0, (.string ⟨#[110]⟩)), (1, (.string ⟨#[99]⟩)), (2, (.string ⟨#[107]⟩)), (3, v46), (4, v74)]) fun v75 =>
bindW (st 5 v71 v75 w72) fun w76 =>
bindP (ldN 5 v71 w76) fun v78 =>
bindP (bMul (.int .i64 5) s6) fun v79 =>
callP G16 [s3, v78, v79] w76 fun v81 w80 =>
bindP (pTuple v81 0) fun v82 =>
bindP (pTuple v81 1) fun v83 =>
bindP (pTuple v81 2) fun v84 =>
eAlloc Try.prog 33 w80 fun v86 w85 =>
bindW (st 11 v86 v82 w85) fun w87 =>
bindP (bEq Try.prog 3 (.tmp 61) (.const (.int .i64 0)) s6 (.int .i64 0)) fun v89 =>
ifB v89 (
Y0 s0 s3 s6 v71 v86 v83 v84 (.int .i64 1) w87) (
bindP (pFieldAddr 3 v71) fun v90 =>
bindP (ld1 v90 w87) fun v91 =>
bindP (bNe Try.prog 3 (.tmp 64) (.tmp 65) v91 s5) fun v92 =>
ifB v92 (
Y0 s0 s3 s6 v71 v86 v83 v84 (.int .i64 2) w87) (
Y0 s0 s3 s6 v71 v86 v83 v84 (.int .i64 0) w87))))))) ∧ (eBuildSl Try.prog 29 1 [(0, v43)] w.drew fun v94 w93 =>
fok true (ld1 v39 w93) v40 ∧ (bindP (cBytes v94 w93) fun v95 =>
(callP G15 [v40, (.int .i64 5)] w93 fun v97 w96 =>
(fok true (cInt .u8 v42) v43 ∧ fok true (cBytes v94 w96) v95) ∧ (bindP (bAdd (.int .i64 1) v97) fun v98 =>
bindP (fBuild Try.prog 31 [(0, (.string ⟨#[110]⟩)), (1, (.string ⟨#[99]⟩)), (2, (.string ⟨#[107]⟩)), (3, v98), (4, v95)]) fun v99 =>
eAlloc Try.prog 31 w96 fun v101 w100 =>
(fok true (ld1 v39 w100) v40 ∧ fok true (cInt .u8 v42) v43 ∧ fok true (cBytes v94 w100) v95) ∧ (bindW (st 5 v101 v99 w100) fun w102 =>
bindP (ldN 5 v101 w102) fun v104 =>
bindP (bMul (.int .i64 5) s6) fun v105 =>
callP G16 [s3, v104, v105] w102 fun v107 w106 =>
bindP (pTuple v107 0) fun v108 =>
bindP (pTuple v107 1) fun v109 =>
bindP (pTuple v107 2) fun v110 =>
eAlloc Try.prog 33 w106 fun v112 w111 =>
bindW (st 11 v112 v108 w111) fun w113 =>
bindP (bEq Try.prog 3 (.tmp 61) (.const (.int .i64 0)) s6 (.int .i64 0)) fun v115 =>
ifB v115 (
Y0 s0 s3 s6 v101 v112 v109 v110 (.int .i64 1) w113) (
bindP (pFieldAddr 3 v101) fun v116 =>
bindP (ld1 v116 w113) fun v117 =>
bindP (bNe Try.prog 3 (.tmp 64) (.tmp 65) v117 s5) fun v118 =>
ifB v118 (
Y0 s0 s3 s6 v101 v112 v109 v110 (.int .i64 2) w113) (
Y0 s0 s3 s6 v101 v112 v109 v110 (.int .i64 0) w113))))) ∧ (eAlloc Try.prog 31 w93 fun v120 w119 =>
(fok true (ld1 v39 w119) v40 ∧ fok true (cInt .u8 v42) v43 ∧ fok true (cBytes v94 w119) v95) ∧ (callP G15 [v40, (.int .i64 5)] w119 fun v122 w121 =>
(fok true (cInt .u8 v42) v43 ∧ fok true (cBytes v94 w121) v95) ∧ (bindP (bAdd (.int .i64 1) v122) fun v123 =>
bindP (fBuild Try.prog 31 [(0, (.string ⟨#[110]⟩)), (1, (.string ⟨#[99]⟩)), (2, (.string ⟨#[107]⟩)), (3, v123), (4, v95)]) fun v124 =>
bindW (st 5 v120 v124 w121) fun w125 =>
bindP (ldN 5 v120 w125) fun v127 =>
bindP (bMul (.int .i64 5) s6) fun v128 =>
callP G16 [s3, v127, v128] w125 fun v130 w129 =>
bindP (pTuple v130 0) fun v131 =>
bindP (pTuple v130 1) fun v132 =>
bindP (pTuple v130 2) fun v133 =>
eAlloc Try.prog 33 w129 fun v135 w134 =>
bindW (st 11 v135 v131 w134) fun w136 =>
bindP (bEq Try.prog 3 (.tmp 61) (.const (.int .i64 0)) s6 (.int .i64 0)) fun v138 =>
ifB v138 (
Y0 s0 s3 s6 v120 v135 v132 v133 (.int .i64 1) w136) (
bindP (pFieldAddr 3 v120) fun v139 =>
bindP (ld1 v139 w136) fun v140 =>
bindP (bNe Try.prog 3 (.tmp 64) (.tmp 65) v140 s5) fun v141 =>
ifB v141 (
Y0 s0 s3 s6 v120 v135 v132 v133 (.int .i64 2) w136) (
Y0 s0 s3 s6 v120 v135 v132 v133 (.int .i64 0) w136))))))) ∧ (eAlloc Try.prog 31 w.drew fun v143 w142 =>
(fok true (ld1 v39 w142) v40 ∧ fok true (cInt .u8 v42) v43) ∧ ((callP G15 [v40, (.int .i64 5)] w142 fun v145 w144 =>
fok true (cInt .u8 v42) v43 ∧ (bindP (bAdd (.int .i64 1) v145) fun v146 =>
eBuildSl Try.prog 29 1 [(0, v43)] w144 fun v148 w147 =>
fok true (ld1 v39 w147) v40 ∧ (bindP (cBytes v148 w147) fun v149 =>
bindP (fBuild Try.prog 31 [(0, (.string ⟨#[110]⟩)), (1, (.string ⟨#[99]⟩)), (2, (.string ⟨#[107]⟩)), (3, v146), (4, v149)]) fun v150 =>
bindW (st 5 v143 v150 w147) fun w151 =>
bindP (ldN 5 v143 w151) fun v153 =>
bindP (bMul (.int .i64 5) s6) fun v154 =>
callP G16 [s3, v153, v154] w151 fun v156 w155 =>
bindP (pTuple v156 0) fun v157 =>
bindP (pTuple v156 1) fun v158 =>
bindP (pTuple v156 2) fun v159 =>
eAlloc Try.prog 33 w155 fun v161 w160 =>
bindW (st 11 v161 v157 w160) fun w162 =>
bindP (bEq Try.prog 3 (.tmp 61) (.const (.int .i64 0)) s6 (.int .i64 0)) fun v164 =>
ifB v164 (
Y0 s0 s3 s6 v143 v161 v158 v159 (.int .i64 1) w162) (
bindP (pFieldAddr 3 v143) fun v165 =>
bindP (ld1 v165 w162) fun v166 =>
bindP (bNe Try.prog 3 (.tmp 64) (.tmp 65) v166 s5) fun v167 =>
ifB v167 (
Y0 s0 s3 s6 v143 v161 v158 v159 (.int .i64 2) w162) (
Y0 s0 s3 s6 v143 v161 v158 v159 (.int .i64 0) w162))))) ∧ (eBuildSl Try.prog 29 1 [(0, v43)] w142 fun v169 w168 =>
fok true (ld1 v39 w168) v40 ∧ (bindP (cBytes v169 w168) fun v170 =>
callP G15 [v40, (.int .i64 5)] w168 fun v172 w171 =>
(fok true (cInt .u8 v42) v43 ∧ fok true (cBytes v169 w171) v170) ∧ (bindP (bAdd (.int .i64 1) v172) fun v173 =>
bindP (fBuild Try.prog 31 [(0, (.string ⟨#[110]⟩)), (1, (.string ⟨#[99]⟩)), (2, (.string ⟨#[107]⟩)), (3, v173), (4, v170)]) fun v174 =>
bindW (st 5 v143 v174 w171) fun w175 =>
bindP (ldN 5 v143 w175) fun v177 =>
bindP (bMul (.int .i64 5) s6) fun v178 =>
callP G16 [s3, v177, v178] w175 fun v180 w179 =>
bindP (pTuple v180 0) fun v181 =>
bindP (pTuple v180 1) fun v182 =>
bindP (pTuple v180 2) fun v183 =>
eAlloc Try.prog 33 w179 fun v185 w184 =>
bindW (st 11 v185 v181 w184) fun w186 =>
bindP (bEq Try.prog 3 (.tmp 61) (.const (.int .i64 0)) s6 (.int .i64 0)) fun v188 =>
ifB v188 (
Y0 s0 s3 s6 v143 v185 v182 v183 (.int .i64 1) w186) (
bindP (pFieldAddr 3 v143) fun v189 =>
bindP (ld1 v189 w186) fun v190 =>
bindP (bNe Try.prog 3 (.tmp 64) (.tmp 65) v190 s5) fun v191 =>
ifB v191 (
Y0 s0 s3 s6 v143 v185 v182 v183 (.int .i64 2) w186) (
Y0 s0 s3 s6 v143 v185 v182 v183 (.int .i64 0) w186)))))))
def F3_7 (s0 : Value) (s3 : Value) (s5 : Value) (s6 : Value) (w : World) (K : Value → World → Prop) (R3 : Value → Value → Value → Value → World → Prop) : Prop := F3_7b s0 s3 s5 s6 w K R3 (fun a0 a3 a6 a7 a8 a9 a10 a11 w => F3_8 a0 a3 a6 a7 a8 a9 a10 a11 w K R3)
def F3_5 (s0 : Value) (s3 : Value) (s5 : Value) (s6 : Value) (w : World) (K : Value → World → Prop) (R3 : Value → Value → Value → Value → World → Prop) : Prop := F3_7 s0 s3 s5 s6 w K R3
def F3_4b (s0 : Value) (s3 : Value) (s5 : Value) (s6 : Value) (w : World) (_K : Value → World → Prop) (R3 : Value → Value → Value → Value → World → Prop) (Y0 : Value → Value → Value → Value → World → Prop) (Y1 : World → Prop) : Prop :=
bindP (lenL s0) fun v192 =>
bindP (bLt s6 v192) fun v193 =>
stepM (gd true v193) s6 fun v194 =>
Sx.stepG (gd true v193) (bLt v194 (.int .i64 100)) fun v195 =>
bindP (pPick v193 v195 (.bool false)) fun v196 =>
ifB v196 (
Y0 s0 s3 s5 s6 w) (
Y1 w)
def F3_4 (s0 : Value) (s3 : Value) (s5 : Value) (s6 : Value) (w : World) (K : Value → World → Prop) (R3 : Value → Value → Value → Value → World → Prop) : Prop := F3_4b s0 s3 s5 s6 w K R3 (fun a0 a3 a5 a6 w => F3_5 a0 a3 a5 a6 w K R3) (fun w => F3_3 w K)
def F3_2L : Nat → Value → Value → Value → Value → World → (Value → World → Prop) → Prop
  | 0, _, _, _, _, _, _ => False
  | n + 1, s0, s3, s5, s6, w, K => F3_4 s0 s3 s5 s6 w K (fun a0 a3 a5 a6 w => F3_2L n a0 a3 a5 a6 w K)
def F3_2 (s0 : Value) (s3 : Value) (s5 : Value) (s6 : Value) (w : World) (K : Value → World → Prop) : Prop := F3_2L fuel s0 s3 s5 s6 w K
def F3_1b (s0 : Value) (w : World) (K : Value → World → Prop) (Y0 : Value → Value → Value → Value → World → Prop) : Prop :=
callP G13 [(.int .i64 1)] w fun v198 w197 =>
bindP (pTuple v198 0) fun v199 =>
bindP (pTuple v198 1) fun v200 =>
bindP (bEq Try.prog 23 (.tmp 19) (.const (.pointer none)) v199 (.pointer none)) fun v201 =>
stepM (gd false v201) v200 fun v202 =>
Sx.stepG (gd false v201) (bNe Try.prog 24 (.tmp 22) (.const (.int .i64 0)) v202 (.int .i64 0)) fun v203 =>
bindP (pPick v201 (.bool true) v203) fun v204 =>
stepE (gd false v204) (fun k => callP G14 [] w197 k) w197 fun v206 w205 =>
Sx.stepG (gd false v204) (uNot v206) fun v207 =>
bindP (pPick v204 (.bool true) v207) fun v208 =>
ifB v208 (
K (.bool false) w205) (
Y0 s0 v199 (.int .i64 0) (.int .i64 0) w205)
def F3_1 (s0 : Value) (w : World) (K : Value → World → Prop) : Prop := F3_1b s0 w K (fun a0 a3 a5 a6 w => F3_2 a0 a3 a5 a6 w K)
def F3 (x0 : Value) (w : World) (K : Value → World → Prop) : Prop := F3_1 x0 w K
def G3 : FnT := fun args w K => on1 (fun x0 => F3 x0 w K) args
theorem c3 {x0 : Value} {w : World} {K : Value → World → Prop} (h : F3 x0 w K) : callP G3 [x0] w K := callP_intro (on1_mk (p := fun x0 => F3 x0 w K) h)
end Go.Proofs.Gong

/- Bd0 -/
namespace Go.Proofs.Gong
open Go Go.Sx Go.Proofs
set_option maxRecDepth 100000
def timeP (t : Int) : Bool := decide (0 ≤ t) && decide (t ≤ 2305843009213693952)
def whoP (s : List UInt8) : Bool := !decide (s = []) && plainP s 64
theorem chk_who (s c : List UInt8) (hc : c ≠ []) (hp : plainP c 64 = true) : chkE ⟨s, c, [], 0, []⟩ = if whoP s = true then 0 else 180 := by
  have h1 : plainP [] 128 = true := by decide
  have h2 : plainP [] 1024 = true := by decide
  unfold chkE okE whoP
  simp [hc, hp, h1, h2]
section
variable {w0 w : World} {L : List HP} {K : Value → World → Prop}
theorem bistime_spec {t : Int} (hK : K (.bool (timeP t)) w) : callP G62 [.int .i64 t] w K := by
  refine c62 ?_
  unfold F62
  unfold timeP at hK
  by_cases g1 : 0 ≤ t <;> simp [g1] at hK ⊢ <;> exact hK
theorem fbistime_spec {t : Int} (hK : K (.bool (timeP t)) w) : callP G69 [.int .i64 t] w K := by
  refine c69 ?_
  unfold F69
  unfold timeP at hK
  by_cases g1 : 0 ≤ t <;> simp [g1] at hK ⊢ <;> exact hK
theorem iswho_spec {s : List UInt8} (hs : s.length < 1073741824) (h : Sat w0 L w) (hK : ∀ w', Sat w0 L w' → K (.bool (whoP s)) w') : callP G67 [.string (bs s)] w K := by
  refine c67 ?_
  unfold F67
  have eb : fBuild Try.prog 31 [(0, .string (bs s)), (1, .string ⟨#[99]⟩)] = some (evV ⟨s, [99], [], 0, []⟩) := by kernel_rfl
  rw [eb]
  simp only [bindP_some]
  refine ncheck_spec ⟨hs, by simp, by simp, by simp⟩ h fun w1 h1 => ?_
  rw [chk_who s [99] (by simp) (by decide)]
  have hk := hK _ h1
  by_cases hw : whoP s = true
  · rw [hw] at hk; rw [if_pos hw]; simpa using hk
  · rw [if_neg hw]
    have : whoP s = false := by simpa using hw
    rw [this] at hk; simpa using hk
theorem fiswho_spec {s : List UInt8} (hs : s.length < 1073741824) (h : Sat w0 L w) (hK : ∀ w', Sat w0 L w' → K (.bool (whoP s)) w') : callP G70 [.string (bs s)] w K := by
  refine c70 ?_
  unfold F70
  have eb : fBuild Try.prog 31 [(0, .string (bs s)), (1, .string ⟨#[120]⟩)] = some (evV ⟨s, [120], [], 0, []⟩) := by kernel_rfl
  rw [eb]
  simp only [bindP_some]
  refine nfcheck_spec ⟨hs, by simp, by simp, by simp⟩ h fun w1 h1 => ?_
  rw [chk_who s [120] (by simp) (by decide)]
  have hk := hK _ h1
  by_cases hw : whoP s = true
  · rw [hw] at hk; rw [if_pos hw]; simpa using hk
  · rw [if_neg hw]
    have : whoP s = false := by simpa using hw
    rw [this] at hk; simpa using hk
end
structure Row where
  id : Int
  e : Evt
  tally : Int
  first : Int
  last : Int
  acked : Bool
  who : List UInt8
  deriving DecidableEq
@[reducible] def cRow (r : Row) : List Value := [.int .i64 r.id, .string (bs r.e.node), .string (bs r.e.cls), .string (bs r.e.key), .int .i64 r.e.level, .string (bs r.e.text), .int .i64 r.tally, .int .i64 r.first, .int .i64 r.last, .bool r.acked, .string (bs r.who)]
abbrev rowV (r : Row) : Value := .agg (cRow r).toArray
def timesR (r : Row) : Bool := timeP r.first && timeP r.last && decide (r.first ≤ r.last)
def whoR (r : Row) : Bool := if r.acked = true then whoP r.who else decide (r.who = [])
def okR (r : Row) : Bool := decide (1 ≤ r.id) && decide (1 ≤ r.e.level) && decide (1 ≤ r.tally) && decide (r.tally ≤ 1099511627776) && timesR r && whoR r && okE r.e
def chkR (r : Row) : Int := if okR r = true then 0 else 4
end Go.Proofs.Gong

/- Bd1 -/
namespace Go.Proofs.Gong
open Go Go.Sx Go.Proofs
set_option maxRecDepth 100000
section
variable {w0 w : World} {L : List HP} {K : Value → World → Prop} {r : Row}
theorem times_blk {p : Nat} {k : Value → World → Prop} (c7 : w.cell? ⟨p, 7, none⟩ = some (.int .i64 r.first)) (c8 : w.cell? ⟨p, 8, none⟩ = some (.int .i64 r.last)) (hk : k (.bool (timesR r)) w) :
    bindP (pFieldAddr 7 (ptr p)) fun v3 => bindP (ld1 v3 w) fun v4 => callP G62 [v4] w fun v6 w5 =>
    Sx.stepG (gd true v6) (pFieldAddr 8 (ptr p)) fun v7 => Sx.stepG (gd true v6) (ld1 v7 w5) fun v8 => stepE (gd true v6) (fun k => callP G62 [v8] w5 k) w5 fun v10 w9 =>
    bindP (pPick v6 v10 (.bool false)) fun v11 => Sx.stepG (gd true v11) (pFieldAddr 7 (ptr p)) fun v12 => Sx.stepG (gd true v11) (ld1 v12 w9) fun v13 =>
    Sx.stepG (gd true v11) (pFieldAddr 8 (ptr p)) fun v14 => Sx.stepG (gd true v11) (ld1 v14 w9) fun v15 => Sx.stepG (gd true v11) (bLe v13 v15) fun v16 => bindP (pPick v11 v16 (.bool false)) fun v17 => k v17 w9 := by
  simp only [ptr, pFieldAddr_ptr, bindP_some, Nat.zero_add, ld1_ptr, c7, c8]
  refine bistime_spec ?_
  unfold timesR at hk
  by_cases t1 : timeP r.first = true
  · simp only [t1, gd_true, stepG_true, bindP_some, ld1_ptr, c8, stepE_true]
    refine bistime_spec ?_
    by_cases t2 : timeP r.last = true
    · simp only [t2, pPick_true, bindP_some, gd_true, stepG_true, ld1_ptr, c7, c8, bLe_int]
      simpa [t1, t2] using hk
    · have t2' : timeP r.last = false := by simpa using t2
      simp only [t2', pPick_true, bindP_some, gd_true, stepG_false, pPick_false]
      simpa [t1, t2'] using hk
  · have t1' : timeP r.first = false := by simpa using t1
    simp only [t1', gd_true, stepG_false, stepE_false, pPick_false, bindP_some]
    simpa [t1'] using hk
theorem who_blk {p : Nat} {k : Value → World → Prop} (h : Sat w0 (Cl p (cRow r).toArray 33 :: L) w) (hs : r.who.length < 1073741824) (hk : ∀ w', Sat w0 (Cl p (cRow r).toArray 33 :: L) w' → k (.bool (whoR r)) w') :
    bindP (pFieldAddr 9 (ptr p)) fun v18 => bindP (ld1 v18 w) fun v19 => Sx.stepG (gd true v19) (pFieldAddr 10 (ptr p)) fun v20 => Sx.stepG (gd true v19) (ld1 v20 w) fun v21 =>
    stepE (gd true v19) (fun k => callP G67 [v21] w k) w fun v23 w22 => bindP (pPick v19 v23 (.bool false)) fun v24 => Sx.stepG (gd false v24) (pFieldAddr 9 (ptr p)) fun v25 =>
    Sx.stepG (gd false v24) (ld1 v25 w22) fun v26 => Sx.stepG (gd false v24) (uNot v26) fun v27 => stepM (gd false v24) v27 fun v28 => Sx.stepG (gd true v28) (pFieldAddr 10 (ptr p)) fun v29 =>
    Sx.stepG (gd true v28) (ld1 v29 w22) fun v30 => Sx.stepG (gd true v28) (bEq Try.prog 9 (.tmp 33) (.const (.string ⟨#[]⟩)) v30 (.string ⟨#[]⟩)) fun v31 =>
    Sx.stepG (gd false v24) (pPick v28 v31 (.bool false)) fun v32 => bindP (pPick v24 (.bool true) v32) fun v33 => k v33 w22 := by
  have cs : ∀ {w' : World}, Sat w0 (Cl p (cRow r).toArray 33 :: L) w' → ∀ i, w'.cell? ⟨p, i, none⟩ = (cRow r)[i]? := fun h i => by rw [cell_of h.cl, List.getElem?_toArray]
  have k9 : (cRow r)[9]? = some (.bool r.acked) := rfl
  have k10 : (cRow r)[10]? = some (.string (bs r.who)) := rfl
  unfold whoR at hk
  rw [nil_b]
  simp only [ptr, pFieldAddr_ptr, bindP_some, Nat.zero_add, ld1_ptr, cs h, k9, k10]
  by_cases ha : r.acked = true
  · rw [if_pos ha] at hk
    simp only [ha, gd_true, stepG_true, bindP_some, ld1_ptr, cs h, k10, stepE_true]
    refine iswho_spec hs h fun w2 h2 => ?_
    have hk2 := hk w2 h2
    by_cases hw : whoP r.who = true
    · rw [hw] at hk2
      simp only [hw, pPick_true, bindP_some, gd_false, Bool.not_true, stepG_false, stepM_false, gd_undef]
      exact hk2
    · have hw' : whoP r.who = false := by simpa using hw
      rw [hw'] at hk2
      simp only [hw', pPick_true, pPick_false, bindP_some, gd_false, gd_true, Bool.not_false, Bool.not_true, stepG_true, stepG_false, stepM_true, ld1_ptr, cs h2, k9, ha, uNot_bool]
      exact hk2
  · have ha' : r.acked = false := by simpa using ha
    rw [if_neg ha] at hk
    have hk2 := hk w h
    simp only [ha', gd_true, stepG_false, stepE_false, pPick_false, bindP_some, gd_false, Bool.not_false, stepG_true, ld1_ptr, cs h, k9, uNot_bool, stepM_true, k10, bEq_str, bs_beq, bs_inj, pPick_true]
    exact hk2
theorem bcheck_spec (he : r.e.fits) (hw : r.who.length < 1073741824) (h : Sat w0 L w) (hK : ∀ w', Sat w0 L w' → K (.int .i64 (chkR r)) w') : callP G18 [rowV r] w K := by
  refine c18 ?_
  unfold F18
  refine eBox_sat h fun p w1 h1 => ?_
  have e0 : (rowV r).cells = (cRow r).toArray := rfl
  rw [e0] at h1
  have cs : ∀ {w' : World}, Sat w0 (Cl p (cRow r).toArray 33 :: L) w' → ∀ i, w'.cell? ⟨p, i, none⟩ = (cRow r)[i]? := fun h i => by rw [cell_of h.cl, List.getElem?_toArray]
  have k0 : (cRow r)[0]? = some (.int .i64 r.id) := rfl
  have k4 : (cRow r)[4]? = some (.int .i64 r.e.level) := rfl
  have k6 : (cRow r)[6]? = some (.int .i64 r.tally) := rfl
  refine times_blk (r := r) (by rw [cs h1]; rfl) (by rw [cs h1]; rfl) ?_
  refine who_blk h1 hw fun w2 h2 => ?_
  have cN : ldN 5 (.pointer (some ⟨p, 1, none⟩)) w2 = some (evV r.e) := by rw [ldN_of h2.cl (by simp [cRow])]; rfl
  have bad : ∀ w', Sat w0 (Cl p (cRow r).toArray 33 :: L) w' → okR r = false → K (.int .i64 4) w' := by
    intro w' hs ho
    have := hK _ hs.drop
    unfold chkR at this
    rw [ho] at this
    exact this
  simp only [ptr, cs h2, ld1_ptr, k0, k4, k6, gd_undef, uNot_bool, decide_true, decide_false, Bool.not_true, Bool.not_false, gd_true, gd_false, stepG_true, stepG_false, stepE_true, stepE_false, stepM_true, stepM_false, pPick_true, pPick_false, pFieldAddr_ptr, Nat.zero_add, bindP_some, ifB_true, ifB_false, bLt_int, bGt_int, bNe_int]
  by_cases g1 : r.id < 1
  · have ho : okR r = false := by
      have : ¬ (1 ≤ r.id) := by omega
      simp [okR, this]
    simp only [g1, ld1_ptr, k0, k4, k6, gd_undef, uNot_bool, decide_true, decide_false, Bool.not_true, Bool.not_false, gd_true, gd_false, stepG_true, stepG_false, stepE_true, stepE_false, stepM_true, stepM_false, pPick_true, pPick_false, pFieldAddr_ptr, Nat.zero_add, bindP_some, ifB_true, ifB_false, bLt_int, bGt_int, bNe_int]
    exact bad _ h2 ho
  · by_cases g2 : r.e.level < 1
    · have ho : okR r = false := by
        have : ¬ (1 ≤ r.e.level) := by omega
        simp [okR, this]
      simp only [g1, g2, cs h2, ld1_ptr, k0, k4, k6, gd_undef, uNot_bool, decide_true, decide_false, Bool.not_true, Bool.not_false, gd_true, gd_false, stepG_true, stepG_false, stepE_true, stepE_false, stepM_true, stepM_false, pPick_true, pPick_false, pFieldAddr_ptr, Nat.zero_add, bindP_some, ifB_true, ifB_false, bLt_int, bGt_int, bNe_int]
      exact bad _ h2 ho
    · by_cases g3 : r.tally < 1
      · have ho : okR r = false := by
          have : ¬ (1 ≤ r.tally) := by omega
          simp [okR, this]
        simp only [g1, g2, g3, cs h2, ld1_ptr, k0, k4, k6, gd_undef, uNot_bool, decide_true, decide_false, Bool.not_true, Bool.not_false, gd_true, gd_false, stepG_true, stepG_false, stepE_true, stepE_false, stepM_true, stepM_false, pPick_true, pPick_false, pFieldAddr_ptr, Nat.zero_add, bindP_some, ifB_true, ifB_false, bLt_int, bGt_int, bNe_int]
        exact bad _ h2 ho
      · by_cases g4 : r.tally > 1099511627776
        · have ho : okR r = false := by
            have : ¬ (r.tally ≤ 1099511627776) := by omega
            simp [okR, this]
          simp only [g1, g2, g3, g4, cs h2, ld1_ptr, k0, k4, k6, gd_undef, uNot_bool, decide_true, decide_false, Bool.not_true, Bool.not_false, gd_true, gd_false, stepG_true, stepG_false, stepE_true, stepE_false, stepM_true, stepM_false, pPick_true, pPick_false, pFieldAddr_ptr, Nat.zero_add, bindP_some, ifB_true, ifB_false, bLt_int, bGt_int, bNe_int]
          exact bad _ h2 ho
        · by_cases g5 : timesR r = true
          · by_cases g6 : whoR r = true
            · simp only [g1, g2, g3, g4, g5, g6, cs h2, cN, ld1_ptr, k0, k4, k6, gd_undef, uNot_bool, decide_true, decide_false, Bool.not_true, Bool.not_false, gd_true, gd_false, stepG_true, stepG_false, stepE_true, stepE_false, stepM_true, stepM_false, pPick_true, pPick_false, pFieldAddr_ptr, Nat.zero_add, bindP_some, ifB_true, ifB_false, bLt_int, bGt_int, bNe_int]
              refine ncheck_spec he h2 fun w3 h3 => ?_
              unfold chkE
              by_cases g7 : okE r.e = true
              · have hk := hK _ h3.drop
                have ho : okR r = true := by
                  have a1 : 1 ≤ r.id := by omega
                  have a2 : 1 ≤ r.e.level := by omega
                  have a3 : 1 ≤ r.tally := by omega
                  have a4 : r.tally ≤ 1099511627776 := by omega
                  simp [okR, a1, a2, a3, a4, g5, g6, g7]
                unfold chkR at hk
                rw [if_pos ho] at hk
                rw [if_pos g7]
                simp only [ld1_ptr, k0, k4, k6, gd_undef, uNot_bool, decide_true, decide_false, Bool.not_true, Bool.not_false, gd_true, gd_false, stepG_true, stepG_false, stepE_true, stepE_false, stepM_true, stepM_false, pPick_true, pPick_false, pFieldAddr_ptr, Nat.zero_add, bindP_some, ifB_true, ifB_false, bLt_int, bGt_int, bNe_int]
                exact hk
              · have ho : okR r = false := by
                  have g7' : okE r.e = false := by simpa using g7
                  simp [okR, g7']
                rw [if_neg g7]
                have e1 : decide ((180 : Int) = 0) = false := by decide
                simp only [e1, ld1_ptr, k0, k4, k6, gd_undef, uNot_bool, decide_true, decide_false, Bool.not_true, Bool.not_false, gd_true, gd_false, stepG_true, stepG_false, stepE_true, stepE_false, stepM_true, stepM_false, pPick_true, pPick_false, pFieldAddr_ptr, Nat.zero_add, bindP_some, ifB_true, ifB_false, bLt_int, bGt_int, bNe_int]
                exact bad _ h3 ho
            · have g6' : whoR r = false := by simpa using g6
              have ho : okR r = false := by simp [okR, g6']
              simp only [g1, g2, g3, g4, g5, g6', cs h2, ld1_ptr, k0, k4, k6, gd_undef, uNot_bool, decide_true, decide_false, Bool.not_true, Bool.not_false, gd_true, gd_false, stepG_true, stepG_false, stepE_true, stepE_false, stepM_true, stepM_false, pPick_true, pPick_false, pFieldAddr_ptr, Nat.zero_add, bindP_some, ifB_true, ifB_false, bLt_int, bGt_int, bNe_int]
              exact bad _ h2 ho
          · have g5' : timesR r = false := by simpa using g5
            have ho : okR r = false := by simp [okR, g5']
            simp only [g1, g2, g3, g4, g5', cs h2, ld1_ptr, k0, k4, k6, gd_undef, uNot_bool, decide_true, decide_false, Bool.not_true, Bool.not_false, gd_true, gd_false, stepG_true, stepG_false, stepE_true, stepE_false, stepM_true, stepM_false, pPick_true, pPick_false, pFieldAddr_ptr, Nat.zero_add, bindP_some, ifB_true, ifB_false, bLt_int, bGt_int, bNe_int]
            exact bad _ h2 ho
end
end Go.Proofs.Gong

/- Bd2 -/
namespace Go.Proofs.Gong
open Go Go.Sx Go.Proofs
set_option maxRecDepth 100000
section
variable {w0 w : World} {L : List HP} {K : Value → World → Prop} {r : Row}
theorem fbcheck_spec (he : r.e.fits) (hw : r.who.length < 1073741824) (h : Sat w0 L w) (hK : ∀ w', Sat w0 L w' → K (.int .i64 (chkR r)) w') : callP G19 [rowV r] w K := by
  refine c19 ?_
  unfold F19
  refine eBox_sat h fun p w1 h1 => ?_
  have e0 : (rowV r).cells = (cRow r).toArray := rfl
  rw [e0] at h1
  have cs : ∀ {w' : World}, Sat w0 (Cl p (cRow r).toArray 33 :: L) w' → ∀ i, w'.cell? ⟨p, i, none⟩ = (cRow r)[i]? := fun h i => by rw [cell_of h.cl, List.getElem?_toArray]
  have k0 : (cRow r)[0]? = some (.int .i64 r.id) := rfl
  have k4 : (cRow r)[4]? = some (.int .i64 r.e.level) := rfl
  have k6 : (cRow r)[6]? = some (.int .i64 r.tally) := rfl
  have k7 : (cRow r)[7]? = some (.int .i64 r.first) := rfl
  have k8 : (cRow r)[8]? = some (.int .i64 r.last) := rfl
  have k9 : (cRow r)[9]? = some (.bool r.acked) := rfl
  have k10 : (cRow r)[10]? = some (.string (bs r.who)) := rfl
  have cN : ldN 5 (.pointer (some ⟨p, 1, none⟩)) w1 = some (evV r.e) := by rw [ldN_of h1.cl (by simp [cRow])]; rfl
  have bad : ∀ w', Sat w0 (Cl p (cRow r).toArray 33 :: L) w' → okR r = false → K (.int .i64 4) w' := by
    intro w' hs ho
    have := hK _ hs.drop
    unfold chkR at this
    rw [ho] at this
    exact this
  rw [nil_b]
  simp only [ptr, cs h1, cN, ld1_ptr, k0, k4, k6, k7, k8, k9, k10, gd_undef, uNot_bool, decide_true, decide_false, Bool.not_true, Bool.not_false, gd_true, gd_false, stepG_true, stepG_false, stepE_true, stepE_false, stepM_true, stepM_false, pPick_true, pPick_false, pFieldAddr_ptr, Nat.zero_add, bindP_some, ifB_true, ifB_false, bLt_int, bGt_int, bNe_int, bNe_str, bs_beq, bs_inj]
  by_cases g1 : r.id < 1
  · have ho : okR r = false := by
      have : ¬ (1 ≤ r.id) := by omega
      simp [okR, this]
    simp only [g1, cs h1, ld1_ptr, k0, k4, k6, k7, k8, k9, k10, gd_undef, uNot_bool, decide_true, decide_false, Bool.not_true, Bool.not_false, gd_true, gd_false, stepG_true, stepG_false, stepE_true, stepE_false, stepM_true, stepM_false, pPick_true, pPick_false, pFieldAddr_ptr, Nat.zero_add, bindP_some, ifB_true, ifB_false, bLt_int, bGt_int, bNe_int, bNe_str, bs_beq, bs_inj]
    exact bad _ h1 ho
  · simp only [g1, cN, ld1_ptr, k0, k4, k6, k7, k8, k9, k10, gd_undef, uNot_bool, decide_true, decide_false, Bool.not_true, Bool.not_false, gd_true, gd_false, stepG_true, stepG_false, stepE_true, stepE_false, stepM_true, stepM_false, pPick_true, pPick_false, pFieldAddr_ptr, Nat.zero_add, bindP_some, ifB_true, ifB_false, bLt_int, bGt_int, bNe_int, bNe_str, bs_beq, bs_inj]
    refine nfcheck_spec he h1 fun w2 h2 => ?_
    unfold chkE
    by_cases g7 : okE r.e = true
    · rw [if_pos g7]
      simp only [cs h2, ld1_ptr, k0, k4, k6, k7, k8, k9, k10, gd_undef, uNot_bool, decide_true, decide_false, Bool.not_true, Bool.not_false, gd_true, gd_false, stepG_true, stepG_false, stepE_true, stepE_false, stepM_true, stepM_false, pPick_true, pPick_false, pFieldAddr_ptr, Nat.zero_add, bindP_some, ifB_true, ifB_false, bLt_int, bGt_int, bNe_int, bNe_str, bs_beq, bs_inj]
      by_cases g2 : r.e.level < 1
      · have ho : okR r = false := by
          have : ¬ (1 ≤ r.e.level) := by omega
          simp [okR, this]
        simp only [g2, cs h2, ld1_ptr, k0, k4, k6, k7, k8, k9, k10, gd_undef, uNot_bool, decide_true, decide_false, Bool.not_true, Bool.not_false, gd_true, gd_false, stepG_true, stepG_false, stepE_true, stepE_false, stepM_true, stepM_false, pPick_true, pPick_false, pFieldAddr_ptr, Nat.zero_add, bindP_some, ifB_true, ifB_false, bLt_int, bGt_int, bNe_int, bNe_str, bs_beq, bs_inj]
        exact bad _ h2 ho
      · by_cases g3 : r.tally < 1
        · have ho : okR r = false := by
            have : ¬ (1 ≤ r.tally) := by omega
            simp [okR, this]
          simp only [g2, g3, cs h2, ld1_ptr, k0, k4, k6, k7, k8, k9, k10, gd_undef, uNot_bool, decide_true, decide_false, Bool.not_true, Bool.not_false, gd_true, gd_false, stepG_true, stepG_false, stepE_true, stepE_false, stepM_true, stepM_false, pPick_true, pPick_false, pFieldAddr_ptr, Nat.zero_add, bindP_some, ifB_true, ifB_false, bLt_int, bGt_int, bNe_int, bNe_str, bs_beq, bs_inj]
          exact bad _ h2 ho
        · by_cases g4 : r.tally > 1099511627776
          · have ho : okR r = false := by
              have : ¬ (r.tally ≤ 1099511627776) := by omega
              simp [okR, this]
            simp only [g2, g3, g4, cs h2, ld1_ptr, k0, k4, k6, k7, k8, k9, k10, gd_undef, uNot_bool, decide_true, decide_false, Bool.not_true, Bool.not_false, gd_true, gd_false, stepG_true, stepG_false, stepE_true, stepE_false, stepM_true, stepM_false, pPick_true, pPick_false, pFieldAddr_ptr, Nat.zero_add, bindP_some, ifB_true, ifB_false, bLt_int, bGt_int, bNe_int, bNe_str, bs_beq, bs_inj]
            exact bad _ h2 ho
          · simp only [g2, g3, g4, cs h2, ld1_ptr, k0, k4, k6, k7, k8, k9, k10, gd_undef, uNot_bool, decide_true, decide_false, Bool.not_true, Bool.not_false, gd_true, gd_false, stepG_true, stepG_false, stepE_true, stepE_false, stepM_true, stepM_false, pPick_true, pPick_false, pFieldAddr_ptr, Nat.zero_add, bindP_some, ifB_true, ifB_false, bLt_int, bGt_int, bNe_int, bNe_str, bs_beq, bs_inj]
            refine fbistime_spec ?_
            by_cases t1 : timeP r.first = true
            · simp only [t1, cs h2, ld1_ptr, k0, k4, k6, k7, k8, k9, k10, gd_undef, uNot_bool, decide_true, decide_false, Bool.not_true, Bool.not_false, gd_true, gd_false, stepG_true, stepG_false, stepE_true, stepE_false, stepM_true, stepM_false, pPick_true, pPick_false, pFieldAddr_ptr, Nat.zero_add, bindP_some, ifB_true, ifB_false, bLt_int, bGt_int, bNe_int, bNe_str, bs_beq, bs_inj]
              refine fbistime_spec ?_
              by_cases t2 : timeP r.last = true
              · simp only [t2, cs h2, ld1_ptr, k0, k4, k6, k7, k8, k9, k10, gd_undef, uNot_bool, decide_true, decide_false, Bool.not_true, Bool.not_false, gd_true, gd_false, stepG_true, stepG_false, stepE_true, stepE_false, stepM_true, stepM_false, pPick_true, pPick_false, pFieldAddr_ptr, Nat.zero_add, bindP_some, ifB_true, ifB_false, bLt_int, bGt_int, bNe_int, bNe_str, bs_beq, bs_inj]
                by_cases t3 : r.first > r.last
                · have ho : okR r = false := by
                    have : ¬ (r.first ≤ r.last) := by omega
                    simp [okR, timesR, this]
                  simp only [t3, ld1_ptr, k0, k4, k6, k7, k8, k9, k10, gd_undef, uNot_bool, decide_true, decide_false, Bool.not_true, Bool.not_false, gd_true, gd_false, stepG_true, stepG_false, stepE_true, stepE_false, stepM_true, stepM_false, pPick_true, pPick_false, pFieldAddr_ptr, Nat.zero_add, bindP_some, ifB_true, ifB_false, bLt_int, bGt_int, bNe_int, bNe_str, bs_beq, bs_inj]
                  exact bad _ h2 ho
                · have tt : timesR r = true := by
                    have : r.first ≤ r.last := by omega
                    simp [timesR, t1, t2, this]
                  have fin : ∀ w', Sat w0 (Cl p (cRow r).toArray 33 :: L) w' → whoR r = true → K (.int .i64 0) w' := by
                    intro w' hs hwho
                    have hk := hK _ hs.drop
                    have ho : okR r = true := by
                      have a1 : 1 ≤ r.id := by omega
                      have a2 : 1 ≤ r.e.level := by omega
                      have a3 : 1 ≤ r.tally := by omega
                      have a4 : r.tally ≤ 1099511627776 := by omega
                      simp [okR, a1, a2, a3, a4, tt, hwho, g7]
                    unfold chkR at hk
                    rw [if_pos ho] at hk
                    exact hk
                  simp only [t3, cs h2, ld1_ptr, k0, k4, k6, k7, k8, k9, k10, gd_undef, uNot_bool, decide_true, decide_false, Bool.not_true, Bool.not_false, gd_true, gd_false, stepG_true, stepG_false, stepE_true, stepE_false, stepM_true, stepM_false, pPick_true, pPick_false, pFieldAddr_ptr, Nat.zero_add, bindP_some, ifB_true, ifB_false, bLt_int, bGt_int, bNe_int, bNe_str, bs_beq, bs_inj]
                  by_cases ha : r.acked = true
                  · simp only [ha, cs h2, ld1_ptr, k0, k4, k6, k7, k8, k9, k10, gd_undef, uNot_bool, decide_true, decide_false, Bool.not_true, Bool.not_false, gd_true, gd_false, stepG_true, stepG_false, stepE_true, stepE_false, stepM_true, stepM_false, pPick_true, pPick_false, pFieldAddr_ptr, Nat.zero_add, bindP_some, ifB_true, ifB_false, bLt_int, bGt_int, bNe_int, bNe_str, bs_beq, bs_inj]
                    refine fiswho_spec hw h2 fun w3 h3 => ?_
                    by_cases hq : whoP r.who = true
                    · simp only [hq, ha, cs h3, ld1_ptr, k0, k4, k6, k7, k8, k9, k10, gd_undef, uNot_bool, decide_true, decide_false, Bool.not_true, Bool.not_false, gd_true, gd_false, stepG_true, stepG_false, stepE_true, stepE_false, stepM_true, stepM_false, pPick_true, pPick_false, pFieldAddr_ptr, Nat.zero_add, bindP_some, ifB_true, ifB_false, bLt_int, bGt_int, bNe_int, bNe_str, bs_beq, bs_inj]
                      exact fin _ h3 (by simp [whoR, ha, hq])
                    · have hq' : whoP r.who = false := by simpa using hq
                      simp only [hq', ha, cs h3, ld1_ptr, k0, k4, k6, k7, k8, k9, k10, gd_undef, uNot_bool, decide_true, decide_false, Bool.not_true, Bool.not_false, gd_true, gd_false, stepG_true, stepG_false, stepE_true, stepE_false, stepM_true, stepM_false, pPick_true, pPick_false, pFieldAddr_ptr, Nat.zero_add, bindP_some, ifB_true, ifB_false, bLt_int, bGt_int, bNe_int, bNe_str, bs_beq, bs_inj]
                      exact bad _ h3 (by simp [okR, whoR, ha, hq'])
                  · have ha' : r.acked = false := by simpa using ha
                    by_cases hq : r.who = []
                    · simp only [ha', hq, cs h2, ld1_ptr, k0, k4, k6, k7, k8, k9, k10, gd_undef, uNot_bool, decide_true, decide_false, Bool.not_true, Bool.not_false, gd_true, gd_false, stepG_true, stepG_false, stepE_true, stepE_false, stepM_true, stepM_false, pPick_true, pPick_false, pFieldAddr_ptr, Nat.zero_add, bindP_some, ifB_true, ifB_false, bLt_int, bGt_int, bNe_int, bNe_str, bs_beq, bs_inj]
                      exact fin _ h2 (by simp [whoR, ha', hq])
                    · simp only [ha', hq, cs h2, ld1_ptr, k0, k4, k6, k7, k8, k9, k10, gd_undef, uNot_bool, decide_true, decide_false, Bool.not_true, Bool.not_false, gd_true, gd_false, stepG_true, stepG_false, stepE_true, stepE_false, stepM_true, stepM_false, pPick_true, pPick_false, pFieldAddr_ptr, Nat.zero_add, bindP_some, ifB_true, ifB_false, bLt_int, bGt_int, bNe_int, bNe_str, bs_beq, bs_inj]
                      exact bad _ h2 (by simp [okR, whoR, ha', hq])
              · have t2' : timeP r.last = false := by simpa using t2
                simp only [t2', cs h2, ld1_ptr, k0, k4, k6, k7, k8, k9, k10, gd_undef, uNot_bool, decide_true, decide_false, Bool.not_true, Bool.not_false, gd_true, gd_false, stepG_true, stepG_false, stepE_true, stepE_false, stepM_true, stepM_false, pPick_true, pPick_false, pFieldAddr_ptr, Nat.zero_add, bindP_some, ifB_true, ifB_false, bLt_int, bGt_int, bNe_int, bNe_str, bs_beq, bs_inj]
                exact bad _ h2 (by simp [okR, timesR, t2'])
            · have t1' : timeP r.first = false := by simpa using t1
              simp only [t1', cs h2, ld1_ptr, k0, k4, k6, k7, k8, k9, k10, gd_undef, uNot_bool, decide_true, decide_false, Bool.not_true, Bool.not_false, gd_true, gd_false, stepG_true, stepG_false, stepE_true, stepE_false, stepM_true, stepM_false, pPick_true, pPick_false, pFieldAddr_ptr, Nat.zero_add, bindP_some, ifB_true, ifB_false, bLt_int, bGt_int, bNe_int, bNe_str, bs_beq, bs_inj]
              exact bad _ h2 (by simp [okR, timesR, t1'])
    · have ho : okR r = false := by
        have g7' : okE r.e = false := by simpa using g7
        simp [okR, g7']
      rw [if_neg g7]
      have e1 : decide ((180 : Int) = 0) = false := by decide
      simp only [e1, ld1_ptr, k0, k4, k6, k7, k8, k9, k10, gd_undef, uNot_bool, decide_true, decide_false, Bool.not_true, Bool.not_false, gd_true, gd_false, stepG_true, stepG_false, stepE_true, stepE_false, stepM_true, stepM_false, pPick_true, pPick_false, pFieldAddr_ptr, Nat.zero_add, bindP_some, ifB_true, ifB_false, bLt_int, bGt_int, bNe_int, bNe_str, bs_beq, bs_inj]
      exact bad _ h2 ho
end
end Go.Proofs.Gong

/- Bd3 -/
namespace Go.Proofs.Gong
open Go Go.Sx Go.Proofs
set_option maxRecDepth 100000
abbrev Sg := List UInt8 × List UInt8 × List UInt8
@[reducible] def cSg (s : Sg) : List Value := [.string (bs s.1), .string (bs s.2.1), .string (bs s.2.2)]
abbrev ekS (s : Sg) : Value := .agg (cSg s).toArray
abbrev kI (n : Int) : Value := .int .i64 n
def sgOf (e : Evt) : Sg := (e.node, e.cls, e.key)
theorem eqvS (a b c d e f : ByteArray) : eqv Try.prog Op.maxDepth 114 (.agg #[.string a, .string b, .string c]) (.agg #[.string d, .string e, .string f]) = andO (some (sEq a d)) (andO (some (sEq b e)) (andO (some (sEq c f)) (some true))) := by kernel_rfl
theorem KS : KeyT Try.prog 114 ekS where
  u := by kernel_rfl
  ck := fun k => by kernel_rfl
  eq := fun a b => by
    unfold ekS cSg
    rw [eqvS]
    simp only [andO_some, Option.some.injEq]
    rw [Bool.eq_iff_iff]
    obtain ⟨a1, a2, a3⟩ := a
    obtain ⟨b1, b2, b3⟩ := b
    simp [sEq_eq]
  sb := fun a => by
    unfold ekS cSg
    simp [Instr.sameBits]
def BoardI (v : Value) (n next : Int) (R : List (Int × Row)) (I : List (Sg × Int)) : HP :=
  HEx fun p => HEx fun mr => HEx fun mi => HPr (v = ptr p) (HSt (Cl p #[.int .i64 n, .int .i64 next, mr, mi] 110) (HSt (MapH kI rowV mr R) (MapH ekS kI mi I)))
section
variable {w0 w : World} {L : List HP} {K : Value → World → Prop} {v : Value} {n next : Int} {R : List (Int × Row)} {I : List (Sg × Int)}
theorem board_iff : Sat w0 (BoardI v n next R I :: L) w ↔ ∃ p mr mi, v = ptr p ∧ Sat w0 (Cl p #[.int .i64 n, .int .i64 next, mr, mi] 110 :: MapH kI rowV mr R :: MapH ekS kI mi I :: L) w := by
  simp only [BoardI, Sat.ex_iff, Sat.pr_iff, Sat.star_iff]
  constructor
  · rintro ⟨p, mr, mi, h1, h2⟩
    exact ⟨p, mr, mi, h1, h2.conv fun _ h => h.tail fun _ h => SepL.star.1 h⟩
  · rintro ⟨p, mr, mi, h1, h2⟩
    exact ⟨p, mr, mi, h1, h2.conv fun _ h => h.tail fun _ h => SepL.star.2 h⟩
theorem of_spec {e : Evt} (h : Sat w0 L w) (hK : ∀ w', Sat w0 L w' → K (ekS (sgOf e)) w') : callP G63 [evV e] w K := by
  refine c63 ?_
  unfold F63
  refine eBox_sat h fun p w1 h1 => ?_
  have e0 : (evV e).cells = (cEv e).toArray := rfl
  rw [e0] at h1
  refine eAlloc_sat h1 z114 fun q w2 h2 => ?_
  have c0 : w2.cell? ⟨p, 0, none⟩ = some (.string (bs e.node)) := by rw [cell_of h2.f1.cl]; rfl
  have c1 : w2.cell? ⟨p, 1, none⟩ = some (.string (bs e.cls)) := by rw [cell_of h2.f1.cl]; rfl
  have c2 : w2.cell? ⟨p, 2, none⟩ = some (.string (bs e.key)) := by rw [cell_of h2.f1.cl]; rfl
  simp only [ptr, pFieldAddr_ptr, bindP_some, Nat.zero_add, ld1_ptr, c0, c1, c2]
  have eb : fBuild Try.prog 114 [(0, .string (bs e.node)), (1, .string (bs e.cls)), (2, .string (bs e.key))] = some (ekS (sgOf e)) := by kernel_rfl
  rw [eb]
  simp only [bindP_some]
  refine bindW_stN h2 (by simp [ekS, cSg]) (by simp [ekS, cSg]) (by simp) fun w3 h3 => ?_
  have ew : wr (Value.agg #[(.string ⟨#[]⟩), (.string ⟨#[]⟩), (.string ⟨#[]⟩)]).cells 0 (ekS (sgOf e)).cells.toList = (cSg (sgOf e)).toArray := by rfl
  rw [ew] at h3
  have cN : ldN 3 (.pointer (some ⟨q, 0, none⟩)) w3 = some (ekS (sgOf e)) := by rw [ldN_of h3.cl (by simp [cSg])]; rfl
  rw [cN]
  simp only [bindP_some]
  exact hK _ h3.drop.drop
theorem bnew_spec {n : Int} (h : Sat w0 L w) (h1 : 1 ≤ n) (h2 : n ≤ 65536) (hK : ∀ p w', Sat w0 (BoardI (ptr p) n 1 [] [] :: L) w' → K (.tuple #[ptr p, .int .i64 0]) w') : callP G13 [.int .i64 n] w K := by
  refine c13 ?_
  unfold F13
  have e1 : decide (n < 1) = false := by simp; omega
  have e2 : decide (n > 65536) = false := by simp; omega
  simp only [bLt_int, bGt_int, e1, e2, bindP_some, gd_false, Bool.not_false, stepM_true, stepG_true, pPick_false, ifB_false]
  refine eMakeMap_sat kI rowV h fun mr w1 g1 => ?_
  refine eMakeMap_sat ekS kI g1 fun mi w2 g2 => ?_
  obtain ⟨r1, es1, c1, ⟨rfl, _⟩, _⟩ := map_iff.1 g1
  obtain ⟨r2, es2, c2, ⟨rfl, _⟩, _⟩ := map_iff.1 g2
  have eb : fBuild Try.prog 110 [(0, .int .i64 n), (1, .int .i64 1), (2, .map (some r1)), (3, .map (some r2))] = some (.agg #[.int .i64 n, .int .i64 1, .map (some r1), .map (some r2)]) := by kernel_rfl
  rw [eb]
  simp only [bindP_some]
  refine eBox_sat g2 fun p w3 g3 => hK p w3 (board_iff.2 ⟨p, .map (some r1), .map (some r2), rfl, ?_⟩)
  exact g3.conv fun _ h => h.tail fun _ h => h.swap
theorem blen_spec (h : Sat w0 (BoardI v n next R I :: L) w) (hK : K (.int .i64 R.length) w) : callP G17 [v] w K := by
  refine c17 ?_
  unfold F17
  obtain ⟨p, mr, mi, rfl, hs⟩ := board_iff.1 h
  have c2 : w.cell? ⟨p, 2, none⟩ = some mr := by rw [cell_of hs.cl]; rfl
  simp only [ptr, pNil_ptr, pFieldAddr_ptr, bindP_some, Nat.zero_add, ld1_ptr, c2, lenM_map hs.f1]
  exact hK
end
end Go.Proofs.Gong

/- Bd4 -/
namespace Go.Proofs.Gong
open Go Go.Sx Go.Proofs
set_option maxRecDepth 100000
theorem KIr : KeyT Try.prog 3 kI := KeyT.int (by kernel_rfl)
section
variable {w0 w : World} {L : List HP} {K : Value → World → Prop} {v : Value} {n next : Int} {R : List (Int × Row)} {I : List (Sg × Int)}
theorem put_bspec {r : Row} (h : Sat w0 (BoardI v n next R I :: L) w) (hK : ∀ w', Sat w0 (BoardI v n next (aSet r.id r R) (aSet (sgOf r.e) r.id I) :: L) w' → K (.tuple #[]) w') : callP G66 [v, rowV r] w K := by
  refine c66 ?_
  unfold F66
  refine eBox_sat h fun q w1 h1 => ?_
  have e0 : (rowV r).cells = (cRow r).toArray := rfl
  rw [e0] at h1
  obtain ⟨p, mr, mi, rfl, hs⟩ := board_iff.1 h1.f1
  have hd := hs.drew
  have c2 : w1.drew.cell? ⟨p, 2, none⟩ = some mr := by rw [cell_of hd.cl]; rfl
  have hq := hd.f3
  have cq : w1.drew.cell? ⟨q, 0, none⟩ = some (kI r.id) := by rw [cell_of hq.cl]; rfl
  have cN : ldN 11 (.pointer (some ⟨q, 0, none⟩)) w1.drew = some (rowV r) := by rw [ldN_of hq.cl (by simp [cRow])]; rfl
  simp only [ptr, pNil_ptr, pFieldAddr_ptr, bindP_some, Nat.zero_add, ld1_ptr, c2, cq, cN]
  refine eMapSet_sat hd.f1 KIr um107 r.id r fun w2 h2 => ?_
  have h2 := h2.drew
  have hb := h2.f1
  have c3 : w2.drew.cell? ⟨p, 3, none⟩ = some mi := by rw [cell_of hb.cl]; rfl
  have hq := h2.f3
  have cq : w2.drew.cell? ⟨q, 0, none⟩ = some (kI r.id) := by rw [cell_of hq.cl]; rfl
  have cN : ldN 5 (.pointer (some ⟨q, 1, none⟩)) w2.drew = some (evV r.e) := by rw [ldN_of hq.cl (by simp [cRow])]; rfl
  simp only [pNil_ptr, pFieldAddr_ptr, bindP_some, Nat.zero_add, ld1_ptr, c3, cq, cN]
  refine of_spec h2 fun w3 h3 => ?_
  have hb := h3.f1
  have c3' : w3.cell? ⟨p, 3, none⟩ = some mi := by rw [cell_of hb.cl]; rfl
  have cq' : w3.cell? ⟨q, 0, none⟩ = some (kI r.id) := by rw [cell_of h3.f3.cl]; rfl
  refine ⟨⟨by rw [fok_true]; exact c3', by rw [fok_true]; exact cq'⟩, ?_⟩
  refine eMapSet_sat h3.f2 KS um108 (sgOf r.e) r.id fun w4 h4 => ?_
  refine hK _ (board_iff.2 ⟨p, mr, mi, rfl, ?_⟩)
  exact (h4.f3.drop.f2).conv fun _ h => h.tail fun _ h => h.swap
theorem take_bspec {r : Row} (h : Sat w0 (BoardI v n next R I :: L) w) (hK : ∀ w', Sat w0 (BoardI v n next (aDel r.id R) (aDel (sgOf r.e) I) :: L) w' → K (.tuple #[]) w') : callP G64 [v, rowV r] w K := by
  refine c64 ?_
  unfold F64
  refine eBox_sat h fun q w1 h1 => ?_
  have e0 : (rowV r).cells = (cRow r).toArray := rfl
  rw [e0] at h1
  obtain ⟨p, mr, mi, rfl, hs⟩ := board_iff.1 h1.f1
  have hd := hs.drew
  have c2 : w1.drew.cell? ⟨p, 2, none⟩ = some mr := by rw [cell_of hd.cl]; rfl
  have hq := hd.f3
  have cq : w1.drew.cell? ⟨q, 0, none⟩ = some (kI r.id) := by rw [cell_of hq.cl]; rfl
  simp only [ptr, pNil_ptr, pFieldAddr_ptr, bindP_some, Nat.zero_add, ld1_ptr, c2, cq]
  refine eDelete_sat hd.f1 KIr um107 r.id fun w2 h2 => ?_
  have h2 := h2.drew
  have hb := h2.f1
  have c3 : w2.drew.cell? ⟨p, 3, none⟩ = some mi := by rw [cell_of hb.cl]; rfl
  have hq := h2.f3
  have cN : ldN 5 (.pointer (some ⟨q, 1, none⟩)) w2.drew = some (evV r.e) := by rw [ldN_of hq.cl (by simp [cRow])]; rfl
  simp only [pNil_ptr, pFieldAddr_ptr, bindP_some, Nat.zero_add, ld1_ptr, c3, cN]
  refine of_spec h2 fun w3 h3 => ?_
  have hb := h3.f1
  have c3' : w3.cell? ⟨p, 3, none⟩ = some mi := by rw [cell_of hb.cl]; rfl
  refine ⟨by rw [fok_true]; exact c3', ?_⟩
  refine eDelete_sat h3.f2 KS um108 (sgOf r.e) fun w4 h4 => ?_
  refine hK _ (board_iff.2 ⟨p, mr, mi, rfl, ?_⟩)
  exact (h4.f3.drop.f2).conv fun _ h => h.tail fun _ h => h.swap
end
end Go.Proofs.Gong

/- Bd5 -/
namespace Go.Proofs.Gong
open Go Go.Sx Go.Proofs
set_option maxRecDepth 100000
def againP (r : Row) (e : Evt) (now : Int) : Row × Int :=
  if r.e.level = e.level then (⟨r.id, ⟨r.e.node, r.e.cls, r.e.key, r.e.level, e.text⟩, min (r.tally + 1) 1099511627776, r.first, max r.last now, r.acked, r.who⟩, 0) else
  if r.e.level < e.level then (⟨r.id, ⟨r.e.node, r.e.cls, r.e.key, e.level, e.text⟩, min (r.tally + 1) 1099511627776, r.first, max r.last now, false, []⟩, 2) else
  (⟨r.id, ⟨r.e.node, r.e.cls, r.e.key, e.level, e.text⟩, min (r.tally + 1) 1099511627776, r.first, max r.last now, r.acked, r.who⟩, 2)
section
variable {w0 w : World} {L : List HP} {K : Value → World → Prop} {r : Row}
theorem stR {p i : Nat} {c : Array Value} {y : Value} [OneV y] {k : World → Prop} (h : Sat w0 (Cl p c 33 :: L) w) (hi : i < c.size) {c' : Array Value} (hc : c.setIfInBounds i y = c') (hk : ∀ w', Sat w0 (Cl p c' 33 :: L) w' → k w') : bindW (st 1 (.pointer (some ⟨p, i, none⟩)) y w) k := by
  refine bindW_st h hi fun w9 h9 => ?_
  rw [hc] at h9
  exact hk _ h9
theorem cellN {p : Nat} {c : Array Value} {ty : TypeId} (h : Sat w0 L w) (hm : Cl p c ty ∈ L) : w.heap[p]? = some (.cells c ty (0, 0)) := by
  obtain ⟨A, B, rfl⟩ := List.append_of_mem hm
  exact (h.perm List.perm_middle).cl
theorem wr_all {c : Array Value} {l : List Value} (h : c.size = l.length) : wr c 0 l = l.toArray := by
  apply Array.toList_inj.1
  rw [wr_toList _ _ _ (by omega)]
  simp [h]
theorem cRow_len (x : Row) : (cRow x).length = 11 := rfl
theorem stRow {p : Nat} {x y : Row} {k : World → Prop} (h : Sat w0 (Cl p (cRow x).toArray 33 :: L) w) (hk : ∀ w', Sat w0 (Cl p (cRow y).toArray 33 :: L) w' → k w') : bindW (st 11 (.pointer (some ⟨p, 0, none⟩)) (rowV y) w) k := by
  have hc : (rowV y).cells = (cRow y).toArray := rfl
  refine bindW_stN h (by rw [hc]; rfl) (by rw [hc]; rfl) (by rw [List.size_toArray, cRow_len]; omega) fun w9 h9 => ?_
  rw [hc, wr_all (by simp [cRow_len])] at h9
  exact hk _ h9
def zeroR : Row := ⟨0, ⟨[], [], [], 0, []⟩, 0, 0, 0, false, []⟩
theorem zR : fZero Try.prog 33 = some (rowV zeroR) := z33
theorem ldR {p : Nat} {x : Row} {ty : TypeId} (h : Sat w0 L w) (hm : Cl p (cRow x).toArray ty ∈ L) : ldN 11 (.pointer (some ⟨p, 0, none⟩)) w = some (rowV x) := by
  rw [ldN_of (cellN h hm) (by rw [List.size_toArray, cRow_len]; omega)]; rfl
theorem again2_spec {p q o : Nat} {e : Evt} {x : Row} (h : Sat w0 (Cl p (cRow x).toArray 33 :: Cl o (cRow zeroR).toArray 33 :: Cl q (cEv e).toArray 31 :: L) w)
    (hK : ∀ w', Sat w0 L w' → K (.tuple #[rowV ⟨x.id, ⟨x.e.node, x.e.cls, x.e.key, e.level, x.e.text⟩, x.tally, x.first, x.last, x.acked, x.who⟩, .int .i64 2]) w') :
    F65_2 (.pointer (some ⟨p, 0, none⟩)) (.pointer (some ⟨q, 0, none⟩)) (.pointer (some ⟨o, 0, none⟩)) w K := by
  unfold F65_2 F65_2b
  have q3 : w.cell? ⟨q, 3, none⟩ = some (.int .i64 e.level) := by rw [cell_of h.f2.cl]; rfl
  simp only [pFieldAddr_ptr, bindP_some, Nat.zero_add, ld1_ptr, q3]
  refine stR (c' := (cRow ⟨x.id, ⟨x.e.node, x.e.cls, x.e.key, e.level, x.e.text⟩, x.tally, x.first, x.last, x.acked, x.who⟩).toArray) h (by rw [List.size_toArray, cRow_len]; omega) rfl fun w7 h7 => ?_
  rw [ldR h7 (x := ⟨x.id, ⟨x.e.node, x.e.cls, x.e.key, e.level, x.e.text⟩, x.tally, x.first, x.last, x.acked, x.who⟩) (p := p) (ty := 33) (by simp)]
  simp only [bindP_some]
  refine stRow (x := zeroR) h7.f1 fun w8 h8 => ?_
  rw [ldR h8 (x := ⟨x.id, ⟨x.e.node, x.e.cls, x.e.key, e.level, x.e.text⟩, x.tally, x.first, x.last, x.acked, x.who⟩) (p := o) (ty := 33) (by simp)]
  simp only [bindP_some]
  exact hK _ h8.drop.drop.drop
theorem again_spec {r : Row} {e : Evt} {now : Int} (hb : 0 ≤ r.tally ∧ r.tally ≤ 4611686018427387904) (h : Sat w0 L w) (hK : ∀ w', Sat w0 L w' → K (.tuple #[rowV (againP r e now).1, .int .i64 (againP r e now).2]) w') :
    callP G65 [rowV r, evV e, .int .i64 now] w K := by
  refine c65 ?_
  unfold F65 F65_1 F65_1b
  refine eBox_sat h fun p w1 h1 => ?_
  refine eBox_sat h1 fun q w2 h2 => ?_
  refine eAlloc_sat h2 zR fun o w3 h3 => ?_
  have e0 : (rowV r).cells = (cRow r).toArray := rfl
  have e1 : (evV e).cells = (cEv e).toArray := rfl
  have e2 : (rowV zeroR).cells = (cRow zeroR).toArray := rfl
  rw [e0, e1, e2] at h3
  have h4 := h3.f2
  have c6 : w3.cell? ⟨p, 6, none⟩ = some (.int .i64 r.tally) := by rw [cell_of h4.cl]; rfl
  have ea : bAdd (.int .i64 r.tally) (.int .i64 1) = some (.int .i64 (r.tally + 1)) := by rw [bAdd_int, wrap_id (by omega)]
  have em : pMin (.int .i64 (r.tally + 1)) (.int .i64 1099511627776) = some (.int .i64 (min (r.tally + 1) 1099511627776)) := by
    simp only [pMin]; congr 2; rw [Int.min_def]; split <;> split <;> omega
  simp only [ptr, pFieldAddr_ptr, bindP_some, Nat.zero_add, ld1_ptr, c6, ea, em]
  have ex : ∀ b : Int, pMax (.int .i64 r.last) (.int .i64 b) = some (.int .i64 (max r.last b)) := by
    intro b
    simp only [pMax]; congr 2; rw [Int.max_def]; split <;> split <;> omega
  have inst : ∀ n : Int, OneV (.int .i64 n) := fun _ => inferInstance
  refine stR (c' := (cRow ⟨r.id, r.e, min (r.tally + 1) 1099511627776, r.first, r.last, r.acked, r.who⟩).toArray) h4 (by rw [List.size_toArray, cRow_len]; omega) rfl fun w5 h5 => ?_
  have c8 : w5.cell? ⟨p, 8, none⟩ = some (.int .i64 r.last) := by rw [cell_of h5.cl]; rfl
  simp only [c8, bindP_some, ex]
  refine stR (c' := (cRow ⟨r.id, r.e, min (r.tally + 1) 1099511627776, r.first, max r.last now, r.acked, r.who⟩).toArray) h5 (by rw [List.size_toArray, cRow_len]; omega) rfl fun w6 h6 => ?_
  have q4 : w6.cell? ⟨q, 4, none⟩ = some (.string (bs e.text)) := by rw [cell_of h6.f2.cl]; rfl
  simp only [q4, bindP_some]
  refine stR (c' := (cRow ⟨r.id, ⟨r.e.node, r.e.cls, r.e.key, r.e.level, e.text⟩, min (r.tally + 1) 1099511627776, r.first, max r.last now, r.acked, r.who⟩).toArray) h6 (by rw [List.size_toArray, cRow_len]; omega) rfl fun w7 h7 => ?_
  have c4 : w7.cell? ⟨p, 4, none⟩ = some (.int .i64 r.e.level) := by rw [cell_of h7.cl]; rfl
  have q3 : w7.cell? ⟨q, 3, none⟩ = some (.int .i64 e.level) := by rw [cell_of h7.f2.cl]; rfl
  simp only [c4, q3, bindP_some, bEq_int]
  unfold againP at hK
  by_cases g1 : r.e.level = e.level
  · rw [if_pos g1] at hK
    have d : decide (r.e.level = e.level) = true := by simp [g1]
    simp only [d, ifB_true, ldR h7 (x := ⟨r.id, ⟨r.e.node, r.e.cls, r.e.key, r.e.level, e.text⟩, min (r.tally + 1) 1099511627776, r.first, max r.last now, r.acked, r.who⟩) (p := p) (ty := 33) (by simp), bindP_some]
    refine stRow (x := zeroR) h7.f1 fun w8 h8 => ?_
    rw [ldR h8 (x := ⟨r.id, ⟨r.e.node, r.e.cls, r.e.key, r.e.level, e.text⟩, min (r.tally + 1) 1099511627776, r.first, max r.last now, r.acked, r.who⟩) (p := o) (ty := 33) (by simp)]
    simp only [bindP_some]
    exact hK _ h8.drop.drop.drop
  · rw [if_neg g1] at hK
    have d : decide (r.e.level = e.level) = false := by simp [g1]
    simp only [d, ifB_false, q3, c4, bindP_some, bGt_int]
    by_cases g2 : r.e.level < e.level
    · rw [if_pos g2] at hK
      have d2 : decide (e.level > r.e.level) = true := by simp [g2]
      simp only [d2, ifB_true]
      refine stR (c' := (cRow ⟨r.id, ⟨r.e.node, r.e.cls, r.e.key, r.e.level, e.text⟩, min (r.tally + 1) 1099511627776, r.first, max r.last now, false, r.who⟩).toArray) h7 (by rw [List.size_toArray, cRow_len]; omega) rfl fun w8 h8 => ?_
      rw [nil_b]
      refine stR (c' := (cRow ⟨r.id, ⟨r.e.node, r.e.cls, r.e.key, r.e.level, e.text⟩, min (r.tally + 1) 1099511627776, r.first, max r.last now, false, []⟩).toArray) h8 (by rw [List.size_toArray, cRow_len]; omega) rfl fun w9 h9 => ?_
      exact again2_spec h9 hK
    · rw [if_neg g2] at hK
      have d2 : decide (e.level > r.e.level) = false := by simp; omega
      simp only [d2, ifB_false]
      exact again2_spec h7 hK
end
end Go.Proofs.Gong

/- Bd6 -/
namespace Go.Proofs.Gong
open Go Go.Sx Go.Proofs
set_option maxRecDepth 100000
attribute [local irreducible] fBuild fLook fZero eqv bEqv Cl MapH LsH SlH ld1 ldN st callP eBox eAlloc lenM lenL eMapSet eDelete eAppend eBuildSl eRange eNext
def raiseP (n next : Int) (R : List (Int × Row)) (I : List (Sg × Int)) (e : Evt) (now : Int) : (Row × Int × Int) × Int × List (Int × Row) × List (Sg × Int) :=
  if okE e = false then ((zeroR, 0, 180), next, R, I) else
  if timeP now = false then ((zeroR, 0, 1), next, R, I) else
  match aGet (sgOf e) I with
  | none => if e.level = 0 then ((zeroR, 0, 5), next, R, I) else if n ≤ (R.length : Int) then ((zeroR, 0, 200), next, R, I) else
    ((⟨next, e, 1, now, now, false, []⟩, 1, 0), next + 1, aSet next ⟨next, e, 1, now, now, false, []⟩ R, aSet (sgOf e) next I)
  | some id => if e.level = 0 then (((aGet id R).getD zeroR, 3, 0), next, aDel ((aGet id R).getD zeroR).id R, aDel (sgOf ((aGet id R).getD zeroR).e) I) else
    (((againP ((aGet id R).getD zeroR) e now).1, (againP ((aGet id R).getD zeroR) e now).2, 0), next,
      aSet (againP ((aGet id R).getD zeroR) e now).1.id (againP ((aGet id R).getD zeroR) e now).1 R, aSet (sgOf (againP ((aGet id R).getD zeroR) e now).1.e) (againP ((aGet id R).getD zeroR) e now).1.id I)
theorem elimR (o : Option Row) : o.elim (rowV zeroR) rowV = rowV (o.getD zeroR) := by cases o <;> rfl
section
variable {w0 w : World} {L : List HP} {K : Value → World → Prop} {v : Value} {n next : Int} {R : List (Int × Row)} {I : List (Sg × Int)}
theorem raise2_spec {p : Nat} {r : Row} {what : Int} (h : Sat w0 (Cl p (cRow r).toArray 33 :: BoardI v n next R I :: L) w)
    (hK : ∀ w', Sat w0 (BoardI v n next (aSet r.id r R) (aSet (sgOf r.e) r.id I) :: L) w' → K (.tuple #[rowV r, .int .i64 what, .int .i64 0]) w') :
    F16_2 v (.pointer (some ⟨p, 0, none⟩)) (.int .i64 what) w K := by
  unfold F16_2 F16_2b
  (repeat (first
 | (simp (disch := omega) only [evA, evB, evC, evD])
 | (with_reducible apply go_ld1 h)
 | ((with_reducible first | apply go_ldA h | apply go_rd h | apply go_rdN h | apply go_rlen h); rfl)
 | (with_reducible first | apply go_ldN h | apply go_lenL h)
 | ((with_reducible apply go_st h); intro _ h)
 | ((with_reducible apply go_stA h); rfl; rfl; (first | rfl | simp [OneV.o]); intro _ h)
 | ((with_reducible apply go_stN h); rfl; (first | rfl | simp [OneV.o]); intro _ h)
 | ((with_reducible apply go_box h); rfl; intro _ _ h)
 | ((with_reducible apply go_ix h); omega)
 | ((with_reducible first | apply go_elN h | apply go_f1 h | apply go_rf1 h | apply go_rel h); (case hi => omega); (try case hx => exact inferInstance); (try case hv => rfl))
 | ((with_reducible apply go_fa h); omega; omega)
))
  refine put_bspec (r := r) (h.frt) fun w h => ?_
  (repeat (first
 | (simp (disch := omega) only [evA, evB, evC, evD])
 | (with_reducible apply go_ld1 h)
 | ((with_reducible first | apply go_ldA h | apply go_rd h | apply go_rdN h | apply go_rlen h); rfl)
 | (with_reducible first | apply go_ldN h | apply go_lenL h)
 | ((with_reducible apply go_st h); intro _ h)
 | ((with_reducible apply go_stA h); rfl; rfl; (first | rfl | simp [OneV.o]); intro _ h)
 | ((with_reducible apply go_stN h); rfl; (first | rfl | simp [OneV.o]); intro _ h)
 | ((with_reducible apply go_box h); rfl; intro _ _ h)
 | ((with_reducible apply go_ix h); omega)
 | ((with_reducible first | apply go_elN h | apply go_f1 h | apply go_rf1 h | apply go_rel h); (case hi => omega); (try case hx => exact inferInstance); (try case hv => rfl))
 | ((with_reducible apply go_fa h); omega; omega)
))
  exact hK _ (h.got)
theorem raise_spec {e : Evt} {now : Int} (he : e.fits) (hn : 0 ≤ next ∧ next ≤ 4611686018427387904) (hR : ∀ id r, aGet id R = some r → 0 ≤ r.tally ∧ r.tally ≤ 4611686018427387904) (h : Sat w0 (BoardI v n next R I :: L) w)
    (hK : ∀ w', Sat w0 (BoardI v n (raiseP n next R I e now).2.1 (raiseP n next R I e now).2.2.1 (raiseP n next R I e now).2.2.2 :: L) w' →
      K (.tuple #[rowV (raiseP n next R I e now).1.1, .int .i64 (raiseP n next R I e now).1.2.1, .int .i64 (raiseP n next R I e now).1.2.2]) w') :
    callP G16 [v, evV e, .int .i64 now] w K := by
  refine c16 ?_
  unfold F16 F16_1 F16_1b
  replace h := board_iff.1 h
  obtain ⟨p, mr, mi, rfl, h⟩ := h
  (repeat (first
 | (simp (disch := omega) only [evA, evB, evC, evD])
 | (with_reducible apply go_ld1 h)
 | ((with_reducible first | apply go_ldA h | apply go_rd h | apply go_rdN h | apply go_rlen h); rfl)
 | (with_reducible first | apply go_ldN h | apply go_lenL h)
 | ((with_reducible apply go_st h); intro _ h)
 | ((with_reducible apply go_stA h); rfl; rfl; (first | rfl | simp [OneV.o]); intro _ h)
 | ((with_reducible apply go_stN h); rfl; (first | rfl | simp [OneV.o]); intro _ h)
 | ((with_reducible apply go_box h); rfl; intro _ _ h)
 | ((with_reducible apply go_alloc h); (first | exact z33); rfl; intro _ _ h)
 | ((with_reducible apply go_ix h); omega)
 | ((with_reducible first | apply go_elN h | apply go_f1 h | apply go_rf1 h | apply go_rel h); (case hi => omega); (try case hx => exact inferInstance); (try case hv => rfl))
 | ((with_reducible apply go_fa h); omega; omega)
))
  refine ncheck_spec (e := e) he h fun w h => ?_
  unfold raiseP at hK
  unfold chkE
  have close : ∀ {next : Int} {w : World} {L' : List HP}, Sat w0 L' w → Get L' (Cl p #[.int .i64 n, .int .i64 next, mr, mi] 110 :: MapH kI rowV mr R :: MapH ekS kI mi I :: L) → Sat w0 (BoardI (ptr p) n next R I :: L) w := fun h g => board_iff.2 ⟨p, mr, mi, rfl, h.get g⟩
  by_cases g1 : okE e = true
  · simp only [g1, if_true, Bool.true_eq_false, if_false] at hK ⊢
    (repeat (first
 | (simp (disch := omega) only [evA, evB, evC, evD])
 | (refine go_some (fb33 ..) ?_)
 | (with_reducible apply go_ld1 h)
 | ((with_reducible first | apply go_ldA h | apply go_rd h | apply go_rdN h | apply go_rlen h); rfl)
 | (with_reducible first | apply go_ldN h | apply go_lenL h)
 | ((with_reducible apply go_st h); intro _ h)
 | ((with_reducible apply go_stA h); rfl; rfl; (first | rfl | simp [OneV.o]); intro _ h)
 | ((with_reducible apply go_stN h); rfl; (first | rfl | simp [OneV.o]); intro _ h)
 | ((with_reducible apply go_box h); rfl; intro _ _ h)
 | ((with_reducible apply go_ix h); omega)
 | ((with_reducible first | apply go_elN h | apply go_f1 h | apply go_rf1 h | apply go_rel h); (case hi => omega); (try case hx => exact inferInstance); (try case hv => rfl))
 | ((with_reducible apply go_fa h); omega; omega)
))
    refine bistime_spec ?_
    cases g2 : timeP now
    · simp only [g2, if_true] at hK
      (repeat (first
 | (simp (disch := omega) only [evA, evB, evC, evD])
 | (refine go_some (fb33 ..) ?_)
 | (with_reducible apply go_ld1 h)
 | ((with_reducible first | apply go_ldA h | apply go_rd h | apply go_rdN h | apply go_rlen h); rfl)
 | (with_reducible first | apply go_ldN h | apply go_lenL h)
 | ((with_reducible apply go_st h); intro _ h)
 | ((with_reducible apply go_stA h); rfl; rfl; (first | rfl | simp [OneV.o]); intro _ h)
 | ((with_reducible apply go_stN h); rfl; (first | rfl | simp [OneV.o]); intro _ h)
 | ((with_reducible apply go_box h); rfl; intro _ _ h)
 | ((with_reducible apply go_ix h); omega)
 | ((with_reducible first | apply go_elN h | apply go_f1 h | apply go_rf1 h | apply go_rel h); (case hi => omega); (try case hx => exact inferInstance); (try case hv => rfl))
 | ((with_reducible apply go_fa h); omega; omega)
))
      exact hK _ (close h (by (repeat (first | exact .done | (refine .pick (by repeat (first | exact .here | apply Fnt.there)) ?_) | refine .skip ?_))))
    · simp only [g2, Bool.true_eq_false, if_false] at hK
      (repeat (first
 | (simp (disch := omega) only [evA, evB, evC, evD])
 | (with_reducible apply go_ld1 h)
 | ((with_reducible first | apply go_ldA h | apply go_rd h | apply go_rdN h | apply go_rlen h); rfl)
 | (with_reducible first | apply go_ldN h | apply go_lenL h)
 | ((with_reducible apply go_st h); intro _ h)
 | ((with_reducible apply go_stA h); rfl; rfl; (first | rfl | simp [OneV.o]); intro _ h)
 | ((with_reducible apply go_stN h); rfl; (first | rfl | simp [OneV.o]); intro _ h)
 | ((with_reducible apply go_box h); rfl; intro _ _ h)
 | ((with_reducible apply go_ix h); omega)
 | ((with_reducible first | apply go_elN h | apply go_f1 h | apply go_rf1 h | apply go_rel h); (case hi => omega); (try case hx => exact inferInstance); (try case hv => rfl))
 | ((with_reducible apply go_fa h); omega; omega)
))
      refine of_spec (e := e) h.drew fun w h => ?_
      (repeat (first
 | (simp (disch := omega) only [evA, evB, evC, evD])
 | (with_reducible apply go_ld1 h)
 | ((with_reducible first | apply go_ldA h | apply go_rd h | apply go_rdN h | apply go_rlen h); rfl)
 | (with_reducible first | apply go_ldN h | apply go_lenL h)
 | ((with_reducible apply go_st h); intro _ h)
 | ((with_reducible apply go_stA h); rfl; rfl; (first | rfl | simp [OneV.o]); intro _ h)
 | ((with_reducible apply go_stN h); rfl; (first | rfl | simp [OneV.o]); intro _ h)
 | ((with_reducible apply go_box h); rfl; intro _ _ h)
 | ((with_reducible apply go_ix h); omega)
 | ((with_reducible first | apply go_elN h | apply go_f1 h | apply go_rf1 h | apply go_rel h); (case hi => omega); (try case hx => exact inferInstance); (try case hv => rfl))
 | ((with_reducible apply go_fa h); omega; omega)
))
      refine go_look2 h (by repeat (first | exact .here | apply Fnt.there)) KS um108 z3 (sgOf e) ?_
      (repeat (first
 | (simp (disch := omega) only [evA, evB, evC, evD])
 | (with_reducible apply go_ld1 h)
 | ((with_reducible first | apply go_ldA h | apply go_rd h | apply go_rdN h | apply go_rlen h); rfl)
 | (with_reducible first | apply go_ldN h | apply go_lenL h)
 | ((with_reducible apply go_st h); intro _ h)
 | ((with_reducible apply go_stA h); rfl; rfl; (first | rfl | simp [OneV.o]); intro _ h)
 | ((with_reducible apply go_stN h); rfl; (first | rfl | simp [OneV.o]); intro _ h)
 | ((with_reducible apply go_box h); rfl; intro _ _ h)
 | ((with_reducible apply go_ix h); omega)
 | ((with_reducible first | apply go_elN h | apply go_f1 h | apply go_rf1 h | apply go_rel h); (case hi => omega); (try case hx => exact inferInstance); (try case hv => rfl))
 | ((with_reducible apply go_fa h); omega; omega)
))
      cases g3 : aGet (sgOf e) I
      · simp only [g3] at hK
        simp only [Option.isSome_none, Option.elim]
        by_cases g4 : e.level = 0
        · simp only [g4, if_true] at hK
          (repeat (first
 | (simp (disch := omega) only [evA, evB, evC, evD, g4])
 | (refine go_some (fb33 ..) ?_)
 | (with_reducible apply go_ld1 h)
 | ((with_reducible first | apply go_ldA h | apply go_rd h | apply go_rdN h | apply go_rlen h); rfl)
 | (with_reducible first | apply go_ldN h | apply go_lenL h)
 | ((with_reducible apply go_st h); intro _ h)
 | ((with_reducible apply go_stA h); rfl; rfl; (first | rfl | simp [OneV.o]); intro _ h)
 | ((with_reducible apply go_stN h); rfl; (first | rfl | simp [OneV.o]); intro _ h)
 | ((with_reducible apply go_box h); rfl; intro _ _ h)
 | ((with_reducible apply go_ix h); omega)
 | ((with_reducible first | apply go_elN h | apply go_f1 h | apply go_rf1 h | apply go_rel h); (case hi => omega); (try case hx => exact inferInstance); (try case hv => rfl))
 | ((with_reducible apply go_fa h); omega; omega)
))
          exact hK _ (close h (by (repeat (first | exact .done | (refine .pick (by repeat (first | exact .here | apply Fnt.there)) ?_) | refine .skip ?_))))
        · simp only [g4, if_false] at hK
          (repeat (first
 | (simp (disch := omega) only [evA, evB, evC, evD, g4])
 | (with_reducible apply go_ld1 h)
 | ((with_reducible first | apply go_ldA h | apply go_rd h | apply go_rdN h | apply go_rlen h); rfl)
 | (with_reducible first | apply go_ldN h | apply go_lenL h)
 | ((with_reducible apply go_st h); intro _ h)
 | ((with_reducible apply go_stA h); rfl; rfl; (first | rfl | simp [OneV.o]); intro _ h)
 | ((with_reducible apply go_stN h); rfl; (first | rfl | simp [OneV.o]); intro _ h)
 | ((with_reducible apply go_box h); rfl; intro _ _ h)
 | ((with_reducible apply go_ix h); omega)
 | ((with_reducible first | apply go_elN h | apply go_f1 h | apply go_rf1 h | apply go_rel h); (case hi => omega); (try case hx => exact inferInstance); (try case hv => rfl))
 | ((with_reducible apply go_fa h); omega; omega)
))
          refine go_lenM h (by repeat (first | exact .here | apply Fnt.there)) ?_
          (repeat (first
 | (simp (disch := omega) only [evA, evB, evC, evD])
 | (with_reducible apply go_ld1 h)
 | ((with_reducible first | apply go_ldA h | apply go_rd h | apply go_rdN h | apply go_rlen h); rfl)
 | (with_reducible first | apply go_ldN h | apply go_lenL h)
 | ((with_reducible apply go_st h); intro _ h)
 | ((with_reducible apply go_stA h); rfl; rfl; (first | rfl | simp [OneV.o]); intro _ h)
 | ((with_reducible apply go_stN h); rfl; (first | rfl | simp [OneV.o]); intro _ h)
 | ((with_reducible apply go_box h); rfl; intro _ _ h)
 | ((with_reducible apply go_ix h); omega)
 | ((with_reducible first | apply go_elN h | apply go_f1 h | apply go_rf1 h | apply go_rel h); (case hi => omega); (try case hx => exact inferInstance); (try case hv => rfl))
 | ((with_reducible apply go_fa h); omega; omega)
))
          by_cases g5 : n ≤ (R.length : Int)
          · simp only [g5, if_true] at hK
            have d5 : decide ((R.length : Int) ≥ n) = true := by simp [g5]
            simp only [d5]
            (repeat (first
 | (simp (disch := omega) only [evA, evB, evC, evD])
 | (refine go_some (fb33 ..) ?_)
 | (with_reducible apply go_ld1 h)
 | ((with_reducible first | apply go_ldA h | apply go_rd h | apply go_rdN h | apply go_rlen h); rfl)
 | (with_reducible first | apply go_ldN h | apply go_lenL h)
 | ((with_reducible apply go_st h); intro _ h)
 | ((with_reducible apply go_stA h); rfl; rfl; (first | rfl | simp [OneV.o]); intro _ h)
 | ((with_reducible apply go_stN h); rfl; (first | rfl | simp [OneV.o]); intro _ h)
 | ((with_reducible apply go_box h); rfl; intro _ _ h)
 | ((with_reducible apply go_ix h); omega)
 | ((with_reducible first | apply go_elN h | apply go_f1 h | apply go_rf1 h | apply go_rel h); (case hi => omega); (try case hx => exact inferInstance); (try case hv => rfl))
 | ((with_reducible apply go_fa h); omega; omega)
))
            exact hK _ (close h (by (repeat (first | exact .done | (refine .pick (by repeat (first | exact .here | apply Fnt.there)) ?_) | refine .skip ?_))))
          · simp only [g5, if_false] at hK
            have d5 : decide ((R.length : Int) ≥ n) = false := by simp; omega
            simp only [d5]
            (repeat (first
 | (simp (disch := omega) only [evA, evB, evC, evD])
 | (refine go_some (fb33_0_1_2_3_4 ..) ?_)
 | (with_reducible apply go_ld1 h)
 | ((with_reducible first | apply go_ldA h | apply go_rd h | apply go_rdN h | apply go_rlen h); rfl)
 | (with_reducible first | apply go_ldN h | apply go_lenL h)
 | ((with_reducible apply go_st h); intro _ h)
 | ((with_reducible apply go_stA h); rfl; rfl; (first | rfl | simp [OneV.o]); intro _ h)
 | ((with_reducible apply go_stN h); rfl; (first | rfl | simp [OneV.o]); intro _ h)
 | ((with_reducible apply go_box h); rfl; intro _ _ h)
 | ((with_reducible apply go_ix h); omega)
 | ((with_reducible first | apply go_elN h | apply go_f1 h | apply go_rf1 h | apply go_rel h); (case hi => omega); (try case hx => exact inferInstance); (try case hv => rfl))
 | ((with_reducible apply go_fa h); omega; omega)
))
            refine raise2_spec (r := ⟨next, e, 1, now, now, false, []⟩) (n := n) (next := next + 1) (R := R) (I := I) ?_ fun w h => hK w h
            refine Sat.f1 (board_iff.2 ⟨p, mr, mi, rfl, ?_⟩)
            exact h.got
      · rename_i id
        simp only [g3] at hK
        simp only [Option.isSome_some, Option.elim]
        by_cases g4 : e.level = 0
        · simp only [g4, if_true] at hK
          (repeat (first
 | (simp (disch := omega) only [evA, evB, evC, evD, g4])
 | (with_reducible apply go_ld1 h)
 | ((with_reducible first | apply go_ldA h | apply go_rd h | apply go_rdN h | apply go_rlen h); rfl)
 | (with_reducible first | apply go_ldN h | apply go_lenL h)
 | ((with_reducible apply go_st h); intro _ h)
 | ((with_reducible apply go_stA h); rfl; rfl; (first | rfl | simp [OneV.o]); intro _ h)
 | ((with_reducible apply go_stN h); rfl; (first | rfl | simp [OneV.o]); intro _ h)
 | ((with_reducible apply go_box h); rfl; intro _ _ h)
 | ((with_reducible apply go_ix h); omega)
 | ((with_reducible first | apply go_elN h | apply go_f1 h | apply go_rf1 h | apply go_rel h); (case hi => omega); (try case hx => exact inferInstance); (try case hv => rfl))
 | ((with_reducible apply go_fa h); omega; omega)
))
          refine go_look1 h (by repeat (first | exact .here | apply Fnt.there)) KIr um107 zR id ?_
          simp only [elimR]
          (repeat (first
 | (simp (disch := omega) only [evA, evB, evC, evD])
 | (with_reducible apply go_ld1 h)
 | ((with_reducible first | apply go_ldA h | apply go_rd h | apply go_rdN h | apply go_rlen h); rfl)
 | (with_reducible first | apply go_ldN h | apply go_lenL h)
 | ((with_reducible apply go_st h); intro _ h)
 | ((with_reducible apply go_stA h); rfl; rfl; (first | rfl | simp [OneV.o]); intro _ h)
 | ((with_reducible apply go_stN h); rfl; (first | rfl | simp [OneV.o]); intro _ h)
 | ((with_reducible apply go_box h); rfl; intro _ _ h)
 | ((with_reducible apply go_ix h); omega)
 | ((with_reducible first | apply go_elN h | apply go_f1 h | apply go_rf1 h | apply go_rel h); (case hi => omega); (try case hx => exact inferInstance); (try case hv => rfl))
 | ((with_reducible apply go_fa h); omega; omega)
))
          refine take_bspec (L := Cl _ (cRow ((aGet id R).getD zeroR)).toArray 33 :: L) (n := n) (next := next) (R := R) (I := I) (r := (aGet id R).getD zeroR) (board_iff.2 ⟨p, mr, mi, rfl, h.got⟩) fun w h => ?_
          (repeat (first
 | (simp (disch := omega) only [evA, evB, evC, evD])
 | (with_reducible apply go_ld1 h)
 | ((with_reducible first | apply go_ldA h | apply go_rd h | apply go_rdN h | apply go_rlen h); rfl)
 | (with_reducible first | apply go_ldN h | apply go_lenL h)
 | ((with_reducible apply go_st h); intro _ h)
 | ((with_reducible apply go_stA h); rfl; rfl; (first | rfl | simp [OneV.o]); intro _ h)
 | ((with_reducible apply go_stN h); rfl; (first | rfl | simp [OneV.o]); intro _ h)
 | ((with_reducible apply go_box h); rfl; intro _ _ h)
 | ((with_reducible apply go_ix h); omega)
 | ((with_reducible first | apply go_elN h | apply go_f1 h | apply go_rf1 h | apply go_rel h); (case hi => omega); (try case hx => exact inferInstance); (try case hv => rfl))
 | ((with_reducible apply go_fa h); omega; omega)
))
          exact hK _ (h.got)
        · simp only [g4, if_false] at hK
          (repeat (first
 | (simp (disch := omega) only [evA, evB, evC, evD, g4])
 | (with_reducible apply go_ld1 h)
 | ((with_reducible first | apply go_ldA h | apply go_rd h | apply go_rdN h | apply go_rlen h); rfl)
 | (with_reducible first | apply go_ldN h | apply go_lenL h)
 | ((with_reducible apply go_st h); intro _ h)
 | ((with_reducible apply go_stA h); rfl; rfl; (first | rfl | simp [OneV.o]); intro _ h)
 | ((with_reducible apply go_stN h); rfl; (first | rfl | simp [OneV.o]); intro _ h)
 | ((with_reducible apply go_box h); rfl; intro _ _ h)
 | ((with_reducible apply go_ix h); omega)
 | ((with_reducible first | apply go_elN h | apply go_f1 h | apply go_rf1 h | apply go_rel h); (case hi => omega); (try case hx => exact inferInstance); (try case hv => rfl))
 | ((with_reducible apply go_fa h); omega; omega)
))
          refine go_look1 h (by repeat (first | exact .here | apply Fnt.there)) KIr um107 zR id ?_
          simp only [elimR]
          (repeat (first
 | (simp (disch := omega) only [evA, evB, evC, evD])
 | (with_reducible apply go_ld1 h)
 | ((with_reducible first | apply go_ldA h | apply go_rd h | apply go_rdN h | apply go_rlen h); rfl)
 | (with_reducible first | apply go_ldN h | apply go_lenL h)
 | ((with_reducible apply go_st h); intro _ h)
 | ((with_reducible apply go_stA h); rfl; rfl; (first | rfl | simp [OneV.o]); intro _ h)
 | ((with_reducible apply go_stN h); rfl; (first | rfl | simp [OneV.o]); intro _ h)
 | ((with_reducible apply go_box h); rfl; intro _ _ h)
 | ((with_reducible apply go_ix h); omega)
 | ((with_reducible first | apply go_elN h | apply go_f1 h | apply go_rf1 h | apply go_rel h); (case hi => omega); (try case hx => exact inferInstance); (try case hv => rfl))
 | ((with_reducible apply go_fa h); omega; omega)
))
          have hb : 0 ≤ ((aGet id R).getD zeroR).tally ∧ ((aGet id R).getD zeroR).tally ≤ 4611686018427387904 := by
            cases g6 : aGet id R
            · simp [zeroR]
            · simpa using hR _ _ g6
          refine again_spec (r := (aGet id R).getD zeroR) (e := e) hb h.drew fun w h => ?_
          (repeat (first
 | (simp (disch := omega) only [evA, evB, evC, evD])
 | (with_reducible apply go_ld1 h)
 | ((with_reducible first | apply go_ldA h | apply go_rd h | apply go_rdN h | apply go_rlen h); rfl)
 | (with_reducible first | apply go_ldN h | apply go_lenL h)
 | ((with_reducible apply go_st h); intro _ h)
 | ((with_reducible apply go_stA h); rfl; rfl; (first | rfl | simp [OneV.o]); intro _ h)
 | ((with_reducible apply go_stN h); rfl; (first | rfl | simp [OneV.o]); intro _ h)
 | ((with_reducible apply go_box h); rfl; intro _ _ h)
 | ((with_reducible apply go_ix h); omega)
 | ((with_reducible first | apply go_elN h | apply go_f1 h | apply go_rf1 h | apply go_rel h); (case hi => omega); (try case hx => exact inferInstance); (try case hv => rfl))
 | ((with_reducible apply go_fa h); omega; omega)
))
          refine raise2_spec (r := (againP ((aGet id R).getD zeroR) e now).1) (n := n) (next := next) (R := R) (I := I) ?_ fun w h => hK w h
          refine Sat.f1 (board_iff.2 ⟨p, mr, mi, rfl, ?_⟩)
          exact h.got
  · simp only [g1] at hK ⊢
    simp only [if_false, Bool.false_eq_true, if_true] at hK ⊢
    (repeat (first
 | (simp (disch := omega) only [evA, evB, evC, evD])
 | (refine go_some (fb33 ..) ?_)
 | (with_reducible apply go_ld1 h)
 | ((with_reducible first | apply go_ldA h | apply go_rd h | apply go_rdN h | apply go_rlen h); rfl)
 | (with_reducible first | apply go_ldN h | apply go_lenL h)
 | ((with_reducible apply go_st h); intro _ h)
 | ((with_reducible apply go_stA h); rfl; rfl; (first | rfl | simp [OneV.o]); intro _ h)
 | ((with_reducible apply go_stN h); rfl; (first | rfl | simp [OneV.o]); intro _ h)
 | ((with_reducible apply go_box h); rfl; intro _ _ h)
 | ((with_reducible apply go_ix h); omega)
 | ((with_reducible first | apply go_elN h | apply go_f1 h | apply go_rf1 h | apply go_rel h); (case hi => omega); (try case hx => exact inferInstance); (try case hv => rfl))
 | ((with_reducible apply go_fa h); omega; omega)
))
    exact hK _ (close h (by (repeat (first | exact .done | (refine .pick (by repeat (first | exact .here | apply Fnt.there)) ?_) | refine .skip ?_))))
end
end Go.Proofs.Gong

/- Bd7 -/
namespace Go.Proofs.Gong
open Go Go.Sx Go.Proofs
set_option maxRecDepth 100000
attribute [local irreducible] fBuild fLook fZero eqv bEqv Cl MapH LsH SlH ld1 ldN st callP eBox eAlloc lenM lenL eMapSet eDelete eAppend eBuildSl eRange eNext
section
variable {w0 w : World} {L : List HP} {K : Value → World → Prop}
def evD : Evt := ⟨[110], [108, 105, 110, 107], [], 4, []⟩
def evU : Evt := ⟨[110], [108, 105, 110, 107], [], 0, []⟩
def rowD (n : Int) : Row := ⟨1, evD, n, 1, n, false, []⟩
theorem fitsD : evD.fits := by unfold Evt.fits evD; simp
theorem fitsU : evU.fits := by unfold Evt.fits evU; simp
theorem raise_D1 : raiseP 5 1 [] [] evD 1 = ((rowD 1, 1, 0), 2, [(1, rowD 1)], [(sgOf evD, 1)]) := by kernel_rfl
theorem raise_D2 : raiseP 5 2 [(1, rowD 1)] [(sgOf evD, 1)] evD 2 = ((rowD 2, 0, 0), 2, [(1, rowD 2)], [(sgOf evD, 1)]) := by kernel_rfl
theorem raise_U3 : raiseP 5 2 [(1, rowD 2)] [(sgOf evD, 1)] evU 3 = ((rowD 2, 3, 0), 2, [], []) := by kernel_rfl
theorem tal1 (x : Row) (hx : 0 ≤ x.tally ∧ x.tally ≤ 4611686018427387904) (i : Int) : ∀ id r, aGet id [(i, x)] = some r → 0 ≤ r.tally ∧ r.tally ≤ 4611686018427387904 := by
  intro id r h
  simp only [aGet] at h
  split at h
  · cases h; exact hx
  · cases h
theorem works20_spec (h : Sat w0 L w) (hK : ∀ w', Sat w0 L w' → K (.bool true) w') : callP G14 [] w K := by
  refine c14 ?_
  unfold F14
  refine bnew_spec (n := 5) h (by omega) (by omega) fun p w h => ?_
  (repeat (first
 | (simp (disch := omega) only [evA, evB, evC, bAdd_i64, bSub_i64])
 | (refine go_some (bEq_nilp up23 ..) ?_)
 | (refine go_some (fb31_0_1_3 ..) ?_)
 | (refine go_some (fb31_0_1 ..) ?_)
 | (with_reducible apply go_ld1 h)
 | ((with_reducible first | apply go_ldA h | apply go_rd h | apply go_rdN h | apply go_rlen h); rfl)
 | (with_reducible first | apply go_ldN h | apply go_lenL h)
 | ((with_reducible apply go_st h); intro _ h)
 | ((with_reducible apply go_stA h); rfl; rfl; (first | rfl | simp [OneV.o]); intro _ h)
 | ((with_reducible apply go_stN h); rfl; (first | rfl | simp [OneV.o]); intro _ h)
 | ((with_reducible apply go_box h); rfl; intro _ _ h)
 | ((with_reducible apply go_alloc h); (first | exact z31 | exact z33); rfl; intro _ _ h)
 | ((with_reducible apply go_ix h); omega)
 | ((with_reducible first | apply go_elN h | apply go_f1 h | apply go_rf1 h | apply go_rel h); (case hi => omega); (try case hx => exact inferInstance); (try case hv => rfl))
 | ((with_reducible apply go_fa h); omega; omega)
))
  refine raise_spec (e := evD) (n := 5) (next := 1) (R := []) (I := []) fitsD (by omega) (by simp [aGet]) (h.frt) fun w h => ?_
  rw [raise_D1] at h ⊢
  (repeat (first
 | (simp (disch := omega) only [evA, evB, evC, bAdd_i64, bSub_i64])
 | (with_reducible apply go_ld1 h)
 | ((with_reducible first | apply go_ldA h | apply go_rd h | apply go_rdN h | apply go_rlen h); rfl)
 | (with_reducible first | apply go_ldN h | apply go_lenL h)
 | ((with_reducible apply go_st h); intro _ h)
 | ((with_reducible apply go_stA h); rfl; rfl; (first | rfl | simp [OneV.o]); intro _ h)
 | ((with_reducible apply go_stN h); rfl; (first | rfl | simp [OneV.o]); intro _ h)
 | ((with_reducible apply go_box h); rfl; intro _ _ h)
 | ((with_reducible apply go_alloc h); (first | exact z31 | exact z33); rfl; intro _ _ h)
 | ((with_reducible apply go_ix h); omega)
 | ((with_reducible first | apply go_elN h | apply go_f1 h | apply go_rf1 h | apply go_rel h); (case hi => omega); (try case hx => exact inferInstance); (try case hv => rfl))
 | ((with_reducible apply go_fa h); omega; omega)
))
  refine raise_spec (e := evD) (n := 5) (next := 2) (R := [(1, rowD 1)]) (I := [(sgOf evD, 1)]) fitsD (by omega) (tal1 _ (by decide) _) (h.frt) fun w h => ?_
  rw [raise_D2] at h ⊢
  (repeat (first
 | (simp (disch := omega) only [evA, evB, evC, bAdd_i64, bSub_i64])
 | (with_reducible apply go_ld1 h)
 | ((with_reducible first | apply go_ldA h | apply go_rd h | apply go_rdN h | apply go_rlen h); rfl)
 | (with_reducible first | apply go_ldN h | apply go_lenL h)
 | ((with_reducible apply go_st h); intro _ h)
 | ((with_reducible apply go_stA h); rfl; rfl; (first | rfl | simp [OneV.o]); intro _ h)
 | ((with_reducible apply go_stN h); rfl; (first | rfl | simp [OneV.o]); intro _ h)
 | ((with_reducible apply go_box h); rfl; intro _ _ h)
 | ((with_reducible apply go_alloc h); (first | exact z31 | exact z33); rfl; intro _ _ h)
 | ((with_reducible apply go_ix h); omega)
 | ((with_reducible first | apply go_elN h | apply go_f1 h | apply go_rf1 h | apply go_rel h); (case hi => omega); (try case hx => exact inferInstance); (try case hv => rfl))
 | ((with_reducible apply go_fa h); omega; omega)
))
  refine raise_spec (e := evU) (n := 5) (next := 2) (R := [(1, rowD 2)]) (I := [(sgOf evD, 1)]) fitsU (by omega) (tal1 _ (by decide) _) (h.frt) fun w h => ?_
  rw [raise_U3] at h ⊢
  (repeat (first
 | (simp (disch := omega) only [evA, evB, evC, bAdd_i64, bSub_i64])
 | (with_reducible apply go_ld1 h)
 | ((with_reducible first | apply go_ldA h | apply go_rd h | apply go_rdN h | apply go_rlen h); rfl)
 | (with_reducible first | apply go_ldN h | apply go_lenL h)
 | ((with_reducible apply go_st h); intro _ h)
 | ((with_reducible apply go_stA h); rfl; rfl; (first | rfl | simp [OneV.o]); intro _ h)
 | ((with_reducible apply go_stN h); rfl; (first | rfl | simp [OneV.o]); intro _ h)
 | ((with_reducible apply go_box h); rfl; intro _ _ h)
 | ((with_reducible apply go_alloc h); (first | exact z31 | exact z33); rfl; intro _ _ h)
 | ((with_reducible apply go_ix h); omega)
 | ((with_reducible first | apply go_elN h | apply go_f1 h | apply go_rf1 h | apply go_rel h); (case hi => omega); (try case hx => exact inferInstance); (try case hv => rfl))
 | ((with_reducible apply go_fa h); omega; omega)
))
  refine blen_spec (n := 5) (next := 2) (R := []) (I := []) (h.frt) ?_
  (repeat (first
 | (simp (disch := omega) only [evA, evB, evC, bAdd_i64, bSub_i64])
 | (with_reducible apply go_ld1 h)
 | ((with_reducible first | apply go_ldA h | apply go_rd h | apply go_rdN h | apply go_rlen h); rfl)
 | (with_reducible first | apply go_ldN h | apply go_lenL h)
 | ((with_reducible apply go_st h); intro _ h)
 | ((with_reducible apply go_stA h); rfl; rfl; (first | rfl | simp [OneV.o]); intro _ h)
 | ((with_reducible apply go_stN h); rfl; (first | rfl | simp [OneV.o]); intro _ h)
 | ((with_reducible apply go_box h); rfl; intro _ _ h)
 | ((with_reducible apply go_ix h); omega)
 | ((with_reducible first | apply go_elN h | apply go_f1 h | apply go_rf1 h | apply go_rel h); (case hi => omega); (try case hx => exact inferInstance); (try case hv => rfl))
 | ((with_reducible apply go_fa h); omega; omega)
))
  exact hK _ (h.got)
end
end Go.Proofs.Gong

/- Bd8 -/
namespace Go.Proofs.Gong
open Go Go.Sx Go.Proofs
set_option maxRecDepth 100000
theorem neR (x y : Operand) (a b : Row) : bNe Try.prog 33 x y (rowV a) (rowV b) = some (.bool (!decide (a = b))) := by
  obtain ⟨i, ⟨n1, c1, k1, l1, t1⟩, ta, f, la, ac, wh⟩ := a
  obtain ⟨i', ⟨n1', c1', k1', l1', t1'⟩, ta', f', la', ac', wh'⟩ := b
  rw [ne33]
  simp only [bs_sEq, Option.some.injEq, Value.bool.injEq]
  rw [Bool.eq_iff_iff]
  simp
theorem eqR (x y : Operand) (a b : Row) : bEq Try.prog 33 x y (rowV a) (rowV b) = some (.bool (decide (a = b))) := by
  obtain ⟨i, ⟨n1, c1, k1, l1, t1⟩, ta, f, la, ac, wh⟩ := a
  obtain ⟨i', ⟨n1', c1', k1', l1', t1'⟩, ta', f', la', ac', wh'⟩ := b
  rw [eq33]
  simp only [bs_sEq, Option.some.injEq, Value.bool.injEq]
  rw [Bool.eq_iff_iff]
  simp
def evT (lv : Int) (i : Nat) : Evt := ⟨[110], [99], [107], lv, [UInt8.ofNat (97 + i % 20)]⟩
theorem plainT : ∀ k : Fin 20, plainP [UInt8.ofNat (97 + k.val)] 1024 = true := by decide +kernel
theorem okT (lv : Int) (i : Nat) (h1 : 1 ≤ lv) (h2 : lv ≤ 5) : okE (evT lv i) = true := by
  have h := plainT ⟨i % 20, Nat.mod_lt _ (by omega)⟩
  have a1 : plainP [110] 64 = true := by decide +kernel
  have a2 : plainP [99] 64 = true := by decide +kernel
  have a3 : plainP [107] 128 = true := by decide +kernel
  unfold okE evT
  simp only [h, a1, a2, a3]
  simp; omega
attribute [local irreducible] fBuild fLook fZero eqv bEqv Cl MapH LsH SlH ld1 ldN st callP eBox eAlloc lenM lenL eMapSet eDelete eAppend eBuildSl eRange eNext
section
variable {w0 w : World} {L : List HP} {K : Value → World → Prop}
end
end Go.Proofs.Gong

/- Hold1 -/
namespace Go.Proofs.Gong
open Go Go.Sx Go.Proofs
set_option linter.all false
set_option maxRecDepth 100000
end Go.Proofs.Gong

/- Ho0 -/
namespace Go.Proofs.Gong
open Go Go.Sx Go.Proofs
set_option maxRecDepth 100000
attribute [local irreducible] fBuild fLook fZero eqv bEqv Cl MapH LsH SlH ld1 ldN st callP eBox eAlloc lenM lenL eMapSet eDelete eAppend eBuildSl eRange eNext
instance : CodC cI 1 := ⟨CI⟩
def RdL {α : Type} (w0 : World) (L : List HP) (f : α → List Value) (es : Nat) (v : Value) (l : List α) : Prop := ∀ w, Sat w0 L w → Rd w es v l.length (l.flatMap f)
theorem RdL.get {α : Type} {w0 : World} {L L' : List HP} {f : α → List Value} {es : Nat} {v : Value} {l : List α} (h : RdL w0 L f es v l) (g : Get L' L) : RdL w0 L' f es v l := fun w hs => h w (hs.get g)
theorem RdL.cons {α : Type} {w0 : World} {L : List HP} {X : HP} {f : α → List Value} {es : Nat} {v : Value} {l : List α} (h : RdL w0 L f es v l) : RdL w0 (X :: L) f es v l := h.get (.skip .done)
section
variable {w0 w : World} {L : List HP} {K : Value → World → Prop}
end
end Go.Proofs.Gong

/- Be0 -/
namespace Go.Proofs.Gong
open Go Go.Sx Go.Proofs
set_option maxRecDepth 100000
structure BInv (n next : Int) (R : List (Int × Row)) (I : List (Sg × Int)) (rs : List Row) : Prop where
  pm : (R.map Prod.snd).Perm rs
  key : ∀ x ∈ R, x.1 = x.2.id
  asc : rs.Pairwise fun a b => a.id < b.id
  pI : I.Perm (rs.map fun r => (sgOf r.e, r.id))
  sg : rs.Pairwise fun a b => sgOf a.e ≠ sgOf b.e
  bd : (rs.length : Int) ≤ n ∧ 1 ≤ n ∧ n ≤ 65536
  ok : ∀ r ∈ rs, okR r = true ∧ r.id < next
def replL (r : Row) (rs : List Row) : List Row := rs.map fun d => if d.id = r.id then r else d
def remL (id : Int) (rs : List Row) : List Row := rs.filter fun d => decide (d.id ≠ id)
def insR (r : Row) (rs : List Row) : List Row := rs.takeWhile (fun d => decide (d.id < r.id)) ++ r :: rs.dropWhile (fun d => decide (d.id < r.id))
section
variable {n next : Int} {R : List (Int × Row)} {I : List (Sg × Int)} {rs : List Row} {r d : Row}
theorem rasc_split (h : rs.Pairwise fun a b => a.id < b.id) (hc : r ∈ rs) : ∃ l t, rs = l ++ r :: t ∧ (∀ d ∈ l, d.id ≠ r.id) ∧ (∀ d ∈ t, d.id ≠ r.id) := by
  obtain ⟨l, t, rfl⟩ := List.append_of_mem hc
  rw [List.pairwise_append] at h
  obtain ⟨_, h2, h3⟩ := h
  refine ⟨l, t, rfl, fun d hd e => ?_, fun d hd e => ?_⟩
  · have := h3 d hd r (by simp); omega
  · have := (List.pairwise_cons.1 h2).1 d hd; omega
theorem remL_split {l t : List Row} (h1 : ∀ d ∈ l, d.id ≠ r.id) (h2 : ∀ d ∈ t, d.id ≠ r.id) : remL r.id (l ++ r :: t) = l ++ t := by
  unfold remL
  rw [List.filter_append, List.filter_cons, List.filter_eq_self.2 (fun d hd => by simpa using h1 d hd), List.filter_eq_self.2 (fun d hd => by simpa using h2 d hd)]
  simp
theorem replL_split {l t : List Row} {b : Row} (e : b.id = r.id) (h1 : ∀ d ∈ l, d.id ≠ r.id) (h2 : ∀ d ∈ t, d.id ≠ r.id) : replL b (l ++ r :: t) = l ++ b :: t := by
  unfold replL
  rw [List.map_append, List.map_cons]
  congr 1
  · conv => rhs; rw [← List.map_id l]
    exact List.map_congr_left fun d hd => by rw [if_neg (by rw [e]; exact h1 d hd)]; rfl
  · rw [if_pos e.symm]
    congr 1
    conv => rhs; rw [← List.map_id t]
    exact List.map_congr_left fun d hd => by rw [if_neg (by rw [e]; exact h2 d hd)]; rfl
theorem rasc_eq (h : rs.Pairwise fun a b => a.id < b.id) (hc : r ∈ rs) (hd : d ∈ rs) (e : r.id = d.id) : r = d := by
  obtain ⟨l, t, rfl, h1, h2⟩ := rasc_split h hc
  rcases List.mem_append.1 hd with g | g
  · exact absurd e.symm (h1 d g)
  · rcases List.mem_cons.1 g with rfl | g
    · rfl
    · exact absurd e.symm (h2 d g)
theorem insR_perm (c : Row) (cs : List Row) : (insR c cs).Perm (c :: cs) := by
  unfold insR
  exact List.perm_middle.trans (by rw [List.takeWhile_append_dropWhile])
theorem insR_asc {c : Row} : ∀ {cs : List Row}, (cs.Pairwise fun a b => a.id < b.id) → (∀ d ∈ cs, d.id ≠ c.id) → (insR c cs).Pairwise fun a b => a.id < b.id
  | [], _, _ => by simp [insR]
  | d :: r, h, hn => by
    obtain ⟨h1, h2⟩ := List.pairwise_cons.1 h
    have hd := hn d (by simp)
    by_cases g : d.id < c.id
    · have e : insR c (d :: r) = d :: insR c r := by simp [insR, g]
      rw [e]
      refine List.pairwise_cons.2 ⟨fun x hx => ?_, insR_asc h2 fun x hx => hn x (List.mem_cons_of_mem _ hx)⟩
      rcases List.mem_cons.1 ((insR_perm c r).mem_iff.1 hx) with rfl | hx
      · exact g
      · exact h1 x hx
    · have e : insR c (d :: r) = c :: d :: r := by simp [insR, g]
      rw [e]
      refine List.pairwise_cons.2 ⟨fun x hx => ?_, h⟩
      rcases List.mem_cons.1 hx with rfl | hx
      · omega
      · have := h1 x hx; omega
variable (H : BInv n next R I rs)
include H
theorem BInv.len : R.length = rs.length := by
  have := H.pm.length_eq; simpa using this
theorem BInv.mem {k : Int} (hg : aGet k R = some r) : r ∈ rs ∧ r.id = k := by
  have hm := aGet_mem hg
  exact ⟨H.pm.mem_iff.1 (List.mem_map.2 ⟨_, hm, rfl⟩), (H.key _ hm).symm⟩
theorem BInv.keys : (R.map Prod.fst).Nodup := by
  have e : R.map Prod.fst = (R.map Prod.snd).map (·.id) := by
    rw [List.map_map]
    exact List.map_congr_left fun x hx => H.key x hx
  rw [e]
  refine ((H.pm.map (·.id)).nodup_iff).2 ?_
  exact List.pairwise_map.2 (H.asc.imp fun h e => by omega)
theorem BInv.get (hc : r ∈ rs) : aGet r.id R = some r := by
  obtain ⟨x, hx, rfl⟩ := List.mem_map.1 (H.pm.mem_iff.2 hc)
  refine mem_aGet H.keys ?_
  rw [← H.key x hx]; exact hx
theorem BInv.get_none {k : Int} (h : ∀ c ∈ rs, c.id ≠ k) : aGet k R = none := aGet_none_of fun y hy => by
  have h1 := H.key _ hy
  exact h y (H.pm.mem_iff.1 (List.mem_map.2 ⟨_, hy, rfl⟩)) h1.symm
theorem BInv.sgs : (I.map Prod.fst).Nodup := by
  refine ((H.pI.map Prod.fst).nodup_iff).2 ?_
  rw [List.map_map]
  exact List.pairwise_map.2 (H.sg.imp fun h => h)
theorem BInv.sget (hc : r ∈ rs) : aGet (sgOf r.e) I = some r.id := mem_aGet H.sgs (H.pI.mem_iff.2 (List.mem_map.2 ⟨r, hc, rfl⟩))
theorem BInv.snone {g : Sg} (h : ∀ c ∈ rs, sgOf c.e ≠ g) : aGet g I = none := aGet_none_of fun y hy => by
  obtain ⟨c, hc, e⟩ := List.mem_map.1 (H.pI.mem_iff.1 hy)
  simp only [Prod.mk.injEq] at e
  exact h c hc e.1
theorem BInv.find (g : Sg) : aGet g I = (rs.find? fun d => decide (sgOf d.e = g)).map (·.id) := by
  cases hf : rs.find? fun d => decide (sgOf d.e = g) with
  | none =>
    rw [List.find?_eq_none] at hf
    exact H.snone fun d hd e => by have := hf d hd; simp [e] at this
  | some d =>
    have h1 := List.mem_of_find?_eq_some hf
    have h2 := List.find?_some hf
    simp only [decide_eq_true_eq] at h2
    rw [← h2]; exact H.sget h1
omit H in
theorem BInv.ins (H : BInv n next R I rs) (ho : okR r = true) (hs : ∀ d ∈ rs, sgOf d.e ≠ sgOf r.e) (hnew : ∀ d ∈ rs, d.id ≠ r.id) (hl : (rs.length : Int) < n) (h2 : r.id < next) :
    BInv n next (aSet r.id r R) (aSet (sgOf r.e) r.id I) (insR r rs) := by
  have g1 := H.get_none hnew
  have g2 := H.snone hs
  rw [aSet_new g1, aSet_new g2]
  have hp := insR_perm r rs
  refine ⟨?_, ?_, insR_asc H.asc hnew, ?_, ?_, ?_, ?_⟩
  · rw [List.map_append]
    refine (List.perm_append_comm.trans ?_).trans hp.symm
    exact H.pm.cons _
  · intro x hx
    rcases List.mem_append.1 hx with hx | hx
    · exact H.key x hx
    · simp at hx; subst hx; rfl
  · refine (List.perm_append_comm.trans ?_).trans (hp.map _).symm
    exact H.pI.cons _
  · refine hp.symm.pairwise ?_ (fun h => h.symm)
    exact List.pairwise_cons.2 ⟨fun d hd e => hs d hd e.symm, H.sg⟩
  · have := hp.length_eq; have := H.bd; simp at *; omega
  · intro d hd
    rcases List.mem_cons.1 (hp.mem_iff.1 hd) with rfl | hd
    · exact ⟨ho, h2⟩
    · exact H.ok d hd
omit H in
theorem BInv.repl (H : BInv n next R I rs) (ho : okR r = true) {b : Row} (hb : b ∈ rs) (e : b.id = r.id) (hs : sgOf b.e = sgOf r.e) :
    BInv n next (aSet r.id r R) (aSet (sgOf r.e) r.id I) (replL r rs) := by
  have g1 := H.get hb
  rw [e] at g1
  have g2 := H.sget hb
  rw [hs, e] at g2
  rw [aSet_id g2]
  obtain ⟨l, t, rfl, h1, h2⟩ := rasc_split H.asc hb
  rw [replL_split e.symm h1 h2]
  have hp := aDel_perm g1
  have hpm : ((aDel r.id R).map Prod.snd).Perm (l ++ t) := by
    have := ((hp.map Prod.snd).trans H.pm).trans List.perm_middle
    exact List.Perm.cons_inv this
  refine ⟨?_, ?_, ?_, ?_, ?_, ?_, ?_⟩
  · refine ((aSet_perm g1).map _).trans ?_
    rw [List.map_cons]
    exact (hpm.cons r).trans List.perm_middle.symm
  · intro x hx
    rcases List.mem_cons.1 ((aSet_perm g1).mem_iff.1 hx) with rfl | hx
    · rfl
    · exact H.key x (hp.mem_iff.1 (List.mem_cons_of_mem _ hx))
  · have := H.asc
    rw [List.pairwise_append, List.pairwise_cons] at this ⊢
    refine ⟨this.1, ⟨fun x hx => by rw [← e]; exact this.2.1.1 x hx, this.2.1.2⟩, fun x hx y hy => ?_⟩
    rcases List.mem_cons.1 hy with rfl | hy
    · rw [← e]; exact this.2.2 x hx b (by simp)
    · exact this.2.2 x hx y (by simp [hy])
  · have := H.pI
    rw [List.map_append, List.map_cons] at this ⊢
    rw [hs, e] at this
    exact this
  · have := H.sg
    rw [List.pairwise_append, List.pairwise_cons] at this ⊢
    refine ⟨this.1, ⟨fun x hx => by rw [← hs]; exact this.2.1.1 x hx, this.2.1.2⟩, fun x hx y hy => ?_⟩
    rcases List.mem_cons.1 hy with rfl | hy
    · rw [← hs]; exact this.2.2 x hx b (by simp)
    · exact this.2.2 x hx y (by simp [hy])
  · have := H.bd; simpa using this
  · intro d hd
    rcases List.mem_append.1 hd with hd | hd
    · exact H.ok d (by simp [hd])
    · rcases List.mem_cons.1 hd with rfl | hd
      · have := H.ok b (by simp)
        rw [e] at this
        exact ⟨ho, this.2⟩
      · exact H.ok d (by simp [hd])
omit H in
theorem BInv.rem (H : BInv n next R I rs) (hc : r ∈ rs) : BInv n next (aDel r.id R) (aDel (sgOf r.e) I) (remL r.id rs) := by
  have g1 := H.get hc
  have g2 := H.sget hc
  obtain ⟨l, t, rfl, h1, h2⟩ := rasc_split H.asc hc
  rw [remL_split h1 h2]
  have hp := aDel_perm g1
  have sub : List.Sublist (l ++ t) (l ++ r :: t) := List.Sublist.append_left (List.sublist_cons_self _ _) _
  refine ⟨?_, ?_, H.asc.sublist sub, ?_, H.sg.sublist sub, ?_, ?_⟩
  · have := ((hp.map Prod.snd).trans H.pm).trans List.perm_middle
    exact List.Perm.cons_inv this
  · intro x hx
    exact H.key x (hp.mem_iff.1 (List.mem_cons_of_mem _ hx))
  · have hq := (aDel_perm g2).trans H.pI
    rw [List.map_append, List.map_cons] at hq
    rw [List.map_append]
    exact List.Perm.cons_inv (hq.trans List.perm_middle)
  · have := H.bd; simp at this ⊢; omega
  · exact fun d hd => H.ok d (sub.subset hd)
end
theorem BInv.start {n : Int} (h1 : 1 ≤ n) (h2 : n ≤ 65536) (next : Int) : BInv n next [] [] [] := ⟨.nil, by simp, .nil, .nil, .nil, ⟨by simp; omega, h1, h2⟩, by simp⟩
end Go.Proofs.Gong

/- Board2 -/
namespace Go.Proofs.Gong
open Go Go.Sx Go.Proofs
set_option linter.all false
set_option maxRecDepth 100000
def F39 (x0 : Value) (w : World) (K : Value → World → Prop) : Prop :=
eAlloc Try.prog 31 w fun v2 w1 =>
callP G15 [x0, (.int .i64 1048576)] w1 fun v4 w3 =>
bindP (bRem v4 (.int .i64 3)) fun v5 =>
bindP (bAdd (.int .i64 97) v5) fun v6 =>
bindP (cInt .u8 v6) fun v7 =>
eBuildSl Try.prog 29 1 [(0, v7)] w3 fun v9 w8 =>
bindP (cBytes v9 w8) fun v10 =>
bindP (bQuo v4 (.int .i64 3)) fun v11 =>
bindP (bRem v11 (.int .i64 2)) fun v12 =>
bindP (bAdd (.int .i64 112) v12) fun v13 =>
bindP (cInt .u8 v13) fun v14 =>
eBuildSl Try.prog 29 1 [(0, v14)] w8 fun v16 w15 =>
bindP (cBytes v16 w15) fun v17 =>
bindP (bQuo v4 (.int .i64 6)) fun v18 =>
bindP (bRem v18 (.int .i64 6)) fun v19 =>
bindP (bQuo v4 (.int .i64 36)) fun v20 =>
bindP (bRem v20 (.int .i64 20)) fun v21 =>
bindP (bAdd (.int .i64 65) v21) fun v22 =>
bindP (cInt .u8 v22) fun v23 =>
eBuildSl Try.prog 29 1 [(0, v23)] w15 fun v25 w24 =>
bindP (cBytes v25 w24) fun v26 =>
bindP (fBuild Try.prog 31 [(0, v10), (1, v17), (3, v19), (4, v26)]) fun v27 =>
bindW (st 5 v2 v27 w24) fun w28 =>
bindP (ldN 5 v2 w28) fun v30 =>
K v30 w28
def G39 : FnT := fun args w K => on1 (fun x0 => F39 x0 w K) args
def T40 : List (Nat × FnT) := [(64, G64)]
def F40 (x0 : Value) (x1 : Value) (w : World) (K : Value → World → Prop) : Prop :=
eAlloc Try.prog 33 w fun v2 w1 =>
bindP (pNil x0) fun v3 =>
bindP (pFieldAddr 2 v3) fun v4 =>
bindP (ld1 v4 w1) fun v5 =>
bindP (fLook Try.prog 107 v5 x1 true w1) fun v6 =>
bindP (pTuple v6 0) fun v7 =>
bindP (pTuple v6 1) fun v8 =>
eAlloc Try.prog 33 w1 fun v10 w9 =>
bindW (st 11 v10 v7 w9) fun w11 =>
bindP (uNot v8) fun v13 =>
ifB v13 (
bindP (fBuild Try.prog 33 []) fun v14 =>
bindW (st 11 v2 v14 w11) fun w15 =>
bindP (ldN 11 v2 w15) fun v17 =>
K (.tuple #[v17, (.int .i64 5)]) w15) (
bindP (ldN 11 v10 w11) fun v18 =>
callP G64 [x0, v18] w11 fun _ w19 =>
bindP (ldN 11 v10 w19) fun v21 =>
bindW (st 11 v2 v21 w19) fun w22 =>
bindP (ldN 11 v2 w22) fun v24 =>
K (.tuple #[v24, (.int .i64 0)]) w22)
def G40 : FnT := fun args w K => on2 (fun x0 x1 => F40 x0 x1 w K) args
theorem c40 {x0 x1 : Value} {w : World} {K : Value → World → Prop} (h : F40 x0 x1 w K) : callP G40 [x0, x1] w K := callP_intro (on2_mk (p := fun x0 x1 => F40 x0 x1 w K) h)
theorem ok40 : OkF Try.prog 40 G40 := by
  refine okF_of (tab_ok (l := T40) ⟨ok64, trivial⟩) mixed (n := fuel) Try.func40 Try.call40 fun args w K h => ?_
  obtain ⟨x0, x1, rfl, hh⟩ := of_on2 h
  exact fnD_list (c := bodyOf Try.f40) (by kernel_rfl) (by kernel_rfl) (Eq.mp (by kernel_rfl) hh)
def Lay87_ren : Go.Shelf.Ren := ⟨fun | 6 => 87 | 15 => 115 | 14 => 119 | 28 => 148 | 29 => 149 | 20 => 150 | 21 => 151 | 22 => 152 | 23 => 153 | 24 => 154 | 25 => 155 | 26 => 156 | 27 => 157 | 46 => 169 | 47 => 165 | 48 => 166 | 49 => 170 | 50 => 171 | 57 => 187 | n => n, fun | 22 => 74 | 24 => 33 | 25 => 143 | 3 => 3 | 39 => 171 | 0 => 0 | 53 => 197 | 55 => 199 | 4 => 4 | 46 => 191 | 45 => 190 | 50 => 112 | 5 => 5 | 9 => 9 | 66 => 211 | 70 => 215 | 76 => 228 | 77 => 224 | n => n, fun | n => n⟩
theorem Lay87 : Go.Proofs.SlLaysF0.n6 Try.prog Lay87_ren := {
  mixed := by kernel_rfl
  f6 := ⟨Try.f87.name, by decide, Try.func87.trans (congrArg some (by kernel_rfl))⟩
  f14 := ⟨Try.f119.name, by decide, Try.func119.trans (congrArg some (by kernel_rfl))⟩
  f15 := Try.func115.trans (congrArg some (by kernel_rfl))
  f20 := ⟨Try.f150.name, by decide, Try.func150.trans (congrArg some (by kernel_rfl))⟩
  f21 := ⟨Try.f151.name, by decide, Try.func151.trans (congrArg some (by kernel_rfl))⟩
  f22 := ⟨Try.f152.name, by decide, Try.func152.trans (congrArg some (by kernel_rfl))⟩
  f23 := ⟨Try.f153.name, by decide, Try.func153.trans (congrArg some (by kernel_rfl))⟩
  f24 := ⟨Try.f154.name, by decide, Try.func154.trans (congrArg some (by kernel_rfl))⟩
  f25 := ⟨Try.f155.name, by decide, Try.func155.trans (congrArg some (by kernel_rfl))⟩
  f26 := ⟨Try.f156.name, by decide, Try.func156.trans (congrArg some (by kernel_rfl))⟩
  f27 := ⟨Try.f157.name, by decide, Try.func157.trans (congrArg some (by kernel_rfl))⟩
  f28 := Try.func148.trans (congrArg some (by kernel_rfl))
  f29 := Try.func149.trans (congrArg some (by kernel_rfl))
  f46 := ⟨Try.f169.name, by decide, Try.func169.trans (congrArg some (by kernel_rfl))⟩
  f47 := Try.func165.trans (congrArg some (by kernel_rfl))
  f48 := Try.func166.trans (congrArg some (by kernel_rfl))
  f49 := ⟨Try.f170.name, by decide, Try.func170.trans (congrArg some (by kernel_rfl))⟩
  f50 := ⟨Try.f171.name, by decide, Try.func171.trans (congrArg some (by kernel_rfl))⟩
  f57 := ⟨Try.f187.name, by decide, Try.func187.trans (congrArg some (by kernel_rfl))⟩
  t0 := Try.underlying0
  a0 := Try.isAgg0
  z0 := Try.sizeOf0
  v0 := Try.zeroValue0
  t3 := Try.underlying3
  a3 := Try.isAgg3
  z3 := Try.sizeOf3
  v3 := Try.zeroValue3
  t4 := Try.underlying4
  a4 := Try.isAgg4
  z4 := Try.sizeOf4
  v4 := Try.zeroValue4
  t5 := Try.underlying5
  a5 := Try.isAgg5
  z5 := Try.sizeOf5
  v5 := Try.zeroValue5
  t9 := Try.underlying9
  a9 := Try.isAgg9
  z9 := Try.sizeOf9
  v9 := Try.zeroValue9
  t22 := Try.underlying74
  a22 := Try.isAgg74
  z22 := Try.sizeOf74
  v22 := Try.zeroValue74
  t25 := Try.underlying143
  a25 := Try.isAgg143
  z25 := Try.sizeOf143
  v25 := Try.zeroValue143
  t39 := Try.underlying171
  a39 := Try.isAgg171
  z39 := Try.sizeOf171
  v39 := Try.zeroValue171
  t45 := Try.underlying190
  a45 := Try.isAgg190
  z45 := Try.sizeOf190
  v45 := Try.zeroValue190
  t46 := Try.underlying191
  a46 := Try.isAgg191
  z46 := Try.sizeOf191
  v46 := Try.zeroValue191
  t50 := Try.underlying112
  a50 := Try.isAgg112
  z50 := Try.sizeOf112
  v50 := Try.zeroValue112
  t53 := Try.underlying197
  a53 := Try.isAgg197
  z53 := Try.sizeOf197
  v53 := Try.zeroValue197
  t55 := Try.underlying199
  a55 := Try.isAgg199
  z55 := Try.sizeOf199
  v55 := Try.zeroValue199
  t66 := Try.underlying211
  a66 := Try.isAgg211
  z66 := Try.sizeOf211
  v66 := Try.zeroValue211
  t70 := Try.underlying215
  a70 := Try.isAgg215
  z70 := Try.sizeOf215
  v70 := Try.zeroValue215
  t76 := Try.underlying228
  a76 := Try.isAgg228
  z76 := Try.sizeOf228
  v76 := Try.zeroValue228
  t77 := Try.underlying224
  a77 := Try.isAgg224
  z77 := Try.sizeOf224
  v77 := Try.zeroValue224 }
def G87 : FnT := gSortF Try.prog 11 33
theorem ok87 : OkF Try.prog 87 G87 := okSortF Lay87 (fun w => by kernel_rfl) (fun w => by kernel_rfl) Try.call87
def T41 : List (Nat × FnT) := [(62, G62), (64, G64), (87, G87)]
def F41_5b (s8 : Value) (w : World) (K : Value → World → Prop) : Prop :=
callP G87 [s8, (.func (.func 88) #[] #[])] w fun _ w1 =>
K (.tuple #[s8, (.int .i64 0)]) w1
def F41_5 (s8 : Value) (w : World) (K : Value → World → Prop) : Prop := F41_5b s8 w K
theorem ok41_5 {K : Value → World → Prop} {kn kr : Env → World → Prop} {ke : Nat → Env → World → Prop}
    (hn : ∀ e w, (fun e w => K (.tuple #[(e 6), (e 7)]) w) e w → kn e w) (hr : ∀ e w, endD Try.prog [.tmp 6, .tmp 7] K e w → kr e w) (he : ∀ i e w, noE i e w → ke i e w) :
    ∀ e w, F41_5 (e 8) w K → denL Try.prog (tabOf T41) 56 fuel ((flat (bodyOf Try.f41)).drop 8) e w kn kr ke := by
  intro e w h
  unfold F41_5 at h
  have e1 : ∀ (_ : Unit), F41_5b (e 8) w K = denL Try.prog (tabOf T41) 56 fuel ((flat (bodyOf Try.f41)).drop 8) e w (fun e w => K (.tuple #[(e 6), (e 7)]) w) (endD Try.prog [.tmp 6, .tmp 7] K) noE := by intro _; kernel_rfl
  exact seg_end (Eq.mp (e1 ()) h) hn hr he
def F41_4b (s0 : Value) (s8 : Value) (s43 : Value) (s44 : Value) (s45 : Value) (w : World) (_K : Value → World → Prop) (Y0 : Value → Value → Value → Value → Value → World → Prop) (Y1 : Value → World → Prop) : Prop :=
bindP (bLt s45 s44) fun v3 =>
ifB v3 (
bindP (pIndexL 11 s43 s45) fun v4 =>
bindP (ldN 11 v4 w) fun v5 =>
eAlloc Try.prog 33 w fun v7 w6 =>
bindW (st 11 v7 v5 w6) fun w8 =>
bindP (ldN 11 v7 w8) fun v10 =>
callP G64 [s0, v10] w8 fun _ w11 =>
bindP (bAdd s45 (.int .i64 1)) fun v13 =>
Y0 s0 s8 s43 s44 v13 w11) (
Y1 s8 w)
def F41_4L : Nat → Value → Value → Value → Value → Value → World → (Value → World → Prop) → Prop
  | 0, _, _, _, _, _, _, _ => False
  | n + 1, s0, s8, s43, s44, s45, w, K => F41_4b s0 s8 s43 s44 s45 w K (fun a0 a8 a43 a44 a45 w => F41_4L n a0 a8 a43 a44 a45 w K) (fun a8 w => F41_5 a8 w K)
def F41_4 (s0 : Value) (s8 : Value) (s43 : Value) (s44 : Value) (s45 : Value) (w : World) (K : Value → World → Prop) : Prop := F41_4L fuel s0 s8 s43 s44 s45 w K
theorem ok41_4 {K : Value → World → Prop} {kn kr : Env → World → Prop} {ke : Nat → Env → World → Prop}
    (hn : ∀ e w, (fun e w => K (.tuple #[(e 6), (e 7)]) w) e w → kn e w) (hr : ∀ e w, endD Try.prog [.tmp 6, .tmp 7] K e w → kr e w) (he : ∀ i e w, noE i e w → ke i e w) :
    ∀ e w, F41_4 (e 0) (e 8) (e 43) (e 44) (e 45) w K → denL Try.prog (tabOf T41) 56 fuel ((flat (bodyOf Try.f41)).drop 7) e w kn kr ke := by
  intro e w h
  unfold F41_4 at h
  refine seg_loop (id := 2) (body := (loopB (blkB (nthC (flat (bodyOf Try.f41)) 7)))) (l2 := (flat (bodyOf Try.f41)).drop 8) (by kernel_rfl) ?_
  refine loop_ok (FL := fun m e w => F41_4L m (e 0) (e 8) (e 43) (e 44) (e 45) w K) (fr := endD Try.prog [.tmp 6, .tmp 7] K) (fe := (blkK 2 (fun e w => F41_5 (e 8) w K) noE)) (fun _ _ h => h) ?_ hr (blkK_mono (fun e w h => ok41_5 hn hr he e w h) he) fuel e w h
  intro m e w h
  have h : F41_4L (m + 1) (e 0) (e 8) (e 43) (e 44) (e 45) w K := h
  rw [F41_4L] at h
  have e1 : ∀ (Y0 : Value → Value → Value → Value → Value → World → Prop) (Y1 : Value → World → Prop), F41_4b (e 0) (e 8) (e 43) (e 44) (e 45) w K Y0 Y1 = denL Try.prog (tabOf T41) 56 fuel (flat (loopB (blkB (nthC (flat (bodyOf Try.f41)) 7)))) e w (fun e w => Y0 (e 0) (e 8) (e 43) (e 44) (e 45) w) (endD Try.prog [.tmp 6, .tmp 7] K) (blkK 2 (fun e w => Y1 (e 8) w) noE) := by intro Y0 Y1; kernel_rfl
  exact Eq.mp (e1 (fun a0 a8 a43 a44 a45 w => F41_4L m a0 a8 a43 a44 a45 w K) (fun a8 w => F41_5 a8 w K)) h
def F41_3b (s0 : Value) (s8 : Value) (w : World) (_K : Value → World → Prop) (Y0 : Value → Value → Value → Value → Value → World → Prop) : Prop :=
bindP (lenL s8) fun v14 =>
Y0 s0 s8 s8 v14 (.int .i64 0) w
def F41_3 (s0 : Value) (s8 : Value) (w : World) (K : Value → World → Prop) : Prop := F41_3b s0 s8 w K (fun a0 a8 a43 a44 a45 w => F41_4 a0 a8 a43 a44 a45 w K)
theorem ok41_3 {K : Value → World → Prop} {kn kr : Env → World → Prop} {ke : Nat → Env → World → Prop}
    (hn : ∀ e w, (fun e w => K (.tuple #[(e 6), (e 7)]) w) e w → kn e w) (hr : ∀ e w, endD Try.prog [.tmp 6, .tmp 7] K e w → kr e w) (he : ∀ i e w, noE i e w → ke i e w) :
    ∀ e w, F41_3 (e 0) (e 8) w K → denL Try.prog (tabOf T41) 56 fuel ((flat (bodyOf Try.f41)).drop 6) e w kn kr ke := by
  intro e w h
  unfold F41_3 at h
  have e1 : ∀ (Y0 : Value → Value → Value → Value → Value → World → Prop), F41_3b (e 0) (e 8) w K Y0 = denL Try.prog (tabOf T41) 56 fuel (((flat (bodyOf Try.f41)).drop 6).take 1) e w (fun e w => Y0 (e 0) (e 8) (e 43) (e 44) (e 45) w) (endD Try.prog [.tmp 6, .tmp 7] K) noE := by intro Y0; kernel_rfl
  exact seg 1 (Eq.mp (e1 (fun a0 a8 a43 a44 a45 w => F41_4 a0 a8 a43 a44 a45 w K)) h) (fun e w h => ok41_4 hn hr he e w h) hr he
def F41_2b (s0 : Value) (s1 : Value) (s2 : Value) (s8 : Value) (s28 : Value) (w : World) (_K : Value → World → Prop) (Y0 : Value → Value → Value → Value → Value → World → Prop) (Y1 : Value → Value → World → Prop) : Prop :=
eNext s28 false w fun v16 w15 =>
bindP (pTuple v16 0) fun v17 =>
ifB v17 (
bindP (fEntry s28 w15) fun v18 =>
bindP (pTuple v18 1) fun v19 =>
eAlloc Try.prog 33 w15 fun v21 w20 =>
bindW (st 11 v21 v19 w20) fun w22 =>
bindP (pFieldAddr 8 v21) fun v24 =>
bindP (ld1 v24 w22) fun v25 =>
bindP (bSub s1 s2) fun v26 =>
bindP (bLe v25 v26) fun v27 =>
ifB v27 (
bindP (ldN 11 v21 w22) fun v28 =>
eBuildSl Try.prog 74 1 [(0, v28)] w22 fun v30 w29 =>
eAppend Try.prog 74 74 s8 v30 w29 fun v32 w31 =>
Y0 s0 s1 s2 v32 s28 w31) (
Y0 s0 s1 s2 s8 s28 w22)) (
Y1 s0 s8 w15)
def F41_2L : Nat → Value → Value → Value → Value → Value → World → (Value → World → Prop) → Prop
  | 0, _, _, _, _, _, _, _ => False
  | n + 1, s0, s1, s2, s8, s28, w, K => F41_2b s0 s1 s2 s8 s28 w K (fun a0 a1 a2 a8 a28 w => F41_2L n a0 a1 a2 a8 a28 w K) (fun a0 a8 w => F41_3 a0 a8 w K)
def F41_2 (s0 : Value) (s1 : Value) (s2 : Value) (s8 : Value) (s28 : Value) (w : World) (K : Value → World → Prop) : Prop := F41_2L fuel s0 s1 s2 s8 s28 w K
theorem ok41_2 {K : Value → World → Prop} {kn kr : Env → World → Prop} {ke : Nat → Env → World → Prop}
    (hn : ∀ e w, (fun e w => K (.tuple #[(e 6), (e 7)]) w) e w → kn e w) (hr : ∀ e w, endD Try.prog [.tmp 6, .tmp 7] K e w → kr e w) (he : ∀ i e w, noE i e w → ke i e w) :
    ∀ e w, F41_2 (e 0) (e 1) (e 2) (e 8) (e 28) w K → denL Try.prog (tabOf T41) 56 fuel ((flat (bodyOf Try.f41)).drop 5) e w kn kr ke := by
  intro e w h
  unfold F41_2 at h
  refine seg_loop (id := 0) (body := (loopB (blkB (nthC (flat (bodyOf Try.f41)) 5)))) (l2 := (flat (bodyOf Try.f41)).drop 6) (by kernel_rfl) ?_
  refine loop_ok (FL := fun m e w => F41_2L m (e 0) (e 1) (e 2) (e 8) (e 28) w K) (fr := endD Try.prog [.tmp 6, .tmp 7] K) (fe := (blkK 0 (fun e w => F41_3 (e 0) (e 8) w K) noE)) (fun _ _ h => h) ?_ hr (blkK_mono (fun e w h => ok41_3 hn hr he e w h) he) fuel e w h
  intro m e w h
  have h : F41_2L (m + 1) (e 0) (e 1) (e 2) (e 8) (e 28) w K := h
  rw [F41_2L] at h
  have e1 : ∀ (Y0 : Value → Value → Value → Value → Value → World → Prop) (Y1 : Value → Value → World → Prop), F41_2b (e 0) (e 1) (e 2) (e 8) (e 28) w K Y0 Y1 = denL Try.prog (tabOf T41) 56 fuel (flat (loopB (blkB (nthC (flat (bodyOf Try.f41)) 5)))) e w (fun e w => Y0 (e 0) (e 1) (e 2) (e 8) (e 28) w) (endD Try.prog [.tmp 6, .tmp 7] K) (blkK 0 (fun e w => Y1 (e 0) (e 8) w) noE) := by intro Y0 Y1; kernel_rfl
  exact Eq.mp (e1 (fun a0 a1 a2 a8 a28 w => F41_2L m a0 a1 a2 a8 a28 w K) (fun a0 a8 w => F41_3 a0 a8 w K)) h
def F41_1b (s0 : Value) (s1 : Value) (s2 : Value) (w : World) (K : Value → World → Prop) (Y0 : Value → Value → Value → Value → Value → World → Prop) : Prop :=
callP G62 [s1] w fun v34 w33 =>
bindP (uNot v34) fun v35 =>
stepM (gd false v35) s2 fun v36 =>
Sx.stepG (gd false v35) (bLt v36 (.int .i64 1)) fun v37 =>
bindP (pPick v35 (.bool true) v37) fun v38 =>
stepM (gd false v38) s2 fun v39 =>
Sx.stepG (gd false v38) (bGt v39 (.int .i64 2305843009213693952)) fun v40 =>
bindP (pPick v38 (.bool true) v40) fun v41 =>
ifB v41 (
K (.tuple #[(.slice none 0 0), (.int .i64 1)]) w33) (
bindP (pNil s0) fun v42 =>
bindP (pFieldAddr 2 v42) fun v43 =>
bindP (ld1 v43 w33) fun v44 =>
eRange Try.prog 107 v44 w33 fun v46 w45 =>
Y0 s0 s1 s2 (.slice none 0 0) v46 w45)
def F41_1 (s0 : Value) (s1 : Value) (s2 : Value) (w : World) (K : Value → World → Prop) : Prop := F41_1b s0 s1 s2 w K (fun a0 a1 a2 a8 a28 w => F41_2 a0 a1 a2 a8 a28 w K)
theorem ok41_1 {K : Value → World → Prop} {kn kr : Env → World → Prop} {ke : Nat → Env → World → Prop}
    (hn : ∀ e w, (fun e w => K (.tuple #[(e 6), (e 7)]) w) e w → kn e w) (hr : ∀ e w, endD Try.prog [.tmp 6, .tmp 7] K e w → kr e w) (he : ∀ i e w, noE i e w → ke i e w) :
    ∀ e w, F41_1 (e 0) (e 1) (e 2) w K → denL Try.prog (tabOf T41) 56 fuel ((flat (bodyOf Try.f41)).drop 0) e w kn kr ke := by
  intro e w h
  unfold F41_1 at h
  have e1 : ∀ (Y0 : Value → Value → Value → Value → Value → World → Prop), F41_1b (e 0) (e 1) (e 2) w K Y0 = denL Try.prog (tabOf T41) 56 fuel (((flat (bodyOf Try.f41)).drop 0).take 5) e w (fun e w => Y0 (e 0) (e 1) (e 2) (e 8) (e 28) w) (endD Try.prog [.tmp 6, .tmp 7] K) noE := by intro Y0; kernel_rfl
  exact seg 5 (Eq.mp (e1 (fun a0 a1 a2 a8 a28 w => F41_2 a0 a1 a2 a8 a28 w K)) h) (fun e w h => ok41_2 hn hr he e w h) hr he
def F41 (x0 : Value) (x1 : Value) (x2 : Value) (w : World) (K : Value → World → Prop) : Prop := F41_1 x0 x1 x2 w K
def G41 : FnT := fun args w K => on3 (fun x0 x1 x2 => F41 x0 x1 x2 w K) args
theorem c41 {x0 x1 x2 : Value} {w : World} {K : Value → World → Prop} (h : F41 x0 x1 x2 w K) : callP G41 [x0, x1, x2] w K := callP_intro (on3_mk (p := fun x0 x1 x2 => F41 x0 x1 x2 w K) h)
theorem ok41 : OkF Try.prog 41 G41 := by
  refine okF_of (tab_ok (l := T41) ⟨ok62, ok64, ok87, trivial⟩) mixed (n := fuel) Try.func41 Try.call41 fun args w K h => ?_
  obtain ⟨x0, x1, x2, rfl, hh⟩ := of_on3 h
  unfold F41 at hh
  exact fnD_list (c := bodyOf Try.f41) (by kernel_rfl) (by kernel_rfl) (ok41_1 (fun _ _ h => h) (fun _ _ h => h) (fun _ _ _ h => h) (initE [x0, x1, x2]) w hh)
noncomputable def aB158 := bodyOf Try.f158
noncomputable def aF158 := blkB (sB (sA (sB aB158)))
noncomputable def vB121 := bodyOf Try.f121
noncomputable def vL121 := loopB (blkB (sB vB121))
noncomputable def vM121 := blkB (sB (sB vL121))
def G158 : FnT := gAppS Try.prog 33 121 11 128
theorem ok158 : OkF Try.prog 158 G158 := by
  intro args w K ⟨κ, ν, ek, ev, fv, m, mv, bx, mt, w0, L, ha, C, hev, hfb, hbd, hs, hk⟩
  subst ha
  refine .inl ⟨Try.call158 _ _, ?_⟩
  refine (appendSeq_ok (fnF := Try.f158) (f := 158) (g := 121) (tS := 74) (tV := 33) (i0 := 0) (i1 := 1) (i2 := 2) (i3 := 3) (i4 := 4) (ops0 := opsOf (sA aB158)) (ops1 := opsOf (sA (sA (sB aB158)))) (opsA := opsOf (rfA aF158)) (opsB := opsOf (blkB (rfB aF158))) (ops4 := opsOf (sA (sB (sB aB158)))) C Try.func158 (by kernel_rfl) (by kernel_rfl) (by kernel_rfl) (fun e w k => by kernel_rfl) (fun e w k => by kernel_rfl) (fun e w k => by kernel_rfl) (fun e w k => by kernel_rfl) (fun e w k => by kernel_rfl) u74 sl74 ss74 hbd hfb _ z33 (by kernel_rfl) Try.call121 hev ?_ hs).mono ?_
  · intro l J W L' hY h
    exact values_ok (fn := Try.f121) (f := 121) (es := 11) (tM := 107) (tV := 33) (fv := fv) (i0 := 0) (i1 := 1) (i2 := 2) (i3 := 3) (ops0 := opsOf (sA vB121)) (ops1 := opsOf (sA vL121)) (ops2 := opsOf (sA vM121)) (q1 := opAt (opsOf (sA (sB vM121))) 0) (q2 := opAt (opsOf (sA (sB vM121))) 1) (q3 := opAt (opsOf (sA (sB vM121))) 2) (q4 := opAt (opsOf (sA (sB vM121))) 3) (ats := #[33]) Try.func121 (by kernel_rfl) (by kernel_rfl) (by kernel_rfl) (fun e w k => by kernel_rfl) (fun e w k => by kernel_rfl) (fun e w k => by kernel_rfl) (fun e w k => by kernel_rfl) (fun e w k => by kernel_rfl) (by kernel_rfl) (by kernel_rfl) (by kernel_rfl) um107 (fun x => ⟨hev x, C.len x, C.one x⟩) _ z33 (by kernel_rfl) J hY h
  · rintro e w' ⟨v, rfl, xs, hp, h⟩
    exact ⟨v, rfl, hk xs v w' hp h⟩
def T120 : List (Nat × FnT) := [(158, G158)]
def F120 (x0 : Value) (w : World) (K : Value → World → Prop) : Prop :=
callP G158 [(.slice none 0 0), x0] w fun v2 w1 =>
K v2 w1
def G120 : FnT := fun args w K => on1 (fun x0 => F120 x0 w K) args
theorem c120 {x0 : Value} {w : World} {K : Value → World → Prop} (h : F120 x0 w K) : callP G120 [x0] w K := callP_intro (on1_mk (p := fun x0 => F120 x0 w K) h)
theorem ok120 : OkF Try.prog 120 G120 := by
  refine okF_of (tab_ok (l := T120) ⟨ok158, trivial⟩) mixed (n := fuel) Try.func120 Try.call120 fun args w K h => ?_
  obtain ⟨x0, rfl, hh⟩ := of_on1 h
  exact fnD_list (c := bodyOf Try.f120) (by kernel_rfl) (by kernel_rfl) (Eq.mp (by kernel_rfl) hh)
def T89 : List (Nat × FnT) := [(87, G87), (120, G120)]
def F89 (x0 : Value) (x1 : Value) (w : World) (K : Value → World → Prop) : Prop :=
callP G120 [x0] w fun v2 w1 =>
callP G87 [v2, x1] w1 fun _ w3 =>
K v2 w3
def G89 : FnT := fun args w K => on2 (fun x0 x1 => F89 x0 x1 w K) args
theorem c89 {x0 x1 : Value} {w : World} {K : Value → World → Prop} (h : F89 x0 x1 w K) : callP G89 [x0, x1] w K := callP_intro (on2_mk (p := fun x0 x1 => F89 x0 x1 w K) h)
theorem ok89 : OkF Try.prog 89 G89 := by
  refine okF_of (tab_ok (l := T89) ⟨ok87, ok120, trivial⟩) mixed (n := fuel) Try.func89 Try.call89 fun args w K h => ?_
  obtain ⟨x0, x1, rfl, hh⟩ := of_on2 h
  exact fnD_list (c := bodyOf Try.f89) (by kernel_rfl) (by kernel_rfl) (Eq.mp (by kernel_rfl) hh)
def T90 : List (Nat × FnT) := []
def F90 (x0 : Value) (w : World) (K : Value → World → Prop) : Prop :=
eBox 107 x0 w fun v2 w1 =>
bindP (some (.func (.func 121) #[] #[v2])) fun v3 =>
K v3 w1
def G90 : FnT := fun args w K => on1 (fun x0 => F90 x0 w K) args
theorem c90 {x0 : Value} {w : World} {K : Value → World → Prop} (h : F90 x0 w K) : callP G90 [x0] w K := callP_intro (on1_mk (p := fun x0 => F90 x0 w K) h)
theorem ok90 : OkF Try.prog 90 G90 := by
  refine okF_of (tab_ok (l := T90) trivial) mixed (n := fuel) Try.func90 Try.call90 fun args w K h => ?_
  obtain ⟨x0, rfl, hh⟩ := of_on1 h
  exact fnD_list (c := bodyOf Try.f90) (by kernel_rfl) (by kernel_rfl) (Eq.mp (by kernel_rfl) hh)
def T42 : List (Nat × FnT) := [(89, G89), (90, G90)]
def F42 (x0 : Value) (w : World) (K : Value → World → Prop) : Prop :=
bindP (pNil x0) fun v1 =>
bindP (pFieldAddr 2 v1) fun v2 =>
bindP (ld1 v2 w) fun v3 =>
callP G90 [v3] w fun v5 w4 =>
callP G89 [v5, (.func (.func 91) #[] #[])] w4 fun v7 w6 =>
K v7 w6
def G42 : FnT := fun args w K => on1 (fun x0 => F42 x0 w K) args
theorem c42 {x0 : Value} {w : World} {K : Value → World → Prop} (h : F42 x0 w K) : callP G42 [x0] w K := callP_intro (on1_mk (p := fun x0 => F42 x0 w K) h)
theorem ok42 : OkF Try.prog 42 G42 := by
  refine okF_of (tab_ok (l := T42) ⟨ok89, ok90, trivial⟩) mixed (n := fuel) Try.func42 Try.call42 fun args w K h => ?_
  obtain ⟨x0, rfl, hh⟩ := of_on1 h
  exact fnD_list (c := bodyOf Try.f42) (by kernel_rfl) (by kernel_rfl) (Eq.mp (by kernel_rfl) hh)
def F8_3b (w : World) (K : Value → World → Prop) : Prop :=
K (.bool true) w
def F8_3 (w : World) (K : Value → World → Prop) : Prop := F8_3b w K
def F8_6b (s0 : Value) (s1 : Value) (s5 : Value) (s7 : Value) (s8 : Value) (s9 : Value) (w : World) (_K : Value → World → Prop) (R3 : Value → Value → Value → Value → Value → Value → World → Prop) : Prop :=
bindP (bAdd s9 (.int .i64 1)) fun v1 =>
R3 s0 s1 s5 s7 s8 v1 w
def F8_6 (s0 : Value) (s1 : Value) (s5 : Value) (s7 : Value) (s8 : Value) (s9 : Value) (w : World) (K : Value → World → Prop) (R3 : Value → Value → Value → Value → Value → Value → World → Prop) : Prop := F8_6b s0 s1 s5 s7 s8 s9 w K R3
def F8_13b (s0 : Value) (s1 : Value) (s5 : Value) (s7 : Value) (s8 : Value) (s9 : Value) (w : World) (K : Value → World → Prop) (R3 : Value → Value → Value → Value → Value → Value → World → Prop) (Y0 : Value → Value → Value → Value → Value → Value → World → Prop) : Prop :=
callP G17 [s5] w fun v3 w2 =>
bindP (lenM s7 w2) fun v4 =>
bindP (bNe Try.prog 3 (.tmp 235) (.tmp 237) v3 v4) fun v5 =>
ifB v5 (
K (.bool false) w2) (
Y0 s0 s1 s5 s7 s8 s9 w2)
def F8_13 (s0 : Value) (s1 : Value) (s5 : Value) (s7 : Value) (s8 : Value) (s9 : Value) (w : World) (K : Value → World → Prop) (R3 : Value → Value → Value → Value → Value → Value → World → Prop) : Prop := F8_13b s0 s1 s5 s7 s8 s9 w K R3 (fun a0 a1 a5 a7 a8 a9 w => F8_6 a0 a1 a5 a7 a8 a9 w K R3)
def F8_12b (s0 : Value) (s1 : Value) (s5 : Value) (s7 : Value) (s8 : Value) (s9 : Value) (s20 : Value) (s200 : Value) (s201 : Value) (s202 : Value) (w : World) (K : Value → World → Prop) (R3 : Value → Value → Value → Value → Value → Value → World → Prop) (Y0 : Value → Value → Value → Value → Value → Value → Value → Value → Value → Value → World → Prop) (Y1 : Value → Value → Value → Value → Value → Value → World → Prop) : Prop :=
bindP (bLt s202 s201) fun v6 =>
ifB v6 (
bindP (pIndexL 11 s200 s202) fun v7 =>
bindP (ldN 11 v7 w) fun v8 =>
eAlloc Try.prog 33 w fun v10 w9 =>
bindW (st 11 v10 v8 w9) fun w11 =>
bindP (pFieldAddr 1 v10) fun v13 =>
bindP (pFieldAddr 0 v13) fun v14 =>
bindP (ld1 v14 w11) fun v15 =>
bindP (pFieldAddr 1 v10) fun v16 =>
bindP (pFieldAddr 1 v16) fun v17 =>
bindP (ld1 v17 w11) fun v18 =>
bindP (pFieldAddr 1 v10) fun v19 =>
bindP (pFieldAddr 2 v19) fun v20 =>
bindP (ld1 v20 w11) fun v21 =>
bindP (fBuild Try.prog 79 [(0, v15), (1, v18), (2, v21)]) fun v22 =>
eAlloc Try.prog 79 w11 fun v24 w23 =>
bindW (st 3 v24 v22 w23) fun w25 =>
bindP (ldN 3 v24 w25) fun v27 =>
bindP (fLook Try.prog 77 s20 v27 false w25) fun v28 =>
stepM (gd false v28) s7 fun v29 =>
Sx.stepG (gd false v28) (pFieldAddr 0 v10) fun v30 =>
Sx.stepG (gd false v28) (ld1 v30 w25) fun v31 =>
Sx.stepG (gd false v28) (fLook Try.prog 70 v29 v31 false w25) fun v32 =>
Sx.stepG (gd false v28) (uNot v32) fun v33 =>
bindP (pPick v28 (.bool true) v33) fun v34 =>
Sx.stepG (gd false v34) (ldN 11 v10 w25) fun v35 =>
stepE (gd false v34) (fun k => callP G18 [v35] w25 k) w25 fun v37 w36 =>
Sx.stepG (gd false v34) (bNe Try.prog 24 (.tmp 228) (.const (.int .i64 0)) v37 (.int .i64 0)) fun v38 =>
bindP (pPick v34 (.bool true) v38) fun v39 =>
ifB v39 (
K (.bool false) w36) (
bindP (ldN 3 v24 w36) fun v40 =>
eMapSet Try.prog 77 s20 v40 (.bool true) w36 fun _ w41 =>
bindP (bAdd s202 (.int .i64 1)) fun v43 =>
Y0 s0 s1 s5 s7 s8 s9 s20 s200 s201 v43 w41)) (
Y1 s0 s1 s5 s7 s8 s9 w)
def F8_12L : Nat → Value → Value → Value → Value → Value → Value → Value → Value → Value → Value → World → (Value → World → Prop) → (Value → Value → Value → Value → Value → Value → World → Prop) → Prop
  | 0, _, _, _, _, _, _, _, _, _, _, _, _, _ => False
  | n + 1, s0, s1, s5, s7, s8, s9, s20, s200, s201, s202, w, K, R3 => F8_12b s0 s1 s5 s7 s8 s9 s20 s200 s201 s202 w K R3 (fun a0 a1 a5 a7 a8 a9 a20 a200 a201 a202 w => F8_12L n a0 a1 a5 a7 a8 a9 a20 a200 a201 a202 w K R3) (fun a0 a1 a5 a7 a8 a9 w => F8_13 a0 a1 a5 a7 a8 a9 w K R3)
def F8_12 (s0 : Value) (s1 : Value) (s5 : Value) (s7 : Value) (s8 : Value) (s9 : Value) (s20 : Value) (s200 : Value) (s201 : Value) (s202 : Value) (w : World) (K : Value → World → Prop) (R3 : Value → Value → Value → Value → Value → Value → World → Prop) : Prop := F8_12L fuel s0 s1 s5 s7 s8 s9 s20 s200 s201 s202 w K R3
def F8_11b (s0 : Value) (s1 : Value) (s5 : Value) (s7 : Value) (s8 : Value) (s9 : Value) (w : World) (_K : Value → World → Prop) (R3 : Value → Value → Value → Value → Value → Value → World → Prop) (Y0 : Value → Value → Value → Value → Value → Value → Value → Value → Value → Value → World → Prop) : Prop :=
eMakeMap none w fun v45 w44 =>
callP G42 [s5] w44 fun v47 w46 =>
bindP (lenL v47) fun v48 =>
Y0 s0 s1 s5 s7 s8 s9 v45 v47 v48 (.int .i64 0) w46
def F8_11 (s0 : Value) (s1 : Value) (s5 : Value) (s7 : Value) (s8 : Value) (s9 : Value) (w : World) (K : Value → World → Prop) (R3 : Value → Value → Value → Value → Value → Value → World → Prop) : Prop := F8_11b s0 s1 s5 s7 s8 s9 w K R3 (fun a0 a1 a5 a7 a8 a9 a20 a200 a201 a202 w => F8_12 a0 a1 a5 a7 a8 a9 a20 a200 a201 a202 w K R3)
def F8_16b (s0 : Value) (s1 : Value) (s5 : Value) (s7 : Value) (s8 : Value) (s9 : Value) (s17 : Value) (w : World) (K : Value → World → Prop) (R3 : Value → Value → Value → Value → Value → Value → World → Prop) (Y0 : Value → Value → Value → Value → Value → Value → World → Prop) : Prop :=
bindP (bNe Try.prog 24 (.tmp 196) (.const (.int .i64 0)) s17 (.int .i64 0)) fun v49 =>
ifB v49 (
K (.bool false) w) (
Y0 s0 s1 s5 s7 s8 s9 w)
def F8_16 (s0 : Value) (s1 : Value) (s5 : Value) (s7 : Value) (s8 : Value) (s9 : Value) (s17 : Value) (w : World) (K : Value → World → Prop) (R3 : Value → Value → Value → Value → Value → Value → World → Prop) : Prop := F8_16b s0 s1 s5 s7 s8 s9 s17 w K R3 (fun a0 a1 a5 a7 a8 a9 w => F8_11 a0 a1 a5 a7 a8 a9 w K R3)
def F8_15b (s0 : Value) (s1 : Value) (s5 : Value) (s7 : Value) (s8 : Value) (s9 : Value) (s17 : Value) (s173 : Value) (s174 : Value) (s175 : Value) (w : World) (K : Value → World → Prop) (R3 : Value → Value → Value → Value → Value → Value → World → Prop) (Y0 : Value → Value → Value → Value → Value → Value → Value → Value → Value → Value → World → Prop) (Y1 : Value → Value → Value → Value → Value → Value → Value → World → Prop) : Prop :=
bindP (bLt s175 s174) fun v50 =>
ifB v50 (
bindP (pIndexL 11 s173 s175) fun v51 =>
bindP (ldN 11 v51 w) fun v52 =>
eAlloc Try.prog 33 w fun v54 w53 =>
bindW (st 11 v54 v52 w53) fun w55 =>
bindP (pFieldAddr 0 v54) fun v57 =>
bindP (ld1 v57 w55) fun v58 =>
bindP (fLook Try.prog 70 s7 v58 false w55) fun v59 =>
bindP (uNot v59) fun v60 =>
Sx.stepG (gd false v60) (pFieldAddr 8 v54) fun v61 =>
Sx.stepG (gd false v60) (ld1 v61 w55) fun v62 =>
stepM (gd false v60) s9 fun v63 =>
Sx.stepG (gd false v60) (bMul v63 (.int .i64 10)) fun v64 =>
Sx.stepG (gd false v60) (bSub v64 (.int .i64 50)) fun v65 =>
Sx.stepG (gd false v60) (bGt v62 v65) fun v66 =>
bindP (pPick v60 (.bool true) v66) fun v67 =>
ifB v67 (
K (.bool false) w55) (
bindP (pFieldAddr 0 v54) fun v68 =>
bindP (ld1 v68 w55) fun v69 =>
eDelete Try.prog 70 s7 v69 w55 fun _ w70 =>
bindP (bAdd s175 (.int .i64 1)) fun v72 =>
Y0 s0 s1 s5 s7 s8 s9 s17 s173 s174 v72 w70)) (
Y1 s0 s1 s5 s7 s8 s9 s17 w)
def F8_15L : Nat → Value → Value → Value → Value → Value → Value → Value → Value → Value → Value → World → (Value → World → Prop) → (Value → Value → Value → Value → Value → Value → World → Prop) → Prop
  | 0, _, _, _, _, _, _, _, _, _, _, _, _, _ => False
  | n + 1, s0, s1, s5, s7, s8, s9, s17, s173, s174, s175, w, K, R3 => F8_15b s0 s1 s5 s7 s8 s9 s17 s173 s174 s175 w K R3 (fun a0 a1 a5 a7 a8 a9 a17 a173 a174 a175 w => F8_15L n a0 a1 a5 a7 a8 a9 a17 a173 a174 a175 w K R3) (fun a0 a1 a5 a7 a8 a9 a17 w => F8_16 a0 a1 a5 a7 a8 a9 a17 w K R3)
def F8_15 (s0 : Value) (s1 : Value) (s5 : Value) (s7 : Value) (s8 : Value) (s9 : Value) (s17 : Value) (s173 : Value) (s174 : Value) (s175 : Value) (w : World) (K : Value → World → Prop) (R3 : Value → Value → Value → Value → Value → Value → World → Prop) : Prop := F8_15L fuel s0 s1 s5 s7 s8 s9 s17 s173 s174 s175 w K R3
def F8_14b (s0 : Value) (s1 : Value) (s5 : Value) (s7 : Value) (s8 : Value) (s9 : Value) (w : World) (_K : Value → World → Prop) (R3 : Value → Value → Value → Value → Value → Value → World → Prop) (Y0 : Value → Value → Value → Value → Value → Value → Value → Value → Value → Value → World → Prop) : Prop :=
bindP (bMul s9 (.int .i64 10)) fun v73 =>
callP G41 [s5, v73, (.int .i64 50)] w fun v75 w74 =>
bindP (pTuple v75 0) fun v76 =>
bindP (pTuple v75 1) fun v77 =>
bindP (lenL v76) fun v78 =>
Y0 s0 s1 s5 s7 s8 s9 v77 v76 v78 (.int .i64 0) w74
def F8_14 (s0 : Value) (s1 : Value) (s5 : Value) (s7 : Value) (s8 : Value) (s9 : Value) (w : World) (K : Value → World → Prop) (R3 : Value → Value → Value → Value → Value → Value → World → Prop) : Prop := F8_14b s0 s1 s5 s7 s8 s9 w K R3 (fun a0 a1 a5 a7 a8 a9 a17 a173 a174 a175 w => F8_15 a0 a1 a5 a7 a8 a9 a17 a173 a174 a175 w K R3)
def F8_17b (s0 : Value) (s1 : Value) (s5 : Value) (s7 : Value) (s8 : Value) (s9 : Value) (w : World) (_K : Value → World → Prop) (R3 : Value → Value → Value → Value → Value → Value → World → Prop) (Y0 : Value → Value → Value → Value → Value → Value → World → Prop) : Prop :=
Y0 s0 s1 s5 s7 s8 s9 w
def F8_17 (s0 : Value) (s1 : Value) (s5 : Value) (s7 : Value) (s8 : Value) (s9 : Value) (w : World) (K : Value → World → Prop) (R3 : Value → Value → Value → Value → Value → Value → World → Prop) : Prop := F8_17b s0 s1 s5 s7 s8 s9 w K R3 (fun a0 a1 a5 a7 a8 a9 w => F8_11 a0 a1 a5 a7 a8 a9 w K R3)
def F8_10 (s0 : Value) (s1 : Value) (s5 : Value) (s7 : Value) (s8 : Value) (s9 : Value) (s165 : Value) (w : World) (K : Value → World → Prop) (R3 : Value → Value → Value → Value → Value → Value → World → Prop) : Prop := ifB s165 (F8_14 s0 s1 s5 s7 s8 s9 w K R3) (F8_17 s0 s1 s5 s7 s8 s9 w K R3)
def F8_9b (s0 : Value) (s1 : Value) (s5 : Value) (s7 : Value) (s8 : Value) (s9 : Value) (w : World) (_K : Value → World → Prop) (R3 : Value → Value → Value → Value → Value → Value → World → Prop) (Y0 : Value → Value → Value → Value → Value → Value → Value → World → Prop) : Prop :=
bindP (lenL s1) fun v79 =>
bindP (bLt s9 v79) fun v80 =>
stepM (gd true v80) s1 fun v81 =>
stepM (gd true v80) s9 fun v82 =>
Sx.stepG (gd true v80) (pIndexL 1 v81 v82) fun v83 =>
Sx.stepG (gd true v80) (ld1 v83 w) fun v84 =>
Sx.stepG (gd true v80) (bRem v84 (.int .i64 4)) fun v85 =>
Sx.stepG (gd true v80) (bEq Try.prog 3 (.tmp 163) (.const (.int .i64 1)) v85 (.int .i64 1)) fun v86 =>
bindP (pPick v80 v86 (.bool false)) fun v87 =>
Y0 s0 s1 s5 s7 s8 s9 v87 w
def F8_9 (s0 : Value) (s1 : Value) (s5 : Value) (s7 : Value) (s8 : Value) (s9 : Value) (w : World) (K : Value → World → Prop) (R3 : Value → Value → Value → Value → Value → Value → World → Prop) : Prop := F8_9b s0 s1 s5 s7 s8 s9 w K R3 (fun a0 a1 a5 a7 a8 a9 a165 w => F8_10 a0 a1 a5 a7 a8 a9 a165 w K R3)
def F8_8b (s0 : Value) (s1 : Value) (s5 : Value) (s7 : Value) (s8 : Value) (s9 : Value) (w : World) (K : Value → World → Prop) (R3 : Value → Value → Value → Value → Value → Value → World → Prop) (Y0 : Value → Value → Value → Value → Value → Value → World → Prop) : Prop :=
bindP (lenL s1) fun v88 =>
bindP (bLt s9 v88) fun v89 =>
stepM (gd true v89) s1 fun v90 =>
stepM (gd true v89) s9 fun v91 =>
Sx.stepG (gd true v89) (pIndexL 1 v90 v91) fun v92 =>
Sx.stepG (gd true v89) (ld1 v92 w) fun v93 =>
Sx.stepG (gd true v89) (bRem v93 (.int .i64 4)) fun v94 =>
Sx.stepG (gd true v89) (bEq Try.prog 3 (.tmp 130) (.const (.int .i64 0)) v94 (.int .i64 0)) fun v95 =>
bindP (pPick v89 v95 (.bool false)) fun v96 =>
ifB v96 (
bindP (pIndexL 1 s1 s9) fun v97 =>
bindP (ld1 v97 w) fun v98 =>
bindP (bAdd s8 (.int .i64 2)) fun v99 =>
callP G15 [v98, v99] w fun v101 w100 =>
callP G40 [s5, v101] w100 fun v103 w102 =>
bindP (pTuple v103 0) fun v104 =>
bindP (pTuple v103 1) fun v105 =>
eAlloc Try.prog 33 w102 fun v107 w106 =>
bindW (st 11 v107 v104 w106) fun w108 =>
bindP (bEq Try.prog 24 (.tmp 146) (.const (.int .i64 0)) v105 (.int .i64 0)) fun v110 =>
bindP (fLook Try.prog 70 s7 v101 false w108) fun v111 =>
bindP (bNe Try.prog 4 (.tmp 147) (.tmp 150) v110 v111) fun v112 =>
ifB v112 (
K (.bool false) w108) (
eDelete Try.prog 70 s7 v101 w108 fun _ w113 =>
Y0 s0 s1 s5 s7 s8 s9 w113)) (
Y0 s0 s1 s5 s7 s8 s9 w)
def F8_8 (s0 : Value) (s1 : Value) (s5 : Value) (s7 : Value) (s8 : Value) (s9 : Value) (w : World) (K : Value → World → Prop) (R3 : Value → Value → Value → Value → Value → Value → World → Prop) : Prop := F8_8b s0 s1 s5 s7 s8 s9 w K R3 (fun a0 a1 a5 a7 a8 a9 w => F8_9 a0 a1 a5 a7 a8 a9 w K R3)
def F8_7b (s0 : Value) (s1 : Value) (s5 : Value) (s7 : Value) (s8 : Value) (s9 : Value) (w : World) (K : Value → World → Prop) (R3 : Value → Value → Value → Value → Value → Value → World → Prop) (Y0 : Value → Value → Value → Value → Value → Value → World → Prop) : Prop :=
bindP (pIndexL 1 s0 s9) fun v115 =>
bindP (ld1 v115 w) fun v116 =>
callP G39 [v116] w fun v118 w117 =>
bindP (bMul s9 (.int .i64 10)) fun v119 =>
callP G16 [s5, v118, v119] w117 fun v121 w120 =>
bindP (pTuple v121 0) fun v122 =>
bindP (pTuple v121 1) fun v123 =>
bindP (pTuple v121 2) fun v124 =>
eAlloc Try.prog 33 w120 fun v126 w125 =>
bindW (st 11 v126 v122 w125) fun w127 =>
bindP (bEq Try.prog 24 (.tmp 63) (.const (.int .i64 0)) v124 (.int .i64 0)) fun v129 =>
stepM (gd true v129) v123 fun v130 =>
Sx.stepG (gd true v129) (bEq Try.prog 3 (.tmp 66) (.const (.int .i64 1)) v130 (.int .i64 1)) fun v131 =>
bindP (pPick v129 v131 (.bool false)) fun v132 =>
ifB v132 (
bindP (pFieldAddr 0 v126) fun v133 =>
bindP (ld1 v133 w127) fun v134 =>
bindP (bLe v134 s8) fun v135 =>
stepM (gd false v135) s7 fun v136 =>
Sx.stepG (gd false v135) (pFieldAddr 0 v126) fun v137 =>
Sx.stepG (gd false v135) (ld1 v137 w127) fun v138 =>
Sx.stepG (gd false v135) (fLook Try.prog 70 v136 v138 false w127) fun v139 =>
bindP (pPick v135 (.bool true) v139) fun v140 =>
ifB v140 (
K (.bool false) w127) (
bindP (pFieldAddr 0 v126) fun v141 =>
bindP (ld1 v141 w127.drew) fun v142 =>
bindP (pFieldAddr 0 v126) fun v143 =>
bindP (ld1 v143 w127.drew) fun v144 =>
eMapSet Try.prog 70 s7 v142 (.bool true) w127.drew fun _ w145 =>
Y0 s0 s1 s5 s7 v144 s9 w145)) (
bindP (bEq Try.prog 24 (.tmp 85) (.const (.int .i64 0)) v124 (.int .i64 0)) fun v147 =>
stepM (gd true v147) v123 fun v148 =>
Sx.stepG (gd true v147) (bEq Try.prog 3 (.tmp 88) (.const (.int .i64 3)) v148 (.int .i64 3)) fun v149 =>
bindP (pPick v147 v149 (.bool false)) fun v150 =>
ifB v150 (
bindP (pFieldAddr 0 v126) fun v151 =>
bindP (ld1 v151 w127) fun v152 =>
bindP (fLook Try.prog 70 s7 v152 false w127) fun v153 =>
bindP (uNot v153) fun v154 =>
ifB v154 (
K (.bool false) w127) (
bindP (pFieldAddr 0 v126) fun v155 =>
bindP (ld1 v155 w127) fun v156 =>
eDelete Try.prog 70 s7 v156 w127 fun _ w157 =>
Y0 s0 s1 s5 s7 s8 s9 w157)) (
bindP (bEq Try.prog 24 (.tmp 100) (.const (.int .i64 0)) v124 (.int .i64 0)) fun v159 =>
stepM (gd true v159) s7 fun v160 =>
Sx.stepG (gd true v159) (pFieldAddr 0 v126) fun v161 =>
Sx.stepG (gd true v159) (ld1 v161 w127) fun v162 =>
Sx.stepG (gd true v159) (fLook Try.prog 70 v160 v162 false w127) fun v163 =>
Sx.stepG (gd true v159) (uNot v163) fun v164 =>
bindP (pPick v159 v164 (.bool false)) fun v165 =>
stepM (gd false v165) v124 fun v166 =>
Sx.stepG (gd false v165) (bNe Try.prog 24 (.tmp 110) (.const (.int .i64 0)) v166 (.int .i64 0)) fun v167 =>
stepM (gd false v165) v167 fun v168 =>
stepM (gd true v168) v124 fun v169 =>
Sx.stepG (gd true v168) (bNe Try.prog 24 (.tmp 113) (.const (.int .i64 5)) v169 (.int .i64 5)) fun v170 =>
Sx.stepG (gd false v165) (pPick v168 v170 (.bool false)) fun v171 =>
stepM (gd false v165) v171 fun v172 =>
stepM (gd true v172) v124 fun v173 =>
Sx.stepG (gd true v172) (bNe Try.prog 24 (.tmp 117) (.const (.int .i64 200)) v173 (.int .i64 200)) fun v174 =>
Sx.stepG (gd false v165) (pPick v172 v174 (.bool false)) fun v175 =>
bindP (pPick v165 (.bool true) v175) fun v176 =>
ifB v176 (
K (.bool false) w127) (
Y0 s0 s1 s5 s7 s8 s9 w127)))
def F8_7 (s0 : Value) (s1 : Value) (s5 : Value) (s7 : Value) (s8 : Value) (s9 : Value) (w : World) (K : Value → World → Prop) (R3 : Value → Value → Value → Value → Value → Value → World → Prop) : Prop := F8_7b s0 s1 s5 s7 s8 s9 w K R3 (fun a0 a1 a5 a7 a8 a9 w => F8_8 a0 a1 a5 a7 a8 a9 w K R3)
def F8_5 (s0 : Value) (s1 : Value) (s5 : Value) (s7 : Value) (s8 : Value) (s9 : Value) (w : World) (K : Value → World → Prop) (R3 : Value → Value → Value → Value → Value → Value → World → Prop) : Prop := F8_7 s0 s1 s5 s7 s8 s9 w K R3
def F8_4b (s0 : Value) (s1 : Value) (s5 : Value) (s7 : Value) (s8 : Value) (s9 : Value) (w : World) (_K : Value → World → Prop) (R3 : Value → Value → Value → Value → Value → Value → World → Prop) (Y0 : Value → Value → Value → Value → Value → Value → World → Prop) (Y1 : World → Prop) : Prop :=
bindP (lenL s0) fun v177 =>
bindP (bLt s9 v177) fun v178 =>
stepM (gd true v178) s9 fun v179 =>
Sx.stepG (gd true v178) (bLt v179 (.int .i64 100)) fun v180 =>
bindP (pPick v178 v180 (.bool false)) fun v181 =>
ifB v181 (
Y0 s0 s1 s5 s7 s8 s9 w) (
Y1 w)
def F8_4 (s0 : Value) (s1 : Value) (s5 : Value) (s7 : Value) (s8 : Value) (s9 : Value) (w : World) (K : Value → World → Prop) (R3 : Value → Value → Value → Value → Value → Value → World → Prop) : Prop := F8_4b s0 s1 s5 s7 s8 s9 w K R3 (fun a0 a1 a5 a7 a8 a9 w => F8_5 a0 a1 a5 a7 a8 a9 w K R3) (fun w => F8_3 w K)
def F8_2L : Nat → Value → Value → Value → Value → Value → Value → World → (Value → World → Prop) → Prop
  | 0, _, _, _, _, _, _, _, _ => False
  | n + 1, s0, s1, s5, s7, s8, s9, w, K => F8_4 s0 s1 s5 s7 s8 s9 w K (fun a0 a1 a5 a7 a8 a9 w => F8_2L n a0 a1 a5 a7 a8 a9 w K)
def F8_2 (s0 : Value) (s1 : Value) (s5 : Value) (s7 : Value) (s8 : Value) (s9 : Value) (w : World) (K : Value → World → Prop) : Prop := F8_2L fuel s0 s1 s5 s7 s8 s9 w K
def F8_1b (s0 : Value) (s1 : Value) (w : World) (K : Value → World → Prop) (Y0 : Value → Value → Value → Value → Value → Value → World → Prop) : Prop :=
callP G13 [(.int .i64 8)] w fun v183 w182 =>
bindP (pTuple v183 0) fun v184 =>
bindP (pTuple v183 1) fun v185 =>
bindP (bEq Try.prog 23 (.tmp 28) (.const (.pointer none)) v184 (.pointer none)) fun v186 =>
stepM (gd false v186) v185 fun v187 =>
Sx.stepG (gd false v186) (bNe Try.prog 24 (.tmp 31) (.const (.int .i64 0)) v187 (.int .i64 0)) fun v188 =>
bindP (pPick v186 (.bool true) v188) fun v189 =>
stepE (gd false v189) (fun k => callP G14 [] w182 k) w182 fun v191 w190 =>
Sx.stepG (gd false v189) (uNot v191) fun v192 =>
bindP (pPick v189 (.bool true) v192) fun v193 =>
ifB v193 (
K (.bool false) w190) (
eMakeMap none w190 fun v195 w194 =>
Y0 s0 s1 v184 v195 (.int .i64 0) (.int .i64 0) w194)
def F8_1 (s0 : Value) (s1 : Value) (w : World) (K : Value → World → Prop) : Prop := F8_1b s0 s1 w K (fun a0 a1 a5 a7 a8 a9 w => F8_2 a0 a1 a5 a7 a8 a9 w K)
def F8 (x0 : Value) (x1 : Value) (w : World) (K : Value → World → Prop) : Prop := F8_1 x0 x1 w K
def G8 : FnT := fun args w K => on2 (fun x0 x1 => F8 x0 x1 w K) args
theorem c8 {x0 x1 : Value} {w : World} {K : Value → World → Prop} (h : F8 x0 x1 w K) : callP G8 [x0, x1] w K := callP_intro (on2_mk (p := fun x0 x1 => F8 x0 x1 w K) h)
def T43 : List (Nat × FnT) := [(66, G66), (67, G67)]
def F43 (x0 : Value) (x1 : Value) (x2 : Value) (w : World) (K : Value → World → Prop) : Prop :=
eAlloc Try.prog 33 w fun v2 w1 =>
bindP (pNil x0) fun v3 =>
bindP (pFieldAddr 2 v3) fun v4 =>
bindP (ld1 v4 w1) fun v5 =>
bindP (fLook Try.prog 107 v5 x1 true w1) fun v6 =>
bindP (pTuple v6 0) fun v7 =>
bindP (pTuple v6 1) fun v8 =>
eAlloc Try.prog 33 w1 fun v10 w9 =>
bindW (st 11 v10 v7 w9) fun w11 =>
bindP (uNot v8) fun v13 =>
ifB v13 (
bindP (fBuild Try.prog 33 []) fun v14 =>
bindW (st 11 v2 v14 w11) fun w15 =>
bindP (ldN 11 v2 w15) fun v17 =>
K (.tuple #[v17, (.int .i64 5)]) w15) (
callP G67 [x2] w11 fun v19 w18 =>
bindP (uNot v19) fun v20 =>
ifB v20 (
bindP (fBuild Try.prog 33 []) fun v21 =>
bindW (st 11 v2 v21 w18) fun w22 =>
bindP (ldN 11 v2 w22) fun v24 =>
K (.tuple #[v24, (.int .i64 1)]) w22) (
bindP (pFieldAddr 9 v10) fun v25 =>
bindP (ld1 v25 w18) fun v26 =>
ifB v26 (
bindP (fBuild Try.prog 33 []) fun v27 =>
bindW (st 11 v2 v27 w18) fun w28 =>
bindP (ldN 11 v2 w28) fun v30 =>
K (.tuple #[v30, (.int .i64 6)]) w28) (
bindP (pFieldAddr 9 v10) fun v31 =>
bindW (st 1 v31 (.bool true) w18) fun w32 =>
bindP (pFieldAddr 10 v10) fun v34 =>
bindW (st 1 v34 x2 w32) fun w35 =>
bindP (ldN 11 v10 w35) fun v37 =>
callP G66 [x0, v37] w35 fun _ w38 =>
bindP (ldN 11 v10 w38) fun v40 =>
bindW (st 11 v2 v40 w38) fun w41 =>
bindP (ldN 11 v2 w41) fun v43 =>
K (.tuple #[v43, (.int .i64 0)]) w41)))
def G43 : FnT := fun args w K => on3 (fun x0 x1 x2 => F43 x0 x1 x2 w K) args
theorem c43 {x0 x1 x2 : Value} {w : World} {K : Value → World → Prop} (h : F43 x0 x1 x2 w K) : callP G43 [x0, x1, x2] w K := callP_intro (on3_mk (p := fun x0 x1 x2 => F43 x0 x1 x2 w K) h)
theorem ok43 : OkF Try.prog 43 G43 := by
  refine okF_of (tab_ok (l := T43) ⟨ok66, ok67, trivial⟩) mixed (n := fuel) Try.func43 Try.call43 fun args w K h => ?_
  obtain ⟨x0, x1, x2, rfl, hh⟩ := of_on3 h
  exact fnD_list (c := bodyOf Try.f43) (by kernel_rfl) (by kernel_rfl) (Eq.mp (by kernel_rfl) hh)
def T44 : List (Nat × FnT) := [(18, G18), (63, G63), (66, G66)]
def F44_5b (s0 : Value) (s2 : Value) (w : World) (K : Value → World → Prop) : Prop :=
bindP (pNil s0) fun v1 =>
bindP (pFieldAddr 1 v1) fun v2 =>
bindW (st 1 v2 s2 w) fun w3 =>
K (.int .i64 0) w3
def F44_5 (s0 : Value) (s2 : Value) (w : World) (K : Value → World → Prop) : Prop := F44_5b s0 s2 w K
theorem ok44_5 {K : Value → World → Prop} {kn kr : Env → World → Prop} {ke : Nat → Env → World → Prop}
    (hn : ∀ e w, (fun e w => K (e 6) w) e w → kn e w) (hr : ∀ e w, endD Try.prog [.tmp 6] K e w → kr e w) (he : ∀ i e w, noE i e w → ke i e w) :
    ∀ e w, F44_5 (e 0) (e 2) w K → denL Try.prog (tabOf T44) 106 fuel ((flat (bodyOf Try.f44)).drop 12) e w kn kr ke := by
  intro e w h
  unfold F44_5 at h
  have e1 : ∀ (_ : Unit), F44_5b (e 0) (e 2) w K = denL Try.prog (tabOf T44) 106 fuel ((flat (bodyOf Try.f44)).drop 12) e w (fun e w => K (e 6) w) (endD Try.prog [.tmp 6] K) noE := by intro _; kernel_rfl
  exact seg_end (Eq.mp (e1 ()) h) hn hr he
def F44_4b (s0 : Value) (s2 : Value) (s92 : Value) (s93 : Value) (s94 : Value) (w : World) (_K : Value → World → Prop) (Y0 : Value → Value → Value → Value → Value → World → Prop) (Y1 : Value → Value → World → Prop) : Prop :=
bindP (bLt s94 s93) fun v5 =>
ifB v5 (
bindP (pIndexL 11 s92 s94) fun v6 =>
bindP (ldN 11 v6 w) fun v7 =>
eAlloc Try.prog 33 w fun v9 w8 =>
bindW (st 11 v9 v7 w8) fun w10 =>
bindP (ldN 11 v9 w10) fun v12 =>
callP G66 [s0, v12] w10 fun _ w13 =>
bindP (bAdd s94 (.int .i64 1)) fun v15 =>
Y0 s0 s2 s92 s93 v15 w13) (
Y1 s0 s2 w)
def F44_4L : Nat → Value → Value → Value → Value → Value → World → (Value → World → Prop) → Prop
  | 0, _, _, _, _, _, _, _ => False
  | n + 1, s0, s2, s92, s93, s94, w, K => F44_4b s0 s2 s92 s93 s94 w K (fun a0 a2 a92 a93 a94 w => F44_4L n a0 a2 a92 a93 a94 w K) (fun a0 a2 w => F44_5 a0 a2 w K)
def F44_4 (s0 : Value) (s2 : Value) (s92 : Value) (s93 : Value) (s94 : Value) (w : World) (K : Value → World → Prop) : Prop := F44_4L fuel s0 s2 s92 s93 s94 w K
theorem ok44_4 {K : Value → World → Prop} {kn kr : Env → World → Prop} {ke : Nat → Env → World → Prop}
    (hn : ∀ e w, (fun e w => K (e 6) w) e w → kn e w) (hr : ∀ e w, endD Try.prog [.tmp 6] K e w → kr e w) (he : ∀ i e w, noE i e w → ke i e w) :
    ∀ e w, F44_4 (e 0) (e 2) (e 92) (e 93) (e 94) w K → denL Try.prog (tabOf T44) 106 fuel ((flat (bodyOf Try.f44)).drop 11) e w kn kr ke := by
  intro e w h
  unfold F44_4 at h
  refine seg_loop (id := 2) (body := (loopB (blkB (nthC (flat (bodyOf Try.f44)) 11)))) (l2 := (flat (bodyOf Try.f44)).drop 12) (by kernel_rfl) ?_
  refine loop_ok (FL := fun m e w => F44_4L m (e 0) (e 2) (e 92) (e 93) (e 94) w K) (fr := endD Try.prog [.tmp 6] K) (fe := (blkK 2 (fun e w => F44_5 (e 0) (e 2) w K) noE)) (fun _ _ h => h) ?_ hr (blkK_mono (fun e w h => ok44_5 hn hr he e w h) he) fuel e w h
  intro m e w h
  have h : F44_4L (m + 1) (e 0) (e 2) (e 92) (e 93) (e 94) w K := h
  rw [F44_4L] at h
  have e1 : ∀ (Y0 : Value → Value → Value → Value → Value → World → Prop) (Y1 : Value → Value → World → Prop), F44_4b (e 0) (e 2) (e 92) (e 93) (e 94) w K Y0 Y1 = denL Try.prog (tabOf T44) 106 fuel (flat (loopB (blkB (nthC (flat (bodyOf Try.f44)) 11)))) e w (fun e w => Y0 (e 0) (e 2) (e 92) (e 93) (e 94) w) (endD Try.prog [.tmp 6] K) (blkK 2 (fun e w => Y1 (e 0) (e 2) w) noE) := by intro Y0 Y1; kernel_rfl
  exact Eq.mp (e1 (fun a0 a2 a92 a93 a94 w => F44_4L m a0 a2 a92 a93 a94 w K) (fun a0 a2 w => F44_5 a0 a2 w K)) h
def F44_3b (s0 : Value) (s1 : Value) (s2 : Value) (w : World) (K : Value → World → Prop) (Y0 : Value → Value → Value → Value → Value → World → Prop) : Prop :=
bindP (lenL s1) fun v16 =>
bindP (pNil s0) fun v17 =>
bindP (pFieldAddr 0 v17) fun v18 =>
bindP (ld1 v18 w) fun v19 =>
bindP (bGt v16 v19) fun v20 =>
ifB v20 (
K (.int .i64 200) w) (
bindP (pNil s0) fun v21 =>
bindP (pFieldAddr 2 v21) fun v22 =>
bindP (ld1 v22 w) fun v23 =>
eClear Try.prog 107 v23 w fun _ w24 =>
bindP (pNil s0) fun v26 =>
bindP (pFieldAddr 3 v26) fun v27 =>
bindP (ld1 v27 w24) fun v28 =>
eClear Try.prog 108 v28 w24 fun _ w29 =>
bindP (lenL s1) fun v31 =>
Y0 s0 s2 s1 v31 (.int .i64 0) w29)
def F44_3 (s0 : Value) (s1 : Value) (s2 : Value) (w : World) (K : Value → World → Prop) : Prop := F44_3b s0 s1 s2 w K (fun a0 a2 a92 a93 a94 w => F44_4 a0 a2 a92 a93 a94 w K)
theorem ok44_3 {K : Value → World → Prop} {kn kr : Env → World → Prop} {ke : Nat → Env → World → Prop}
    (hn : ∀ e w, (fun e w => K (e 6) w) e w → kn e w) (hr : ∀ e w, endD Try.prog [.tmp 6] K e w → kr e w) (he : ∀ i e w, noE i e w → ke i e w) :
    ∀ e w, F44_3 (e 0) (e 1) (e 2) w K → denL Try.prog (tabOf T44) 106 fuel ((flat (bodyOf Try.f44)).drop 6) e w kn kr ke := by
  intro e w h
  unfold F44_3 at h
  have e1 : ∀ (Y0 : Value → Value → Value → Value → Value → World → Prop), F44_3b (e 0) (e 1) (e 2) w K Y0 = denL Try.prog (tabOf T44) 106 fuel (((flat (bodyOf Try.f44)).drop 6).take 5) e w (fun e w => Y0 (e 0) (e 2) (e 92) (e 93) (e 94) w) (endD Try.prog [.tmp 6] K) noE := by intro Y0; kernel_rfl
  exact seg 5 (Eq.mp (e1 (fun a0 a2 a92 a93 a94 w => F44_4 a0 a2 a92 a93 a94 w K)) h) (fun e w h => ok44_4 hn hr he e w h) hr he
def F44_2b (s0 : Value) (s1 : Value) (s2 : Value) (s7 : Value) (s31 : Value) (s32 : Value) (s33 : Value) (w : World) (K : Value → World → Prop) (Y0 : Value → Value → Value → Value → Value → Value → Value → World → Prop) (Y1 : Value → Value → Value → World → Prop) : Prop :=
bindP (bLt s33 s32) fun v32 =>
ifB v32 (
bindP (pIndexL 11 s31 s33) fun v33 =>
bindP (ldN 11 v33 w) fun v34 =>
eAlloc Try.prog 33 w fun v36 w35 =>
bindW (st 11 v36 v34 w35) fun w37 =>
bindP (pNil s7) fun v39 =>
bindP (pFieldAddr 2 v39) fun v40 =>
bindP (ld1 v40 w37.drew) fun v41 =>
bindP (pFieldAddr 0 v36) fun v42 =>
bindP (ld1 v42 w37.drew) fun v43 =>
bindP (fLook Try.prog 107 v41 v43 true w37.drew) fun v44 =>
bindP (pTuple v44 0) fun v45 =>
bindP (pTuple v44 1) fun v46 =>
eAlloc Try.prog 33 w37.drew fun v48 w47 =>
(fok true (ld1 v40 w47) v41 ∧ fok true (ld1 v42 w47) v43 ∧ fok true (fLook Try.prog 107 v41 v43 true w47) v44) ∧ (bindW (st 11 v48 v45 w47) fun w49 =>
bindP (pNil s7) fun v51 =>
bindP (pFieldAddr 3 v51) fun v52 =>
bindP (ld1 v52 w49.drew) fun v53 =>
bindP (pFieldAddr 1 v36) fun v54 =>
bindP (ldN 5 v54 w49.drew) fun v55 =>
callP G63 [v55] w49.drew fun v57 w56 =>
fok true (ld1 v52 w56) v53 ∧ (bindP (fLook Try.prog 108 v53 v57 true w56) fun v58 =>
bindP (pTuple v58 0) fun _ =>
bindP (pTuple v58 1) fun v60 =>
bindP (ldN 11 v36 w56) fun v61 =>
callP G18 [v61] w56 fun v63 w62 =>
bindP (bNe Try.prog 24 (.tmp 59) (.const (.int .i64 0)) v63 (.int .i64 0)) fun v64 =>
Sx.stepG (gd false v64) (pFieldAddr 0 v36) fun v65 =>
Sx.stepG (gd false v64) (ld1 v65 w62) fun v66 =>
stepM (gd false v64) s2 fun v67 =>
Sx.stepG (gd false v64) (bGe v66 v67) fun v68 =>
bindP (pPick v64 (.bool true) v68) fun v69 =>
stepM (gd false v69) v46 fun v70 =>
bindP (pPick v69 (.bool true) v70) fun v71 =>
stepM (gd false v71) v60 fun v72 =>
bindP (pPick v71 (.bool true) v72) fun v73 =>
ifB v73 (
K (.int .i64 4) w62) (
bindP (ldN 11 v36 w62) fun v74 =>
callP G66 [s7, v74] w62 fun _ w75 =>
bindP (bAdd s33 (.int .i64 1)) fun v77 =>
Y0 s0 s1 s2 s7 s31 s32 v77 w75)))) (
Y1 s0 s1 s2 w)
def F44_2L : Nat → Value → Value → Value → Value → Value → Value → Value → World → (Value → World → Prop) → Prop
  | 0, _, _, _, _, _, _, _, _, _ => False
  | n + 1, s0, s1, s2, s7, s31, s32, s33, w, K => F44_2b s0 s1 s2 s7 s31 s32 s33 w K (fun a0 a1 a2 a7 a31 a32 a33 w => F44_2L n a0 a1 a2 a7 a31 a32 a33 w K) (fun a0 a1 a2 w => F44_3 a0 a1 a2 w K)
def F44_2 (s0 : Value) (s1 : Value) (s2 : Value) (s7 : Value) (s31 : Value) (s32 : Value) (s33 : Value) (w : World) (K : Value → World → Prop) : Prop := F44_2L fuel s0 s1 s2 s7 s31 s32 s33 w K
theorem ok44_2 {K : Value → World → Prop} {kn kr : Env → World → Prop} {ke : Nat → Env → World → Prop}
    (hn : ∀ e w, (fun e w => K (e 6) w) e w → kn e w) (hr : ∀ e w, endD Try.prog [.tmp 6] K e w → kr e w) (he : ∀ i e w, noE i e w → ke i e w) :
    ∀ e w, F44_2 (e 0) (e 1) (e 2) (e 7) (e 31) (e 32) (e 33) w K → denL Try.prog (tabOf T44) 106 fuel ((flat (bodyOf Try.f44)).drop 5) e w kn kr ke := by
  intro e w h
  unfold F44_2 at h
  refine seg_loop (id := 0) (body := (loopB (blkB (nthC (flat (bodyOf Try.f44)) 5)))) (l2 := (flat (bodyOf Try.f44)).drop 6) (by kernel_rfl) ?_
  refine loop_ok (FL := fun m e w => F44_2L m (e 0) (e 1) (e 2) (e 7) (e 31) (e 32) (e 33) w K) (fr := endD Try.prog [.tmp 6] K) (fe := (blkK 0 (fun e w => F44_3 (e 0) (e 1) (e 2) w K) noE)) (fun _ _ h => h) ?_ hr (blkK_mono (fun e w h => ok44_3 hn hr he e w h) he) fuel e w h
  intro m e w h
  have h : F44_2L (m + 1) (e 0) (e 1) (e 2) (e 7) (e 31) (e 32) (e 33) w K := h
  rw [F44_2L] at h
  have e1 : ∀ (Y0 : Value → Value → Value → Value → Value → Value → Value → World → Prop) (Y1 : Value → Value → Value → World → Prop), F44_2b (e 0) (e 1) (e 2) (e 7) (e 31) (e 32) (e 33) w K Y0 Y1 = denL Try.prog (tabOf T44) 106 fuel (flat (loopB (blkB (nthC (flat (bodyOf Try.f44)) 5)))) e w (fun e w => Y0 (e 0) (e 1) (e 2) (e 7) (e 31) (e 32) (e 33) w) (endD Try.prog [.tmp 6] K) (blkK 0 (fun e w => Y1 (e 0) (e 1) (e 2) w) noE) := by intro Y0 Y1; kernel_rfl
  exact Eq.mp (e1 (fun a0 a1 a2 a7 a31 a32 a33 w => F44_2L m a0 a1 a2 a7 a31 a32 a33 w K) (fun a0 a1 a2 w => F44_3 a0 a1 a2 w K)) h
def F44_1b (s0 : Value) (s1 : Value) (s2 : Value) (w : World) (K : Value → World → Prop) (Y0 : Value → Value → Value → Value → Value → Value → Value → World → Prop) : Prop :=
bindP (bLt s2 (.int .i64 1)) fun v78 =>
stepM (gd false v78) s2 fun v79 =>
Sx.stepG (gd false v78) (bGt v79 (.int .i64 1152921504606846976)) fun v80 =>
bindP (pPick v78 (.bool true) v80) fun v81 =>
ifB v81 (
K (.int .i64 4) w) (
bindP (pNil s0) fun v82 =>
bindP (pFieldAddr 0 v82) fun v83 =>
bindP (ld1 v83 w) fun v84 =>
eMakeMap none w fun v86 w85 =>
eMakeMap none w85 fun v88 w87 =>
bindP (fBuild Try.prog 110 [(0, v84), (1, s2), (2, v86), (3, v88)]) fun v89 =>
eBox 110 v89 w87 fun v91 w90 =>
bindP (lenL s1) fun v92 =>
Y0 s0 s1 s2 v91 s1 v92 (.int .i64 0) w90)
def F44_1 (s0 : Value) (s1 : Value) (s2 : Value) (w : World) (K : Value → World → Prop) : Prop := F44_1b s0 s1 s2 w K (fun a0 a1 a2 a7 a31 a32 a33 w => F44_2 a0 a1 a2 a7 a31 a32 a33 w K)
theorem ok44_1 {K : Value → World → Prop} {kn kr : Env → World → Prop} {ke : Nat → Env → World → Prop}
    (hn : ∀ e w, (fun e w => K (e 6) w) e w → kn e w) (hr : ∀ e w, endD Try.prog [.tmp 6] K e w → kr e w) (he : ∀ i e w, noE i e w → ke i e w) :
    ∀ e w, F44_1 (e 0) (e 1) (e 2) w K → denL Try.prog (tabOf T44) 106 fuel ((flat (bodyOf Try.f44)).drop 0) e w kn kr ke := by
  intro e w h
  unfold F44_1 at h
  have e1 : ∀ (Y0 : Value → Value → Value → Value → Value → Value → Value → World → Prop), F44_1b (e 0) (e 1) (e 2) w K Y0 = denL Try.prog (tabOf T44) 106 fuel (((flat (bodyOf Try.f44)).drop 0).take 5) e w (fun e w => Y0 (e 0) (e 1) (e 2) (e 7) (e 31) (e 32) (e 33) w) (endD Try.prog [.tmp 6] K) noE := by intro Y0; kernel_rfl
  exact seg 5 (Eq.mp (e1 (fun a0 a1 a2 a7 a31 a32 a33 w => F44_2 a0 a1 a2 a7 a31 a32 a33 w K)) h) (fun e w h => ok44_2 hn hr he e w h) hr he
def F44 (x0 : Value) (x1 : Value) (x2 : Value) (w : World) (K : Value → World → Prop) : Prop := F44_1 x0 x1 x2 w K
def G44 : FnT := fun args w K => on3 (fun x0 x1 x2 => F44 x0 x1 x2 w K) args
theorem c44 {x0 x1 x2 : Value} {w : World} {K : Value → World → Prop} (h : F44 x0 x1 x2 w K) : callP G44 [x0, x1, x2] w K := callP_intro (on3_mk (p := fun x0 x1 x2 => F44 x0 x1 x2 w K) h)
theorem ok44 : OkF Try.prog 44 G44 := by
  refine okF_of (tab_ok (l := T44) ⟨ok18, ok63, ok66, trivial⟩) mixed (n := fuel) Try.func44 Try.call44 fun args w K h => ?_
  obtain ⟨x0, x1, x2, rfl, hh⟩ := of_on3 h
  unfold F44 at hh
  exact fnD_list (c := bodyOf Try.f44) (by kernel_rfl) (by kernel_rfl) (ok44_1 (fun _ _ h => h) (fun _ _ h => h) (fun _ _ _ h => h) (initE [x0, x1, x2]) w hh)
def T45 : List (Nat × FnT) := []
def F45 (x0 : Value) (w : World) (K : Value → World → Prop) : Prop :=
bindP (pNil x0) fun v1 =>
bindP (pFieldAddr 1 v1) fun v2 =>
bindP (ld1 v2 w) fun v3 =>
K v3 w
def G45 : FnT := fun args w K => on1 (fun x0 => F45 x0 w K) args
theorem c45 {x0 : Value} {w : World} {K : Value → World → Prop} (h : F45 x0 w K) : callP G45 [x0] w K := callP_intro (on1_mk (p := fun x0 => F45 x0 w K) h)
theorem ok45 : OkF Try.prog 45 G45 := by
  refine okF_of (tab_ok (l := T45) trivial) mixed (n := fuel) Try.func45 Try.call45 fun args w K h => ?_
  obtain ⟨x0, rfl, hh⟩ := of_on1 h
  exact fnD_list (c := bodyOf Try.f45) (by kernel_rfl) (by kernel_rfl) (Eq.mp (by kernel_rfl) hh)
def T46 : List (Nat × FnT) := []
def F46_3b (w : World) (K : Value → World → Prop) : Prop :=
K (.bool true) w
def F46_3 (w : World) (K : Value → World → Prop) : Prop := F46_3b w K
theorem ok46_3 {K : Value → World → Prop} {kn kr : Env → World → Prop} {ke : Nat → Env → World → Prop}
    (hn : ∀ e w, (fun e w => K (e 4) w) e w → kn e w) (hr : ∀ e w, endD Try.prog [.tmp 4] K e w → kr e w) (he : ∀ i e w, noE i e w → ke i e w) :
    ∀ e w, F46_3 w K → denL Try.prog (tabOf T46) 26 fuel ((flat (bodyOf Try.f46)).drop 5) e w kn kr ke := by
  intro e w h
  unfold F46_3 at h
  have e1 : ∀ (_ : Unit), F46_3b w K = denL Try.prog (tabOf T46) 26 fuel ((flat (bodyOf Try.f46)).drop 5) e w (fun e w => K (e 4) w) (endD Try.prog [.tmp 4] K) noE := by intro _; kernel_rfl
  exact seg_end (Eq.mp (e1 ()) h) hn hr he
def F46_2b (s0 : Value) (s1 : Value) (s5 : Value) (w : World) (K : Value → World → Prop) (Y0 : Value → Value → Value → World → Prop) (Y1 : World → Prop) : Prop :=
bindP (lenL s0) fun v1 =>
bindP (bLt s5 v1) fun v2 =>
ifB v2 (
bindP (pIndexL 11 s0 s5) fun v3 =>
bindP (ldN 11 v3 w.drew) fun v4 =>
bindP (pIndexL 11 s1 s5) fun v5 =>
bindP (ldN 11 v5 w.drew) fun v6 =>
bindP (bNe Try.prog 33 (.tmp 20) (.tmp 24) v4 v6) fun v7 =>
ifB v7 (
K (.bool false) w.drew) (
bindP (bAdd s5 (.int .i64 1)) fun v8 =>
Y0 s0 s1 v8 w.drew)) (
Y1 w)
def F46_2L : Nat → Value → Value → Value → World → (Value → World → Prop) → Prop
  | 0, _, _, _, _, _ => False
  | n + 1, s0, s1, s5, w, K => F46_2b s0 s1 s5 w K (fun a0 a1 a5 w => F46_2L n a0 a1 a5 w K) (fun w => F46_3 w K)
def F46_2 (s0 : Value) (s1 : Value) (s5 : Value) (w : World) (K : Value → World → Prop) : Prop := F46_2L fuel s0 s1 s5 w K
theorem ok46_2 {K : Value → World → Prop} {kn kr : Env → World → Prop} {ke : Nat → Env → World → Prop}
    (hn : ∀ e w, (fun e w => K (e 4) w) e w → kn e w) (hr : ∀ e w, endD Try.prog [.tmp 4] K e w → kr e w) (he : ∀ i e w, noE i e w → ke i e w) :
    ∀ e w, F46_2 (e 0) (e 1) (e 5) w K → denL Try.prog (tabOf T46) 26 fuel ((flat (bodyOf Try.f46)).drop 4) e w kn kr ke := by
  intro e w h
  unfold F46_2 at h
  refine seg_loop (id := 0) (body := (loopB (blkB (nthC (flat (bodyOf Try.f46)) 4)))) (l2 := (flat (bodyOf Try.f46)).drop 5) (by kernel_rfl) ?_
  refine loop_ok (FL := fun m e w => F46_2L m (e 0) (e 1) (e 5) w K) (fr := endD Try.prog [.tmp 4] K) (fe := (blkK 0 (fun e w => F46_3 w K) noE)) (fun _ _ h => h) ?_ hr (blkK_mono (fun e w h => ok46_3 hn hr he e w h) he) fuel e w h
  intro m e w h
  have h : F46_2L (m + 1) (e 0) (e 1) (e 5) w K := h
  rw [F46_2L] at h
  have e1 : ∀ (Y0 : Value → Value → Value → World → Prop) (Y1 : World → Prop), F46_2b (e 0) (e 1) (e 5) w K Y0 Y1 = denL Try.prog (tabOf T46) 26 fuel (flat (loopB (blkB (nthC (flat (bodyOf Try.f46)) 4)))) e w (fun e w => Y0 (e 0) (e 1) (e 5) w) (endD Try.prog [.tmp 4] K) (blkK 0 (fun e w => Y1 w) noE) := by intro Y0 Y1; kernel_rfl
  exact Eq.mp (e1 (fun a0 a1 a5 w => F46_2L m a0 a1 a5 w K) (fun w => F46_3 w K)) h
def F46_1b (s0 : Value) (s1 : Value) (w : World) (K : Value → World → Prop) (Y0 : Value → Value → Value → World → Prop) : Prop :=
bindP (lenL s0) fun v9 =>
bindP (lenL s1) fun v10 =>
bindP (bNe Try.prog 3 (.tmp 7) (.tmp 9) v9 v10) fun v11 =>
ifB v11 (
K (.bool false) w) (
Y0 s0 s1 (.int .i64 0) w)
def F46_1 (s0 : Value) (s1 : Value) (w : World) (K : Value → World → Prop) : Prop := F46_1b s0 s1 w K (fun a0 a1 a5 w => F46_2 a0 a1 a5 w K)
theorem ok46_1 {K : Value → World → Prop} {kn kr : Env → World → Prop} {ke : Nat → Env → World → Prop}
    (hn : ∀ e w, (fun e w => K (e 4) w) e w → kn e w) (hr : ∀ e w, endD Try.prog [.tmp 4] K e w → kr e w) (he : ∀ i e w, noE i e w → ke i e w) :
    ∀ e w, F46_1 (e 0) (e 1) w K → denL Try.prog (tabOf T46) 26 fuel ((flat (bodyOf Try.f46)).drop 0) e w kn kr ke := by
  intro e w h
  unfold F46_1 at h
  have e1 : ∀ (Y0 : Value → Value → Value → World → Prop), F46_1b (e 0) (e 1) w K Y0 = denL Try.prog (tabOf T46) 26 fuel (((flat (bodyOf Try.f46)).drop 0).take 4) e w (fun e w => Y0 (e 0) (e 1) (e 5) w) (endD Try.prog [.tmp 4] K) noE := by intro Y0; kernel_rfl
  exact seg 4 (Eq.mp (e1 (fun a0 a1 a5 w => F46_2 a0 a1 a5 w K)) h) (fun e w h => ok46_2 hn hr he e w h) hr he
def F46 (x0 : Value) (x1 : Value) (w : World) (K : Value → World → Prop) : Prop := F46_1 x0 x1 w K
def G46 : FnT := fun args w K => on2 (fun x0 x1 => F46 x0 x1 w K) args
theorem c46 {x0 x1 : Value} {w : World} {K : Value → World → Prop} (h : F46 x0 x1 w K) : callP G46 [x0, x1] w K := callP_intro (on2_mk (p := fun x0 x1 => F46 x0 x1 w K) h)
theorem ok46 : OkF Try.prog 46 G46 := by
  refine okF_of (tab_ok (l := T46) trivial) mixed (n := fuel) Try.func46 Try.call46 fun args w K h => ?_
  obtain ⟨x0, x1, rfl, hh⟩ := of_on2 h
  unfold F46 at hh
  exact fnD_list (c := bodyOf Try.f46) (by kernel_rfl) (by kernel_rfl) (ok46_1 (fun _ _ h => h) (fun _ _ h => h) (fun _ _ _ h => h) (initE [x0, x1]) w hh)
def T88 : List (Nat × FnT) := [(116, G116), (117, G117)]
def F88 (x0 : Value) (x1 : Value) (w : World) (K : Value → World → Prop) : Prop :=
eBox 33 x0 w fun v2 w1 =>
eBox 33 x1 w1 fun v4 w3 =>
bindP (pFieldAddr 8 v2) fun v5 =>
bindP (ld1 v5 w3.drew) fun v6 =>
bindP (pFieldAddr 8 v4) fun v7 =>
bindP (ld1 v7 w3.drew) fun v8 =>
bindP (pFieldAddr 0 v2) fun v9 =>
bindP (ld1 v9 w3.drew) fun v10 =>
bindP (pFieldAddr 0 v4) fun v11 =>
bindP (ld1 v11 w3.drew) fun v12 =>
callP G117 [v6, v8] w3.drew fun v14 w13 =>
(fok true (ld1 v9 w13) v10 ∧ fok true (ld1 v11 w13) v12) ∧ (callP G117 [v10, v12] w13 fun v16 w15 =>
eBuildSl Try.prog 22 2 [(0, v14), (1, v16)] w15 fun v18 w17 =>
callP G116 [v18] w17 fun v20 w19 =>
K v20 w19)
def G88 : FnT := fun args w K => on2 (fun x0 x1 => F88 x0 x1 w K) args
theorem c88 {x0 x1 : Value} {w : World} {K : Value → World → Prop} (h : F88 x0 x1 w K) : callP G88 [x0, x1] w K := callP_intro (on2_mk (p := fun x0 x1 => F88 x0 x1 w K) h)
theorem ok88 : OkF Try.prog 88 G88 := by
  refine okF_of (tab_ok (l := T88) ⟨ok116, ok117, trivial⟩) mixed (n := fuel) Try.func88 Try.call88 fun args w K h => ?_
  obtain ⟨x0, x1, rfl, hh⟩ := of_on2 h
  exact fnD_list (c := bodyOf Try.f88) (by kernel_rfl) (by kernel_rfl) (Eq.mp (by kernel_rfl) hh)
def T91 : List (Nat × FnT) := [(117, G117)]
def F91 (x0 : Value) (x1 : Value) (w : World) (K : Value → World → Prop) : Prop :=
eBox 33 x0 w fun v2 w1 =>
eBox 33 x1 w1 fun v4 w3 =>
bindP (pFieldAddr 0 v2) fun v5 =>
bindP (ld1 v5 w3) fun v6 =>
bindP (pFieldAddr 0 v4) fun v7 =>
bindP (ld1 v7 w3) fun v8 =>
callP G117 [v6, v8] w3 fun v10 w9 =>
K v10 w9
def G91 : FnT := fun args w K => on2 (fun x0 x1 => F91 x0 x1 w K) args
theorem c91 {x0 x1 : Value} {w : World} {K : Value → World → Prop} (h : F91 x0 x1 w K) : callP G91 [x0, x1] w K := callP_intro (on2_mk (p := fun x0 x1 => F91 x0 x1 w K) h)
theorem ok91 : OkF Try.prog 91 G91 := by
  refine okF_of (tab_ok (l := T91) ⟨ok117, trivial⟩) mixed (n := fuel) Try.func91 Try.call91 fun args w K h => ?_
  obtain ⟨x0, x1, rfl, hh⟩ := of_on2 h
  exact fnD_list (c := bodyOf Try.f91) (by kernel_rfl) (by kernel_rfl) (Eq.mp (by kernel_rfl) hh)
end Go.Proofs.Gong

/- Be1 -/
namespace Go.Proofs.Gong
open Go Go.Sx Go.Proofs
set_option maxRecDepth 100000
attribute [local irreducible] fBuild fLook fZero eqv bEqv Cl MapH LsH SlH ld1 ldN st callP eBox eAlloc lenM lenL eMapSet eDelete eAppend eBuildSl eRange eNext
theorem CR : Cod cRow 11 := ⟨fun _ => rfl, fun _ => rfl, by omega⟩
instance : CodC cRow 11 := ⟨CR⟩
instance : Inhabited Row := ⟨zeroR⟩
def BoardA (v : Value) (n next : Int) (rs : List Row) : HP := HEx fun R => HEx fun I => HPr (BInv n next R I rs ∧ 1 ≤ next ∧ next ≤ 4611686018427387904) (BoardI v n next R I)
def idV (x y : Row) : Int := if x.id < y.id then -1 else if y.id < x.id then 1 else 0
def idLt (x y : Row) : Bool := decide (x.id < y.id)
theorem idSWO : SWO idLt := by
  constructor <;> intros <;> simp_all [idLt] <;> omega
theorem idV_neg (x y : Row) : idV x y < 0 ↔ idLt x y = true := by unfold idV idLt; split <;> (try split) <;> simp_all
section
variable {w0 w : World} {L : List HP} {K : Value → World → Prop} {v : Value} {n next : Int} {R : List (Int × Row)} {I : List (Sg × Int)} {rs : List Row} {r : Row}
theorem boardA_iff : Sat w0 (BoardA v n next rs :: L) w ↔ ∃ R I, (BInv n next R I rs ∧ 1 ≤ next ∧ next ≤ 4611686018427387904) ∧ Sat w0 (BoardI v n next R I :: L) w := by
  simp only [BoardA, Sat.ex_iff, Sat.pr_iff]
theorem boardA_inv (h : Sat w0 (BoardA v n next rs :: L) w) : ∃ R I, BInv n next R I rs := by
  obtain ⟨R, I, H, _⟩ := boardA_iff.1 h
  exact ⟨R, I, H.1⟩
theorem byid_calls (W : World) (x y : Row) : callP G91 [.agg (cRow x).toArray, .agg (cRow y).toArray] W fun v w' => v = .int .i64 (idV x y) ∧ Gr W w' := by
  refine c91 ?_
  unfold F91
  refine eBox_ex (Sat.start W) (Gr.refl W) fun p w1 h1 g1 => ?_
  refine eBox_ex h1 g1 fun q w2 h2 g2 => ?_
  have hp := h2.f1.cl
  have hq := h2.cl
  simp only [cRow, cells_agg] at hp hq
  simp [ptr, cell_of hp, cell_of hq]
  exact cmp_spec ⟨rfl, g2⟩
theorem bnext_spec (h : Sat w0 (BoardA v n next rs :: L) w) (hK : K (.int .i64 next) w) : callP G45 [v] w K := by
  refine c45 ?_
  unfold F45
  replace h := boardA_iff.1 h
  obtain ⟨R, I, H, h⟩ := h
  replace h := board_iff.1 h
  obtain ⟨p, mr, mi, rfl, h⟩ := h
  have h2 : Nth [Value.int .i64 n, .int .i64 next, mr, mi] 1 (.int .i64 next) := inferInstance
  (repeat (first
 | (simp (disch := omega) only [evA, evB, evC, bAdd_i64, bSub_i64])
 | (with_reducible apply go_ld1 h)
 | ((with_reducible first | apply go_ldA h | apply go_rd h | apply go_rdN h | apply go_rlen h); rfl)
 | (with_reducible first | apply go_ldN h | apply go_lenL h)
 | ((with_reducible apply go_st h); intro _ h)
 | ((with_reducible apply go_stA h); rfl; rfl; (first | rfl | simp [OneV.o]); intro _ h)
 | ((with_reducible apply go_stN h); rfl; (first | rfl | simp [OneV.o]); intro _ h)
 | ((with_reducible apply go_box h); rfl; intro _ _ h)
 | ((with_reducible apply go_ix h); omega)
 | ((with_reducible first | apply go_elN h | apply go_f1 h | apply go_rf1 h | apply go_rel h); (case hi => omega); (try case hx => exact inferInstance); (try case hv => rfl))
 | ((with_reducible apply go_fa h); omega; omega)
))
  exact hK
theorem balen_spec (h : Sat w0 (BoardA v n next rs :: L) w) (hK : K (.int .i64 rs.length) w) : callP G17 [v] w K := by
  replace h := boardA_iff.1 h
  obtain ⟨R, I, H, h⟩ := h
  refine blen_spec h ?_
  rw [H.1.len]; exact hK
theorem banew_spec (h1 : 1 ≤ n) (h2 : n ≤ 65536) (h : Sat w0 L w) (hK : ∀ p w', Sat w0 (BoardA (ptr p) n 1 [] :: L) w' → K (.tuple #[ptr p, .int .i64 0]) w') : callP G13 [.int .i64 n] w K :=
  bnew_spec h h1 h2 fun p w h => hK p w (boardA_iff.2 ⟨[], [], ⟨.start h1 h2 1, by omega, by omega⟩, h⟩)
theorem fbRow (x : Row) : fBuildSl Try.prog 33 1 [(0, .agg (cRow x).toArray)] = some (cRow x).toArray := by kernel_rfl
theorem baall_spec (h : Sat w0 (BoardA v n next rs :: L) w) (hK : ∀ s w', Sat w0 (LsH cRow 11 33 s rs :: BoardA v n next rs :: L) w' → K s w') : callP G42 [v] w K := by
  refine c42 ?_
  unfold F42
  replace h := boardA_iff.1 h
  obtain ⟨R, I, H, h⟩ := h
  replace h := board_iff.1 h
  obtain ⟨p, mr, mi, rfl, h⟩ := h
  obtain ⟨r1, _, _, ⟨rfl, _⟩, _⟩ := map_iff.1 (h.frt (A := MapH kI rowV mr R))
  (repeat (first
 | (simp (disch := omega) only [evA, evB, evC, bAdd_i64, bSub_i64])
 | (with_reducible apply go_ld1 h)
 | ((with_reducible first | apply go_ldA h | apply go_rd h | apply go_rdN h | apply go_rlen h); rfl)
 | (with_reducible first | apply go_ldN h | apply go_lenL h)
 | ((with_reducible apply go_st h); intro _ h)
 | ((with_reducible apply go_stA h); rfl; rfl; (first | rfl | simp [OneV.o]); intro _ h)
 | ((with_reducible apply go_stN h); rfl; (first | rfl | simp [OneV.o]); intro _ h)
 | ((with_reducible apply go_box h); rfl; intro _ _ h)
 | ((with_reducible apply go_ix h); omega)
 | ((with_reducible first | apply go_elN h | apply go_f1 h | apply go_rf1 h | apply go_rel h); (case hi => omega); (try case hx => exact inferInstance); (try case hv => rfl))
 | ((with_reducible apply go_fa h); omega; omega)
))
  refine c90 ?_
  unfold F90
  (repeat (first
 | (simp (disch := omega) only [evA, evB, evC, bAdd_i64, bSub_i64])
 | (with_reducible apply go_ld1 h)
 | ((with_reducible first | apply go_ldA h | apply go_rd h | apply go_rdN h | apply go_rlen h); rfl)
 | (with_reducible first | apply go_ldN h | apply go_lenL h)
 | ((with_reducible apply go_st h); intro _ h)
 | ((with_reducible apply go_stA h); rfl; rfl; (first | rfl | simp [OneV.o]); intro _ h)
 | ((with_reducible apply go_stN h); rfl; (first | rfl | simp [OneV.o]); intro _ h)
 | ((with_reducible apply go_box h); rfl; intro _ _ h)
 | ((with_reducible apply go_ix h); omega)
 | ((with_reducible first | apply go_elN h | apply go_f1 h | apply go_rf1 h | apply go_rel h); (case hi => omega); (try case hx => exact inferInstance); (try case hv => rfl))
 | ((with_reducible apply go_fa h); omega; omega)
))
  refine c89 ?_
  unfold F89
  refine c120 ?_
  unfold F120
  have hb := H.1.bd
  refine appS_sat (ek := kI) (ev := rowV) (fv := cRow) (m := R) (L := Cl p #[.int .i64 n, .int .i64 next, .map (some r1), mi] 110 :: MapH ekS kI mi I :: L) CR (fun _ => rfl) fbRow (by rw [H.1.len]; omega) (h.got) fun l s w hp h => ?_
  have hll : l.length = rs.length := by
    have := hp.length_eq
    rw [List.length_map, H.1.len] at this; exact this
  refine sortF_sat (lt := idLt) (cf := idV) (l := l) h (by omega) CR idSWO idV_neg ok91 Try.call91 byid_calls fun l' w h3 h4 h => ?_
  have el : l' = rs := by
    refine List.Perm.eq_of_pairwise (le := fun a b : Row => idLt b a = false) (fun a b ha hb h1 h2 => ?_) h4 (H.1.asc.imp fun h => by simp [idLt]; omega) ((h3.trans hp).trans H.1.pm)
    have hp2 := (h3.trans hp).trans H.1.pm
    simp [idLt] at h1 h2
    exact rasc_eq H.1.asc (hp2.mem_iff.1 ha) hb (by omega)
  subst el
  exact hK _ _ (Sat.f1 (boardA_iff.2 ⟨R, I, H, board_iff.2 ⟨p, _, mi, rfl, h.got⟩⟩))
theorem baclose_spec {id : Int} (h : Sat w0 (BoardA v n next rs :: L) w)
    (hK0 : (∀ r ∈ rs, r.id ≠ id) → ∀ w', Sat w0 (BoardA v n next rs :: L) w' → K (.tuple #[rowV zeroR, .int .i64 5]) w')
    (hK1 : ∀ r ∈ rs, r.id = id → ∀ w', Sat w0 (BoardA v n next (remL id rs) :: L) w' → K (.tuple #[rowV r, .int .i64 0]) w') : callP G40 [v, .int .i64 id] w K := by
  refine c40 ?_
  unfold F40
  replace h := boardA_iff.1 h
  obtain ⟨R, I, H, h⟩ := h
  replace h := board_iff.1 h
  obtain ⟨p, mr, mi, rfl, h⟩ := h
  have := map_one (h.frt (A := MapH kI rowV mr R))
  have := map_one (h.frt (A := MapH ekS kI mi I))
  refine go_alloc h zR rfl fun _ _ h => ?_
  (repeat (first
 | (simp (disch := omega) only [evA, evB, evC, bAdd_i64, bSub_i64])
 | (with_reducible apply go_ld1 h)
 | ((with_reducible first | apply go_ldA h | apply go_rd h | apply go_rdN h | apply go_rlen h); rfl)
 | (with_reducible first | apply go_ldN h | apply go_lenL h)
 | ((with_reducible apply go_st h); intro _ h)
 | ((with_reducible apply go_stA h); rfl; rfl; (first | rfl | simp [OneV.o]); intro _ h)
 | ((with_reducible apply go_stN h); rfl; (first | rfl | simp [OneV.o]); intro _ h)
 | ((with_reducible apply go_box h); rfl; intro _ _ h)
 | ((with_reducible apply go_ix h); omega)
 | ((with_reducible first | apply go_elN h | apply go_f1 h | apply go_rf1 h | apply go_rel h); (case hi => omega); (try case hx => exact inferInstance); (try case hv => rfl))
 | ((with_reducible apply go_fa h); omega; omega)
))
  refine go_look2 h (by repeat (first | exact .here | apply Fnt.there)) KIr um107 zR id ?_
  rw [elimR]
  (repeat (first
 | (simp (disch := omega) only [evA, evB, evC, bAdd_i64, bSub_i64])
 | (with_reducible apply go_ld1 h)
 | ((with_reducible first | apply go_ldA h | apply go_rd h | apply go_rdN h | apply go_rlen h); rfl)
 | (with_reducible first | apply go_ldN h | apply go_lenL h)
 | ((with_reducible apply go_st h); intro _ h)
 | ((with_reducible apply go_stA h); rfl; rfl; (first | rfl | simp [OneV.o]); intro _ h)
 | ((with_reducible apply go_stN h); rfl; (first | rfl | simp [OneV.o]); intro _ h)
 | ((with_reducible apply go_box h); rfl; intro _ _ h)
 | ((with_reducible apply go_ix h); omega)
 | ((with_reducible first | apply go_elN h | apply go_f1 h | apply go_rf1 h | apply go_rel h); (case hi => omega); (try case hx => exact inferInstance); (try case hv => rfl))
 | ((with_reducible apply go_fa h); omega; omega)
))
  refine go_alloc h zR rfl fun _ _ h => ?_
  cases hg : aGet id R with
  | none =>
    simp only [Option.getD_none, Option.isSome_none]
    (repeat (first
 | (simp (disch := omega) only [evA, evB, evC, bAdd_i64, bSub_i64])
 | (refine go_some (fb33 ..) ?_)
 | (with_reducible apply go_ld1 h)
 | ((with_reducible first | apply go_ldA h | apply go_rd h | apply go_rdN h | apply go_rlen h); rfl)
 | (with_reducible first | apply go_ldN h | apply go_lenL h)
 | ((with_reducible apply go_st h); intro _ h)
 | ((with_reducible apply go_stA h); rfl; rfl; (first | rfl | simp [OneV.o]); intro _ h)
 | ((with_reducible apply go_stN h); rfl; (first | rfl | simp [OneV.o]); intro _ h)
 | ((with_reducible apply go_box h); rfl; intro _ _ h)
 | ((with_reducible apply go_ix h); omega)
 | ((with_reducible first | apply go_elN h | apply go_f1 h | apply go_rf1 h | apply go_rel h); (case hi => omega); (try case hx => exact inferInstance); (try case hv => rfl))
 | ((with_reducible apply go_fa h); omega; omega)
))
    refine hK0 (fun c hc e => ?_) _ (boardA_iff.2 ⟨R, I, H, board_iff.2 ⟨p, mr, mi, rfl, h.got⟩⟩)
    have h1 := H.1.get hc
    rw [e, hg] at h1; cases h1
  | some x =>
    obtain ⟨hc, hid⟩ := H.1.mem hg
    subst hid
    simp only [Option.getD_some, Option.isSome_some]
    (repeat (first
 | (simp (disch := omega) only [evA, evB, evC, bAdd_i64, bSub_i64])
 | (with_reducible apply go_ld1 h)
 | ((with_reducible first | apply go_ldA h | apply go_rd h | apply go_rdN h | apply go_rlen h); rfl)
 | (with_reducible first | apply go_ldN h | apply go_lenL h)
 | ((with_reducible apply go_st h); intro _ h)
 | ((with_reducible apply go_stA h); rfl; rfl; (first | rfl | simp [OneV.o]); intro _ h)
 | ((with_reducible apply go_stN h); rfl; (first | rfl | simp [OneV.o]); intro _ h)
 | ((with_reducible apply go_box h); rfl; intro _ _ h)
 | ((with_reducible apply go_ix h); omega)
 | ((with_reducible first | apply go_elN h | apply go_f1 h | apply go_rf1 h | apply go_rel h); (case hi => omega); (try case hx => exact inferInstance); (try case hv => rfl))
 | ((with_reducible apply go_fa h); omega; omega)
))
    refine take_bspec (r := x) (v := ptr p) (n := n) (next := next) (R := R) (I := I) (L := _ :: _ :: L) (board_iff.2 ⟨p, mr, mi, rfl, h.got⟩) fun w h => ?_
    (repeat (first
 | (simp (disch := omega) only [evA, evB, evC, bAdd_i64, bSub_i64])
 | (with_reducible apply go_ld1 h)
 | ((with_reducible first | apply go_ldA h | apply go_rd h | apply go_rdN h | apply go_rlen h); rfl)
 | (with_reducible first | apply go_ldN h | apply go_lenL h)
 | ((with_reducible apply go_st h); intro _ h)
 | ((with_reducible apply go_stA h); rfl; rfl; (first | rfl | simp [OneV.o]); intro _ h)
 | ((with_reducible apply go_stN h); rfl; (first | rfl | simp [OneV.o]); intro _ h)
 | ((with_reducible apply go_box h); rfl; intro _ _ h)
 | ((with_reducible apply go_ix h); omega)
 | ((with_reducible first | apply go_elN h | apply go_f1 h | apply go_rf1 h | apply go_rel h); (case hi => omega); (try case hx => exact inferInstance); (try case hv => rfl))
 | ((with_reducible apply go_fa h); omega; omega)
))
    exact hK1 x hc rfl _ (boardA_iff.2 ⟨_, _, ⟨H.1.rem hc, H.2⟩, h.got⟩)
end
end Go.Proofs.Gong

/- Be2 -/
namespace Go.Proofs.Gong
open Go Go.Sx Go.Proofs
set_option maxRecDepth 100000
def raiseA (n next : Int) (rs : List Row) (e : Evt) (now : Int) : (Row × Int × Int) × Int × List Row :=
  if okE e = false then ((zeroR, 0, 180), next, rs) else
  if timeP now = false then ((zeroR, 0, 1), next, rs) else
  match rs.find? fun d => decide (sgOf d.e = sgOf e) with
  | none => if e.level = 0 then ((zeroR, 0, 5), next, rs) else if n ≤ (rs.length : Int) then ((zeroR, 0, 200), next, rs) else
    ((⟨next, e, 1, now, now, false, []⟩, 1, 0), next + 1, rs ++ [⟨next, e, 1, now, now, false, []⟩])
  | some r => if e.level = 0 then ((r, 3, 0), next, remL r.id rs) else (((againP r e now).1, (againP r e now).2, 0), next, replL (againP r e now).1 rs)
theorem insR_last {r : Row} {rs : List Row} (h : ∀ d ∈ rs, d.id < r.id) : insR r rs = rs ++ [r] := by
  induction rs with
  | nil => rfl
  | cons d rs ih =>
    have hd := h d (by simp)
    have e : insR r (d :: rs) = d :: insR r rs := by simp [insR, hd]
    rw [e, ih fun x hx => h x (List.mem_cons_of_mem _ hx)]
    rfl
theorem again_e {r : Row} {e : Evt} {now : Int} (h : sgOf r.e = sgOf e) : (againP r e now).1.e = e := by
  unfold sgOf at h
  simp only [Prod.mk.injEq] at h
  obtain ⟨n, c, k, l, t⟩ := e
  unfold againP
  split
  · rename_i g; simp only at h g ⊢; rw [h.1, h.2.1, h.2.2, g]
  · split <;> (simp only at h ⊢; rw [h.1, h.2.1, h.2.2])
theorem again_id {r : Row} {e : Evt} {now : Int} : (againP r e now).1.id = r.id := by unfold againP; split <;> (try split) <;> rfl
theorem okE_level {e : Evt} (h : okE e = true) : 0 ≤ e.level := by
  unfold okE at h
  simp only [Bool.and_eq_true, decide_eq_true_eq] at h
  omega
theorem okR_new {next now : Int} {e : Evt} (h1 : okE e = true) (h2 : timeP now = true) (h3 : e.level ≠ 0) (h4 : 1 ≤ next) : okR ⟨next, e, 1, now, now, false, []⟩ = true := by
  have := okE_level h1
  unfold okR timesR whoR
  simp [h1, h2, h4]
  omega
theorem okR_parts {r : Row} (h : okR r = true) : 1 ≤ r.id ∧ 1 ≤ r.e.level ∧ 1 ≤ r.tally ∧ r.tally ≤ 1099511627776 ∧ timeP r.first = true ∧ timeP r.last = true ∧ r.first ≤ r.last ∧ whoR r = true ∧ okE r.e = true := by
  unfold okR timesR at h
  simp only [Bool.and_eq_true, decide_eq_true_eq] at h
  exact ⟨h.1.1.1.1.1.1, h.1.1.1.1.1.2, h.1.1.1.1.2, h.1.1.1.2, h.1.1.2.1.1, h.1.1.2.1.2, h.1.1.2.2, h.1.2, h.2⟩
theorem okR_again {r : Row} {e : Evt} {now : Int} (h : okR r = true) (he : okE e = true) (ht : timeP now = true) (hl : e.level ≠ 0) (hs : sgOf r.e = sgOf e) : okR (againP r e now).1 = true := by
  obtain ⟨h1, h2, h3, h4, h5, h6, h7, h8, h9⟩ := okR_parts h
  have hle := okE_level he
  have e1 := again_e (now := now) hs
  have e2 : okE (againP r e now).1.e = true := by rw [e1]; exact he
  have e3 : 1 ≤ (againP r e now).1.e.level := by rw [e1]; omega
  have tm : timeP (max r.last now) = true := by
    unfold timeP at h6 ht ⊢
    simp only [Bool.and_eq_true, decide_eq_true_eq] at h6 ht ⊢
    omega
  have e4 : timesR (againP r e now).1 = true := by
    have key : (againP r e now).1.first = r.first ∧ (againP r e now).1.last = max r.last now := by unfold againP; split <;> (try split) <;> exact ⟨rfl, rfl⟩
    unfold timesR
    rw [key.1, key.2, h5, tm]
    simp; omega
  have e5 : whoR (againP r e now).1 = true := by
    unfold againP
    split
    · exact h8
    · split
      · rfl
      · exact h8
  have e6 : (againP r e now).1.tally = min (r.tally + 1) 1099511627776 := by unfold againP; split <;> (try split) <;> rfl
  unfold okR
  rw [e2, e4, e5, again_id, e6]
  simp only [Bool.and_true, Bool.and_eq_true, decide_eq_true_eq]
  omega
attribute [local irreducible] fBuild fLook fZero eqv bEqv Cl MapH LsH SlH ld1 ldN st callP eBox eAlloc lenM lenL eMapSet eDelete eAppend eBuildSl eRange eNext
section
variable {w0 w : World} {L : List HP} {K : Value → World → Prop} {v : Value} {n next : Int} {R : List (Int × Row)} {I : List (Sg × Int)} {rs : List Row} {r : Row}
theorem raiseA_inv {e : Evt} {now : Int} (H : BInv n next R I rs) (hn : 1 ≤ next) : (raiseP n next R I e now).1 = (raiseA n next rs e now).1 ∧ (raiseP n next R I e now).2.1 = (raiseA n next rs e now).2.1 ∧
    BInv n (raiseA n next rs e now).2.1 (raiseP n next R I e now).2.2.1 (raiseP n next R I e now).2.2.2 (raiseA n next rs e now).2.2 ∧ next ≤ (raiseA n next rs e now).2.1 ∧ (raiseA n next rs e now).2.1 ≤ next + 1 := by
  unfold raiseP raiseA
  by_cases g1 : okE e = false
  · simp only [if_pos g1]
    exact ⟨by trivial, by trivial, H, by omega, by omega⟩
  by_cases g2 : timeP now = false
  · simp only [if_neg g1, if_pos g2]
    exact ⟨by trivial, by trivial, H, by omega, by omega⟩
  have g1' : okE e = true := by simpa using g1
  have g2' : timeP now = true := by simpa using g2
  simp only [if_neg g1, if_neg g2]
  rw [H.find]
  cases hf : rs.find? fun d => decide (sgOf d.e = sgOf e) with
  | none =>
    simp only [Option.map_none]
    rw [H.len]
    by_cases g3 : e.level = 0
    · simp only [if_pos g3]; exact ⟨by trivial, by trivial, H, by omega, by omega⟩
    by_cases g4 : n ≤ (rs.length : Int)
    · simp only [if_neg g3, if_pos g4]; exact ⟨by trivial, by trivial, H, by omega, by omega⟩
    simp only [if_neg g3, if_neg g4]
    refine ⟨by trivial, by trivial, ?_, by omega, by omega⟩
    rw [List.find?_eq_none] at hf
    have hlt : ∀ d ∈ rs, d.id < next := fun d hd => (H.ok d hd).2
    have H' : BInv n (next + 1) R I rs := ⟨H.pm, H.key, H.asc, H.pI, H.sg, H.bd, fun d hd => ⟨(H.ok d hd).1, by have := hlt d hd; omega⟩⟩
    have := H'.ins (r := ⟨next, e, 1, now, now, false, []⟩) (okR_new g1' g2' g3 hn) (fun d hd he => by have := hf d hd; simp [he] at this) (fun d hd he => by have := hlt d hd; simp at he; omega) (by omega) (by show next < next + 1; omega)
    rw [insR_last (r := ⟨next, e, 1, now, now, false, []⟩) hlt] at this
    exact this
  | some r =>
    have hr := List.mem_of_find?_eq_some hf
    have hs := List.find?_some hf
    simp only [decide_eq_true_eq] at hs
    simp only [Option.map_some, H.get hr, Option.getD_some]
    by_cases g3 : e.level = 0
    · simp only [if_pos g3]; exact ⟨by trivial, by trivial, H.rem hr, by omega, by omega⟩
    simp only [if_neg g3]
    refine ⟨by trivial, by trivial, H.repl (okR_again (H.ok r hr).1 g1' g2' g3 hs) hr again_id.symm (by rw [again_e hs]; exact hs), by omega, by omega⟩
theorem baraise_spec {e : Evt} {now : Int} (he : e.fits) (hn : next + 1 ≤ 4611686018427387904) (h : Sat w0 (BoardA v n next rs :: L) w)
    (hK : ∀ w', Sat w0 (BoardA v n (raiseA n next rs e now).2.1 (raiseA n next rs e now).2.2 :: L) w' →
      K (.tuple #[rowV (raiseA n next rs e now).1.1, .int .i64 (raiseA n next rs e now).1.2.1, .int .i64 (raiseA n next rs e now).1.2.2]) w') :
    callP G16 [v, evV e, .int .i64 now] w K := by
  replace h := boardA_iff.1 h
  obtain ⟨R, I, ⟨H, hn1, hn2⟩, h⟩ := h
  obtain ⟨e1, e2, H2, e3, e4⟩ := raiseA_inv (e := e) (now := now) H hn1
  refine raise_spec he (by omega) (fun id r hg => ?_) h fun w h => ?_
  · have := okR_parts (H.ok r (H.mem hg).1).1
    omega
  · rw [e1, e2] at *
    exact hK w (boardA_iff.2 ⟨_, _, ⟨H2, by omega, by omega⟩, by rw [e2] at h; exact h⟩)
end
end Go.Proofs.Gong

/- Be3 -/
namespace Go.Proofs.Gong
open Go Go.Sx Go.Proofs
set_option maxRecDepth 100000
attribute [local irreducible] fBuild fLook fZero eqv bEqv Cl MapH LsH SlH ld1 ldN st callP eBox eAlloc lenM lenL eMapSet eDelete eAppend eBuildSl eRange eNext
section
variable {w0 w : World} {L : List HP} {K : Value → World → Prop} {v : Value} {n next : Int} {R : List (Int × Row)} {I : List (Sg × Int)} {rs : List Row} {r : Row}
end
end Go.Proofs.Gong

/- Be4 -/
namespace Go.Proofs.Gong
open Go Go.Sx Go.Proofs
set_option maxRecDepth 100000
attribute [local irreducible] fBuild fLook fZero eqv bEqv Cl MapH LsH SlH ld1 ldN st callP eBox eAlloc lenM lenL eMapSet eDelete eAppend eBuildSl eRange eNext
section
variable {w0 w : World} {L : List HP} {K : Value → World → Prop} {v : Value} {n next : Int} {R : List (Int × Row)} {I : List (Sg × Int)} {rs : List Row} {r : Row}
theorem okR_ack {r : Row} {who : List UInt8} (h : okR r = true) (hw : whoP who = true) : okR { r with acked := true, who := who } = true := by
  obtain ⟨h1, h2, h3, h4, h5, h6, h7, h8, h9⟩ := okR_parts h
  unfold okR timesR whoR
  simp [h1, h2, h3, h4, h5, h6, h7, h9, hw]
theorem baack_spec {id : Int} {who : List UInt8} (hwho : who.length < 1073741824) (h : Sat w0 (BoardA v n next rs :: L) w)
    (hK0 : ∀ c : Int, ((c = 5 ∧ ∀ r ∈ rs, r.id ≠ id) ∨ (c = 1 ∧ whoP who = false ∧ ∃ r ∈ rs, r.id = id) ∨ (c = 6 ∧ whoP who = true ∧ ∃ r ∈ rs, r.id = id ∧ r.acked = true)) → ∀ w', Sat w0 (BoardA v n next rs :: L) w' → K (.tuple #[rowV zeroR, .int .i64 c]) w')
    (hK1 : ∀ r ∈ rs, r.id = id → r.acked = false → whoP who = true → ∀ w', Sat w0 (BoardA v n next (replL { r with acked := true, who := who } rs) :: L) w' → K (.tuple #[rowV { r with acked := true, who := who }, .int .i64 0]) w') : callP G43 [v, .int .i64 id, .string (bs who)] w K := by
  refine c43 ?_
  unfold F43
  replace h := boardA_iff.1 h
  obtain ⟨R, I, H, h⟩ := h
  replace h := board_iff.1 h
  obtain ⟨p, mr, mi, rfl, h⟩ := h
  have := map_one (h.frt (A := MapH kI rowV mr R))
  have := map_one (h.frt (A := MapH ekS kI mi I))
  have close : ∀ {w : World} {L' : List HP}, Sat w0 L' w → Get L' (Cl p #[.int .i64 n, .int .i64 next, mr, mi] 110 :: MapH kI rowV mr R :: MapH ekS kI mi I :: L) → Sat w0 (BoardA (ptr p) n next rs :: L) w := fun h g => boardA_iff.2 ⟨R, I, H, board_iff.2 ⟨p, mr, mi, rfl, h.get g⟩⟩
  refine go_alloc h zR rfl fun _ _ h => ?_
  (repeat (first
 | (simp (disch := omega) only [evA, evB, evC, bAdd_i64, bSub_i64])
 | (with_reducible apply go_ld1 h)
 | ((with_reducible first | apply go_ldA h | apply go_rd h | apply go_rdN h | apply go_rlen h); rfl)
 | (with_reducible first | apply go_ldN h | apply go_lenL h)
 | ((with_reducible apply go_st h); intro _ h)
 | ((with_reducible apply go_stA h); rfl; rfl; (first | rfl | simp [OneV.o]); intro _ h)
 | ((with_reducible apply go_stN h); rfl; (first | rfl | simp [OneV.o]); intro _ h)
 | ((with_reducible apply go_box h); rfl; intro _ _ h)
 | ((with_reducible apply go_ix h); omega)
 | ((with_reducible first | apply go_elN h | apply go_f1 h | apply go_rf1 h | apply go_rel h); (case hi => omega); (try case hx => exact inferInstance); (try case hv => rfl))
 | ((with_reducible apply go_fa h); omega; omega)
))
  refine go_look2 h (by repeat (first | exact .here | apply Fnt.there)) KIr um107 zR id ?_
  rw [elimR]
  (repeat (first
 | (simp (disch := omega) only [evA, evB, evC, bAdd_i64, bSub_i64])
 | (with_reducible apply go_ld1 h)
 | ((with_reducible first | apply go_ldA h | apply go_rd h | apply go_rdN h | apply go_rlen h); rfl)
 | (with_reducible first | apply go_ldN h | apply go_lenL h)
 | ((with_reducible apply go_st h); intro _ h)
 | ((with_reducible apply go_stA h); rfl; rfl; (first | rfl | simp [OneV.o]); intro _ h)
 | ((with_reducible apply go_stN h); rfl; (first | rfl | simp [OneV.o]); intro _ h)
 | ((with_reducible apply go_box h); rfl; intro _ _ h)
 | ((with_reducible apply go_ix h); omega)
 | ((with_reducible first | apply go_elN h | apply go_f1 h | apply go_rf1 h | apply go_rel h); (case hi => omega); (try case hx => exact inferInstance); (try case hv => rfl))
 | ((with_reducible apply go_fa h); omega; omega)
))
  refine go_alloc h zR rfl fun _ _ h => ?_
  cases hg : aGet id R with
  | none =>
    simp only [Option.getD_none, Option.isSome_none]
    (repeat (first
 | (simp (disch := omega) only [evA, evB, evC, bAdd_i64, bSub_i64])
 | (refine go_some (fb33 ..) ?_)
 | (with_reducible apply go_ld1 h)
 | ((with_reducible first | apply go_ldA h | apply go_rd h | apply go_rdN h | apply go_rlen h); rfl)
 | (with_reducible first | apply go_ldN h | apply go_lenL h)
 | ((with_reducible apply go_st h); intro _ h)
 | ((with_reducible apply go_stA h); rfl; rfl; (first | rfl | simp [OneV.o]); intro _ h)
 | ((with_reducible apply go_stN h); rfl; (first | rfl | simp [OneV.o]); intro _ h)
 | ((with_reducible apply go_box h); rfl; intro _ _ h)
 | ((with_reducible apply go_ix h); omega)
 | ((with_reducible first | apply go_elN h | apply go_f1 h | apply go_rf1 h | apply go_rel h); (case hi => omega); (try case hx => exact inferInstance); (try case hv => rfl))
 | ((with_reducible apply go_fa h); omega; omega)
))
    refine hK0 5 (.inl ⟨rfl, fun c hc e => ?_⟩) _ (close h (by (repeat (first | exact .done | (refine .pick (by repeat (first | exact .here | apply Fnt.there)) ?_) | refine .skip ?_))))
    have h1 := H.1.get hc
    rw [e, hg] at h1; cases h1
  | some x =>
    obtain ⟨hc, hid⟩ := H.1.mem hg
    simp only [Option.getD_some, Option.isSome_some]
    (repeat (first
 | (simp (disch := omega) only [evA, evB, evC, bAdd_i64, bSub_i64])
 | (with_reducible apply go_ld1 h)
 | ((with_reducible first | apply go_ldA h | apply go_rd h | apply go_rdN h | apply go_rlen h); rfl)
 | (with_reducible first | apply go_ldN h | apply go_lenL h)
 | ((with_reducible apply go_st h); intro _ h)
 | ((with_reducible apply go_stA h); rfl; rfl; (first | rfl | simp [OneV.o]); intro _ h)
 | ((with_reducible apply go_stN h); rfl; (first | rfl | simp [OneV.o]); intro _ h)
 | ((with_reducible apply go_box h); rfl; intro _ _ h)
 | ((with_reducible apply go_ix h); omega)
 | ((with_reducible first | apply go_elN h | apply go_f1 h | apply go_rf1 h | apply go_rel h); (case hi => omega); (try case hx => exact inferInstance); (try case hv => rfl))
 | ((with_reducible apply go_fa h); omega; omega)
))
    refine iswho_spec (s := who) hwho h fun w h => ?_
    cases g1 : whoP who
    · (repeat (first
 | (simp (disch := omega) only [evA, evB, evC, bAdd_i64, bSub_i64])
 | (refine go_some (fb33 ..) ?_)
 | (with_reducible apply go_ld1 h)
 | ((with_reducible first | apply go_ldA h | apply go_rd h | apply go_rdN h | apply go_rlen h); rfl)
 | (with_reducible first | apply go_ldN h | apply go_lenL h)
 | ((with_reducible apply go_st h); intro _ h)
 | ((with_reducible apply go_stA h); rfl; rfl; (first | rfl | simp [OneV.o]); intro _ h)
 | ((with_reducible apply go_stN h); rfl; (first | rfl | simp [OneV.o]); intro _ h)
 | ((with_reducible apply go_box h); rfl; intro _ _ h)
 | ((with_reducible apply go_ix h); omega)
 | ((with_reducible first | apply go_elN h | apply go_f1 h | apply go_rf1 h | apply go_rel h); (case hi => omega); (try case hx => exact inferInstance); (try case hv => rfl))
 | ((with_reducible apply go_fa h); omega; omega)
))
      exact hK0 1 (.inr (.inl ⟨rfl, g1, x, hc, hid⟩)) _ (close h (by (repeat (first | exact .done | (refine .pick (by repeat (first | exact .here | apply Fnt.there)) ?_) | refine .skip ?_))))
    (repeat (first
 | (simp (disch := omega) only [evA, evB, evC, bAdd_i64, bSub_i64])
 | (with_reducible apply go_ld1 h)
 | ((with_reducible first | apply go_ldA h | apply go_rd h | apply go_rdN h | apply go_rlen h); rfl)
 | (with_reducible first | apply go_ldN h | apply go_lenL h)
 | ((with_reducible apply go_st h); intro _ h)
 | ((with_reducible apply go_stA h); rfl; rfl; (first | rfl | simp [OneV.o]); intro _ h)
 | ((with_reducible apply go_stN h); rfl; (first | rfl | simp [OneV.o]); intro _ h)
 | ((with_reducible apply go_box h); rfl; intro _ _ h)
 | ((with_reducible apply go_ix h); omega)
 | ((with_reducible first | apply go_elN h | apply go_f1 h | apply go_rf1 h | apply go_rel h); (case hi => omega); (try case hx => exact inferInstance); (try case hv => rfl))
 | ((with_reducible apply go_fa h); omega; omega)
))
    cases g2 : x.acked
    case true =>
      (repeat (first
 | (simp (disch := omega) only [evA, evB, evC, bAdd_i64, bSub_i64, g2])
 | (refine go_some (fb33 ..) ?_)
 | (with_reducible apply go_ld1 h)
 | ((with_reducible first | apply go_ldA h | apply go_rd h | apply go_rdN h | apply go_rlen h); rfl)
 | (with_reducible first | apply go_ldN h | apply go_lenL h)
 | ((with_reducible apply go_st h); intro _ h)
 | ((with_reducible apply go_stA h); rfl; rfl; (first | rfl | simp [OneV.o]); intro _ h)
 | ((with_reducible apply go_stN h); rfl; (first | rfl | simp [OneV.o]); intro _ h)
 | ((with_reducible apply go_box h); rfl; intro _ _ h)
 | ((with_reducible apply go_ix h); omega)
 | ((with_reducible first | apply go_elN h | apply go_f1 h | apply go_rf1 h | apply go_rel h); (case hi => omega); (try case hx => exact inferInstance); (try case hv => rfl))
 | ((with_reducible apply go_fa h); omega; omega)
))
      exact hK0 6 (.inr (.inr ⟨rfl, g1, x, hc, hid, g2⟩)) _ (close h (by (repeat (first | exact .done | (refine .pick (by repeat (first | exact .here | apply Fnt.there)) ?_) | refine .skip ?_))))
    (repeat (first
 | (simp (disch := omega) only [evA, evB, evC, bAdd_i64, bSub_i64, g2])
 | (with_reducible apply go_ld1 h)
 | ((with_reducible first | apply go_ldA h | apply go_rd h | apply go_rdN h | apply go_rlen h); rfl)
 | (with_reducible first | apply go_ldN h | apply go_lenL h)
 | ((with_reducible apply go_st h); intro _ h)
 | ((with_reducible apply go_stA h); rfl; rfl; (first | rfl | simp [OneV.o]); intro _ h)
 | ((with_reducible apply go_stN h); rfl; (first | rfl | simp [OneV.o]); intro _ h)
 | ((with_reducible apply go_box h); rfl; intro _ _ h)
 | ((with_reducible apply go_ix h); omega)
 | ((with_reducible first | apply go_elN h | apply go_f1 h | apply go_rf1 h | apply go_rel h); (case hi => omega); (try case hx => exact inferInstance); (try case hv => rfl))
 | ((with_reducible apply go_fa h); omega; omega)
))
    refine put_bspec (r := { x with acked := true, who := who }) (v := ptr p) (n := n) (next := next) (R := R) (I := I) (L := _ :: _ :: L) (board_iff.2 ⟨p, mr, mi, rfl, h.got⟩) fun w h => ?_
    (repeat (first
 | (simp (disch := omega) only [evA, evB, evC, bAdd_i64, bSub_i64])
 | (with_reducible apply go_ld1 h)
 | ((with_reducible first | apply go_ldA h | apply go_rd h | apply go_rdN h | apply go_rlen h); rfl)
 | (with_reducible first | apply go_ldN h | apply go_lenL h)
 | ((with_reducible apply go_st h); intro _ h)
 | ((with_reducible apply go_stA h); rfl; rfl; (first | rfl | simp [OneV.o]); intro _ h)
 | ((with_reducible apply go_stN h); rfl; (first | rfl | simp [OneV.o]); intro _ h)
 | ((with_reducible apply go_box h); rfl; intro _ _ h)
 | ((with_reducible apply go_ix h); omega)
 | ((with_reducible first | apply go_elN h | apply go_f1 h | apply go_rf1 h | apply go_rel h); (case hi => omega); (try case hx => exact inferInstance); (try case hv => rfl))
 | ((with_reducible apply go_fa h); omega; omega)
))
    exact hK1 x hc hid g2 g1 _ (boardA_iff.2 ⟨_, _, ⟨H.1.repl (r := { x with acked := true, who := who }) (okR_ack (H.1.ok x hc).1 g1) hc rfl rfl, H.2⟩, h.got⟩)
theorem rows_loop {a b : Value} (hl : rs.length ≤ 1073741824) (hK : ∀ w', Sat w0 (LsH cRow 11 33 a rs :: LsH cRow 11 33 b rs :: L) w' → K (.bool true) w') : ∀ (d i : Nat) (w : World), rs.length - i < d → i ≤ rs.length → Sat w0 (LsH cRow 11 33 a rs :: LsH cRow 11 33 b rs :: L) w → F46_2L d a b (.int .i64 i) w K := by
  intro d
  induction d with
  | zero => intro i w hd; omega
  | succ d ih =>
    intro i w hd hi h
    rw [F46_2L]
    unfold F46_2b
    by_cases g : i < rs.length
    · have g' : decide ((i : Int) < (rs.length : Int)) = true := by simpa using g
      (repeat (first
 | (simp (disch := omega) only [evA, evB, evC, bAdd_i64, bSub_i64, g'])
 | (with_reducible apply go_ld1 h)
 | ((with_reducible first | apply go_ldA h | apply go_rd h | apply go_rdN h | apply go_rlen h); rfl)
 | (with_reducible first | apply go_ldN h | apply go_lenL h)
 | ((with_reducible apply go_st h); intro _ h)
 | ((with_reducible apply go_stA h); rfl; rfl; (first | rfl | simp [OneV.o]); intro _ h)
 | ((with_reducible apply go_stN h); rfl; (first | rfl | simp [OneV.o]); intro _ h)
 | ((with_reducible apply go_box h); rfl; intro _ _ h)
 | ((with_reducible apply go_ix h); omega)
 | ((with_reducible first | apply go_elN h | apply go_f1 h | apply go_rf1 h | apply go_rel h); (case hi => omega); (try case hx => exact inferInstance); (try case hv => rfl))
 | ((with_reducible apply go_fa h); omega; omega)
))
      refine go_some (neR _ _ rs[i] rs[i]) ?_
      rw [decide_eq_true rfl]
      (repeat (first
 | (simp (disch := omega) only [evA, evB, evC, bAdd_i64, bSub_i64])
 | (with_reducible apply go_ld1 h)
 | ((with_reducible first | apply go_ldA h | apply go_rd h | apply go_rdN h | apply go_rlen h); rfl)
 | (with_reducible first | apply go_ldN h | apply go_lenL h)
 | ((with_reducible apply go_st h); intro _ h)
 | ((with_reducible apply go_stA h); rfl; rfl; (first | rfl | simp [OneV.o]); intro _ h)
 | ((with_reducible apply go_stN h); rfl; (first | rfl | simp [OneV.o]); intro _ h)
 | ((with_reducible apply go_box h); rfl; intro _ _ h)
 | ((with_reducible apply go_ix h); omega)
 | ((with_reducible first | apply go_elN h | apply go_f1 h | apply go_rf1 h | apply go_rel h); (case hi => omega); (try case hx => exact inferInstance); (try case hv => rfl))
 | ((with_reducible apply go_fa h); omega; omega)
))
      exact ih (i + 1) _ (by omega) (by omega) h.drew
    · have g' : decide ((i : Int) < (rs.length : Int)) = false := by simpa using g
      (repeat (first
 | (simp (disch := omega) only [evA, evB, evC, bAdd_i64, bSub_i64, g'])
 | (with_reducible apply go_ld1 h)
 | ((with_reducible first | apply go_ldA h | apply go_rd h | apply go_rdN h | apply go_rlen h); rfl)
 | (with_reducible first | apply go_ldN h | apply go_lenL h)
 | ((with_reducible apply go_st h); intro _ h)
 | ((with_reducible apply go_stA h); rfl; rfl; (first | rfl | simp [OneV.o]); intro _ h)
 | ((with_reducible apply go_stN h); rfl; (first | rfl | simp [OneV.o]); intro _ h)
 | ((with_reducible apply go_box h); rfl; intro _ _ h)
 | ((with_reducible apply go_ix h); omega)
 | ((with_reducible first | apply go_elN h | apply go_f1 h | apply go_rf1 h | apply go_rel h); (case hi => omega); (try case hx => exact inferInstance); (try case hv => rfl))
 | ((with_reducible apply go_fa h); omega; omega)
))
      unfold F46_3 F46_3b
      exact hK _ h
theorem rows_spec {a b : Value} (hl : rs.length ≤ 1073741824) (h : Sat w0 (LsH cRow 11 33 a rs :: LsH cRow 11 33 b rs :: L) w) (hK : ∀ w', Sat w0 (LsH cRow 11 33 a rs :: LsH cRow 11 33 b rs :: L) w' → K (.bool true) w') : callP G46 [a, b] w K := by
  refine c46 ?_
  unfold F46 F46_1 F46_1b F46_2
  (repeat (first
 | (simp (disch := omega) only [evA, evB, evC, bAdd_i64, bSub_i64])
 | (with_reducible apply go_ld1 h)
 | ((with_reducible first | apply go_ldA h | apply go_rd h | apply go_rdN h | apply go_rlen h); rfl)
 | (with_reducible first | apply go_ldN h | apply go_lenL h)
 | ((with_reducible apply go_st h); intro _ h)
 | ((with_reducible apply go_stA h); rfl; rfl; (first | rfl | simp [OneV.o]); intro _ h)
 | ((with_reducible apply go_stN h); rfl; (first | rfl | simp [OneV.o]); intro _ h)
 | ((with_reducible apply go_box h); rfl; intro _ _ h)
 | ((with_reducible apply go_ix h); omega)
 | ((with_reducible first | apply go_elN h | apply go_f1 h | apply go_rf1 h | apply go_rel h); (case hi => omega); (try case hx => exact inferInstance); (try case hv => rfl))
 | ((with_reducible apply go_fa h); omega; omega)
))
  exact rows_loop hl hK fuel 0 w (by unfold fuel; omega) (by omega) h
end
end Go.Proofs.Gong
