/- A part of the proofs: what stands below it, told in lemmas. No condition. -/
import Derived.Test.YtjjnkobkjdopbaaGreatDoorP1
import Derived.Shelf.Strconv.Clone
set_option linter.all false

/- Disk -/
namespace Go.Proofs.Gong
open Go Go.Sx Go.Proofs
set_option linter.all false
set_option maxRecDepth 100000
variable {kn kr : ET} {ke : JT}
def T6 : List (Nat × FnT) := []
def F6 (x0 : Value) (w : World) (K : V1) : Prop :=
bindP (bLt x0 (.int .i64 0)) fun v1 =>
stepM (gd false v1) x0 fun v2 =>
Sx.stepG (gd false v1) (bGt v2 (.int .i64 1099511627776)) fun v3 =>
bindP (pPick v1 (.bool true) v3) fun v4 =>
ifB v4 (
K (.tuple #[(.pointer none), (.int .i64 1)]) w) (
eMakeMap none w fun v6 w5 =>
bindP (fBuild Tryz.prog 50 [(0, x0), (1, v6)]) fun v7 =>
eBox 50 v7 w5 fun v9 w8 =>
K (.tuple #[v9, (.int .i64 0)]) w8)
def G6 : FnT := fun args w K => on1 (fun x0 => F6 x0 w K) args
theorem c6 {x0 : Value} {w : World} {K : V1} (h : F6 x0 w K) : callP G6 [x0] w K := callP_intro (on1_mk (p := fun x0 => F6 x0 w K) h)
theorem ok6 : OkF Tryz.prog 6 G6 := by
  refine okF_of (tab_ok (l := T6) trivial) mixed (n := fuel) Tryz.func6 Tryz.call6 fun args w K h => ?_
  obtain ⟨x0, rfl, hh⟩ := of_on1 h
  exact fnD_list (c := bodyOf Tryz.f6) (by kernel_rfl) (by kernel_rfl) (Eq.mp (by kernel_rfl) hh)
def T18 : List (Nat × FnT) := []
def F18 (x0 x1 : Value) (w : World) (K : V1) : Prop :=
bindP (bLt x1 (.int .i64 0)) fun v1 =>
ifB v1 (
K (.int .i64 1) w) (
bindP (pNil x0) fun v2 =>
bindP (pFieldAddr 2 v2) fun v3 =>
bindW (st 1 v3 (.bool true) w) fun w4 =>
bindP (pNil x0) fun v6 =>
bindP (pFieldAddr 3 v6) fun v7 =>
bindW (st 1 v7 x1 w4) fun w8 =>
K (.int .i64 0) w8)
def G18 : FnT := fun args w K => on2 (fun x0 x1 => F18 x0 x1 w K) args
theorem c18 {x0 x1 : Value} {w : World} {K : V1} (h : F18 x0 x1 w K) : callP G18 [x0, x1] w K := callP_intro (on2_mk (p := fun x0 x1 => F18 x0 x1 w K) h)
theorem ok18 : OkF Tryz.prog 18 G18 := by
  refine okF_of (tab_ok (l := T18) trivial) mixed (n := fuel) Tryz.func18 Tryz.call18 fun args w K h => ?_
  obtain ⟨x0, x1, rfl, hh⟩ := of_on2 h
  exact fnD_list (c := bodyOf Tryz.f18) (by kernel_rfl) (by kernel_rfl) (Eq.mp (by kernel_rfl) hh)
def T51 : List (Nat × FnT) := []
def F51_3b (s3 : Value) (w : World) (K : V1) : Prop :=
K s3 w
def F51_3 (s3 : Value) (w : World) (K : V1) : Prop := F51_3b s3 w K
theorem ok51_3 {K : V1}
    (hn : HN (fun e w => K (e 2) w) kn) (hr : HR Tryz.prog [.tmp 2] K kr) (he : HE noE ke) :
    ∀ e w, F51_3 (e 3) w K → denL Tryz.prog (tabOf T51) 21 fuel ((flat (bodyOf Tryz.f51)).drop 4) e w kn kr ke := by
  intro e w h
  unfold F51_3 at h
  have e1 : ∀ (_ : Unit), F51_3b (e 3) w K = denL Tryz.prog (tabOf T51) 21 fuel ((flat (bodyOf Tryz.f51)).drop 4) e w (fun e w => K (e 2) w) (endD Tryz.prog [.tmp 2] K) noE := by intro _; kernel_rfl
  exact seg_end (Eq.mp (e1 ()) h) hn hr he
def F51_2b (s3 s10 : Value) (w : World) (_K : V1) (Y0 : V2) (Y1 : V1) : Prop :=
eNext s10 false w fun v2 w1 =>
bindP (pTuple v2 0) fun v3 =>
ifB v3 (
bindP (fEntry s10 w1) fun v4 =>
bindP (pTuple v4 1) fun v5 =>
eAlloc Tryz.prog 58 w1 fun v7 w6 =>
bindW (st 2 v7 v5 w6) fun w8 =>
bindP (pFieldAddr 0 v7) fun v10 =>
bindP (ld1 v10 w8) fun v11 =>
bindP (lenS v11) fun v12 =>
bindP (bAdd s3 v12) fun v13 =>
Y0 v13 s10 w8) (
Y1 s3 w1)
def F51_2L : Nat → Value → Value → World → (V1) → Prop
  | 0, _, _, _, _ => False
  | n + 1, s3, s10, w, K => F51_2b s3 s10 w K (fun a3 a10 w => F51_2L n a3 a10 w K) (fun a3 w => F51_3 a3 w K)
def F51_2 (s3 s10 : Value) (w : World) (K : V1) : Prop := F51_2L fuel s3 s10 w K
theorem ok51_2 {K : V1}
    (hn : HN (fun e w => K (e 2) w) kn) (hr : HR Tryz.prog [.tmp 2] K kr) (he : HE noE ke) :
    ∀ e w, F51_2 (e 3) (e 10) w K → denL Tryz.prog (tabOf T51) 21 fuel ((flat (bodyOf Tryz.f51)).drop 3) e w kn kr ke := by
  intro e w h
  unfold F51_2 at h
  refine seg_loop (id := 0) (body := (loopB (blkB (nthC (flat (bodyOf Tryz.f51)) 3)))) (l2 := (flat (bodyOf Tryz.f51)).drop 4) (by kernel_rfl) ?_
  refine loop_ok (FL := fun m e w => F51_2L m (e 3) (e 10) w K) (fr := endD Tryz.prog [.tmp 2] K) (fe := (blkK 0 (fun e w => F51_3 (e 3) w K) noE)) (fun _ _ h => h) ?_ hr (blkK_mono (fun e w h => ok51_3 hn hr he e w h) he) fuel e w h
  intro m e w h
  have h : F51_2L (m + 1) (e 3) (e 10) w K := h
  rw [F51_2L] at h
  have e1 : ∀ (Y0 : V2) (Y1 : V1), F51_2b (e 3) (e 10) w K Y0 Y1 = denL Tryz.prog (tabOf T51) 21 fuel (flat (loopB (blkB (nthC (flat (bodyOf Tryz.f51)) 3)))) e w (fun e w => Y0 (e 3) (e 10) w) (endD Tryz.prog [.tmp 2] K) (blkK 0 (fun e w => Y1 (e 3) w) noE) := by intro Y0 Y1; kernel_rfl
  exact Eq.mp (e1 (fun a3 a10 w => F51_2L m a3 a10 w K) (fun a3 w => F51_3 a3 w K)) h
def F51_1b (s0 : Value) (w : World) (_K : V1) (Y0 : V2) : Prop :=
bindP (pNil s0) fun v14 =>
bindP (pFieldAddr 1 v14) fun v15 =>
bindP (ld1 v15 w) fun v16 =>
eRange Tryz.prog 48 v16 w fun v18 w17 =>
Y0 (.int .i64 0) v18 w17
def F51_1 (s0 : Value) (w : World) (K : V1) : Prop := F51_1b s0 w K (fun a3 a10 w => F51_2 a3 a10 w K)
theorem ok51_1 {K : V1}
    (hn : HN (fun e w => K (e 2) w) kn) (hr : HR Tryz.prog [.tmp 2] K kr) (he : HE noE ke) :
    ∀ e w, F51_1 (e 0) w K → denL Tryz.prog (tabOf T51) 21 fuel ((flat (bodyOf Tryz.f51)).drop 0) e w kn kr ke := by
  intro e w h
  unfold F51_1 at h
  have e1 : ∀ (Y0 : V2), F51_1b (e 0) w K Y0 = denL Tryz.prog (tabOf T51) 21 fuel (((flat (bodyOf Tryz.f51)).drop 0).take 3) e w (fun e w => Y0 (e 3) (e 10) w) (endD Tryz.prog [.tmp 2] K) noE := by intro Y0; kernel_rfl
  exact seg 3 (Eq.mp (e1 (fun a3 a10 w => F51_2 a3 a10 w K)) h) (fun e w h => ok51_2 hn hr he e w h) hr he
def F51 (x0 : Value) (w : World) (K : V1) : Prop := F51_1 x0 w K
def G51 : FnT := fun args w K => on1 (fun x0 => F51 x0 w K) args
theorem c51 {x0 : Value} {w : World} {K : V1} (h : F51 x0 w K) : callP G51 [x0] w K := callP_intro (on1_mk (p := fun x0 => F51 x0 w K) h)
theorem ok51 : OkF Tryz.prog 51 G51 := by
  refine okF_of (tab_ok (l := T51) trivial) mixed (n := fuel) Tryz.func51 Tryz.call51 fun args w K h => ?_
  obtain ⟨x0, rfl, hh⟩ := of_on1 h
  unfold F51 at hh
  exact fnD_list (c := bodyOf Tryz.f51) (by kernel_rfl) (by kernel_rfl) (ok51_1 (fun _ _ h => h) (fun _ _ h => h) (fun _ _ _ h => h) (initE [x0]) w hh)
def T82 : List (Nat × FnT) := []
def F82 (x0 : Value) (w : World) (K : V1) : Prop :=
bindP (pNil x0) fun v1 =>
bindP (pFieldAddr 2 v1) fun v2 =>
bindP (ld1 v2 w) fun v3 =>
stepM (gd true v3) x0 fun v4 =>
Sx.stepG (gd true v3) (pNil v4) fun v5 =>
Sx.stepG (gd true v3) (pFieldAddr 3 v5) fun v6 =>
Sx.stepG (gd true v3) (ld1 v6 w) fun v7 =>
Sx.stepG (gd true v3) (bEq Tryz.prog 3 (.tmp 11) (.const (.int .i64 0)) v7 (.int .i64 0)) fun v8 =>
bindP (pPick v3 v8 (.bool false)) fun v9 =>
K v9 w
def G82 : FnT := fun args w K => on1 (fun x0 => F82 x0 w K) args
theorem c82 {x0 : Value} {w : World} {K : V1} (h : F82 x0 w K) : callP G82 [x0] w K := callP_intro (on1_mk (p := fun x0 => F82 x0 w K) h)
theorem ok82 : OkF Tryz.prog 82 G82 := by
  refine okF_of (tab_ok (l := T82) trivial) mixed (n := fuel) Tryz.func82 Tryz.call82 fun args w K h => ?_
  obtain ⟨x0, rfl, hh⟩ := of_on1 h
  exact fnD_list (c := bodyOf Tryz.f82) (by kernel_rfl) (by kernel_rfl) (Eq.mp (by kernel_rfl) hh)
def T64 : List (Nat × FnT) := [(82, G82)]
def F64_2b (w : World) (K : V1) : Prop :=
K (.bool true) w
def F64_2 (w : World) (K : V1) : Prop := F64_2b w K
theorem ok64_2 {K : V1}
    (hn : HN (fun e w => K (e 2) w) kn) (hr : HR Tryz.prog [.tmp 2] K kr) (he : HE noE ke) :
    ∀ e w, F64_2 w K → denL Tryz.prog (tabOf T64) 16 fuel ((flat (bodyOf Tryz.f64)).drop 5) e w kn kr ke := by
  intro e w h
  unfold F64_2 at h
  have e1 : ∀ (_ : Unit), F64_2b w K = denL Tryz.prog (tabOf T64) 16 fuel ((flat (bodyOf Tryz.f64)).drop 5) e w (fun e w => K (e 2) w) (endD Tryz.prog [.tmp 2] K) noE := by intro _; kernel_rfl
  exact seg_end (Eq.mp (e1 ()) h) hn hr he
def F64_1b (s0 : Value) (w : World) (K : V1) (Y0 : V0) : Prop :=
callP G82 [s0] w fun v2 w1 =>
ifB v2 (
K (.bool false) w1) (
bindP (pNil s0) fun v3 =>
bindP (pFieldAddr 2 v3) fun v4 =>
bindP (ld1 v4 w1) fun v5 =>
ifB v5 (
bindP (pNil s0) fun v6 =>
bindP (pFieldAddr 3 v6) fun v7 =>
bindP (ld1 v7 w1) fun v8 =>
bindP (bSub v8 (.int .i64 1)) fun v9 =>
bindP (pNil s0) fun v10 =>
bindP (pFieldAddr 3 v10) fun v11 =>
bindW (st 1 v11 v9 w1) fun w12 =>
Y0 w12) (
Y0 w1))
def F64_1 (s0 : Value) (w : World) (K : V1) : Prop := F64_1b s0 w K (fun w => F64_2 w K)
theorem ok64_1 {K : V1}
    (hn : HN (fun e w => K (e 2) w) kn) (hr : HR Tryz.prog [.tmp 2] K kr) (he : HE noE ke) :
    ∀ e w, F64_1 (e 0) w K → denL Tryz.prog (tabOf T64) 16 fuel ((flat (bodyOf Tryz.f64)).drop 0) e w kn kr ke := by
  intro e w h
  unfold F64_1 at h
  have e1 : ∀ (Y0 : V0), F64_1b (e 0) w K Y0 = denL Tryz.prog (tabOf T64) 16 fuel (((flat (bodyOf Tryz.f64)).drop 0).take 5) e w (fun e w => Y0 w) (endD Tryz.prog [.tmp 2] K) noE := by intro Y0; kernel_rfl
  exact seg 5 (Eq.mp (e1 (fun w => F64_2 w K)) h) (fun e w h => ok64_2 hn hr he e w h) hr he
def F64 (x0 : Value) (w : World) (K : V1) : Prop := F64_1 x0 w K
def G64 : FnT := fun args w K => on1 (fun x0 => F64 x0 w K) args
theorem c64 {x0 : Value} {w : World} {K : V1} (h : F64 x0 w K) : callP G64 [x0] w K := callP_intro (on1_mk (p := fun x0 => F64 x0 w K) h)
theorem ok64 : OkF Tryz.prog 64 G64 := by
  refine okF_of (tab_ok (l := T64) ⟨ok82, trivial⟩) mixed (n := fuel) Tryz.func64 Tryz.call64 fun args w K h => ?_
  obtain ⟨x0, rfl, hh⟩ := of_on1 h
  unfold F64 at hh
  exact fnD_list (c := bodyOf Tryz.f64) (by kernel_rfl) (by kernel_rfl) (ok64_1 (fun _ _ h => h) (fun _ _ h => h) (fun _ _ _ h => h) (initE [x0]) w hh)
def T52 : List (Nat × FnT) := [(64, G64)]
def F52 (x0 x1 x2 : Value) (w : World) (K : V1) : Prop :=
eBox 58 x2 w fun v2 w1 =>
callP G64 [x0] w1 fun v4 w3 =>
bindP (uNot v4) fun v5 =>
ifB v5 (
K (.int .i64 251) w3) (
bindP (pNil x0) fun v6 =>
bindP (pFieldAddr 1 v6) fun v7 =>
bindP (ld1 v7 w3.drew) fun v8 =>
bindP (ldN 2 v2 w3.drew) fun v9 =>
eMapSet Tryz.prog 48 v8 x1 v9 w3.drew fun _ w10 =>
K (.int .i64 0) w10)
def G52 : FnT := fun args w K => on3 (fun x0 x1 x2 => F52 x0 x1 x2 w K) args
theorem c52 {x0 x1 x2 : Value} {w : World} {K : V1} (h : F52 x0 x1 x2 w K) : callP G52 [x0, x1, x2] w K := callP_intro (on3_mk (p := fun x0 x1 x2 => F52 x0 x1 x2 w K) h)
theorem ok52 : OkF Tryz.prog 52 G52 := by
  refine okF_of (tab_ok (l := T52) ⟨ok64, trivial⟩) mixed (n := fuel) Tryz.func52 Tryz.call52 fun args w K h => ?_
  obtain ⟨x0, x1, x2, rfl, hh⟩ := of_on3 h
  exact fnD_list (c := bodyOf Tryz.f52) (by kernel_rfl) (by kernel_rfl) (Eq.mp (by kernel_rfl) hh)
def T29 : List (Nat × FnT) := [(51, G51), (52, G52)]
def F29 (x0 x1 x2 : Value) (w : World) (K : V1) : Prop :=
bindP (pNil x0) fun v1 =>
bindP (pFieldAddr 1 v1) fun v2 =>
bindP (ld1 v2 w) fun v3 =>
bindP (fLook Tryz.prog 48 v3 x1 true w) fun v4 =>
bindP (pTuple v4 0) fun v5 =>
bindP (pTuple v4 1) fun v6 =>
eAlloc Tryz.prog 58 w fun v8 w7 =>
bindW (st 2 v8 v5 w7) fun w9 =>
bindP (uNot v6) fun v11 =>
ifB v11 (
K (.int .i64 5) w9) (
bindP (lenS x2) fun v12 =>
bindP (pNil x0) fun v13 =>
bindP (pFieldAddr 0 v13) fun v14 =>
bindP (ld1 v14 w9.drew) fun v15 =>
callP G51 [x0] w9.drew fun v17 w16 =>
(fok true (lenS x2) v12 ∧ fok true (ld1 v14 w16) v15) ∧ (bindP (bSub v15 v17) fun v18 =>
bindP (bGt v12 v18) fun v19 =>
ifB v19 (
K (.int .i64 250) w16) (
bindP (pFieldAddr 0 v8) fun v20 =>
bindP (ld1 v20 w16) fun v21 =>
bindP (bAdd v21 x2) fun v22 =>
bindP (pFieldAddr 0 v8) fun v23 =>
bindW (st 1 v23 v22 w16) fun w24 =>
bindP (ldN 2 v8 w24) fun v26 =>
callP G52 [x0, x1, v26] w24 fun v28 w27 =>
K v28 w27)))
def G29 : FnT := fun args w K => on3 (fun x0 x1 x2 => F29 x0 x1 x2 w K) args
theorem c29 {x0 x1 x2 : Value} {w : World} {K : V1} (h : F29 x0 x1 x2 w K) : callP G29 [x0, x1, x2] w K := callP_intro (on3_mk (p := fun x0 x1 x2 => F29 x0 x1 x2 w K) h)
theorem ok29 : OkF Tryz.prog 29 G29 := by
  refine okF_of (tab_ok (l := T29) ⟨ok51, ok52, trivial⟩) mixed (n := fuel) Tryz.func29 Tryz.call29 fun args w K h => ?_
  obtain ⟨x0, x1, x2, rfl, hh⟩ := of_on3 h
  exact fnD_list (c := bodyOf Tryz.f29) (by kernel_rfl) (by kernel_rfl) (Eq.mp (by kernel_rfl) hh)
def T77 : List (Nat × FnT) := []
def F77 (x0 : Value) (w : World) (K : V1) : Prop :=
bindP (bNe Tryz.prog 9 (.tmp 3) (.const (.string ⟨#[]⟩)) x0 (.string ⟨#[]⟩)) fun v1 =>
stepM (gd true v1) x0 fun v2 =>
Sx.stepG (gd true v1) (lenS v2) fun v3 =>
Sx.stepG (gd true v1) (bLe v3 (.int .i64 64)) fun v4 =>
bindP (pPick v1 v4 (.bool false)) fun v5 =>
K v5 w
def G77 : FnT := fun args w K => on1 (fun x0 => F77 x0 w K) args
theorem c77 {x0 : Value} {w : World} {K : V1} (h : F77 x0 w K) : callP G77 [x0] w K := callP_intro (on1_mk (p := fun x0 => F77 x0 w K) h)
theorem ok77 : OkF Tryz.prog 77 G77 := by
  refine okF_of (tab_ok (l := T77) trivial) mixed (n := fuel) Tryz.func77 Tryz.call77 fun args w K h => ?_
  obtain ⟨x0, rfl, hh⟩ := of_on1 h
  exact fnD_list (c := bodyOf Tryz.f77) (by kernel_rfl) (by kernel_rfl) (Eq.mp (by kernel_rfl) hh)
def T57 : List (Nat × FnT) := [(52, G52), (77, G77)]
def F57 (x0 x1 : Value) (w : World) (K : V1) : Prop :=
callP G77 [x1] w fun v2 w1 =>
bindP (uNot v2) fun v3 =>
ifB v3 (
K (.int .i64 1) w1) (
bindP (pNil x0) fun v4 =>
bindP (pFieldAddr 1 v4) fun v5 =>
bindP (ld1 v5 w1) fun v6 =>
bindP (fLook Tryz.prog 48 v6 x1 true w1) fun v7 =>
bindP (pTuple v7 0) fun v8 =>
bindP (pTuple v7 1) fun v9 =>
eAlloc Tryz.prog 58 w1 fun v11 w10 =>
bindW (st 2 v11 v8 w10) fun w12 =>
ifB v9 (
K (.int .i64 6) w12) (
bindP (fBuild Tryz.prog 58 []) fun v14 =>
callP G52 [x0, x1, v14] w12 fun v16 w15 =>
K v16 w15))
def G57 : FnT := fun args w K => on2 (fun x0 x1 => F57 x0 x1 w K) args
theorem c57 {x0 x1 : Value} {w : World} {K : V1} (h : F57 x0 x1 w K) : callP G57 [x0, x1] w K := callP_intro (on2_mk (p := fun x0 x1 => F57 x0 x1 w K) h)
theorem ok57 : OkF Tryz.prog 57 G57 := by
  refine okF_of (tab_ok (l := T57) ⟨ok52, ok77, trivial⟩) mixed (n := fuel) Tryz.func57 Tryz.call57 fun args w K h => ?_
  obtain ⟨x0, x1, rfl, hh⟩ := of_on2 h
  exact fnD_list (c := bodyOf Tryz.f57) (by kernel_rfl) (by kernel_rfl) (Eq.mp (by kernel_rfl) hh)
def T33 : List (Nat × FnT) := [(52, G52)]
def F33 (x0 x1 : Value) (w : World) (K : V1) : Prop :=
bindP (pNil x0) fun v1 =>
bindP (pFieldAddr 1 v1) fun v2 =>
bindP (ld1 v2 w) fun v3 =>
bindP (fLook Tryz.prog 48 v3 x1 true w) fun v4 =>
bindP (pTuple v4 0) fun v5 =>
bindP (pTuple v4 1) fun v6 =>
eAlloc Tryz.prog 58 w fun v8 w7 =>
bindW (st 2 v8 v5 w7) fun w9 =>
bindP (uNot v6) fun v11 =>
ifB v11 (
K (.int .i64 5) w9) (
bindP (pFieldAddr 0 v8) fun v12 =>
bindP (ld1 v12 w9) fun v13 =>
bindP (lenS v13) fun v14 =>
bindP (pFieldAddr 1 v8) fun v15 =>
bindW (st 1 v15 v14 w9) fun w16 =>
bindP (ldN 2 v8 w16) fun v18 =>
callP G52 [x0, x1, v18] w16 fun v20 w19 =>
K v20 w19)
def G33 : FnT := fun args w K => on2 (fun x0 x1 => F33 x0 x1 w K) args
theorem c33 {x0 x1 : Value} {w : World} {K : V1} (h : F33 x0 x1 w K) : callP G33 [x0, x1] w K := callP_intro (on2_mk (p := fun x0 x1 => F33 x0 x1 w K) h)
theorem ok33 : OkF Tryz.prog 33 G33 := by
  refine okF_of (tab_ok (l := T33) ⟨ok52, trivial⟩) mixed (n := fuel) Tryz.func33 Tryz.call33 fun args w K h => ?_
  obtain ⟨x0, x1, rfl, hh⟩ := of_on2 h
  exact fnD_list (c := bodyOf Tryz.f33) (by kernel_rfl) (by kernel_rfl) (Eq.mp (by kernel_rfl) hh)
def T60 : List (Nat × FnT) := [(64, G64), (77, G77)]
def F60 (x0 x1 x2 : Value) (w : World) (K : V1) : Prop :=
bindP (pNil x0) fun v1 =>
bindP (pFieldAddr 1 v1) fun v2 =>
bindP (ld1 v2 w) fun v3 =>
bindP (fLook Tryz.prog 48 v3 x1 true w) fun v4 =>
bindP (pTuple v4 0) fun v5 =>
bindP (pTuple v4 1) fun v6 =>
eAlloc Tryz.prog 58 w fun v8 w7 =>
bindW (st 2 v8 v5 w7) fun w9 =>
bindP (uNot v6) fun v11 =>
ifB v11 (
K (.int .i64 5) w9) (
callP G77 [x2] w9 fun v13 w12 =>
bindP (uNot v13) fun v14 =>
ifB v14 (
K (.int .i64 1) w12) (
callP G64 [x0] w12 fun v16 w15 =>
bindP (uNot v16) fun v17 =>
ifB v17 (
K (.int .i64 251) w15) (
bindP (pNil x0) fun v18 =>
bindP (pFieldAddr 1 v18) fun v19 =>
bindP (ld1 v19 w15) fun v20 =>
eDelete Tryz.prog 48 v20 x1 w15 fun _ w21 =>
bindP (pNil x0) fun v23 =>
bindP (pFieldAddr 1 v23) fun v24 =>
bindP (ld1 v24 w21.drew) fun v25 =>
bindP (ldN 2 v8 w21.drew) fun v26 =>
eMapSet Tryz.prog 48 v25 x2 v26 w21.drew fun _ w27 =>
K (.int .i64 0) w27)))
def G60 : FnT := fun args w K => on3 (fun x0 x1 x2 => F60 x0 x1 x2 w K) args
theorem c60 {x0 x1 x2 : Value} {w : World} {K : V1} (h : F60 x0 x1 x2 w K) : callP G60 [x0, x1, x2] w K := callP_intro (on3_mk (p := fun x0 x1 x2 => F60 x0 x1 x2 w K) h)
theorem ok60 : OkF Tryz.prog 60 G60 := by
  refine okF_of (tab_ok (l := T60) ⟨ok64, ok77, trivial⟩) mixed (n := fuel) Tryz.func60 Tryz.call60 fun args w K h => ?_
  obtain ⟨x0, x1, x2, rfl, hh⟩ := of_on3 h
  exact fnD_list (c := bodyOf Tryz.f60) (by kernel_rfl) (by kernel_rfl) (Eq.mp (by kernel_rfl) hh)
def T72 : List (Nat × FnT) := [(52, G52)]
def F72 (x0 x1 x2 : Value) (w : World) (K : V1) : Prop :=
bindP (pNil x0) fun v1 =>
bindP (pFieldAddr 1 v1) fun v2 =>
bindP (ld1 v2 w) fun v3 =>
bindP (fLook Tryz.prog 48 v3 x1 true w) fun v4 =>
bindP (pTuple v4 0) fun v5 =>
bindP (pTuple v4 1) fun v6 =>
eAlloc Tryz.prog 58 w fun v8 w7 =>
bindW (st 2 v8 v5 w7) fun w9 =>
bindP (uNot v6) fun v11 =>
ifB v11 (
K (.int .i64 5) w9) (
bindP (bLt x2 (.int .i64 0)) fun v12 =>
stepM (gd false v12) x2 fun v13 =>
Sx.stepG (gd false v12) (pFieldAddr 0 v8) fun v14 =>
Sx.stepG (gd false v12) (ld1 v14 w9) fun v15 =>
Sx.stepG (gd false v12) (lenS v15) fun v16 =>
Sx.stepG (gd false v12) (bGt v13 v16) fun v17 =>
bindP (pPick v12 (.bool true) v17) fun v18 =>
ifB v18 (
K (.int .i64 1) w9) (
bindP (pFieldAddr 0 v8) fun v19 =>
bindP (ld1 v19 w9.drew) fun v20 =>
bindP (pSliceS v20 none (some x2)) fun v21 =>
bindP (pFieldAddr 1 v8) fun v22 =>
bindP (ld1 v22 w9.drew) fun v23 =>
bindP (pMin v23 x2) fun v24 =>
bindP (fBuild Tryz.prog 58 [(0, v21), (1, v24)]) fun v25 =>
callP G52 [x0, x1, v25] w9.drew fun v27 w26 =>
K v27 w26))
def G72 : FnT := fun args w K => on3 (fun x0 x1 x2 => F72 x0 x1 x2 w K) args
theorem c72 {x0 x1 x2 : Value} {w : World} {K : V1} (h : F72 x0 x1 x2 w K) : callP G72 [x0, x1, x2] w K := callP_intro (on3_mk (p := fun x0 x1 x2 => F72 x0 x1 x2 w K) h)
theorem ok72 : OkF Tryz.prog 72 G72 := by
  refine okF_of (tab_ok (l := T72) ⟨ok52, trivial⟩) mixed (n := fuel) Tryz.func72 Tryz.call72 fun args w K h => ?_
  obtain ⟨x0, x1, x2, rfl, hh⟩ := of_on3 h
  exact fnD_list (c := bodyOf Tryz.f72) (by kernel_rfl) (by kernel_rfl) (Eq.mp (by kernel_rfl) hh)
def T38 : List (Nat × FnT) := [(64, G64)]
def F38 (x0 x1 : Value) (w : World) (K : V1) : Prop :=
bindP (pNil x0) fun v1 =>
bindP (pFieldAddr 1 v1) fun v2 =>
bindP (ld1 v2 w) fun v3 =>
bindP (fLook Tryz.prog 48 v3 x1 true w) fun v4 =>
bindP (pTuple v4 0) fun v5 =>
bindP (pTuple v4 1) fun v6 =>
eAlloc Tryz.prog 58 w fun v8 w7 =>
bindW (st 2 v8 v5 w7) fun w9 =>
bindP (uNot v6) fun v11 =>
ifB v11 (
K (.int .i64 5) w9) (
callP G64 [x0] w9 fun v13 w12 =>
bindP (uNot v13) fun v14 =>
ifB v14 (
K (.int .i64 251) w12) (
bindP (pNil x0) fun v15 =>
bindP (pFieldAddr 1 v15) fun v16 =>
bindP (ld1 v16 w12) fun v17 =>
eDelete Tryz.prog 48 v17 x1 w12 fun _ w18 =>
K (.int .i64 0) w18))
def G38 : FnT := fun args w K => on2 (fun x0 x1 => F38 x0 x1 w K) args
theorem c38 {x0 x1 : Value} {w : World} {K : V1} (h : F38 x0 x1 w K) : callP G38 [x0, x1] w K := callP_intro (on2_mk (p := fun x0 x1 => F38 x0 x1 w K) h)
theorem ok38 : OkF Tryz.prog 38 G38 := by
  refine okF_of (tab_ok (l := T38) ⟨ok64, trivial⟩) mixed (n := fuel) Tryz.func38 Tryz.call38 fun args w K h => ?_
  obtain ⟨x0, x1, rfl, hh⟩ := of_on2 h
  exact fnD_list (c := bodyOf Tryz.f38) (by kernel_rfl) (by kernel_rfl) (Eq.mp (by kernel_rfl) hh)
def T39 : List (Nat × FnT) := []
def F39 (x0 x1 : Value) (w : World) (K : V1) : Prop :=
bindP (pNil x0) fun v1 =>
bindP (pFieldAddr 1 v1) fun v2 =>
bindP (ld1 v2 w) fun v3 =>
bindP (fLook Tryz.prog 48 v3 x1 true w) fun v4 =>
bindP (pTuple v4 0) fun v5 =>
bindP (pTuple v4 1) fun v6 =>
eAlloc Tryz.prog 58 w fun v8 w7 =>
bindW (st 2 v8 v5 w7) fun w9 =>
bindP (uNot v6) fun v11 =>
ifB v11 (
K (.tuple #[(.string ⟨#[]⟩), (.int .i64 5)]) w9) (
bindP (pFieldAddr 0 v8) fun v12 =>
bindP (ld1 v12 w9) fun v13 =>
K (.tuple #[v13, (.int .i64 0)]) w9)
def G39 : FnT := fun args w K => on2 (fun x0 x1 => F39 x0 x1 w K) args
theorem c39 {x0 x1 : Value} {w : World} {K : V1} (h : F39 x0 x1 w K) : callP G39 [x0, x1] w K := callP_intro (on2_mk (p := fun x0 x1 => F39 x0 x1 w K) h)
theorem ok39 : OkF Tryz.prog 39 G39 := by
  refine okF_of (tab_ok (l := T39) trivial) mixed (n := fuel) Tryz.func39 Tryz.call39 fun args w K h => ?_
  obtain ⟨x0, x1, rfl, hh⟩ := of_on2 h
  exact fnD_list (c := bodyOf Tryz.f39) (by kernel_rfl) (by kernel_rfl) (Eq.mp (by kernel_rfl) hh)
def LayK62_ren : Go.Shelf.Ren := ⟨fun | 7 => 62 | 10 => 80 | n => n, fun | 23 => 48 | 26 => 9 | 3 => 58 | 28 => 77 | 0 => 0 | 27 => 76 | 33 => 61 | 4 => 4 | n => n, fun | n => n⟩
theorem LayK62 : Go.Proofs.SlLaysZ.n7 Tryz.prog LayK62_ren := {
  mixed := by kernel_rfl
  f7 := ⟨Tryz.f62.name, by decide, Tryz.func62.trans (congrArg some (by kernel_rfl))⟩
  f10 := ⟨Tryz.f80.name, by decide, Tryz.func80.trans (congrArg some (by kernel_rfl))⟩
  t0 := Tryz.underlying0
  a0 := Tryz.isAgg0
  z0 := Tryz.sizeOf0
  v0 := Tryz.zeroValue0
  t4 := Tryz.underlying4
  a4 := Tryz.isAgg4
  z4 := Tryz.sizeOf4
  v4 := Tryz.zeroValue4
  t23 := Tryz.underlying48
  a23 := Tryz.isAgg48
  z23 := Tryz.sizeOf48
  v23 := Tryz.zeroValue48
  t26 := Tryz.underlying9
  a26 := Tryz.isAgg9
  z26 := Tryz.sizeOf9
  v26 := Tryz.zeroValue9
  t27 := Tryz.underlying76
  a27 := Tryz.isAgg76
  z27 := Tryz.sizeOf76
  v27 := Tryz.zeroValue76
  t28 := Tryz.underlying77
  a28 := Tryz.isAgg77
  z28 := Tryz.sizeOf77
  v28 := Tryz.zeroValue77
  t33 := Tryz.underlying61
  a33 := Tryz.isAgg61
  z33 := Tryz.sizeOf61
  v33 := Tryz.zeroValue61 }
def LayS61_ren : Go.Shelf.Ren := ⟨fun | 6 => 61 | 8 => 78 | 9 => 79 | 11 => 96 | 13 => 87 | 12 => 97 | 23 => 111 | 24 => 112 | 14 => 122 | 15 => 123 | 16 => 124 | 17 => 125 | 18 => 126 | 19 => 127 | 20 => 128 | 21 => 129 | 22 => 130 | 25 => 148 | 26 => 137 | 27 => 138 | 28 => 149 | 29 => 150 | 30 => 151 | 31 => 160 | n => n, fun | 26 => 9 | 28 => 77 | 24 => 22 | 0 => 0 | 3 => 3 | 37 => 87 | 48 => 114 | 50 => 85 | 4 => 4 | 40 => 124 | 39 => 123 | 45 => 129 | 5 => 5 | 9 => 9 | 51 => 154 | 55 => 158 | 57 => 173 | 58 => 174 | 33 => 61 | n => n, fun | n => n⟩
theorem LayS61 : Go.Proofs.SlLaysZ.n6 Tryz.prog LayS61_ren := {
  mixed := by kernel_rfl
  f6 := ⟨Tryz.f61.name, by decide, Tryz.func61.trans (congrArg some (by kernel_rfl))⟩
  f8 := ⟨Tryz.f78.name, by decide, Tryz.func78.trans (congrArg some (by kernel_rfl))⟩
  f11 := ⟨Tryz.f96.name, by decide, Tryz.func96.trans (congrArg some (by kernel_rfl))⟩
  t0 := Tryz.underlying0
  a0 := Tryz.isAgg0
  z0 := Tryz.sizeOf0
  v0 := Tryz.zeroValue0
  t24 := Tryz.underlying22
  a24 := Tryz.isAgg22
  z24 := Tryz.sizeOf22
  v24 := Tryz.zeroValue22
  t26 := Tryz.underlying9
  a26 := Tryz.isAgg9
  z26 := Tryz.sizeOf9
  v26 := Tryz.zeroValue9
  t28 := Tryz.underlying77
  a28 := Tryz.isAgg77
  z28 := Tryz.sizeOf77
  v28 := Tryz.zeroValue77
  i26 := by kernel_rfl }
def LayM79_ren : Go.Shelf.Ren := ⟨fun | 6 => 79 | 8 => 87 | 9 => 97 | 19 => 111 | 20 => 112 | 21 => 122 | 22 => 123 | 23 => 124 | 24 => 125 | 25 => 126 | 26 => 127 | 27 => 128 | 28 => 129 | 29 => 130 | 36 => 148 | 31 => 137 | 32 => 138 | 37 => 149 | 38 => 150 | 39 => 151 | 41 => 160 | n => n, fun | 27 => 22 | 29 => 9 | 3 => 3 | 32 => 87 | 26 => 22 | 0 => 0 | 44 => 114 | 46 => 85 | 4 => 4 | 36 => 124 | 35 => 123 | 41 => 129 | 5 => 5 | 9 => 9 | 53 => 154 | 57 => 158 | 63 => 173 | 64 => 174 | n => n, fun | n => n⟩
theorem LayM79 : Go.Proofs.SlLaysM.n6 Tryz.prog LayM79_ren := {
  mixed := by kernel_rfl
  f6 := ⟨Tryz.f79.name, by decide, Tryz.func79.trans (congrArg some (by kernel_rfl))⟩
  f8 := Tryz.func87.trans (congrArg some (by kernel_rfl))
  f9 := ⟨Tryz.f97.name, by decide, Tryz.func97.trans (congrArg some (by kernel_rfl))⟩
  f19 := Tryz.func111.trans (congrArg some (by kernel_rfl))
  f20 := Tryz.func112.trans (congrArg some (by kernel_rfl))
  f21 := ⟨Tryz.f122.name, by decide, Tryz.func122.trans (congrArg some (by kernel_rfl))⟩
  f22 := ⟨Tryz.f123.name, by decide, Tryz.func123.trans (congrArg some (by kernel_rfl))⟩
  f23 := ⟨Tryz.f124.name, by decide, Tryz.func124.trans (congrArg some (by kernel_rfl))⟩
  f24 := ⟨Tryz.f125.name, by decide, Tryz.func125.trans (congrArg some (by kernel_rfl))⟩
  f25 := ⟨Tryz.f126.name, by decide, Tryz.func126.trans (congrArg some (by kernel_rfl))⟩
  f26 := ⟨Tryz.f127.name, by decide, Tryz.func127.trans (congrArg some (by kernel_rfl))⟩
  f27 := ⟨Tryz.f128.name, by decide, Tryz.func128.trans (congrArg some (by kernel_rfl))⟩
  f28 := ⟨Tryz.f129.name, by decide, Tryz.func129.trans (congrArg some (by kernel_rfl))⟩
  f29 := ⟨Tryz.f130.name, by decide, Tryz.func130.trans (congrArg some (by kernel_rfl))⟩
  f31 := Tryz.func137.trans (congrArg some (by kernel_rfl))
  f32 := Tryz.func138.trans (congrArg some (by kernel_rfl))
  f36 := ⟨Tryz.f148.name, by decide, Tryz.func148.trans (congrArg some (by kernel_rfl))⟩
  f37 := ⟨Tryz.f149.name, by decide, Tryz.func149.trans (congrArg some (by kernel_rfl))⟩
  f38 := ⟨Tryz.f150.name, by decide, Tryz.func150.trans (congrArg some (by kernel_rfl))⟩
  f39 := ⟨Tryz.f151.name, by decide, Tryz.func151.trans (congrArg some (by kernel_rfl))⟩
  f41 := ⟨Tryz.f160.name, by decide, Tryz.func160.trans (congrArg some (by kernel_rfl))⟩
  t0 := Tryz.underlying0
  a0 := Tryz.isAgg0
  z0 := Tryz.sizeOf0
  v0 := Tryz.zeroValue0
  t3 := Tryz.underlying3
  a3 := Tryz.isAgg3
  z3 := Tryz.sizeOf3
  v3 := Tryz.zeroValue3
  t4 := Tryz.underlying4
  a4 := Tryz.isAgg4
  z4 := Tryz.sizeOf4
  v4 := Tryz.zeroValue4
  t5 := Tryz.underlying5
  a5 := Tryz.isAgg5
  z5 := Tryz.sizeOf5
  v5 := Tryz.zeroValue5
  t9 := Tryz.underlying9
  a9 := Tryz.isAgg9
  z9 := Tryz.sizeOf9
  v9 := Tryz.zeroValue9
  t26 := Tryz.underlying22
  a26 := Tryz.isAgg22
  z26 := Tryz.sizeOf22
  v26 := Tryz.zeroValue22
  t27 := Tryz.underlying22
  a27 := Tryz.isAgg22
  z27 := Tryz.sizeOf22
  v27 := Tryz.zeroValue22
  t29 := Tryz.underlying9
  a29 := Tryz.isAgg9
  z29 := Tryz.sizeOf9
  v29 := Tryz.zeroValue9
  t32 := Tryz.underlying87
  a32 := Tryz.isAgg87
  z32 := Tryz.sizeOf87
  v32 := Tryz.zeroValue87
  t35 := Tryz.underlying123
  a35 := Tryz.isAgg123
  z35 := Tryz.sizeOf123
  v35 := Tryz.zeroValue123
  t36 := Tryz.underlying124
  a36 := Tryz.isAgg124
  z36 := Tryz.sizeOf124
  v36 := Tryz.zeroValue124
  t41 := Tryz.underlying129
  a41 := Tryz.isAgg129
  z41 := Tryz.sizeOf129
  v41 := Tryz.zeroValue129
  t44 := Tryz.underlying114
  a44 := Tryz.isAgg114
  z44 := Tryz.sizeOf114
  v44 := Tryz.zeroValue114
  t46 := Tryz.underlying85
  a46 := Tryz.isAgg85
  z46 := Tryz.sizeOf85
  v46 := Tryz.zeroValue85
  t53 := Tryz.underlying154
  a53 := Tryz.isAgg154
  z53 := Tryz.sizeOf154
  v53 := Tryz.zeroValue154
  t57 := Tryz.underlying158
  a57 := Tryz.isAgg158
  z57 := Tryz.sizeOf158
  v57 := Tryz.zeroValue158
  t63 := Tryz.underlying173
  a63 := Tryz.isAgg173
  z63 := Tryz.sizeOf173
  v63 := Tryz.zeroValue173
  t64 := Tryz.underlying174
  a64 := Tryz.isAgg174
  z64 := Tryz.sizeOf174
  v64 := Tryz.zeroValue174 }
def G61 : FnT := gSortedS 80 9
theorem ok61 : OkF Tryz.prog 61 G61 := okSortedS (f := 61) (g := 80) (ty := 9) LayK62 LayS61 LayM79 rfl rfl rfl rfl Tryz.call61 Tryz.call79 Tryz.call80
def T62 : List (Nat × FnT) := []
def F62 (x0 : Value) (w : World) (K : V1) : Prop :=
eBox 48 x0 w fun v2 w1 =>
bindP (some (.func (.func 80) #[] #[v2])) fun v3 =>
K v3 w1
def G62 : FnT := fun args w K => on1 (fun x0 => F62 x0 w K) args
theorem c62 {x0 : Value} {w : World} {K : V1} (h : F62 x0 w K) : callP G62 [x0] w K := callP_intro (on1_mk (p := fun x0 => F62 x0 w K) h)
theorem ok62 : OkF Tryz.prog 62 G62 := by
  refine okF_of (tab_ok (l := T62) trivial) mixed (n := fuel) Tryz.func62 Tryz.call62 fun args w K h => ?_
  obtain ⟨x0, rfl, hh⟩ := of_on1 h
  exact fnD_list (c := bodyOf Tryz.f62) (by kernel_rfl) (by kernel_rfl) (Eq.mp (by kernel_rfl) hh)
def T34 : List (Nat × FnT) := [(61, G61), (62, G62)]
def F34 (x0 : Value) (w : World) (K : V1) : Prop :=
bindP (pNil x0) fun v1 =>
bindP (pFieldAddr 1 v1) fun v2 =>
bindP (ld1 v2 w) fun v3 =>
callP G62 [v3] w fun v5 w4 =>
callP G61 [v5] w4 fun v7 w6 =>
K v7 w6
def G34 : FnT := fun args w K => on1 (fun x0 => F34 x0 w K) args
theorem c34 {x0 : Value} {w : World} {K : V1} (h : F34 x0 w K) : callP G34 [x0] w K := callP_intro (on1_mk (p := fun x0 => F34 x0 w K) h)
theorem ok34 : OkF Tryz.prog 34 G34 := by
  refine okF_of (tab_ok (l := T34) ⟨ok61, ok62, trivial⟩) mixed (n := fuel) Tryz.func34 Tryz.call34 fun args w K h => ?_
  obtain ⟨x0, rfl, hh⟩ := of_on1 h
  exact fnD_list (c := bodyOf Tryz.f34) (by kernel_rfl) (by kernel_rfl) (Eq.mp (by kernel_rfl) hh)
def T35 : List (Nat × FnT) := []
def F35_2b (s0 : Value) (w : World) (K : V1) : Prop :=
K s0 w
def F35_2 (s0 : Value) (w : World) (K : V1) : Prop := F35_2b s0 w K
theorem ok35_2 {K : V1}
    (hn : HN (fun e w => K (e 4) w) kn) (hr : HR Tryz.prog [.tmp 4] K kr) (he : HE noE ke) :
    ∀ e w, F35_2 (e 0) w K → denL Tryz.prog (tabOf T35) 16 fuel ((flat (bodyOf Tryz.f35)).drop 4) e w kn kr ke := by
  intro e w h
  unfold F35_2 at h
  have e1 : ∀ (_ : Unit), F35_2b (e 0) w K = denL Tryz.prog (tabOf T35) 16 fuel ((flat (bodyOf Tryz.f35)).drop 4) e w (fun e w => K (e 4) w) (endD Tryz.prog [.tmp 4] K) noE := by intro _; kernel_rfl
  exact seg_end (Eq.mp (e1 ()) h) hn hr he
def F35_1b (s0 s1 : Value) (w : World) (_K : V1) (Y0 : V1) : Prop :=
bindP (bAdd s1 (.int .i64 1)) fun v1 =>
bindP (bRem s0 v1) fun v2 =>
bindP (bLt v2 (.int .i64 0)) fun v3 =>
ifB v3 (
bindP (bAdd s1 (.int .i64 1)) fun v4 =>
bindP (bAdd v2 v4) fun v5 =>
Y0 v5 w) (
Y0 v2 w)
def F35_1 (s0 s1 : Value) (w : World) (K : V1) : Prop := F35_1b s0 s1 w K (fun a0 w => F35_2 a0 w K)
theorem ok35_1 {K : V1}
    (hn : HN (fun e w => K (e 4) w) kn) (hr : HR Tryz.prog [.tmp 4] K kr) (he : HE noE ke) :
    ∀ e w, F35_1 (e 0) (e 1) w K → denL Tryz.prog (tabOf T35) 16 fuel ((flat (bodyOf Tryz.f35)).drop 0) e w kn kr ke := by
  intro e w h
  unfold F35_1 at h
  have e1 : ∀ (Y0 : V1), F35_1b (e 0) (e 1) w K Y0 = denL Tryz.prog (tabOf T35) 16 fuel (((flat (bodyOf Tryz.f35)).drop 0).take 4) e w (fun e w => Y0 (e 0) w) (endD Tryz.prog [.tmp 4] K) noE := by intro Y0; kernel_rfl
  exact seg 4 (Eq.mp (e1 (fun a0 w => F35_2 a0 w K)) h) (fun e w h => ok35_2 hn hr he e w h) hr he
def F35 (x0 x1 : Value) (w : World) (K : V1) : Prop := F35_1 x0 x1 w K
def G35 : FnT := fun args w K => on2 (fun x0 x1 => F35 x0 x1 w K) args
theorem c35 {x0 x1 : Value} {w : World} {K : V1} (h : F35 x0 x1 w K) : callP G35 [x0, x1] w K := callP_intro (on2_mk (p := fun x0 x1 => F35 x0 x1 w K) h)
theorem ok35 : OkF Tryz.prog 35 G35 := by
  refine okF_of (tab_ok (l := T35) trivial) mixed (n := fuel) Tryz.func35 Tryz.call35 fun args w K h => ?_
  obtain ⟨x0, x1, rfl, hh⟩ := of_on2 h
  unfold F35 at hh
  exact fnD_list (c := bodyOf Tryz.f35) (by kernel_rfl) (by kernel_rfl) (ok35_1 (fun _ _ h => h) (fun _ _ h => h) (fun _ _ _ h => h) (initE [x0, x1]) w hh)
def T13 : List (Nat × FnT) := [(34, G34), (35, G35)]
def F13_3b (s0 : Value) (w : World) (K : V1) : Prop :=
bindP (pNil s0) fun v1 =>
bindP (pFieldAddr 2 v1) fun v2 =>
bindW (st 1 v2 (.bool false) w) fun w3 =>
bindP (pNil s0) fun v5 =>
bindP (pFieldAddr 3 v5) fun v6 =>
bindW (st 1 v6 (.int .i64 0) w3) fun w7 =>
K (.tuple #[]) w7
def F13_3 (s0 : Value) (w : World) (K : V1) : Prop := F13_3b s0 w K
theorem ok13_3 {K : V1}
    (hn : HN (fun e w => K (.tuple #[]) w) kn) (hr : HR Tryz.prog [] K kr) (he : HE noE ke) :
    ∀ e w, F13_3 (e 0) w K → denL Tryz.prog (tabOf T13) 59 fuel ((flat (bodyOf Tryz.f13)).drop 2) e w kn kr ke := by
  intro e w h
  unfold F13_3 at h
  have e1 : ∀ (_ : Unit), F13_3b (e 0) w K = denL Tryz.prog (tabOf T13) 59 fuel ((flat (bodyOf Tryz.f13)).drop 2) e w (fun e w => K (.tuple #[]) w) (endD Tryz.prog [] K) noE := by intro _; kernel_rfl
  exact seg_end (Eq.mp (e1 ()) h) hn hr he
def F13_6b (s0 s1 s9 s10 s11 : Value) (w : World) (_K : V1) (R3 : V5) : Prop :=
bindP (bAdd s11 (.int .i64 1)) fun v9 =>
R3 s0 s1 s9 s10 v9 w
def F13_6 (s0 s1 s9 s10 s11 : Value) (w : World) (K : V1) (R3 : V5) : Prop := F13_6b s0 s1 s9 s10 s11 w K R3
theorem ok13_6 (R3 : V5) {K : V1}
    (hn : HN (fun e w => R3 (e 0) (e 1) (e 9) (e 10) (e 11) w) kn) (hr : HR Tryz.prog [] K kr) (he : HE (blkK 0 (fun e w => F13_3 (e 0) w K) noE) ke) :
    ∀ e w, F13_6 (e 0) (e 1) (e 9) (e 10) (e 11) w K R3 → denL Tryz.prog (tabOf T13) 59 fuel ((flat (loopB (blkB (nthC (flat (bodyOf Tryz.f13)) 1)))).drop 3) e w kn kr ke := by
  intro e w h
  unfold F13_6 at h
  have e1 : ∀ (_ : Unit), F13_6b (e 0) (e 1) (e 9) (e 10) (e 11) w K R3 = denL Tryz.prog (tabOf T13) 59 fuel ((flat (loopB (blkB (nthC (flat (bodyOf Tryz.f13)) 1)))).drop 3) e w (fun e w => R3 (e 0) (e 1) (e 9) (e 10) (e 11) w) (endD Tryz.prog [] K) (blkK 0 (fun e w => F13_3 (e 0) w K) noE) := by intro _; kernel_rfl
  exact seg_end (Eq.mp (e1 ()) h) hn hr he
def F13_8b (s0 s1 s5 s6 s7 s9 s10 s11 : Value) (w : World) (_K : V1) (R3 : V5) (Y0 : V5) : Prop :=
bindP (pNil s0) fun v10 =>
bindP (pFieldAddr 1 v10) fun v11 =>
bindP (ld1 v11 w.drew) fun v12 =>
bindP (pFieldAddr 0 s6) fun v13 =>
bindP (ld1 v13 w.drew) fun v14 =>
bindP (pSliceS v14 none (some s7)) fun v15 =>
bindP (fBuild Tryz.prog 58 [(0, v15), (1, s7)]) fun v16 =>
eMapSet Tryz.prog 48 v12 s5 v16 w.drew fun _ w17 =>
Y0 s0 s1 s9 s10 s11 w17
def F13_8 (s0 s1 s5 s6 s7 s9 s10 s11 : Value) (w : World) (K : V1) (R3 : V5) : Prop := F13_8b s0 s1 s5 s6 s7 s9 s10 s11 w K R3 (fun a0 a1 a9 a10 a11 w => F13_6 a0 a1 a9 a10 a11 w K R3)
theorem ok13_8 (R3 : V5) {K : V1}
    (hn : HN (fun e w => F13_6 (e 0) (e 1) (e 9) (e 10) (e 11) w K R3) kn) (hr : HR Tryz.prog [] K kr) (he : HE (blkK 1 (fun e w => F13_6 (e 0) (e 1) (e 9) (e 10) (e 11) w K R3) (blkK 0 (fun e w => F13_3 (e 0) w K) noE)) ke) :
    ∀ e w, F13_8 (e 0) (e 1) (e 5) (e 6) (e 7) (e 9) (e 10) (e 11) w K R3 → denL Tryz.prog (tabOf T13) 59 fuel ((flat (blkB (nthC (flat (loopB (blkB (nthC (flat (bodyOf Tryz.f13)) 1)))) 2))).drop 5) e w kn kr ke := by
  intro e w h
  unfold F13_8 at h
  have e1 : ∀ (Y0 : V5), F13_8b (e 0) (e 1) (e 5) (e 6) (e 7) (e 9) (e 10) (e 11) w K R3 Y0 = denL Tryz.prog (tabOf T13) 59 fuel ((flat (blkB (nthC (flat (loopB (blkB (nthC (flat (bodyOf Tryz.f13)) 1)))) 2))).drop 5) e w (fun e w => Y0 (e 0) (e 1) (e 9) (e 10) (e 11) w) (endD Tryz.prog [] K) (blkK 1 (fun e w => Y0 (e 0) (e 1) (e 9) (e 10) (e 11) w) (blkK 0 (fun e w => F13_3 (e 0) w K) noE)) := by intro Y0; kernel_rfl
  exact seg_end (Eq.mp (e1 (fun a0 a1 a9 a10 a11 w => F13_6 a0 a1 a9 a10 a11 w K R3)) h) hn hr he
def F13_7b (s0 s1 s9 s10 s11 : Value) (w : World) (_K : V1) (R3 : V5) (Y0 : V8) : Prop :=
bindP (pIndexL 1 s9 s11) fun v19 =>
bindP (ld1 v19 w) fun v20 =>
bindP (pNil s0) fun v21 =>
bindP (pFieldAddr 1 v21) fun v22 =>
bindP (ld1 v22 w) fun v23 =>
bindP (fLook Tryz.prog 48 v23 v20 false w) fun v24 =>
eAlloc Tryz.prog 58 w fun v26 w25 =>
bindW (st 2 v26 v24 w25) fun w27 =>
bindP (pFieldAddr 1 v26) fun v29 =>
bindP (ld1 v29 w27) fun v30 =>
bindP (lenL s1) fun v31 =>
bindP (bLt s11 v31) fun v32 =>
ifB v32 (
bindP (pIndexL 1 s1 s11) fun v33 =>
bindP (ld1 v33 w27.drew) fun v34 =>
bindP (pFieldAddr 0 v26) fun v35 =>
bindP (ld1 v35 w27.drew) fun v36 =>
bindP (lenS v36) fun v37 =>
bindP (pFieldAddr 1 v26) fun v38 =>
bindP (ld1 v38 w27.drew) fun v39 =>
bindP (bSub v37 v39) fun v40 =>
callP G35 [v34, v40] w27.drew fun v42 w41 =>
bindP (bAdd v30 v42) fun v43 =>
Y0 s0 s1 v20 v26 v43 s9 s10 s11 w41) (
Y0 s0 s1 v20 v26 v30 s9 s10 s11 w27)
def F13_7 (s0 s1 s9 s10 s11 : Value) (w : World) (K : V1) (R3 : V5) : Prop := F13_7b s0 s1 s9 s10 s11 w K R3 (fun a0 a1 a5 a6 a7 a9 a10 a11 w => F13_8 a0 a1 a5 a6 a7 a9 a10 a11 w K R3)
theorem ok13_7 (R3 : V5) {K : V1}
    (hn : HN (fun e w => F13_6 (e 0) (e 1) (e 9) (e 10) (e 11) w K R3) kn) (hr : HR Tryz.prog [] K kr) (he : HE (blkK 1 (fun e w => F13_6 (e 0) (e 1) (e 9) (e 10) (e 11) w K R3) (blkK 0 (fun e w => F13_3 (e 0) w K) noE)) ke) :
    ∀ e w, F13_7 (e 0) (e 1) (e 9) (e 10) (e 11) w K R3 → denL Tryz.prog (tabOf T13) 59 fuel ((flat (blkB (nthC (flat (loopB (blkB (nthC (flat (bodyOf Tryz.f13)) 1)))) 2))).drop 0) e w kn kr ke := by
  intro e w h
  unfold F13_7 at h
  have e1 : ∀ (Y0 : V8), F13_7b (e 0) (e 1) (e 9) (e 10) (e 11) w K R3 Y0 = denL Tryz.prog (tabOf T13) 59 fuel (((flat (blkB (nthC (flat (loopB (blkB (nthC (flat (bodyOf Tryz.f13)) 1)))) 2))).drop 0).take 5) e w (fun e w => Y0 (e 0) (e 1) (e 5) (e 6) (e 7) (e 9) (e 10) (e 11) w) (endD Tryz.prog [] K) (blkK 1 (fun e w => F13_6 (e 0) (e 1) (e 9) (e 10) (e 11) w K R3) (blkK 0 (fun e w => F13_3 (e 0) w K) noE)) := by intro Y0; kernel_rfl
  exact seg 5 (Eq.mp (e1 (fun a0 a1 a5 a6 a7 a9 a10 a11 w => F13_8 a0 a1 a5 a6 a7 a9 a10 a11 w K R3)) h) (fun e w h => ok13_8 R3 hn hr he e w h) hr he
def F13_5 (s0 s1 s9 s10 s11 : Value) (w : World) (K : V1) (R3 : V5) : Prop := F13_7 s0 s1 s9 s10 s11 w K R3
theorem ok13_5 (R3 : V5) {K : V1}
    (hn : HN (fun e w => R3 (e 0) (e 1) (e 9) (e 10) (e 11) w) kn) (hr : HR Tryz.prog [] K kr) (he : HE (blkK 0 (fun e w => F13_3 (e 0) w K) noE) ke) :
    ∀ e w, F13_5 (e 0) (e 1) (e 9) (e 10) (e 11) w K R3 → denL Tryz.prog (tabOf T13) 59 fuel ((flat (loopB (blkB (nthC (flat (bodyOf Tryz.f13)) 1)))).drop 2) e w kn kr ke := by
  intro e w h
  unfold F13_5 at h
  refine seg_block (id := 1) (body := (blkB (nthC (flat (loopB (blkB (nthC (flat (bodyOf Tryz.f13)) 1)))) 2))) (l2 := (flat (loopB (blkB (nthC (flat (bodyOf Tryz.f13)) 1)))).drop 3) (by kernel_rfl) ?_
  exact ok13_7 R3 (fun e w h => ok13_6 R3 hn hr he e w h) hr (blkK_mono (fun e w h => ok13_6 R3 hn hr he e w h) he) e w h
def F13_4b (s0 s1 s9 s10 s11 : Value) (w : World) (_K : V1) (R3 : V5) (Y0 : V5) (Y1 : V1) : Prop :=
bindP (bLt s11 s10) fun v44 =>
ifB v44 (
Y0 s0 s1 s9 s10 s11 w) (
Y1 s0 w)
def F13_4 (s0 s1 s9 s10 s11 : Value) (w : World) (K : V1) (R3 : V5) : Prop := F13_4b s0 s1 s9 s10 s11 w K R3 (fun a0 a1 a9 a10 a11 w => F13_5 a0 a1 a9 a10 a11 w K R3) (fun a0 w => F13_3 a0 w K)
theorem ok13_4 (R3 : V5) {K : V1}
    (hn : HN (fun e w => R3 (e 0) (e 1) (e 9) (e 10) (e 11) w) kn) (hr : HR Tryz.prog [] K kr) (he : HE (blkK 0 (fun e w => F13_3 (e 0) w K) noE) ke) :
    ∀ e w, F13_4 (e 0) (e 1) (e 9) (e 10) (e 11) w K R3 → denL Tryz.prog (tabOf T13) 59 fuel ((flat (loopB (blkB (nthC (flat (bodyOf Tryz.f13)) 1)))).drop 0) e w kn kr ke := by
  intro e w h
  unfold F13_4 at h
  have e1 : ∀ (Y0 : V5) (Y1 : V1), F13_4b (e 0) (e 1) (e 9) (e 10) (e 11) w K R3 Y0 Y1 = denL Tryz.prog (tabOf T13) 59 fuel (((flat (loopB (blkB (nthC (flat (bodyOf Tryz.f13)) 1)))).drop 0).take 2) e w (fun e w => Y0 (e 0) (e 1) (e 9) (e 10) (e 11) w) (endD Tryz.prog [] K) (blkK 0 (fun e w => Y1 (e 0) w) noE) := by intro Y0 Y1; kernel_rfl
  exact seg 2 (Eq.mp (e1 (fun a0 a1 a9 a10 a11 w => F13_5 a0 a1 a9 a10 a11 w K R3) (fun a0 w => F13_3 a0 w K)) h) (fun e w h => ok13_5 R3 hn hr he e w h) hr he
def F13_2L : Nat → Value → Value → Value → Value → Value → World → (V1) → Prop
  | 0, _, _, _, _, _, _, _ => False
  | n + 1, s0, s1, s9, s10, s11, w, K => F13_4 s0 s1 s9 s10 s11 w K (fun a0 a1 a9 a10 a11 w => F13_2L n a0 a1 a9 a10 a11 w K)
def F13_2 (s0 s1 s9 s10 s11 : Value) (w : World) (K : V1) : Prop := F13_2L fuel s0 s1 s9 s10 s11 w K
theorem ok13_2 {K : V1}
    (hn : HN (fun e w => K (.tuple #[]) w) kn) (hr : HR Tryz.prog [] K kr) (he : HE noE ke) :
    ∀ e w, F13_2 (e 0) (e 1) (e 9) (e 10) (e 11) w K → denL Tryz.prog (tabOf T13) 59 fuel ((flat (bodyOf Tryz.f13)).drop 1) e w kn kr ke := by
  intro e w h
  unfold F13_2 at h
  refine seg_loop (id := 0) (body := (loopB (blkB (nthC (flat (bodyOf Tryz.f13)) 1)))) (l2 := (flat (bodyOf Tryz.f13)).drop 2) (by kernel_rfl) ?_
  refine loop_ok (FL := fun m e w => F13_2L m (e 0) (e 1) (e 9) (e 10) (e 11) w K) (fr := endD Tryz.prog [] K) (fe := (blkK 0 (fun e w => F13_3 (e 0) w K) noE)) (fun _ _ h => h) ?_ hr (blkK_mono (fun e w h => ok13_3 hn hr he e w h) he) fuel e w h
  intro m e w h
  have h : F13_2L (m + 1) (e 0) (e 1) (e 9) (e 10) (e 11) w K := h
  rw [F13_2L] at h
  exact ok13_4 (fun a0 a1 a9 a10 a11 w => F13_2L m a0 a1 a9 a10 a11 w K) (fun _ _ h => h) (fun _ _ h => h) (fun _ _ _ h => h) e w h
def F13_1b (s0 s1 : Value) (w : World) (_K : V1) (Y0 : V5) : Prop :=
callP G34 [s0] w fun v46 w45 =>
bindP (lenL v46) fun v47 =>
Y0 s0 s1 v46 v47 (.int .i64 0) w45
def F13_1 (s0 s1 : Value) (w : World) (K : V1) : Prop := F13_1b s0 s1 w K (fun a0 a1 a9 a10 a11 w => F13_2 a0 a1 a9 a10 a11 w K)
theorem ok13_1 {K : V1}
    (hn : HN (fun e w => K (.tuple #[]) w) kn) (hr : HR Tryz.prog [] K kr) (he : HE noE ke) :
    ∀ e w, F13_1 (e 0) (e 1) w K → denL Tryz.prog (tabOf T13) 59 fuel ((flat (bodyOf Tryz.f13)).drop 0) e w kn kr ke := by
  intro e w h
  unfold F13_1 at h
  have e1 : ∀ (Y0 : V5), F13_1b (e 0) (e 1) w K Y0 = denL Tryz.prog (tabOf T13) 59 fuel (((flat (bodyOf Tryz.f13)).drop 0).take 1) e w (fun e w => Y0 (e 0) (e 1) (e 9) (e 10) (e 11) w) (endD Tryz.prog [] K) noE := by intro Y0; kernel_rfl
  exact seg 1 (Eq.mp (e1 (fun a0 a1 a9 a10 a11 w => F13_2 a0 a1 a9 a10 a11 w K)) h) (fun e w h => ok13_2 hn hr he e w h) hr he
def F13 (x0 x1 : Value) (w : World) (K : V1) : Prop := F13_1 x0 x1 w K
def G13 : FnT := fun args w K => on2 (fun x0 x1 => F13 x0 x1 w K) args
theorem c13 {x0 x1 : Value} {w : World} {K : V1} (h : F13 x0 x1 w K) : callP G13 [x0, x1] w K := callP_intro (on2_mk (p := fun x0 x1 => F13 x0 x1 w K) h)
theorem ok13 : OkF Tryz.prog 13 G13 := by
  refine okF_of (tab_ok (l := T13) ⟨ok34, ok35, trivial⟩) mixed (n := fuel) Tryz.func13 Tryz.call13 fun args w K h => ?_
  obtain ⟨x0, x1, rfl, hh⟩ := of_on2 h
  unfold F13 at hh
  exact fnD_list (c := bodyOf Tryz.f13) (by kernel_rfl) (by kernel_rfl) (ok13_1 (fun _ _ h => h) (fun _ _ h => h) (fun _ _ _ h => h) (initE [x0, x1]) w hh)
def T15 : List (Nat × FnT) := []
def F15_3b (s5 : Value) (w : World) (K : V1) : Prop :=
K s5 w
def F15_3 (s5 : Value) (w : World) (K : V1) : Prop := F15_3b s5 w K
theorem ok15_3 {K : V1}
    (hn : HN (fun e w => K (e 4) w) kn) (hr : HR Tryz.prog [.tmp 4] K kr) (he : HE noE ke) :
    ∀ e w, F15_3 (e 5) w K → denL Tryz.prog (tabOf T15) 31 fuel ((flat (bodyOf Tryz.f15)).drop 4) e w kn kr ke := by
  intro e w h
  unfold F15_3 at h
  have e1 : ∀ (_ : Unit), F15_3b (e 5) w K = denL Tryz.prog (tabOf T15) 31 fuel ((flat (bodyOf Tryz.f15)).drop 4) e w (fun e w => K (e 4) w) (endD Tryz.prog [.tmp 4] K) noE := by intro _; kernel_rfl
  exact seg_end (Eq.mp (e1 ()) h) hn hr he
def F15_2b (s0 s1 s5 s6 : Value) (w : World) (_K : V1) (Y0 : V4) (Y1 : V1) : Prop :=
stepM (gd true s5) s6 fun v1 =>
stepM (gd true s5) s0 fun v2 =>
Sx.stepG (gd true s5) (lenL v2) fun v3 =>
Sx.stepG (gd true s5) (bLt v1 v3) fun v4 =>
bindP (pPick s5 v4 (.bool false)) fun v5 =>
ifB v5 (
bindP (pIndexL 1 s0 s6) fun v6 =>
bindP (ld1 v6 w.drew) fun v7 =>
bindP (pIndexL 1 s1 s6) fun v8 =>
bindP (ld1 v8 w.drew) fun v9 =>
bindP (bEq Tryz.prog 9 (.tmp 24) (.tmp 28) v7 v9) fun v10 =>
bindP (bAdd s6 (.int .i64 1)) fun v11 =>
Y0 s0 s1 v10 v11 w.drew) (
Y1 s5 w)
def F15_2L : Nat → Value → Value → Value → Value → World → (V1) → Prop
  | 0, _, _, _, _, _, _ => False
  | n + 1, s0, s1, s5, s6, w, K => F15_2b s0 s1 s5 s6 w K (fun a0 a1 a5 a6 w => F15_2L n a0 a1 a5 a6 w K) (fun a5 w => F15_3 a5 w K)
def F15_2 (s0 s1 s5 s6 : Value) (w : World) (K : V1) : Prop := F15_2L fuel s0 s1 s5 s6 w K
theorem ok15_2 {K : V1}
    (hn : HN (fun e w => K (e 4) w) kn) (hr : HR Tryz.prog [.tmp 4] K kr) (he : HE noE ke) :
    ∀ e w, F15_2 (e 0) (e 1) (e 5) (e 6) w K → denL Tryz.prog (tabOf T15) 31 fuel ((flat (bodyOf Tryz.f15)).drop 3) e w kn kr ke := by
  intro e w h
  unfold F15_2 at h
  refine seg_loop (id := 0) (body := (loopB (blkB (nthC (flat (bodyOf Tryz.f15)) 3)))) (l2 := (flat (bodyOf Tryz.f15)).drop 4) (by kernel_rfl) ?_
  refine loop_ok (FL := fun m e w => F15_2L m (e 0) (e 1) (e 5) (e 6) w K) (fr := endD Tryz.prog [.tmp 4] K) (fe := (blkK 0 (fun e w => F15_3 (e 5) w K) noE)) (fun _ _ h => h) ?_ hr (blkK_mono (fun e w h => ok15_3 hn hr he e w h) he) fuel e w h
  intro m e w h
  have h : F15_2L (m + 1) (e 0) (e 1) (e 5) (e 6) w K := h
  rw [F15_2L] at h
  have e1 : ∀ (Y0 : V4) (Y1 : V1), F15_2b (e 0) (e 1) (e 5) (e 6) w K Y0 Y1 = denL Tryz.prog (tabOf T15) 31 fuel (flat (loopB (blkB (nthC (flat (bodyOf Tryz.f15)) 3)))) e w (fun e w => Y0 (e 0) (e 1) (e 5) (e 6) w) (endD Tryz.prog [.tmp 4] K) (blkK 0 (fun e w => Y1 (e 5) w) noE) := by intro Y0 Y1; kernel_rfl
  exact Eq.mp (e1 (fun a0 a1 a5 a6 w => F15_2L m a0 a1 a5 a6 w K) (fun a5 w => F15_3 a5 w K)) h
def F15_1b (s0 s1 : Value) (w : World) (_K : V1) (Y0 : V4) : Prop :=
bindP (lenL s0) fun v12 =>
bindP (lenL s1) fun v13 =>
bindP (bEq Tryz.prog 3 (.tmp 8) (.tmp 10) v12 v13) fun v14 =>
Y0 s0 s1 v14 (.int .i64 0) w
def F15_1 (s0 s1 : Value) (w : World) (K : V1) : Prop := F15_1b s0 s1 w K (fun a0 a1 a5 a6 w => F15_2 a0 a1 a5 a6 w K)
theorem ok15_1 {K : V1}
    (hn : HN (fun e w => K (e 4) w) kn) (hr : HR Tryz.prog [.tmp 4] K kr) (he : HE noE ke) :
    ∀ e w, F15_1 (e 0) (e 1) w K → denL Tryz.prog (tabOf T15) 31 fuel ((flat (bodyOf Tryz.f15)).drop 0) e w kn kr ke := by
  intro e w h
  unfold F15_1 at h
  have e1 : ∀ (Y0 : V4), F15_1b (e 0) (e 1) w K Y0 = denL Tryz.prog (tabOf T15) 31 fuel (((flat (bodyOf Tryz.f15)).drop 0).take 3) e w (fun e w => Y0 (e 0) (e 1) (e 5) (e 6) w) (endD Tryz.prog [.tmp 4] K) noE := by intro Y0; kernel_rfl
  exact seg 3 (Eq.mp (e1 (fun a0 a1 a5 a6 w => F15_2 a0 a1 a5 a6 w K)) h) (fun e w h => ok15_2 hn hr he e w h) hr he
def F15 (x0 x1 : Value) (w : World) (K : V1) : Prop := F15_1 x0 x1 w K
def G15 : FnT := fun args w K => on2 (fun x0 x1 => F15 x0 x1 w K) args
theorem c15 {x0 x1 : Value} {w : World} {K : V1} (h : F15 x0 x1 w K) : callP G15 [x0, x1] w K := callP_intro (on2_mk (p := fun x0 x1 => F15 x0 x1 w K) h)
theorem ok15 : OkF Tryz.prog 15 G15 := by
  refine okF_of (tab_ok (l := T15) trivial) mixed (n := fuel) Tryz.func15 Tryz.call15 fun args w K h => ?_
  obtain ⟨x0, x1, rfl, hh⟩ := of_on2 h
  unfold F15 at hh
  exact fnD_list (c := bodyOf Tryz.f15) (by kernel_rfl) (by kernel_rfl) (ok15_1 (fun _ _ h => h) (fun _ _ h => h) (fun _ _ _ h => h) (initE [x0, x1]) w hh)
end Go.Proofs.Gong

/- Dk1 -/
namespace Go.Proofs.Gong
open Go Go.Sx Go.Proofs
set_option maxRecDepth 100000
@[reducible] def cFi (x : List UInt8 × Nat) : List Value := [.string (bs x.1), .int .i64 (x.2 : Nat)]
abbrev fiV (x : List UInt8 × Nat) : Value := .agg (cFi x).toArray
theorem KST : KeyT Tryz.prog 9 kSt where
  u := by kernel_rfl
  ck := fun k => by simp [kSt, ckv, show Tryz.prog.underlying 9 = some .string by kernel_rfl]
  eq := fun a b => by
    have h : Tryz.prog.underlying 9 = some .string := by kernel_rfl
    simp [kSt, eqv, Op.maxDepth, h, sEq_eq, bs_beq]
  sb := fun a => by simp [kSt, Instr.sameBits]
theorem zFi : fZero Tryz.prog 58 = some (fiV ([], 0)) := z58
def DiskI (v : Value) (d : Dk) (M : List (List UInt8 × (List UInt8 × Nat))) : HP :=
  HEx fun p => HEx fun m => HPr (v = ptr p) (HSt (Cl p #[.int .i64 d.room, m, .bool d.stop, .int .i64 d.left] 50) (MapH kSt fiV m M))
def DiskA (v : Value) (d : Dk) : HP := HEx fun M => HPr (KInv ltS fKey fVal M d.fs ∧ DOk d) (DiskI v d M)
attribute [local irreducible] fBuild fLook fZero eqv bEqv Cl MapH LsH SlH ld1 ldN st callP eBox eAlloc lenM lenL eMapSet eDelete eAppend eBuildSl eRange eNext
section
variable {w0 w : World} {L : List HP} {K : Value → World → Prop} {v : Value} {d : Dk} {n x : List UInt8} {M : List (List UInt8 × (List UInt8 × Nat))}
theorem diskI_iff : Sat w0 (DiskI v d M :: L) w ↔ ∃ p m, v = ptr p ∧ Sat w0 (Cl p #[.int .i64 d.room, m, .bool d.stop, .int .i64 d.left] 50 :: MapH kSt fiV m M :: L) w := by
  simp only [DiskI, Sat.ex_iff, Sat.pr_iff, Sat.star_iff]
theorem diskA_iff : Sat w0 (DiskA v d :: L) w ↔ ∃ M, (KInv ltS fKey fVal M d.fs ∧ DOk d) ∧ Sat w0 (DiskI v d M :: L) w := by
  simp only [DiskA, Sat.ex_iff, Sat.pr_iff]
theorem diskA_ok (h : Sat w0 (DiskA v d :: L) w) : DOk d := by
  obtain ⟨M, H, _⟩ := diskA_iff.1 h
  exact H.2
theorem dnew_spec {m : Int} (h : Sat w0 L w) (hK0 : (m < 0 ∨ 1099511627776 < m) → K (.tuple #[.pointer none, .int .i64 1]) w) (hK1 : 0 ≤ m → m ≤ 1099511627776 → ∀ p w', Sat w0 (DiskA (ptr p) (newD m) :: L) w' → K (.tuple #[ptr p, .int .i64 0]) w') : callP G6 [.int .i64 m] w K := by
  refine c6 ?_
  unfold F6
  by_cases g1 : m < 0
  · have g1' : decide (m < 0) = true := by simpa using g1
    (repeat (first
 | (simp (disch := omega) only [evA, evB, evC, bAdd_i64, bSub_i64, g1'])
 | (with_reducible apply go_ld1 h)
 | ((with_reducible first | apply go_ldA h | apply go_rd h | apply go_rdN h | apply go_rlen h); rfl)
 | (with_reducible first | apply go_ldN h | apply go_lenL h)
 | ((with_reducible apply go_st h); intro _ h)
 | ((with_reducible apply go_stA h); rfl; rfl; (first | rfl | simp [OneV.o]); intro _ h)
 | ((with_reducible apply go_stN h); rfl; (first | rfl | simp [OneV.o]); intro _ h)
 | ((with_reducible apply go_box h); rfl; intro _ _ h)
 | ((with_reducible apply go_ix h); omega)
 | ((with_reducible first | apply go_elN h | apply go_f1 h | apply go_rf1 h | apply go_rel h); (case hi => omega); (try case hx => exact inferInstance); (try case hv => rfl))
 | ((with_reducible apply go_fa h); omega; omega)
))
    exact hK0 (.inl g1)
  have g1' : decide (m < 0) = false := by simpa using g1
  by_cases g2 : m > 1099511627776
  · have g2' : decide (m > 1099511627776) = true := by simpa using g2
    (repeat (first
 | (simp (disch := omega) only [evA, evB, evC, bAdd_i64, bSub_i64, g1', g2'])
 | (with_reducible apply go_ld1 h)
 | ((with_reducible first | apply go_ldA h | apply go_rd h | apply go_rdN h | apply go_rlen h); rfl)
 | (with_reducible first | apply go_ldN h | apply go_lenL h)
 | ((with_reducible apply go_st h); intro _ h)
 | ((with_reducible apply go_stA h); rfl; rfl; (first | rfl | simp [OneV.o]); intro _ h)
 | ((with_reducible apply go_stN h); rfl; (first | rfl | simp [OneV.o]); intro _ h)
 | ((with_reducible apply go_box h); rfl; intro _ _ h)
 | ((with_reducible apply go_ix h); omega)
 | ((with_reducible first | apply go_elN h | apply go_f1 h | apply go_rf1 h | apply go_rel h); (case hi => omega); (try case hx => exact inferInstance); (try case hv => rfl))
 | ((with_reducible apply go_fa h); omega; omega)
))
    exact hK0 (.inr g2)
  have g2' : decide (m > 1099511627776) = false := by simpa using g2
  (repeat (first
 | (simp (disch := omega) only [evA, evB, evC, bAdd_i64, bSub_i64, g1', g2'])
 | (with_reducible apply go_ld1 h)
 | ((with_reducible first | apply go_ldA h | apply go_rd h | apply go_rdN h | apply go_rlen h); rfl)
 | (with_reducible first | apply go_ldN h | apply go_lenL h)
 | ((with_reducible apply go_st h); intro _ h)
 | ((with_reducible apply go_stA h); rfl; rfl; (first | rfl | simp [OneV.o]); intro _ h)
 | ((with_reducible apply go_stN h); rfl; (first | rfl | simp [OneV.o]); intro _ h)
 | ((with_reducible apply go_box h); rfl; intro _ _ h)
 | ((with_reducible apply go_ix h); omega)
 | ((with_reducible first | apply go_elN h | apply go_f1 h | apply go_rf1 h | apply go_rel h); (case hi => omega); (try case hx => exact inferInstance); (try case hv => rfl))
 | ((with_reducible apply go_fa h); omega; omega)
))
  refine eMakeMap_sat kSt fiV h fun mv w h => ?_
  obtain ⟨r1, _, _, ⟨rfl, _⟩, _⟩ := map_iff.1 h
  have eb : fBuild Tryz.prog 50 [(0, .int .i64 m), (1, .map (some r1))] = some (.agg #[.int .i64 m, .map (some r1), .bool false, .int .i64 0]) := by kernel_rfl
  (repeat (first
 | (simp (disch := omega) only [evA, evB, evC, bAdd_i64, bSub_i64])
 | (refine go_some (eb ..) ?_)
 | (with_reducible apply go_ld1 h)
 | ((with_reducible first | apply go_ldA h | apply go_rd h | apply go_rdN h | apply go_rlen h); rfl)
 | (with_reducible first | apply go_ldN h | apply go_lenL h)
 | ((with_reducible apply go_st h); intro _ h)
 | ((with_reducible apply go_stA h); rfl; rfl; (first | rfl | simp [OneV.o]); intro _ h)
 | ((with_reducible apply go_stN h); rfl; (first | rfl | simp [OneV.o]); intro _ h)
 | ((with_reducible apply go_box h); rfl; intro _ _ h)
 | ((with_reducible apply go_ix h); omega)
 | ((with_reducible first | apply go_elN h | apply go_f1 h | apply go_rf1 h | apply go_rel h); (case hi => omega); (try case hx => exact inferInstance); (try case hv => rfl))
 | ((with_reducible apply go_fa h); omega; omega)
))
  exact hK1 (by omega) (by omega) _ _ (diskA_iff.2 ⟨[], ⟨.nil, newD_ok (by omega)⟩, diskI_iff.2 ⟨_, _, rfl, h⟩⟩)
theorem isname_spec (hK : K (.bool (nameOk n)) w) : callP G77 [.string (bs n)] w K := by
  refine c77 ?_
  unfold F77
  unfold nameOk at hK
  have e0 : (ByteArray.mk #[] : ByteArray) = bs [] := rfl
  rw [e0]
  by_cases g1 : n = []
  · subst g1
    (repeat (first
 | (simp (disch := omega) only [evA, evB, evC, bAdd_i64, bSub_i64])
 | (with_reducible apply go_ld1 h)
 | ((with_reducible first | apply go_ldA h | apply go_rd h | apply go_rdN h | apply go_rlen h); rfl)
 | (with_reducible first | apply go_ldN h | apply go_lenL h)
 | ((with_reducible apply go_st h); intro _ h)
 | ((with_reducible apply go_stA h); rfl; rfl; (first | rfl | simp [OneV.o]); intro _ h)
 | ((with_reducible apply go_stN h); rfl; (first | rfl | simp [OneV.o]); intro _ h)
 | ((with_reducible apply go_box h); rfl; intro _ _ h)
 | ((with_reducible apply go_ix h); omega)
 | ((with_reducible first | apply go_elN h | apply go_f1 h | apply go_rf1 h | apply go_rel h); (case hi => omega); (try case hx => exact inferInstance); (try case hv => rfl))
 | ((with_reducible apply go_fa h); omega; omega)
))
    simpa using hK
  · have g0 : 1 ≤ n.length := by cases n with | nil => exact absurd rfl g1 | cons a b => simp
    rw [decide_eq_true g0, Bool.true_and] at hK
    have e : decide (n = []) = false := by simpa using g1
    have e2 : decide ((n.length : Int) ≤ 64) = decide (n.length ≤ 64) := by congr 1; simp; omega
    (repeat (first
 | (simp (disch := omega) only [evA, evB, evC, bAdd_i64, bSub_i64, e, e2])
 | (with_reducible apply go_ld1 h)
 | ((with_reducible first | apply go_ldA h | apply go_rd h | apply go_rdN h | apply go_rlen h); rfl)
 | (with_reducible first | apply go_ldN h | apply go_lenL h)
 | ((with_reducible apply go_st h); intro _ h)
 | ((with_reducible apply go_stA h); rfl; rfl; (first | rfl | simp [OneV.o]); intro _ h)
 | ((with_reducible apply go_stN h); rfl; (first | rfl | simp [OneV.o]); intro _ h)
 | ((with_reducible apply go_box h); rfl; intro _ _ h)
 | ((with_reducible apply go_ix h); omega)
 | ((with_reducible first | apply go_elN h | apply go_f1 h | apply go_rf1 h | apply go_rel h); (case hi => omega); (try case hx => exact inferInstance); (try case hv => rfl))
 | ((with_reducible apply go_fa h); omega; omega)
))
    exact hK
theorem diskA_open (h : Sat w0 (DiskA v d :: L) w) : ∃ p m M, v = ptr p ∧ KInv ltS fKey fVal M d.fs ∧ DOk d ∧ Sat w0 (Cl p #[.int .i64 d.room, m, .bool d.stop, .int .i64 d.left] 50 :: MapH kSt fiV m M :: L) w := by
  obtain ⟨M, H, h⟩ := diskA_iff.1 h
  obtain ⟨p, m, hv, h⟩ := diskI_iff.1 h
  exact ⟨p, m, M, hv, H.1, H.2, h⟩
theorem diskA_close {p : Nat} {m : Value} (H : KInv ltS fKey fVal M d.fs) (ok : DOk d) (h : Sat w0 (Cl p #[.int .i64 d.room, m, .bool d.stop, .int .i64 d.left] 50 :: MapH kSt fiV m M :: L) w) : Sat w0 (DiskA (ptr p) d :: L) w :=
  diskA_iff.2 ⟨M, ⟨H, ok⟩, diskI_iff.2 ⟨p, m, rfl, h⟩⟩
theorem stopped_spec (h : Sat w0 (DiskA v d :: L) w) (hK : K (.bool (stoppedD d)) w) : callP G82 [v] w K := by
  obtain ⟨p, m, M, rfl, H, ok, h2⟩ := diskA_open h
  clear h
  have h := h2
  clear h2
  unfold stoppedD at hK
  refine c82 ?_
  unfold F82
  cases hs : d.stop
  · rw [hs] at h hK
    (repeat (first
 | (simp (disch := omega) only [evA, evB, evC, bAdd_i64, bSub_i64])
 | (with_reducible apply go_ld1 h)
 | ((with_reducible first | apply go_ldA h | apply go_rd h | apply go_rdN h | apply go_rlen h); rfl)
 | (with_reducible first | apply go_ldN h | apply go_lenL h)
 | ((with_reducible apply go_st h); intro _ h)
 | ((with_reducible apply go_stA h); rfl; rfl; (first | rfl | simp [OneV.o]); intro _ h)
 | ((with_reducible apply go_stN h); rfl; (first | rfl | simp [OneV.o]); intro _ h)
 | ((with_reducible apply go_box h); rfl; intro _ _ h)
 | ((with_reducible apply go_ix h); omega)
 | ((with_reducible first | apply go_elN h | apply go_f1 h | apply go_rf1 h | apply go_rel h); (case hi => omega); (try case hx => exact inferInstance); (try case hv => rfl))
 | ((with_reducible apply go_fa h); omega; omega)
))
    exact hK
  · rw [hs] at h hK
    (repeat (first
 | (simp (disch := omega) only [evA, evB, evC, bAdd_i64, bSub_i64])
 | (with_reducible apply go_ld1 h)
 | ((with_reducible first | apply go_ldA h | apply go_rd h | apply go_rdN h | apply go_rlen h); rfl)
 | (with_reducible first | apply go_ldN h | apply go_lenL h)
 | ((with_reducible apply go_st h); intro _ h)
 | ((with_reducible apply go_stA h); rfl; rfl; (first | rfl | simp [OneV.o]); intro _ h)
 | ((with_reducible apply go_stN h); rfl; (first | rfl | simp [OneV.o]); intro _ h)
 | ((with_reducible apply go_box h); rfl; intro _ _ h)
 | ((with_reducible apply go_ix h); omega)
 | ((with_reducible first | apply go_elN h | apply go_f1 h | apply go_rf1 h | apply go_rel h); (case hi => omega); (try case hx => exact inferInstance); (try case hv => rfl))
 | ((with_reducible apply go_fa h); omega; omega)
))
    simpa using hK
theorem use_spec (h : Sat w0 (DiskA v d :: L) w) (hK0 : useD d = none → ∀ w', Sat w0 (DiskA v d :: L) w' → K (.bool false) w') (hK1 : ∀ e, useD d = some e → ∀ w', Sat w0 (DiskA v e :: L) w' → K (.bool true) w') : callP G64 [v] w K := by
  refine c64 ?_
  unfold F64 F64_1 F64_1b
  refine stopped_spec h ?_
  have ok := diskA_ok h
  unfold stoppedD
  cases hs : d.stop
  · have hu : useD d = some d := by unfold useD; rw [hs]; rfl
    obtain ⟨p, m, M, rfl, H, ok, h2⟩ := diskA_open h
    have hK0 := h
    clear h
    have h := h2
    clear h2
    rw [hs] at h
    (repeat (first
 | (simp (disch := omega) only [evA, evB, evC, bAdd_i64, bSub_i64, Bool.false_and])
 | (with_reducible apply go_ld1 h)
 | ((with_reducible first | apply go_ldA h | apply go_rd h | apply go_rdN h | apply go_rlen h); rfl)
 | (with_reducible first | apply go_ldN h | apply go_lenL h)
 | ((with_reducible apply go_st h); intro _ h)
 | ((with_reducible apply go_stA h); rfl; rfl; (first | rfl | simp [OneV.o]); intro _ h)
 | ((with_reducible apply go_stN h); rfl; (first | rfl | simp [OneV.o]); intro _ h)
 | ((with_reducible apply go_box h); rfl; intro _ _ h)
 | ((with_reducible apply go_ix h); omega)
 | ((with_reducible first | apply go_elN h | apply go_f1 h | apply go_rf1 h | apply go_rel h); (case hi => omega); (try case hx => exact inferInstance); (try case hv => rfl))
 | ((with_reducible apply go_fa h); omega; omega)
))
    unfold F64_2 F64_2b
    exact hK1 d hu _ hK0
  · by_cases hl : d.left = 0
    · have hu : useD d = none := by unfold useD; rw [hs, if_pos rfl, if_pos hl]
      rw [decide_eq_true hl]
      (repeat (first
 | (simp (disch := omega) only [evA, evB, evC, bAdd_i64, bSub_i64, Bool.and_self])
 | (with_reducible apply go_ld1 h)
 | ((with_reducible first | apply go_ldA h | apply go_rd h | apply go_rdN h | apply go_rlen h); rfl)
 | (with_reducible first | apply go_ldN h | apply go_lenL h)
 | ((with_reducible apply go_st h); intro _ h)
 | ((with_reducible apply go_stA h); rfl; rfl; (first | rfl | simp [OneV.o]); intro _ h)
 | ((with_reducible apply go_stN h); rfl; (first | rfl | simp [OneV.o]); intro _ h)
 | ((with_reducible apply go_box h); rfl; intro _ _ h)
 | ((with_reducible apply go_ix h); omega)
 | ((with_reducible first | apply go_elN h | apply go_f1 h | apply go_rf1 h | apply go_rel h); (case hi => omega); (try case hx => exact inferInstance); (try case hv => rfl))
 | ((with_reducible apply go_fa h); omega; omega)
))
      exact hK0 hu _ h
    · have hu : useD d = some { d with left := d.left - 1 } := by unfold useD; rw [hs, if_pos rfl, if_neg hl]
      have oke := useD_ok ok hu
      rw [decide_eq_false hl]
      obtain ⟨p, m, M, rfl, H, _, h2⟩ := diskA_open h
      clear h
      have h := h2
      clear h2
      rw [hs] at h
      have hb := ok.left
      (repeat (first
 | (simp (disch := omega) only [evA, evB, evC, bAdd_i64, bSub_i64, Bool.and_false])
 | (with_reducible apply go_ld1 h)
 | ((with_reducible first | apply go_ldA h | apply go_rd h | apply go_rdN h | apply go_rlen h); rfl)
 | (with_reducible first | apply go_ldN h | apply go_lenL h)
 | ((with_reducible apply go_st h); intro _ h)
 | ((with_reducible apply go_stA h); rfl; rfl; (first | rfl | simp [OneV.o]); intro _ h)
 | ((with_reducible apply go_stN h); rfl; (first | rfl | simp [OneV.o]); intro _ h)
 | ((with_reducible apply go_box h); rfl; intro _ _ h)
 | ((with_reducible apply go_ix h); omega)
 | ((with_reducible first | apply go_elN h | apply go_f1 h | apply go_rf1 h | apply go_rel h); (case hi => omega); (try case hx => exact inferInstance); (try case hv => rfl))
 | ((with_reducible apply go_fa h); omega; omega)
))
      unfold F64_2 F64_2b
      refine hK1 _ hu _ (diskA_close (d := { d with left := d.left - 1 }) (m := m) H oke ?_)
      show Sat w0 (Cl p #[.int .i64 d.room, m, .bool d.stop, .int .i64 (d.left - 1)] 50 :: MapH kSt fiV m M :: L) _
      rw [hs]
      exact h.got
theorem turn_spec {f : Fil} (hok : DOk (turnD d f).2) (h : Sat w0 (DiskA v d :: L) w) (hK : ∀ w', Sat w0 (DiskA v (turnD d f).2 :: L) w' → K (.int .i64 (turnD d f).1) w') : callP G52 [v, .string (bs f.name), fiV (f.s, f.safe)] w K := by
  refine c52 ?_
  unfold F52
  unfold turnD at hok hK
  (repeat (first
 | (simp (disch := omega) only [evA, evB, evC, bAdd_i64, bSub_i64])
 | (with_reducible apply go_ld1 h)
 | ((with_reducible first | apply go_ldA h | apply go_rd h | apply go_rdN h | apply go_rlen h); rfl)
 | (with_reducible first | apply go_ldN h | apply go_lenL h)
 | ((with_reducible apply go_st h); intro _ h)
 | ((with_reducible apply go_stA h); rfl; rfl; (first | rfl | simp [OneV.o]); intro _ h)
 | ((with_reducible apply go_stN h); rfl; (first | rfl | simp [OneV.o]); intro _ h)
 | ((with_reducible apply go_box h); rfl; intro _ _ h)
 | ((with_reducible apply go_ix h); omega)
 | ((with_reducible first | apply go_elN h | apply go_f1 h | apply go_rf1 h | apply go_rel h); (case hi => omega); (try case hx => exact inferInstance); (try case hv => rfl))
 | ((with_reducible apply go_fa h); omega; omega)
))
  refine use_spec (h.frt) (fun hu w h => ?_) (fun e hu w h => ?_)
  · rw [hu] at hK
    (repeat (first
 | (simp (disch := omega) only [evA, evB, evC, bAdd_i64, bSub_i64])
 | (with_reducible apply go_ld1 h)
 | ((with_reducible first | apply go_ldA h | apply go_rd h | apply go_rdN h | apply go_rlen h); rfl)
 | (with_reducible first | apply go_ldN h | apply go_lenL h)
 | ((with_reducible apply go_st h); intro _ h)
 | ((with_reducible apply go_stA h); rfl; rfl; (first | rfl | simp [OneV.o]); intro _ h)
 | ((with_reducible apply go_stN h); rfl; (first | rfl | simp [OneV.o]); intro _ h)
 | ((with_reducible apply go_box h); rfl; intro _ _ h)
 | ((with_reducible apply go_ix h); omega)
 | ((with_reducible first | apply go_elN h | apply go_f1 h | apply go_rf1 h | apply go_rel h); (case hi => omega); (try case hx => exact inferInstance); (try case hv => rfl))
 | ((with_reducible apply go_fa h); omega; omega)
))
    exact hK _ (h.got)
  · rw [hu] at hok hK
    obtain ⟨p, m, M, rfl, H, ok, h2⟩ := diskA_open h
    clear h
    have h := h2
    clear h2
    (repeat (first
 | (simp (disch := omega) only [evA, evB, evC, bAdd_i64, bSub_i64])
 | (with_reducible apply go_ld1 h)
 | ((with_reducible first | apply go_ldA h | apply go_rd h | apply go_rdN h | apply go_rlen h); rfl)
 | (with_reducible first | apply go_ldN h | apply go_lenL h)
 | ((with_reducible apply go_st h); intro _ h)
 | ((with_reducible apply go_stA h); rfl; rfl; (first | rfl | simp [OneV.o]); intro _ h)
 | ((with_reducible apply go_stN h); rfl; (first | rfl | simp [OneV.o]); intro _ h)
 | ((with_reducible apply go_box h); rfl; intro _ _ h)
 | ((with_reducible apply go_ix h); omega)
 | ((with_reducible first | apply go_elN h | apply go_f1 h | apply go_rf1 h | apply go_rel h); (case hi => omega); (try case hx => exact inferInstance); (try case hv => rfl))
 | ((with_reducible apply go_fa h); omega; omega)
))
    refine eMapSet_sat (h.drew.frt (A := MapH kSt fiV m M)) KST um48 f.name (f.s, f.safe) fun w h => ?_
    refine hK _ (diskA_close (d := { e with fs := fPut f e.fs }) (H.put STO.txt f) hok (h.got))
theorem used_loop {p : Nat} {it m : Value} (hu : usedF d.fs ≤ 1099511627776) (H : KInv ltS fKey fVal M d.fs) (hK : ∀ w', Sat w0 (MapH kSt fiV m M :: L) w' → K (.int .i64 (usedF d.fs : Nat)) w') :
    ∀ (k : Nat) (rem : List (List UInt8 × (List UInt8 × Nat))) (n : Nat) (w : World), rem.length < k → n + (rem.map fun x => x.2.1.length).sum = usedF d.fs → Sat w0 (ItH kSt fiV it m M rem :: L) w → F51_2L k (.int .i64 (n : Nat)) it w K := by
  intro k
  induction k with
  | zero => intro rem n w hd; omega
  | succ k ih =>
    intro rem n w hd hn h
    rw [F51_2L]
    unfold F51_2b
    refine eNext_sat2 h (fun hr w h => ?_) (fun x r1 r2 w hs h hen => ?_)
    · have h2 := it_map h
      rw [hr] at hn
      refine go_some (show pTuple over 0 = some (.bool false) from rfl) ?_
      (repeat (first
 | (simp (disch := omega) only [evA, evB, evC, bAdd_i64, bSub_i64])
 | (with_reducible apply go_ld1 h)
 | ((with_reducible first | apply go_ldA h | apply go_rd h | apply go_rdN h | apply go_rlen h); rfl)
 | (with_reducible first | apply go_ldN h | apply go_lenL h)
 | ((with_reducible apply go_st h); intro _ h)
 | ((with_reducible apply go_stA h); rfl; rfl; (first | rfl | simp [OneV.o]); intro _ h)
 | ((with_reducible apply go_stN h); rfl; (first | rfl | simp [OneV.o]); intro _ h)
 | ((with_reducible apply go_box h); rfl; intro _ _ h)
 | ((with_reducible apply go_ix h); omega)
 | ((with_reducible first | apply go_elN h | apply go_f1 h | apply go_rf1 h | apply go_rel h); (case hi => omega); (try case hx => exact inferInstance); (try case hv => rfl))
 | ((with_reducible apply go_fa h); omega; omega)
))
      unfold F51_3 F51_3b
      have : n = usedF d.fs := by simpa using hn
      rw [this]
      exact hK w h2
    · have hrm : rem.length = r1.length + r2.length + 1 := by rw [hs]; simp; omega
      refine go_some (show pTuple (.tuple #[.bool true, kSt x.1, fiV x.2]) 0 = some (.bool true) from rfl) ?_
      (repeat (first
 | (simp (disch := omega) only [evA, evB, evC, bAdd_i64, bSub_i64])
 | (with_reducible apply go_ld1 h)
 | ((with_reducible first | apply go_ldA h | apply go_rd h | apply go_rdN h | apply go_rlen h); rfl)
 | (with_reducible first | apply go_ldN h | apply go_lenL h)
 | ((with_reducible apply go_st h); intro _ h)
 | ((with_reducible apply go_stA h); rfl; rfl; (first | rfl | simp [OneV.o]); intro _ h)
 | ((with_reducible apply go_stN h); rfl; (first | rfl | simp [OneV.o]); intro _ h)
 | ((with_reducible apply go_box h); rfl; intro _ _ h)
 | ((with_reducible apply go_ix h); omega)
 | ((with_reducible first | apply go_elN h | apply go_f1 h | apply go_rf1 h | apply go_rel h); (case hi => omega); (try case hx => exact inferInstance); (try case hv => rfl))
 | ((with_reducible apply go_fa h); omega; omega)
))
      refine go_some hen ?_
      refine go_some (show pTuple (.tuple #[kSt x.1, fiV x.2]) 1 = some (fiV x.2) from rfl) ?_
      have hsum : n + x.2.1.length + ((r1 ++ r2).map fun x => x.2.1.length).sum = usedF d.fs := by
        rw [← hn, hs]; simp; omega
      refine go_alloc h zFi rfl fun _ _ h => ?_
      (repeat (first
 | (simp (disch := omega) only [evA, evB, evC, bAdd_i64, bSub_i64])
 | (with_reducible apply go_ld1 h)
 | ((with_reducible first | apply go_ldA h | apply go_rd h | apply go_rdN h | apply go_rlen h); rfl)
 | (with_reducible first | apply go_ldN h | apply go_lenL h)
 | ((with_reducible apply go_st h); intro _ h)
 | ((with_reducible apply go_stA h); rfl; rfl; (first | rfl | simp [OneV.o]); intro _ h)
 | ((with_reducible apply go_stN h); rfl; (first | rfl | simp [OneV.o]); intro _ h)
 | ((with_reducible apply go_box h); rfl; intro _ _ h)
 | ((with_reducible apply go_ix h); omega)
 | ((with_reducible first | apply go_elN h | apply go_f1 h | apply go_rf1 h | apply go_rel h); (case hi => omega); (try case hx => exact inferInstance); (try case hv => rfl))
 | ((with_reducible apply go_fa h); omega; omega)
))
      exact ih (r1 ++ r2) (n + x.2.1.length) _ (by simp; omega) hsum (h.got)
theorem used_spec (hc : d.fs.length ≤ 1073741824) (h : Sat w0 (DiskA v d :: L) w) (hK : ∀ w', Sat w0 (DiskA v d :: L) w' → K (.int .i64 (usedF d.fs : Nat)) w') : callP G51 [v] w K := by
  refine c51 ?_
  unfold F51 F51_1 F51_1b F51_2
  obtain ⟨p, m, M, rfl, H, ok, h2⟩ := diskA_open h
  clear h
  have h := h2
  clear h2
  (repeat (first
 | (simp (disch := omega) only [evA, evB, evC, bAdd_i64, bSub_i64])
 | (with_reducible apply go_ld1 h)
 | ((with_reducible first | apply go_ldA h | apply go_rd h | apply go_rdN h | apply go_rlen h); rfl)
 | (with_reducible first | apply go_ldN h | apply go_lenL h)
 | ((with_reducible apply go_st h); intro _ h)
 | ((with_reducible apply go_stA h); rfl; rfl; (first | rfl | simp [OneV.o]); intro _ h)
 | ((with_reducible apply go_stN h); rfl; (first | rfl | simp [OneV.o]); intro _ h)
 | ((with_reducible apply go_box h); rfl; intro _ _ h)
 | ((with_reducible apply go_ix h); omega)
 | ((with_reducible first | apply go_elN h | apply go_f1 h | apply go_rf1 h | apply go_rel h); (case hi => omega); (try case hx => exact inferInstance); (try case hv => rfl))
 | ((with_reducible apply go_fa h); omega; omega)
))
  have hu := ok.used
  have hr := ok.room
  refine eRange_sat (h.frt (A := MapH kSt fiV m M)) um48 fun it w h => ?_
  refine used_loop (p := p) (m := m) (M := M) (d := d) (L := Cl p #[.int .i64 d.room, m, .bool d.stop, .int .i64 d.left] 50 :: L) (by omega) H (fun w h => ?_) fuel M 0 w (by rw [H.len]; unfold fuel; omega) ?_ h
  · exact hK _ (diskA_close H ok (h.got))
  · rw [Nat.zero_add]
    have := (H.pm.map fun x => x.2.1.length).sum_nat
    rw [this, List.map_map]
    rfl
theorem look_file (H : KInv ltS fKey fVal M d.fs) : aGet n M = (fGet n d.fs).map fVal := H.get STO.txt n
theorem app_spec (hc : d.fs.length ≤ 1073741824) (hx : x.length ≤ 140737488355328) (h : Sat w0 (DiskA v d :: L) w) (hK : ∀ w', Sat w0 (DiskA v (appD n x d).2 :: L) w' → K (.int .i64 (appD n x d).1) w') : callP G29 [v, .string (bs n), .string (bs x)] w K := by
  have oka := appD_ok (diskA_ok h) n x
  unfold appD at oka hK
  refine c29 ?_
  unfold F29
  have h0 := h
  obtain ⟨p, m, M, rfl, H, ok, h2⟩ := diskA_open h
  clear h
  have h := h2
  clear h2
  have hu := ok.used
  have hr := ok.room
  (repeat (first
 | (simp (disch := omega) only [evA, evB, evC, bAdd_i64, bSub_i64])
 | (with_reducible apply go_ld1 h)
 | ((with_reducible first | apply go_ldA h | apply go_rd h | apply go_rdN h | apply go_rlen h); rfl)
 | (with_reducible first | apply go_ldN h | apply go_lenL h)
 | ((with_reducible apply go_st h); intro _ h)
 | ((with_reducible apply go_stA h); rfl; rfl; (first | rfl | simp [OneV.o]); intro _ h)
 | ((with_reducible apply go_stN h); rfl; (first | rfl | simp [OneV.o]); intro _ h)
 | ((with_reducible apply go_box h); rfl; intro _ _ h)
 | ((with_reducible apply go_ix h); omega)
 | ((with_reducible first | apply go_elN h | apply go_f1 h | apply go_rf1 h | apply go_rel h); (case hi => omega); (try case hx => exact inferInstance); (try case hv => rfl))
 | ((with_reducible apply go_fa h); omega; omega)
))
  refine go_look2 h (by repeat (first | exact .here | apply Fnt.there)) KST um48 zFi n ?_
  rw [look_file (n := n) H]
  cases hg : fGet n d.fs with
  | none =>
    rw [hg] at oka hK
    have e1 : (Option.map fVal (none : Option Fil)) = none := rfl
    rw [e1]
    simp only [Option.elim_none]
    (repeat (first
 | (simp (disch := omega) only [evA, evB, evC, bAdd_i64, bSub_i64])
 | (with_reducible apply go_ld1 h)
 | ((with_reducible first | apply go_ldA h | apply go_rd h | apply go_rdN h | apply go_rlen h); rfl)
 | (with_reducible first | apply go_ldN h | apply go_lenL h)
 | ((with_reducible apply go_st h); intro _ h)
 | ((with_reducible apply go_stA h); rfl; rfl; (first | rfl | simp [OneV.o]); intro _ h)
 | ((with_reducible apply go_stN h); rfl; (first | rfl | simp [OneV.o]); intro _ h)
 | ((with_reducible apply go_box h); rfl; intro _ _ h)
 | ((with_reducible apply go_ix h); omega)
 | ((with_reducible first | apply go_elN h | apply go_f1 h | apply go_rf1 h | apply go_rel h); (case hi => omega); (try case hx => exact inferInstance); (try case hv => rfl))
 | ((with_reducible apply go_fa h); omega; omega)
))
    refine go_alloc h zFi rfl fun _ _ h => ?_
    (repeat (first
 | (simp (disch := omega) only [evA, evB, evC, bAdd_i64, bSub_i64])
 | (with_reducible apply go_ld1 h)
 | ((with_reducible first | apply go_ldA h | apply go_rd h | apply go_rdN h | apply go_rlen h); rfl)
 | (with_reducible first | apply go_ldN h | apply go_lenL h)
 | ((with_reducible apply go_st h); intro _ h)
 | ((with_reducible apply go_stA h); rfl; rfl; (first | rfl | simp [OneV.o]); intro _ h)
 | ((with_reducible apply go_stN h); rfl; (first | rfl | simp [OneV.o]); intro _ h)
 | ((with_reducible apply go_box h); rfl; intro _ _ h)
 | ((with_reducible apply go_ix h); omega)
 | ((with_reducible first | apply go_elN h | apply go_f1 h | apply go_rf1 h | apply go_rel h); (case hi => omega); (try case hx => exact inferInstance); (try case hv => rfl))
 | ((with_reducible apply go_fa h); omega; omega)
))
    exact hK _ (diskA_close H ok (h.got))
  | some f =>
    rw [hg] at oka hK
    obtain ⟨hm, hn⟩ := kGet_mem hg
    have hfl := usedF_mem hm
    have e1 : Option.map fVal (some f) = some (f.s, f.safe) := rfl
    rw [e1]
    simp only [Option.elim_some]
    (repeat (first
 | (simp (disch := omega) only [evA, evB, evC, bAdd_i64, bSub_i64])
 | (with_reducible apply go_ld1 h)
 | ((with_reducible first | apply go_ldA h | apply go_rd h | apply go_rdN h | apply go_rlen h); rfl)
 | (with_reducible first | apply go_ldN h | apply go_lenL h)
 | ((with_reducible apply go_st h); intro _ h)
 | ((with_reducible apply go_stA h); rfl; rfl; (first | rfl | simp [OneV.o]); intro _ h)
 | ((with_reducible apply go_stN h); rfl; (first | rfl | simp [OneV.o]); intro _ h)
 | ((with_reducible apply go_box h); rfl; intro _ _ h)
 | ((with_reducible apply go_ix h); omega)
 | ((with_reducible first | apply go_elN h | apply go_f1 h | apply go_rf1 h | apply go_rel h); (case hi => omega); (try case hx => exact inferInstance); (try case hv => rfl))
 | ((with_reducible apply go_fa h); omega; omega)
))
    refine go_alloc h zFi rfl fun q _ h => ?_
    (repeat (first
 | (simp (disch := omega) only [evA, evB, evC, bAdd_i64, bSub_i64])
 | (with_reducible apply go_ld1 h)
 | ((with_reducible first | apply go_ldA h | apply go_rd h | apply go_rdN h | apply go_rlen h); rfl)
 | (with_reducible first | apply go_ldN h | apply go_lenL h)
 | ((with_reducible apply go_st h); intro _ h)
 | ((with_reducible apply go_stA h); rfl; rfl; (first | rfl | simp [OneV.o]); intro _ h)
 | ((with_reducible apply go_stN h); rfl; (first | rfl | simp [OneV.o]); intro _ h)
 | ((with_reducible apply go_box h); rfl; intro _ _ h)
 | ((with_reducible apply go_ix h); omega)
 | ((with_reducible first | apply go_elN h | apply go_f1 h | apply go_rf1 h | apply go_rel h); (case hi => omega); (try case hx => exact inferInstance); (try case hv => rfl))
 | ((with_reducible apply go_fa h); omega; omega)
))
    have h2 := diskA_close H ok (L := Cl q (cFi (f.s, f.safe)).toArray 58 :: L) (h.drew.got)
    refine used_spec (v := ptr p) (d := d) hc h2 fun w h => ?_
    obtain ⟨p', m, M, e, H, ok, h3⟩ := diskA_open h
    cases e
    clear h
    have h := h3
    clear h3
    simp only at hK oka
    by_cases g : d.room - usedF d.fs < (x.length : Int)
    · have g' : decide ((x.length : Int) > d.room - (usedF d.fs : Nat)) = true := by simpa using g
      rw [if_pos g] at hK
      (repeat (first
 | (simp (disch := omega) only [evA, evB, evC, bAdd_i64, bSub_i64, g'])
 | (with_reducible apply go_ld1 h)
 | ((with_reducible first | apply go_ldA h | apply go_rd h | apply go_rdN h | apply go_rlen h); rfl)
 | (with_reducible first | apply go_ldN h | apply go_lenL h)
 | ((with_reducible apply go_st h); intro _ h)
 | ((with_reducible apply go_stA h); rfl; rfl; (first | rfl | simp [OneV.o]); intro _ h)
 | ((with_reducible apply go_stN h); rfl; (first | rfl | simp [OneV.o]); intro _ h)
 | ((with_reducible apply go_box h); rfl; intro _ _ h)
 | ((with_reducible apply go_ix h); omega)
 | ((with_reducible first | apply go_elN h | apply go_f1 h | apply go_rf1 h | apply go_rel h); (case hi => omega); (try case hx => exact inferInstance); (try case hv => rfl))
 | ((with_reducible apply go_fa h); omega; omega)
))
      exact hK _ (diskA_close H ok (h.got))
    · have g' : decide ((x.length : Int) > d.room - (usedF d.fs : Nat)) = false := by simpa using g
      rw [if_neg g] at hK oka
      (repeat (first
 | (simp (disch := omega) only [evA, evB, evC, bAdd_i64, bSub_i64, g'])
 | (with_reducible apply go_ld1 h)
 | ((with_reducible first | apply go_ldA h | apply go_rd h | apply go_rdN h | apply go_rlen h); rfl)
 | (with_reducible first | apply go_ldN h | apply go_lenL h)
 | ((with_reducible apply go_st h); intro _ h)
 | ((with_reducible apply go_stA h); rfl; rfl; (first | rfl | simp [OneV.o]); intro _ h)
 | ((with_reducible apply go_stN h); rfl; (first | rfl | simp [OneV.o]); intro _ h)
 | ((with_reducible apply go_box h); rfl; intro _ _ h)
 | ((with_reducible apply go_ix h); omega)
 | ((with_reducible first | apply go_elN h | apply go_f1 h | apply go_rf1 h | apply go_rel h); (case hi => omega); (try case hx => exact inferInstance); (try case hv => rfl))
 | ((with_reducible apply go_fa h); omega; omega)
))
      refine go_some (add_txt (a := f.s) (b := x) (by omega)) ?_
      (repeat (first
 | (simp (disch := omega) only [evA, evB, evC, bAdd_i64, bSub_i64])
 | (with_reducible apply go_ld1 h)
 | ((with_reducible first | apply go_ldA h | apply go_rd h | apply go_rdN h | apply go_rlen h); rfl)
 | (with_reducible first | apply go_ldN h | apply go_lenL h)
 | ((with_reducible apply go_st h); intro _ h)
 | ((with_reducible apply go_stA h); rfl; rfl; (first | rfl | simp [OneV.o]); intro _ h)
 | ((with_reducible apply go_stN h); rfl; (first | rfl | simp [OneV.o]); intro _ h)
 | ((with_reducible apply go_box h); rfl; intro _ _ h)
 | ((with_reducible apply go_ix h); omega)
 | ((with_reducible first | apply go_elN h | apply go_f1 h | apply go_rf1 h | apply go_rel h); (case hi => omega); (try case hx => exact inferInstance); (try case hv => rfl))
 | ((with_reducible apply go_fa h); omega; omega)
))
      have h4 := diskA_close H ok (L := Cl q (cFi (f.s ++ x, f.safe)).toArray 58 :: L) (h.got)
      have e : n = ({ f with s := f.s ++ x } : Fil).name := hn.symm
      rw [e]
      refine turn_spec (f := { f with s := f.s ++ x }) oka h4 fun w h => hK w (h.got)
end
end Go.Proofs.Gong

/- Dk2 -/
namespace Go.Proofs.Gong
open Go Go.Sx Go.Proofs
set_option maxRecDepth 100000
instance : CodC cI 1 := ⟨CI⟩
instance (n : Int) : Nth (cI n) 0 (.int .i64 n) := ⟨rfl⟩
instance : CodC cSt 1 := ⟨⟨fun _ => rfl, fun _ => rfl, by omega⟩⟩
theorem fbFi (s : List UInt8) (n : Nat) : fBuild Tryz.prog 58 [(0, .string (bs s)), (1, .int .i64 (n : Nat))] = some (fiV (s, n)) := by kernel_rfl
attribute [local irreducible] fBuild fLook fZero eqv bEqv Cl MapH LsH SlH ld1 ldN st callP eBox eAlloc lenM lenL eMapSet eDelete eAppend eBuildSl eRange eNext
section
variable {w0 w : World} {L : List HP} {K : Value → World → Prop} {v : Value} {d : Dk} {n x : List UInt8} {M : List (List UInt8 × (List UInt8 × Nat))}
theorem dmake_spec (h : Sat w0 (DiskA v d :: L) w) (hK : ∀ w', Sat w0 (DiskA v (makeD n d).2 :: L) w' → K (.int .i64 (makeD n d).1) w') : callP G57 [v, .string (bs n)] w K := by
  have oka := makeD_ok (diskA_ok h) n
  unfold makeD at oka hK
  refine c57 ?_
  unfold F57
  refine isname_spec ?_
  cases hn : nameOk n
  · rw [if_pos hn] at hK
    (repeat (first
 | (simp (disch := omega) only [evA, evB, evC, bAdd_i64, bSub_i64])
 | (with_reducible apply go_ld1 h)
 | ((with_reducible first | apply go_ldA h | apply go_rd h | apply go_rdN h | apply go_rlen h); rfl)
 | (with_reducible first | apply go_ldN h | apply go_lenL h)
 | ((with_reducible apply go_st h); intro _ h)
 | ((with_reducible apply go_stA h); rfl; rfl; (first | rfl | simp [OneV.o]); intro _ h)
 | ((with_reducible apply go_stN h); rfl; (first | rfl | simp [OneV.o]); intro _ h)
 | ((with_reducible apply go_box h); rfl; intro _ _ h)
 | ((with_reducible apply go_ix h); omega)
 | ((with_reducible first | apply go_elN h | apply go_f1 h | apply go_rf1 h | apply go_rel h); (case hi => omega); (try case hx => exact inferInstance); (try case hv => rfl))
 | ((with_reducible apply go_fa h); omega; omega)
))
    exact hK _ h
  rw [if_neg (by rw [hn]; simp)] at oka hK
  obtain ⟨p, m, M, rfl, H, ok, h2⟩ := diskA_open h
  clear h
  have h := h2
  clear h2
  (repeat (first
 | (simp (disch := omega) only [evA, evB, evC, bAdd_i64, bSub_i64])
 | (with_reducible apply go_ld1 h)
 | ((with_reducible first | apply go_ldA h | apply go_rd h | apply go_rdN h | apply go_rlen h); rfl)
 | (with_reducible first | apply go_ldN h | apply go_lenL h)
 | ((with_reducible apply go_st h); intro _ h)
 | ((with_reducible apply go_stA h); rfl; rfl; (first | rfl | simp [OneV.o]); intro _ h)
 | ((with_reducible apply go_stN h); rfl; (first | rfl | simp [OneV.o]); intro _ h)
 | ((with_reducible apply go_box h); rfl; intro _ _ h)
 | ((with_reducible apply go_ix h); omega)
 | ((with_reducible first | apply go_elN h | apply go_f1 h | apply go_rf1 h | apply go_rel h); (case hi => omega); (try case hx => exact inferInstance); (try case hv => rfl))
 | ((with_reducible apply go_fa h); omega; omega)
))
  refine go_look2 h (by repeat (first | exact .here | apply Fnt.there)) KST um48 zFi n ?_
  rw [look_file (n := n) H]
  cases hg : fGet n d.fs with
  | none =>
    rw [hg] at oka hK
    have e1 : (Option.map fVal (none : Option Fil)) = none := rfl
    rw [e1]
    simp only [Option.elim_none]
    (repeat (first
 | (simp (disch := omega) only [evA, evB, evC, bAdd_i64, bSub_i64])
 | (with_reducible apply go_ld1 h)
 | ((with_reducible first | apply go_ldA h | apply go_rd h | apply go_rdN h | apply go_rlen h); rfl)
 | (with_reducible first | apply go_ldN h | apply go_lenL h)
 | ((with_reducible apply go_st h); intro _ h)
 | ((with_reducible apply go_stA h); rfl; rfl; (first | rfl | simp [OneV.o]); intro _ h)
 | ((with_reducible apply go_stN h); rfl; (first | rfl | simp [OneV.o]); intro _ h)
 | ((with_reducible apply go_box h); rfl; intro _ _ h)
 | ((with_reducible apply go_ix h); omega)
 | ((with_reducible first | apply go_elN h | apply go_f1 h | apply go_rf1 h | apply go_rel h); (case hi => omega); (try case hx => exact inferInstance); (try case hv => rfl))
 | ((with_reducible apply go_fa h); omega; omega)
))
    refine go_alloc h zFi rfl fun q _ h => ?_
    rw [if_neg (by simp)] at oka hK
    (repeat (first
 | (simp (disch := omega) only [evA, evB, evC, bAdd_i64, bSub_i64])
 | (with_reducible apply go_ld1 h)
 | ((with_reducible first | apply go_ldA h | apply go_rd h | apply go_rdN h | apply go_rlen h); rfl)
 | (with_reducible first | apply go_ldN h | apply go_lenL h)
 | ((with_reducible apply go_st h); intro _ h)
 | ((with_reducible apply go_stA h); rfl; rfl; (first | rfl | simp [OneV.o]); intro _ h)
 | ((with_reducible apply go_stN h); rfl; (first | rfl | simp [OneV.o]); intro _ h)
 | ((with_reducible apply go_box h); rfl; intro _ _ h)
 | ((with_reducible apply go_ix h); omega)
 | ((with_reducible first | apply go_elN h | apply go_f1 h | apply go_rf1 h | apply go_rel h); (case hi => omega); (try case hx => exact inferInstance); (try case hv => rfl))
 | ((with_reducible apply go_fa h); omega; omega)
))
    have e : fBuild Tryz.prog 58 [] = some (fiV ([], 0)) := by kernel_rfl
    (repeat (first
 | (simp (disch := omega) only [evA, evB, evC, bAdd_i64, bSub_i64])
 | (refine go_some (e ..) ?_)
 | (with_reducible apply go_ld1 h)
 | ((with_reducible first | apply go_ldA h | apply go_rd h | apply go_rdN h | apply go_rlen h); rfl)
 | (with_reducible first | apply go_ldN h | apply go_lenL h)
 | ((with_reducible apply go_st h); intro _ h)
 | ((with_reducible apply go_stA h); rfl; rfl; (first | rfl | simp [OneV.o]); intro _ h)
 | ((with_reducible apply go_stN h); rfl; (first | rfl | simp [OneV.o]); intro _ h)
 | ((with_reducible apply go_box h); rfl; intro _ _ h)
 | ((with_reducible apply go_ix h); omega)
 | ((with_reducible first | apply go_elN h | apply go_f1 h | apply go_rf1 h | apply go_rel h); (case hi => omega); (try case hx => exact inferInstance); (try case hv => rfl))
 | ((with_reducible apply go_fa h); omega; omega)
))
    have h4 := diskA_close H ok (L := Cl q (cFi ([], 0)).toArray 58 :: L) (h.got)
    exact turn_spec (f := ⟨n, [], 0⟩) oka h4 fun w h => hK w (h.got)
  | some f =>
    rw [hg] at oka hK
    have e1 : Option.map fVal (some f) = some (f.s, f.safe) := rfl
    rw [e1]
    simp only [Option.elim_some]
    (repeat (first
 | (simp (disch := omega) only [evA, evB, evC, bAdd_i64, bSub_i64])
 | (with_reducible apply go_ld1 h)
 | ((with_reducible first | apply go_ldA h | apply go_rd h | apply go_rdN h | apply go_rlen h); rfl)
 | (with_reducible first | apply go_ldN h | apply go_lenL h)
 | ((with_reducible apply go_st h); intro _ h)
 | ((with_reducible apply go_stA h); rfl; rfl; (first | rfl | simp [OneV.o]); intro _ h)
 | ((with_reducible apply go_stN h); rfl; (first | rfl | simp [OneV.o]); intro _ h)
 | ((with_reducible apply go_box h); rfl; intro _ _ h)
 | ((with_reducible apply go_ix h); omega)
 | ((with_reducible first | apply go_elN h | apply go_f1 h | apply go_rf1 h | apply go_rel h); (case hi => omega); (try case hx => exact inferInstance); (try case hv => rfl))
 | ((with_reducible apply go_fa h); omega; omega)
))
    refine go_alloc h zFi rfl fun q _ h => ?_
    rw [if_pos (by simp)] at oka hK
    (repeat (first
 | (simp (disch := omega) only [evA, evB, evC, bAdd_i64, bSub_i64])
 | (with_reducible apply go_ld1 h)
 | ((with_reducible first | apply go_ldA h | apply go_rd h | apply go_rdN h | apply go_rlen h); rfl)
 | (with_reducible first | apply go_ldN h | apply go_lenL h)
 | ((with_reducible apply go_st h); intro _ h)
 | ((with_reducible apply go_stA h); rfl; rfl; (first | rfl | simp [OneV.o]); intro _ h)
 | ((with_reducible apply go_stN h); rfl; (first | rfl | simp [OneV.o]); intro _ h)
 | ((with_reducible apply go_box h); rfl; intro _ _ h)
 | ((with_reducible apply go_ix h); omega)
 | ((with_reducible first | apply go_elN h | apply go_f1 h | apply go_rf1 h | apply go_rel h); (case hi => omega); (try case hx => exact inferInstance); (try case hv => rfl))
 | ((with_reducible apply go_fa h); omega; omega)
))
    exact hK _ (diskA_close H ok (h.got))
theorem dsync_spec (h : Sat w0 (DiskA v d :: L) w) (hK : ∀ w', Sat w0 (DiskA v (syncD n d).2 :: L) w' → K (.int .i64 (syncD n d).1) w') : callP G33 [v, .string (bs n)] w K := by
  have oka := syncD_ok (diskA_ok h) n
  unfold syncD at oka hK
  refine c33 ?_
  unfold F33
  obtain ⟨p, m, M, rfl, H, ok, h2⟩ := diskA_open h
  clear h
  have h := h2
  clear h2
  have hu := ok.used
  have hr := ok.room
  (repeat (first
 | (simp (disch := omega) only [evA, evB, evC, bAdd_i64, bSub_i64])
 | (with_reducible apply go_ld1 h)
 | ((with_reducible first | apply go_ldA h | apply go_rd h | apply go_rdN h | apply go_rlen h); rfl)
 | (with_reducible first | apply go_ldN h | apply go_lenL h)
 | ((with_reducible apply go_st h); intro _ h)
 | ((with_reducible apply go_stA h); rfl; rfl; (first | rfl | simp [OneV.o]); intro _ h)
 | ((with_reducible apply go_stN h); rfl; (first | rfl | simp [OneV.o]); intro _ h)
 | ((with_reducible apply go_box h); rfl; intro _ _ h)
 | ((with_reducible apply go_ix h); omega)
 | ((with_reducible first | apply go_elN h | apply go_f1 h | apply go_rf1 h | apply go_rel h); (case hi => omega); (try case hx => exact inferInstance); (try case hv => rfl))
 | ((with_reducible apply go_fa h); omega; omega)
))
  refine go_look2 h (by repeat (first | exact .here | apply Fnt.there)) KST um48 zFi n ?_
  rw [look_file (n := n) H]
  cases hg : fGet n d.fs with
  | none =>
    rw [hg] at oka hK
    have e1 : (Option.map fVal (none : Option Fil)) = none := rfl
    rw [e1]
    simp only [Option.elim_none]
    (repeat (first
 | (simp (disch := omega) only [evA, evB, evC, bAdd_i64, bSub_i64])
 | (with_reducible apply go_ld1 h)
 | ((with_reducible first | apply go_ldA h | apply go_rd h | apply go_rdN h | apply go_rlen h); rfl)
 | (with_reducible first | apply go_ldN h | apply go_lenL h)
 | ((with_reducible apply go_st h); intro _ h)
 | ((with_reducible apply go_stA h); rfl; rfl; (first | rfl | simp [OneV.o]); intro _ h)
 | ((with_reducible apply go_stN h); rfl; (first | rfl | simp [OneV.o]); intro _ h)
 | ((with_reducible apply go_box h); rfl; intro _ _ h)
 | ((with_reducible apply go_ix h); omega)
 | ((with_reducible first | apply go_elN h | apply go_f1 h | apply go_rf1 h | apply go_rel h); (case hi => omega); (try case hx => exact inferInstance); (try case hv => rfl))
 | ((with_reducible apply go_fa h); omega; omega)
))
    refine go_alloc h zFi rfl fun q _ h => ?_
    (repeat (first
 | (simp (disch := omega) only [evA, evB, evC, bAdd_i64, bSub_i64])
 | (with_reducible apply go_ld1 h)
 | ((with_reducible first | apply go_ldA h | apply go_rd h | apply go_rdN h | apply go_rlen h); rfl)
 | (with_reducible first | apply go_ldN h | apply go_lenL h)
 | ((with_reducible apply go_st h); intro _ h)
 | ((with_reducible apply go_stA h); rfl; rfl; (first | rfl | simp [OneV.o]); intro _ h)
 | ((with_reducible apply go_stN h); rfl; (first | rfl | simp [OneV.o]); intro _ h)
 | ((with_reducible apply go_box h); rfl; intro _ _ h)
 | ((with_reducible apply go_ix h); omega)
 | ((with_reducible first | apply go_elN h | apply go_f1 h | apply go_rf1 h | apply go_rel h); (case hi => omega); (try case hx => exact inferInstance); (try case hv => rfl))
 | ((with_reducible apply go_fa h); omega; omega)
))
    exact hK _ (diskA_close H ok (h.got))
  | some f =>
    rw [hg] at oka hK
    obtain ⟨hm, hn⟩ := kGet_mem hg
    have e1 : Option.map fVal (some f) = some (f.s, f.safe) := rfl
    rw [e1]
    simp only [Option.elim_some]
    (repeat (first
 | (simp (disch := omega) only [evA, evB, evC, bAdd_i64, bSub_i64])
 | (with_reducible apply go_ld1 h)
 | ((with_reducible first | apply go_ldA h | apply go_rd h | apply go_rdN h | apply go_rlen h); rfl)
 | (with_reducible first | apply go_ldN h | apply go_lenL h)
 | ((with_reducible apply go_st h); intro _ h)
 | ((with_reducible apply go_stA h); rfl; rfl; (first | rfl | simp [OneV.o]); intro _ h)
 | ((with_reducible apply go_stN h); rfl; (first | rfl | simp [OneV.o]); intro _ h)
 | ((with_reducible apply go_box h); rfl; intro _ _ h)
 | ((with_reducible apply go_ix h); omega)
 | ((with_reducible first | apply go_elN h | apply go_f1 h | apply go_rf1 h | apply go_rel h); (case hi => omega); (try case hx => exact inferInstance); (try case hv => rfl))
 | ((with_reducible apply go_fa h); omega; omega)
))
    refine go_alloc h zFi rfl fun q _ h => ?_
    (repeat (first
 | (simp (disch := omega) only [evA, evB, evC, bAdd_i64, bSub_i64])
 | (with_reducible apply go_ld1 h)
 | ((with_reducible first | apply go_ldA h | apply go_rd h | apply go_rdN h | apply go_rlen h); rfl)
 | (with_reducible first | apply go_ldN h | apply go_lenL h)
 | ((with_reducible apply go_st h); intro _ h)
 | ((with_reducible apply go_stA h); rfl; rfl; (first | rfl | simp [OneV.o]); intro _ h)
 | ((with_reducible apply go_stN h); rfl; (first | rfl | simp [OneV.o]); intro _ h)
 | ((with_reducible apply go_box h); rfl; intro _ _ h)
 | ((with_reducible apply go_ix h); omega)
 | ((with_reducible first | apply go_elN h | apply go_f1 h | apply go_rf1 h | apply go_rel h); (case hi => omega); (try case hx => exact inferInstance); (try case hv => rfl))
 | ((with_reducible apply go_fa h); omega; omega)
))
    have h4 := diskA_close H ok (L := Cl q (cFi (f.s, f.s.length)).toArray 58 :: L) (h.got)
    have e : n = ({ f with safe := f.s.length } : Fil).name := hn.symm
    rw [e]
    exact turn_spec (f := { f with safe := f.s.length }) oka h4 fun w h => hK w (h.got)
theorem dren_spec {b : List UInt8} (h : Sat w0 (DiskA v d :: L) w) (hK : ∀ w', Sat w0 (DiskA v (renD n b d).2 :: L) w' → K (.int .i64 (renD n b d).1) w') : callP G60 [v, .string (bs n), .string (bs b)] w K := by
  have oka := renD_ok (diskA_ok h) n b
  unfold renD at oka hK
  refine c60 ?_
  unfold F60
  obtain ⟨p, m, M, rfl, H, ok, h2⟩ := diskA_open h
  clear h
  have h := h2
  clear h2
  (repeat (first
 | (simp (disch := omega) only [evA, evB, evC, bAdd_i64, bSub_i64])
 | (with_reducible apply go_ld1 h)
 | ((with_reducible first | apply go_ldA h | apply go_rd h | apply go_rdN h | apply go_rlen h); rfl)
 | (with_reducible first | apply go_ldN h | apply go_lenL h)
 | ((with_reducible apply go_st h); intro _ h)
 | ((with_reducible apply go_stA h); rfl; rfl; (first | rfl | simp [OneV.o]); intro _ h)
 | ((with_reducible apply go_stN h); rfl; (first | rfl | simp [OneV.o]); intro _ h)
 | ((with_reducible apply go_box h); rfl; intro _ _ h)
 | ((with_reducible apply go_ix h); omega)
 | ((with_reducible first | apply go_elN h | apply go_f1 h | apply go_rf1 h | apply go_rel h); (case hi => omega); (try case hx => exact inferInstance); (try case hv => rfl))
 | ((with_reducible apply go_fa h); omega; omega)
))
  refine go_look2 h (by repeat (first | exact .here | apply Fnt.there)) KST um48 zFi n ?_
  rw [look_file (n := n) H]
  cases hg : fGet n d.fs with
  | none =>
    rw [hg] at oka hK
    have e1 : (Option.map fVal (none : Option Fil)) = none := rfl
    rw [e1]
    simp only [Option.elim_none]
    (repeat (first
 | (simp (disch := omega) only [evA, evB, evC, bAdd_i64, bSub_i64])
 | (with_reducible apply go_ld1 h)
 | ((with_reducible first | apply go_ldA h | apply go_rd h | apply go_rdN h | apply go_rlen h); rfl)
 | (with_reducible first | apply go_ldN h | apply go_lenL h)
 | ((with_reducible apply go_st h); intro _ h)
 | ((with_reducible apply go_stA h); rfl; rfl; (first | rfl | simp [OneV.o]); intro _ h)
 | ((with_reducible apply go_stN h); rfl; (first | rfl | simp [OneV.o]); intro _ h)
 | ((with_reducible apply go_box h); rfl; intro _ _ h)
 | ((with_reducible apply go_ix h); omega)
 | ((with_reducible first | apply go_elN h | apply go_f1 h | apply go_rf1 h | apply go_rel h); (case hi => omega); (try case hx => exact inferInstance); (try case hv => rfl))
 | ((with_reducible apply go_fa h); omega; omega)
))
    refine go_alloc h zFi rfl fun q _ h => ?_
    (repeat (first
 | (simp (disch := omega) only [evA, evB, evC, bAdd_i64, bSub_i64])
 | (with_reducible apply go_ld1 h)
 | ((with_reducible first | apply go_ldA h | apply go_rd h | apply go_rdN h | apply go_rlen h); rfl)
 | (with_reducible first | apply go_ldN h | apply go_lenL h)
 | ((with_reducible apply go_st h); intro _ h)
 | ((with_reducible apply go_stA h); rfl; rfl; (first | rfl | simp [OneV.o]); intro _ h)
 | ((with_reducible apply go_stN h); rfl; (first | rfl | simp [OneV.o]); intro _ h)
 | ((with_reducible apply go_box h); rfl; intro _ _ h)
 | ((with_reducible apply go_ix h); omega)
 | ((with_reducible first | apply go_elN h | apply go_f1 h | apply go_rf1 h | apply go_rel h); (case hi => omega); (try case hx => exact inferInstance); (try case hv => rfl))
 | ((with_reducible apply go_fa h); omega; omega)
))
    exact hK _ (diskA_close H ok (h.got))
  | some f =>
    rw [hg] at oka hK
    have e1 : Option.map fVal (some f) = some (f.s, f.safe) := rfl
    rw [e1]
    simp only [Option.elim_some] at hK oka ⊢
    (repeat (first
 | (simp (disch := omega) only [evA, evB, evC, bAdd_i64, bSub_i64])
 | (with_reducible apply go_ld1 h)
 | ((with_reducible first | apply go_ldA h | apply go_rd h | apply go_rdN h | apply go_rlen h); rfl)
 | (with_reducible first | apply go_ldN h | apply go_lenL h)
 | ((with_reducible apply go_st h); intro _ h)
 | ((with_reducible apply go_stA h); rfl; rfl; (first | rfl | simp [OneV.o]); intro _ h)
 | ((with_reducible apply go_stN h); rfl; (first | rfl | simp [OneV.o]); intro _ h)
 | ((with_reducible apply go_box h); rfl; intro _ _ h)
 | ((with_reducible apply go_ix h); omega)
 | ((with_reducible first | apply go_elN h | apply go_f1 h | apply go_rf1 h | apply go_rel h); (case hi => omega); (try case hx => exact inferInstance); (try case hv => rfl))
 | ((with_reducible apply go_fa h); omega; omega)
))
    refine go_alloc h zFi rfl fun q _ h => ?_
    (repeat (first
 | (simp (disch := omega) only [evA, evB, evC, bAdd_i64, bSub_i64])
 | (with_reducible apply go_ld1 h)
 | ((with_reducible first | apply go_ldA h | apply go_rd h | apply go_rdN h | apply go_rlen h); rfl)
 | (with_reducible first | apply go_ldN h | apply go_lenL h)
 | ((with_reducible apply go_st h); intro _ h)
 | ((with_reducible apply go_stA h); rfl; rfl; (first | rfl | simp [OneV.o]); intro _ h)
 | ((with_reducible apply go_stN h); rfl; (first | rfl | simp [OneV.o]); intro _ h)
 | ((with_reducible apply go_box h); rfl; intro _ _ h)
 | ((with_reducible apply go_ix h); omega)
 | ((with_reducible first | apply go_elN h | apply go_f1 h | apply go_rf1 h | apply go_rel h); (case hi => omega); (try case hx => exact inferInstance); (try case hv => rfl))
 | ((with_reducible apply go_fa h); omega; omega)
))
    refine isname_spec ?_
    cases hb : nameOk b
    · rw [if_pos hb] at hK
      (repeat (first
 | (simp (disch := omega) only [evA, evB, evC, bAdd_i64, bSub_i64])
 | (with_reducible apply go_ld1 h)
 | ((with_reducible first | apply go_ldA h | apply go_rd h | apply go_rdN h | apply go_rlen h); rfl)
 | (with_reducible first | apply go_ldN h | apply go_lenL h)
 | ((with_reducible apply go_st h); intro _ h)
 | ((with_reducible apply go_stA h); rfl; rfl; (first | rfl | simp [OneV.o]); intro _ h)
 | ((with_reducible apply go_stN h); rfl; (first | rfl | simp [OneV.o]); intro _ h)
 | ((with_reducible apply go_box h); rfl; intro _ _ h)
 | ((with_reducible apply go_ix h); omega)
 | ((with_reducible first | apply go_elN h | apply go_f1 h | apply go_rf1 h | apply go_rel h); (case hi => omega); (try case hx => exact inferInstance); (try case hv => rfl))
 | ((with_reducible apply go_fa h); omega; omega)
))
      exact hK _ (diskA_close H ok (h.got))
    rw [if_neg (by rw [hb]; simp)] at hK oka
    (repeat (first
 | (simp (disch := omega) only [evA, evB, evC, bAdd_i64, bSub_i64])
 | (with_reducible apply go_ld1 h)
 | ((with_reducible first | apply go_ldA h | apply go_rd h | apply go_rdN h | apply go_rlen h); rfl)
 | (with_reducible first | apply go_ldN h | apply go_lenL h)
 | ((with_reducible apply go_st h); intro _ h)
 | ((with_reducible apply go_stA h); rfl; rfl; (first | rfl | simp [OneV.o]); intro _ h)
 | ((with_reducible apply go_stN h); rfl; (first | rfl | simp [OneV.o]); intro _ h)
 | ((with_reducible apply go_box h); rfl; intro _ _ h)
 | ((with_reducible apply go_ix h); omega)
 | ((with_reducible first | apply go_elN h | apply go_f1 h | apply go_rf1 h | apply go_rel h); (case hi => omega); (try case hx => exact inferInstance); (try case hv => rfl))
 | ((with_reducible apply go_fa h); omega; omega)
))
    have h4 := diskA_close H ok (L := Cl q (cFi (f.s, f.safe)).toArray 58 :: L) (h.got)
    refine use_spec h4 (fun hu w h => ?_) (fun e hu w h => ?_)
    · rw [hu] at hK
      (repeat (first
 | (simp (disch := omega) only [evA, evB, evC, bAdd_i64, bSub_i64])
 | (with_reducible apply go_ld1 h)
 | ((with_reducible first | apply go_ldA h | apply go_rd h | apply go_rdN h | apply go_rlen h); rfl)
 | (with_reducible first | apply go_ldN h | apply go_lenL h)
 | ((with_reducible apply go_st h); intro _ h)
 | ((with_reducible apply go_stA h); rfl; rfl; (first | rfl | simp [OneV.o]); intro _ h)
 | ((with_reducible apply go_stN h); rfl; (first | rfl | simp [OneV.o]); intro _ h)
 | ((with_reducible apply go_box h); rfl; intro _ _ h)
 | ((with_reducible apply go_ix h); omega)
 | ((with_reducible first | apply go_elN h | apply go_f1 h | apply go_rf1 h | apply go_rel h); (case hi => omega); (try case hx => exact inferInstance); (try case hv => rfl))
 | ((with_reducible apply go_fa h); omega; omega)
))
      exact hK _ (h.got)
    · rw [hu] at hK oka
      obtain ⟨p', m, M, e', H, ok, h5⟩ := diskA_open h
      cases e'
      clear h
      have h := h5
      clear h5
      (repeat (first
 | (simp (disch := omega) only [evA, evB, evC, bAdd_i64, bSub_i64])
 | (with_reducible apply go_ld1 h)
 | ((with_reducible first | apply go_ldA h | apply go_rd h | apply go_rdN h | apply go_rlen h); rfl)
 | (with_reducible first | apply go_ldN h | apply go_lenL h)
 | ((with_reducible apply go_st h); intro _ h)
 | ((with_reducible apply go_stA h); rfl; rfl; (first | rfl | simp [OneV.o]); intro _ h)
 | ((with_reducible apply go_stN h); rfl; (first | rfl | simp [OneV.o]); intro _ h)
 | ((with_reducible apply go_box h); rfl; intro _ _ h)
 | ((with_reducible apply go_ix h); omega)
 | ((with_reducible first | apply go_elN h | apply go_f1 h | apply go_rf1 h | apply go_rel h); (case hi => omega); (try case hx => exact inferInstance); (try case hv => rfl))
 | ((with_reducible apply go_fa h); omega; omega)
))
      refine eDelete_sat (h.frt (A := MapH kSt fiV m M)) KST um48 n fun w h => ?_
      (repeat (first
 | (simp (disch := omega) only [evA, evB, evC, bAdd_i64, bSub_i64])
 | (with_reducible apply go_ld1 h)
 | ((with_reducible first | apply go_ldA h | apply go_rd h | apply go_rdN h | apply go_rlen h); rfl)
 | (with_reducible first | apply go_ldN h | apply go_lenL h)
 | ((with_reducible apply go_st h); intro _ h)
 | ((with_reducible apply go_stA h); rfl; rfl; (first | rfl | simp [OneV.o]); intro _ h)
 | ((with_reducible apply go_stN h); rfl; (first | rfl | simp [OneV.o]); intro _ h)
 | ((with_reducible apply go_box h); rfl; intro _ _ h)
 | ((with_reducible apply go_ix h); omega)
 | ((with_reducible first | apply go_elN h | apply go_f1 h | apply go_rf1 h | apply go_rel h); (case hi => omega); (try case hx => exact inferInstance); (try case hv => rfl))
 | ((with_reducible apply go_fa h); omega; omega)
))
      refine eMapSet_sat (h.drew.frt (A := MapH kSt fiV m (aDel n M))) KST um48 b (f.s, f.safe) fun w h => ?_
      exact hK _ (diskA_close (d := { e with fs := fPut { f with name := b } (fDel n e.fs) }) ((H.del STO.txt n).put STO.txt { f with name := b }) oka (h.got))
theorem dcut_spec {k : Int} (h : Sat w0 (DiskA v d :: L) w) (hK : ∀ w', Sat w0 (DiskA v (cutD n k d).2 :: L) w' → K (.int .i64 (cutD n k d).1) w') : callP G72 [v, .string (bs n), .int .i64 k] w K := by
  have oka := cutD_ok (diskA_ok h) n k
  unfold cutD at oka hK
  refine c72 ?_
  unfold F72
  obtain ⟨p, m, M, rfl, H, ok, h2⟩ := diskA_open h
  clear h
  have h := h2
  clear h2
  (repeat (first
 | (simp (disch := omega) only [evA, evB, evC, bAdd_i64, bSub_i64])
 | (with_reducible apply go_ld1 h)
 | ((with_reducible first | apply go_ldA h | apply go_rd h | apply go_rdN h | apply go_rlen h); rfl)
 | (with_reducible first | apply go_ldN h | apply go_lenL h)
 | ((with_reducible apply go_st h); intro _ h)
 | ((with_reducible apply go_stA h); rfl; rfl; (first | rfl | simp [OneV.o]); intro _ h)
 | ((with_reducible apply go_stN h); rfl; (first | rfl | simp [OneV.o]); intro _ h)
 | ((with_reducible apply go_box h); rfl; intro _ _ h)
 | ((with_reducible apply go_ix h); omega)
 | ((with_reducible first | apply go_elN h | apply go_f1 h | apply go_rf1 h | apply go_rel h); (case hi => omega); (try case hx => exact inferInstance); (try case hv => rfl))
 | ((with_reducible apply go_fa h); omega; omega)
))
  refine go_look2 h (by repeat (first | exact .here | apply Fnt.there)) KST um48 zFi n ?_
  rw [look_file (n := n) H]
  cases hg : fGet n d.fs with
  | none =>
    rw [hg] at oka hK
    have e1 : (Option.map fVal (none : Option Fil)) = none := rfl
    rw [e1]
    simp only [Option.elim_none]
    (repeat (first
 | (simp (disch := omega) only [evA, evB, evC, bAdd_i64, bSub_i64])
 | (with_reducible apply go_ld1 h)
 | ((with_reducible first | apply go_ldA h | apply go_rd h | apply go_rdN h | apply go_rlen h); rfl)
 | (with_reducible first | apply go_ldN h | apply go_lenL h)
 | ((with_reducible apply go_st h); intro _ h)
 | ((with_reducible apply go_stA h); rfl; rfl; (first | rfl | simp [OneV.o]); intro _ h)
 | ((with_reducible apply go_stN h); rfl; (first | rfl | simp [OneV.o]); intro _ h)
 | ((with_reducible apply go_box h); rfl; intro _ _ h)
 | ((with_reducible apply go_ix h); omega)
 | ((with_reducible first | apply go_elN h | apply go_f1 h | apply go_rf1 h | apply go_rel h); (case hi => omega); (try case hx => exact inferInstance); (try case hv => rfl))
 | ((with_reducible apply go_fa h); omega; omega)
))
    refine go_alloc h zFi rfl fun q _ h => ?_
    (repeat (first
 | (simp (disch := omega) only [evA, evB, evC, bAdd_i64, bSub_i64])
 | (with_reducible apply go_ld1 h)
 | ((with_reducible first | apply go_ldA h | apply go_rd h | apply go_rdN h | apply go_rlen h); rfl)
 | (with_reducible first | apply go_ldN h | apply go_lenL h)
 | ((with_reducible apply go_st h); intro _ h)
 | ((with_reducible apply go_stA h); rfl; rfl; (first | rfl | simp [OneV.o]); intro _ h)
 | ((with_reducible apply go_stN h); rfl; (first | rfl | simp [OneV.o]); intro _ h)
 | ((with_reducible apply go_box h); rfl; intro _ _ h)
 | ((with_reducible apply go_ix h); omega)
 | ((with_reducible first | apply go_elN h | apply go_f1 h | apply go_rf1 h | apply go_rel h); (case hi => omega); (try case hx => exact inferInstance); (try case hv => rfl))
 | ((with_reducible apply go_fa h); omega; omega)
))
    exact hK _ (diskA_close H ok (h.got))
  | some f =>
    rw [hg] at oka hK
    obtain ⟨hm, hn⟩ := kGet_mem hg
    have e1 : Option.map fVal (some f) = some (f.s, f.safe) := rfl
    rw [e1]
    simp only [Option.elim_some] at hK oka ⊢
    (repeat (first
 | (simp (disch := omega) only [evA, evB, evC, bAdd_i64, bSub_i64])
 | (with_reducible apply go_ld1 h)
 | ((with_reducible first | apply go_ldA h | apply go_rd h | apply go_rdN h | apply go_rlen h); rfl)
 | (with_reducible first | apply go_ldN h | apply go_lenL h)
 | ((with_reducible apply go_st h); intro _ h)
 | ((with_reducible apply go_stA h); rfl; rfl; (first | rfl | simp [OneV.o]); intro _ h)
 | ((with_reducible apply go_stN h); rfl; (first | rfl | simp [OneV.o]); intro _ h)
 | ((with_reducible apply go_box h); rfl; intro _ _ h)
 | ((with_reducible apply go_ix h); omega)
 | ((with_reducible first | apply go_elN h | apply go_f1 h | apply go_rf1 h | apply go_rel h); (case hi => omega); (try case hx => exact inferInstance); (try case hv => rfl))
 | ((with_reducible apply go_fa h); omega; omega)
))
    refine go_alloc h zFi rfl fun q _ h => ?_
    by_cases g1 : k < 0
    · have g1' : decide (k < 0) = true := by simpa using g1
      rw [if_pos (.inl g1)] at hK
      (repeat (first
 | (simp (disch := omega) only [evA, evB, evC, bAdd_i64, bSub_i64, g1'])
 | (with_reducible apply go_ld1 h)
 | ((with_reducible first | apply go_ldA h | apply go_rd h | apply go_rdN h | apply go_rlen h); rfl)
 | (with_reducible first | apply go_ldN h | apply go_lenL h)
 | ((with_reducible apply go_st h); intro _ h)
 | ((with_reducible apply go_stA h); rfl; rfl; (first | rfl | simp [OneV.o]); intro _ h)
 | ((with_reducible apply go_stN h); rfl; (first | rfl | simp [OneV.o]); intro _ h)
 | ((with_reducible apply go_box h); rfl; intro _ _ h)
 | ((with_reducible apply go_ix h); omega)
 | ((with_reducible first | apply go_elN h | apply go_f1 h | apply go_rf1 h | apply go_rel h); (case hi => omega); (try case hx => exact inferInstance); (try case hv => rfl))
 | ((with_reducible apply go_fa h); omega; omega)
))
      exact hK _ (diskA_close H ok (h.got))
    have g1' : decide (k < 0) = false := by simpa using g1
    by_cases g2 : (f.s.length : Int) < k
    · have g2' : decide (k > (f.s.length : Int)) = true := by simpa using g2
      rw [if_pos (.inr g2)] at hK
      (repeat (first
 | (simp (disch := omega) only [evA, evB, evC, bAdd_i64, bSub_i64, g1', g2'])
 | (with_reducible apply go_ld1 h)
 | ((with_reducible first | apply go_ldA h | apply go_rd h | apply go_rdN h | apply go_rlen h); rfl)
 | (with_reducible first | apply go_ldN h | apply go_lenL h)
 | ((with_reducible apply go_st h); intro _ h)
 | ((with_reducible apply go_stA h); rfl; rfl; (first | rfl | simp [OneV.o]); intro _ h)
 | ((with_reducible apply go_stN h); rfl; (first | rfl | simp [OneV.o]); intro _ h)
 | ((with_reducible apply go_box h); rfl; intro _ _ h)
 | ((with_reducible apply go_ix h); omega)
 | ((with_reducible first | apply go_elN h | apply go_f1 h | apply go_rf1 h | apply go_rel h); (case hi => omega); (try case hx => exact inferInstance); (try case hv => rfl))
 | ((with_reducible apply go_fa h); omega; omega)
))
      exact hK _ (diskA_close H ok (h.got))
    have g2' : decide (k > (f.s.length : Int)) = false := by simpa using g2
    rw [if_neg (by omega)] at hK oka
    obtain ⟨j, rfl⟩ : ∃ j : Nat, k = j := ⟨k.toNat, by omega⟩
    simp only [Int.toNat_natCast] at hK oka
    (repeat (first
 | (simp (disch := omega) only [evA, evB, evC, bAdd_i64, bSub_i64, g1', g2'])
 | (with_reducible apply go_ld1 h)
 | ((with_reducible first | apply go_ldA h | apply go_rd h | apply go_rdN h | apply go_rlen h); rfl)
 | (with_reducible first | apply go_ldN h | apply go_lenL h)
 | ((with_reducible apply go_st h); intro _ h)
 | ((with_reducible apply go_stA h); rfl; rfl; (first | rfl | simp [OneV.o]); intro _ h)
 | ((with_reducible apply go_stN h); rfl; (first | rfl | simp [OneV.o]); intro _ h)
 | ((with_reducible apply go_box h); rfl; intro _ _ h)
 | ((with_reducible apply go_ix h); omega)
 | ((with_reducible first | apply go_elN h | apply go_f1 h | apply go_rf1 h | apply go_rel h); (case hi => omega); (try case hx => exact inferInstance); (try case hv => rfl))
 | ((with_reducible apply go_fa h); omega; omega)
))
    refine go_some (sub_to (l := f.s) (i := j) (by omega)) ?_
    have emin : min ((f.safe : Nat) : Int) (j : Int) = ((min f.safe j : Nat) : Int) := by omega
    (repeat (first
 | (simp (disch := omega) only [evA, evB, evC, bAdd_i64, bSub_i64, emin])
 | (with_reducible apply go_ld1 h)
 | ((with_reducible first | apply go_ldA h | apply go_rd h | apply go_rdN h | apply go_rlen h); rfl)
 | (with_reducible first | apply go_ldN h | apply go_lenL h)
 | ((with_reducible apply go_st h); intro _ h)
 | ((with_reducible apply go_stA h); rfl; rfl; (first | rfl | simp [OneV.o]); intro _ h)
 | ((with_reducible apply go_stN h); rfl; (first | rfl | simp [OneV.o]); intro _ h)
 | ((with_reducible apply go_box h); rfl; intro _ _ h)
 | ((with_reducible apply go_ix h); omega)
 | ((with_reducible first | apply go_elN h | apply go_f1 h | apply go_rf1 h | apply go_rel h); (case hi => omega); (try case hx => exact inferInstance); (try case hv => rfl))
 | ((with_reducible apply go_fa h); omega; omega)
))
    refine go_some (fbFi _ _) ?_
    have h4 := diskA_close H ok (L := Cl q (cFi (f.s, f.safe)).toArray 58 :: L) (h.drew.got)
    have e : n = ({ f with s := f.s.take j, safe := min f.safe j } : Fil).name := hn.symm
    rw [e]
    exact turn_spec (f := { f with s := f.s.take j, safe := min f.safe j }) oka h4 fun w h => hK w (h.got)
theorem drem_spec (h : Sat w0 (DiskA v d :: L) w) (hK : ∀ w', Sat w0 (DiskA v (remD n d).2 :: L) w' → K (.int .i64 (remD n d).1) w') : callP G38 [v, .string (bs n)] w K := by
  have oka := remD_ok (diskA_ok h) n
  unfold remD at oka hK
  refine c38 ?_
  unfold F38
  obtain ⟨p, m, M, rfl, H, ok, h2⟩ := diskA_open h
  clear h
  have h := h2
  clear h2
  (repeat (first
 | (simp (disch := omega) only [evA, evB, evC, bAdd_i64, bSub_i64])
 | (with_reducible apply go_ld1 h)
 | ((with_reducible first | apply go_ldA h | apply go_rd h | apply go_rdN h | apply go_rlen h); rfl)
 | (with_reducible first | apply go_ldN h | apply go_lenL h)
 | ((with_reducible apply go_st h); intro _ h)
 | ((with_reducible apply go_stA h); rfl; rfl; (first | rfl | simp [OneV.o]); intro _ h)
 | ((with_reducible apply go_stN h); rfl; (first | rfl | simp [OneV.o]); intro _ h)
 | ((with_reducible apply go_box h); rfl; intro _ _ h)
 | ((with_reducible apply go_ix h); omega)
 | ((with_reducible first | apply go_elN h | apply go_f1 h | apply go_rf1 h | apply go_rel h); (case hi => omega); (try case hx => exact inferInstance); (try case hv => rfl))
 | ((with_reducible apply go_fa h); omega; omega)
))
  refine go_look2 h (by repeat (first | exact .here | apply Fnt.there)) KST um48 zFi n ?_
  rw [look_file (n := n) H]
  cases hg : fGet n d.fs with
  | none =>
    rw [hg] at oka hK
    have e1 : (Option.map fVal (none : Option Fil)) = none := rfl
    rw [e1]
    simp only [Option.elim_none]
    (repeat (first
 | (simp (disch := omega) only [evA, evB, evC, bAdd_i64, bSub_i64])
 | (with_reducible apply go_ld1 h)
 | ((with_reducible first | apply go_ldA h | apply go_rd h | apply go_rdN h | apply go_rlen h); rfl)
 | (with_reducible first | apply go_ldN h | apply go_lenL h)
 | ((with_reducible apply go_st h); intro _ h)
 | ((with_reducible apply go_stA h); rfl; rfl; (first | rfl | simp [OneV.o]); intro _ h)
 | ((with_reducible apply go_stN h); rfl; (first | rfl | simp [OneV.o]); intro _ h)
 | ((with_reducible apply go_box h); rfl; intro _ _ h)
 | ((with_reducible apply go_ix h); omega)
 | ((with_reducible first | apply go_elN h | apply go_f1 h | apply go_rf1 h | apply go_rel h); (case hi => omega); (try case hx => exact inferInstance); (try case hv => rfl))
 | ((with_reducible apply go_fa h); omega; omega)
))
    refine go_alloc h zFi rfl fun q _ h => ?_
    (repeat (first
 | (simp (disch := omega) only [evA, evB, evC, bAdd_i64, bSub_i64])
 | (with_reducible apply go_ld1 h)
 | ((with_reducible first | apply go_ldA h | apply go_rd h | apply go_rdN h | apply go_rlen h); rfl)
 | (with_reducible first | apply go_ldN h | apply go_lenL h)
 | ((with_reducible apply go_st h); intro _ h)
 | ((with_reducible apply go_stA h); rfl; rfl; (first | rfl | simp [OneV.o]); intro _ h)
 | ((with_reducible apply go_stN h); rfl; (first | rfl | simp [OneV.o]); intro _ h)
 | ((with_reducible apply go_box h); rfl; intro _ _ h)
 | ((with_reducible apply go_ix h); omega)
 | ((with_reducible first | apply go_elN h | apply go_f1 h | apply go_rf1 h | apply go_rel h); (case hi => omega); (try case hx => exact inferInstance); (try case hv => rfl))
 | ((with_reducible apply go_fa h); omega; omega)
))
    exact hK _ (diskA_close H ok (h.got))
  | some f =>
    rw [hg] at oka hK
    have e1 : Option.map fVal (some f) = some (f.s, f.safe) := rfl
    rw [e1]
    simp only [Option.elim_some] at hK oka ⊢
    (repeat (first
 | (simp (disch := omega) only [evA, evB, evC, bAdd_i64, bSub_i64])
 | (with_reducible apply go_ld1 h)
 | ((with_reducible first | apply go_ldA h | apply go_rd h | apply go_rdN h | apply go_rlen h); rfl)
 | (with_reducible first | apply go_ldN h | apply go_lenL h)
 | ((with_reducible apply go_st h); intro _ h)
 | ((with_reducible apply go_stA h); rfl; rfl; (first | rfl | simp [OneV.o]); intro _ h)
 | ((with_reducible apply go_stN h); rfl; (first | rfl | simp [OneV.o]); intro _ h)
 | ((with_reducible apply go_box h); rfl; intro _ _ h)
 | ((with_reducible apply go_ix h); omega)
 | ((with_reducible first | apply go_elN h | apply go_f1 h | apply go_rf1 h | apply go_rel h); (case hi => omega); (try case hx => exact inferInstance); (try case hv => rfl))
 | ((with_reducible apply go_fa h); omega; omega)
))
    refine go_alloc h zFi rfl fun q _ h => ?_
    (repeat (first
 | (simp (disch := omega) only [evA, evB, evC, bAdd_i64, bSub_i64])
 | (with_reducible apply go_ld1 h)
 | ((with_reducible first | apply go_ldA h | apply go_rd h | apply go_rdN h | apply go_rlen h); rfl)
 | (with_reducible first | apply go_ldN h | apply go_lenL h)
 | ((with_reducible apply go_st h); intro _ h)
 | ((with_reducible apply go_stA h); rfl; rfl; (first | rfl | simp [OneV.o]); intro _ h)
 | ((with_reducible apply go_stN h); rfl; (first | rfl | simp [OneV.o]); intro _ h)
 | ((with_reducible apply go_box h); rfl; intro _ _ h)
 | ((with_reducible apply go_ix h); omega)
 | ((with_reducible first | apply go_elN h | apply go_f1 h | apply go_rf1 h | apply go_rel h); (case hi => omega); (try case hx => exact inferInstance); (try case hv => rfl))
 | ((with_reducible apply go_fa h); omega; omega)
))
    have h4 := diskA_close H ok (L := Cl q (cFi (f.s, f.safe)).toArray 58 :: L) (h.got)
    refine use_spec h4 (fun hu w h => ?_) (fun e hu w h => ?_)
    · rw [hu] at hK
      (repeat (first
 | (simp (disch := omega) only [evA, evB, evC, bAdd_i64, bSub_i64])
 | (with_reducible apply go_ld1 h)
 | ((with_reducible first | apply go_ldA h | apply go_rd h | apply go_rdN h | apply go_rlen h); rfl)
 | (with_reducible first | apply go_ldN h | apply go_lenL h)
 | ((with_reducible apply go_st h); intro _ h)
 | ((with_reducible apply go_stA h); rfl; rfl; (first | rfl | simp [OneV.o]); intro _ h)
 | ((with_reducible apply go_stN h); rfl; (first | rfl | simp [OneV.o]); intro _ h)
 | ((with_reducible apply go_box h); rfl; intro _ _ h)
 | ((with_reducible apply go_ix h); omega)
 | ((with_reducible first | apply go_elN h | apply go_f1 h | apply go_rf1 h | apply go_rel h); (case hi => omega); (try case hx => exact inferInstance); (try case hv => rfl))
 | ((with_reducible apply go_fa h); omega; omega)
))
      exact hK _ (h.got)
    · rw [hu] at hK oka
      obtain ⟨p', m, M, e', H, ok, h5⟩ := diskA_open h
      cases e'
      clear h
      have h := h5
      clear h5
      (repeat (first
 | (simp (disch := omega) only [evA, evB, evC, bAdd_i64, bSub_i64])
 | (with_reducible apply go_ld1 h)
 | ((with_reducible first | apply go_ldA h | apply go_rd h | apply go_rdN h | apply go_rlen h); rfl)
 | (with_reducible first | apply go_ldN h | apply go_lenL h)
 | ((with_reducible apply go_st h); intro _ h)
 | ((with_reducible apply go_stA h); rfl; rfl; (first | rfl | simp [OneV.o]); intro _ h)
 | ((with_reducible apply go_stN h); rfl; (first | rfl | simp [OneV.o]); intro _ h)
 | ((with_reducible apply go_box h); rfl; intro _ _ h)
 | ((with_reducible apply go_ix h); omega)
 | ((with_reducible first | apply go_elN h | apply go_f1 h | apply go_rf1 h | apply go_rel h); (case hi => omega); (try case hx => exact inferInstance); (try case hv => rfl))
 | ((with_reducible apply go_fa h); omega; omega)
))
      refine eDelete_sat (h.frt (A := MapH kSt fiV m M)) KST um48 n fun w h => ?_
      (repeat (first
 | (simp (disch := omega) only [evA, evB, evC, bAdd_i64, bSub_i64])
 | (with_reducible apply go_ld1 h)
 | ((with_reducible first | apply go_ldA h | apply go_rd h | apply go_rdN h | apply go_rlen h); rfl)
 | (with_reducible first | apply go_ldN h | apply go_lenL h)
 | ((with_reducible apply go_st h); intro _ h)
 | ((with_reducible apply go_stA h); rfl; rfl; (first | rfl | simp [OneV.o]); intro _ h)
 | ((with_reducible apply go_stN h); rfl; (first | rfl | simp [OneV.o]); intro _ h)
 | ((with_reducible apply go_box h); rfl; intro _ _ h)
 | ((with_reducible apply go_ix h); omega)
 | ((with_reducible first | apply go_elN h | apply go_f1 h | apply go_rf1 h | apply go_rel h); (case hi => omega); (try case hx => exact inferInstance); (try case hv => rfl))
 | ((with_reducible apply go_fa h); omega; omega)
))
      exact hK _ (diskA_close (d := { e with fs := fDel n e.fs }) (H.del STO.txt n) oka (h.got))
theorem dread_spec (h : Sat w0 (DiskA v d :: L) w) (hK : ∀ w', Sat w0 (DiskA v d :: L) w' → K (.tuple #[.string (bs ((fGet n d.fs).elim [] (·.s))), .int .i64 ((fGet n d.fs).elim 5 fun _ => 0)]) w') : callP G39 [v, .string (bs n)] w K := by
  refine c39 ?_
  unfold F39
  obtain ⟨p, m, M, rfl, H, ok, h2⟩ := diskA_open h
  clear h
  have h := h2
  clear h2
  (repeat (first
 | (simp (disch := omega) only [evA, evB, evC, bAdd_i64, bSub_i64])
 | (with_reducible apply go_ld1 h)
 | ((with_reducible first | apply go_ldA h | apply go_rd h | apply go_rdN h | apply go_rlen h); rfl)
 | (with_reducible first | apply go_ldN h | apply go_lenL h)
 | ((with_reducible apply go_st h); intro _ h)
 | ((with_reducible apply go_stA h); rfl; rfl; (first | rfl | simp [OneV.o]); intro _ h)
 | ((with_reducible apply go_stN h); rfl; (first | rfl | simp [OneV.o]); intro _ h)
 | ((with_reducible apply go_box h); rfl; intro _ _ h)
 | ((with_reducible apply go_ix h); omega)
 | ((with_reducible first | apply go_elN h | apply go_f1 h | apply go_rf1 h | apply go_rel h); (case hi => omega); (try case hx => exact inferInstance); (try case hv => rfl))
 | ((with_reducible apply go_fa h); omega; omega)
))
  refine go_look2 h (by repeat (first | exact .here | apply Fnt.there)) KST um48 zFi n ?_
  rw [look_file (n := n) H]
  cases hg : fGet n d.fs with
  | none =>
    rw [hg] at hK
    have e1 : (Option.map fVal (none : Option Fil)) = none := rfl
    rw [e1]
    simp only [Option.elim_none]
    (repeat (first
 | (simp (disch := omega) only [evA, evB, evC, bAdd_i64, bSub_i64])
 | (with_reducible apply go_ld1 h)
 | ((with_reducible first | apply go_ldA h | apply go_rd h | apply go_rdN h | apply go_rlen h); rfl)
 | (with_reducible first | apply go_ldN h | apply go_lenL h)
 | ((with_reducible apply go_st h); intro _ h)
 | ((with_reducible apply go_stA h); rfl; rfl; (first | rfl | simp [OneV.o]); intro _ h)
 | ((with_reducible apply go_stN h); rfl; (first | rfl | simp [OneV.o]); intro _ h)
 | ((with_reducible apply go_box h); rfl; intro _ _ h)
 | ((with_reducible apply go_ix h); omega)
 | ((with_reducible first | apply go_elN h | apply go_f1 h | apply go_rf1 h | apply go_rel h); (case hi => omega); (try case hx => exact inferInstance); (try case hv => rfl))
 | ((with_reducible apply go_fa h); omega; omega)
))
    refine go_alloc h zFi rfl fun q _ h => ?_
    (repeat (first
 | (simp (disch := omega) only [evA, evB, evC, bAdd_i64, bSub_i64])
 | (with_reducible apply go_ld1 h)
 | ((with_reducible first | apply go_ldA h | apply go_rd h | apply go_rdN h | apply go_rlen h); rfl)
 | (with_reducible first | apply go_ldN h | apply go_lenL h)
 | ((with_reducible apply go_st h); intro _ h)
 | ((with_reducible apply go_stA h); rfl; rfl; (first | rfl | simp [OneV.o]); intro _ h)
 | ((with_reducible apply go_stN h); rfl; (first | rfl | simp [OneV.o]); intro _ h)
 | ((with_reducible apply go_box h); rfl; intro _ _ h)
 | ((with_reducible apply go_ix h); omega)
 | ((with_reducible first | apply go_elN h | apply go_f1 h | apply go_rf1 h | apply go_rel h); (case hi => omega); (try case hx => exact inferInstance); (try case hv => rfl))
 | ((with_reducible apply go_fa h); omega; omega)
))
    exact hK _ (diskA_close H ok (h.got))
  | some f =>
    rw [hg] at hK
    have e1 : Option.map fVal (some f) = some (f.s, f.safe) := rfl
    rw [e1]
    simp only [Option.elim_some]
    (repeat (first
 | (simp (disch := omega) only [evA, evB, evC, bAdd_i64, bSub_i64])
 | (with_reducible apply go_ld1 h)
 | ((with_reducible first | apply go_ldA h | apply go_rd h | apply go_rdN h | apply go_rlen h); rfl)
 | (with_reducible first | apply go_ldN h | apply go_lenL h)
 | ((with_reducible apply go_st h); intro _ h)
 | ((with_reducible apply go_stA h); rfl; rfl; (first | rfl | simp [OneV.o]); intro _ h)
 | ((with_reducible apply go_stN h); rfl; (first | rfl | simp [OneV.o]); intro _ h)
 | ((with_reducible apply go_box h); rfl; intro _ _ h)
 | ((with_reducible apply go_ix h); omega)
 | ((with_reducible first | apply go_elN h | apply go_f1 h | apply go_rf1 h | apply go_rel h); (case hi => omega); (try case hx => exact inferInstance); (try case hv => rfl))
 | ((with_reducible apply go_fa h); omega; omega)
))
    refine go_alloc h zFi rfl fun q _ h => ?_
    (repeat (first
 | (simp (disch := omega) only [evA, evB, evC, bAdd_i64, bSub_i64])
 | (with_reducible apply go_ld1 h)
 | ((with_reducible first | apply go_ldA h | apply go_rd h | apply go_rdN h | apply go_rlen h); rfl)
 | (with_reducible first | apply go_ldN h | apply go_lenL h)
 | ((with_reducible apply go_st h); intro _ h)
 | ((with_reducible apply go_stA h); rfl; rfl; (first | rfl | simp [OneV.o]); intro _ h)
 | ((with_reducible apply go_stN h); rfl; (first | rfl | simp [OneV.o]); intro _ h)
 | ((with_reducible apply go_box h); rfl; intro _ _ h)
 | ((with_reducible apply go_ix h); omega)
 | ((with_reducible first | apply go_elN h | apply go_f1 h | apply go_rf1 h | apply go_rel h); (case hi => omega); (try case hx => exact inferInstance); (try case hv => rfl))
 | ((with_reducible apply go_fa h); omega; omega)
))
    exact hK _ (diskA_close H ok (h.got))
end
end Go.Proofs.Gong

/- Dk3 -/
namespace Go.Proofs.Gong
open Go Go.Sx Go.Proofs
set_option maxRecDepth 100000
attribute [local irreducible] fBuild fLook fZero eqv bEqv Cl MapH LsH SlH ld1 ldN st callP eBox eAlloc lenM lenL eMapSet eDelete eAppend eBuildSl eRange eNext
section
variable {w0 w : World} {L : List HP} {K : Value → World → Prop} {v : Value} {d : Dk} {n x : List UInt8} {M : List (List UInt8 × (List UInt8 × Nat))}
theorem dstop_spec {k : Int} (hk : k ≤ 9223372036854775807) (h : Sat w0 (DiskA v d :: L) w) (hK : ∀ w', Sat w0 (DiskA v (stopD k d).2 :: L) w' → K (.int .i64 (stopD k d).1) w') : callP G18 [v, .int .i64 k] w K := by
  have oka := stopD_ok (diskA_ok h) hk
  unfold stopD at oka hK
  refine c18 ?_
  unfold F18
  by_cases g : k < 0
  · have g' : decide (k < 0) = true := by simpa using g
    rw [if_pos g] at hK
    (repeat (first
 | (simp (disch := omega) only [evA, evB, evC, bAdd_i64, bSub_i64, g'])
 | (with_reducible apply go_ld1 h)
 | ((with_reducible first | apply go_ldA h | apply go_rd h | apply go_rdN h | apply go_rlen h); rfl)
 | (with_reducible first | apply go_ldN h | apply go_lenL h)
 | ((with_reducible apply go_st h); intro _ h)
 | ((with_reducible apply go_stA h); rfl; rfl; (first | rfl | simp [OneV.o]); intro _ h)
 | ((with_reducible apply go_stN h); rfl; (first | rfl | simp [OneV.o]); intro _ h)
 | ((with_reducible apply go_box h); rfl; intro _ _ h)
 | ((with_reducible apply go_ix h); omega)
 | ((with_reducible first | apply go_elN h | apply go_f1 h | apply go_rf1 h | apply go_rel h); (case hi => omega); (try case hx => exact inferInstance); (try case hv => rfl))
 | ((with_reducible apply go_fa h); omega; omega)
))
    exact hK _ h
  · have g' : decide (k < 0) = false := by simpa using g
    rw [if_neg g] at hK oka
    obtain ⟨p, m, M, rfl, H, ok, h2⟩ := diskA_open h
    clear h
    have h := h2
    clear h2
    (repeat (first
 | (simp (disch := omega) only [evA, evB, evC, bAdd_i64, bSub_i64, g'])
 | (with_reducible apply go_ld1 h)
 | ((with_reducible first | apply go_ldA h | apply go_rd h | apply go_rdN h | apply go_rlen h); rfl)
 | (with_reducible first | apply go_ldN h | apply go_lenL h)
 | ((with_reducible apply go_st h); intro _ h)
 | ((with_reducible apply go_stA h); rfl; rfl; (first | rfl | simp [OneV.o]); intro _ h)
 | ((with_reducible apply go_stN h); rfl; (first | rfl | simp [OneV.o]); intro _ h)
 | ((with_reducible apply go_box h); rfl; intro _ _ h)
 | ((with_reducible apply go_ix h); omega)
 | ((with_reducible first | apply go_elN h | apply go_f1 h | apply go_rf1 h | apply go_rel h); (case hi => omega); (try case hx => exact inferInstance); (try case hv => rfl))
 | ((with_reducible apply go_fa h); omega; omega)
))
    exact hK _ (diskA_close (d := { d with stop := true, left := k }) H oka (h.got))
theorem dnames_spec (hc : d.fs.length ≤ 1073741824) (h : Sat w0 (DiskA v d :: L) w) (hK : ∀ s w', Sat w0 (LsH cSt 1 9 s (d.fs.map (·.name)) :: DiskA v d :: L) w' → K s w') : callP G34 [v] w K := by
  refine c34 ?_
  unfold F34
  obtain ⟨p, m, M, rfl, H, ok, h2⟩ := diskA_open h
  clear h
  have h := h2
  clear h2
  obtain ⟨r1, _, _, ⟨rfl, _⟩, _⟩ := map_iff.1 (h.frt (A := MapH kSt fiV m M))
  (repeat (first
 | (simp (disch := omega) only [evA, evB, evC, bAdd_i64, bSub_i64])
 | (with_reducible apply go_ld1 h)
 | ((with_reducible first | apply go_ldA h | apply go_rd h | apply go_rdN h | apply go_rlen h); rfl)
 | (with_reducible first | apply go_ldN h | apply go_lenL h)
 | ((with_reducible apply go_st h); intro _ h)
 | ((with_reducible apply go_stA h); rfl; rfl; (first | rfl | simp [OneV.o]); intro _ h)
 | ((with_reducible apply go_stN h); rfl; (first | rfl | simp [OneV.o]); intro _ h)
 | ((with_reducible apply go_box h); rfl; intro _ _ h)
 | ((with_reducible apply go_ix h); omega)
 | ((with_reducible first | apply go_elN h | apply go_f1 h | apply go_rf1 h | apply go_rel h); (case hi => omega); (try case hx => exact inferInstance); (try case hv => rfl))
 | ((with_reducible apply go_fa h); omega; omega)
))
  refine c62 ?_
  unfold F62
  (repeat (first
 | (simp (disch := omega) only [evA, evB, evC, bAdd_i64, bSub_i64])
 | (with_reducible apply go_ld1 h)
 | ((with_reducible first | apply go_ldA h | apply go_rd h | apply go_rdN h | apply go_rlen h); rfl)
 | (with_reducible first | apply go_ldN h | apply go_lenL h)
 | ((with_reducible apply go_st h); intro _ h)
 | ((with_reducible apply go_stA h); rfl; rfl; (first | rfl | simp [OneV.o]); intro _ h)
 | ((with_reducible apply go_stN h); rfl; (first | rfl | simp [OneV.o]); intro _ h)
 | ((with_reducible apply go_box h); rfl; intro _ _ h)
 | ((with_reducible apply go_ix h); omega)
 | ((with_reducible first | apply go_elN h | apply go_f1 h | apply go_rf1 h | apply go_rel h); (case hi => omega); (try case hx => exact inferInstance); (try case hv => rfl))
 | ((with_reducible apply go_fa h); omega; omega)
))
  refine sortedS_sat (m := M) (ev := fiV) (L := Cl p #[.int .i64 d.room, .map (some r1), .bool d.stop, .int .i64 d.left] 50 :: L) (h.got) ?_ ?_ fun l s w hp hs h => ?_
  · intro x hx
    obtain ⟨f, hf, e⟩ := List.mem_map.1 (H.pm.mem_iff.1 hx)
    have := (ok.ok f hf).2
    rw [← e]
    show f.name.length ≤ maxLen
    unfold maxLen; omega
  · rw [H.len]; omega
  have el : l = d.fs.map fKey := H.sorted STO.txt hp (hs.imp fun h => by
    simp only [ltS, decide_eq_false_iff_not]; exact h)
  subst el
  exact hK _ _ (Sat.f1 (diskA_close H ok (h.got)))
theorem kept_spec {k : Int} {many : Nat} (hm : many ≤ 1099511627776) (hK : K (.int .i64 (keptN k many : Nat)) w) : callP G35 [.int .i64 k, .int .i64 (many : Nat)] w K := by
  refine c35 ?_
  unfold F35 F35_1 F35_1b
  have e1 : bRem (.int .i64 k) (.int .i64 ((many : Int) + 1)) = some (.int .i64 (k.tmod ((many : Int) + 1))) := bRem_int _ _ _ (by omega)
  have b1 := Int.tmod_lt_of_pos k (b := (many : Int) + 1) (by omega)
  have b2 := Int.lt_tmod_of_pos k (b := (many : Int) + 1) (by omega)
  have hb : (many : Int) + 1 ≠ 0 := by omega
  have key : (keptN k many : Int) = if k.tmod ((many : Int) + 1) < 0 then k.tmod ((many : Int) + 1) + ((many : Int) + 1) else k.tmod ((many : Int) + 1) := by
    unfold keptN
    rw [Int.toNat_of_nonneg (Int.emod_nonneg _ hb)]
    have e := Int.mul_tdiv_add_tmod k ((many : Int) + 1)
    generalize k.tmod ((many : Int) + 1) = r at b1 b2 e
    generalize k.tdiv ((many : Int) + 1) = q at e
    split
    · have : k = (r + ((many : Int) + 1)) + ((many : Int) + 1) * (q - 1) := by rw [Int.mul_sub]; omega
      rw [this, Int.add_mul_emod_self_left, Int.emod_eq_of_lt (by omega) (by omega)]
    · have : k = r + ((many : Int) + 1) * q := by omega
      rw [this, Int.add_mul_emod_self_left, Int.emod_eq_of_lt (by omega) (by omega)]
  rw [key] at hK
  generalize k.tmod ((many : Int) + 1) = r at b1 b2 e1 hK
  by_cases g : r < 0
  · have g' : decide (r < 0) = true := by simpa using g
    rw [if_pos g] at hK
    (repeat (first
 | (simp (disch := omega) only [evA, evB, evC, bAdd_i64, bSub_i64, g'])
 | (refine go_some (e1 ..) ?_)
 | (with_reducible apply go_ld1 h)
 | ((with_reducible first | apply go_ldA h | apply go_rd h | apply go_rdN h | apply go_rlen h); rfl)
 | (with_reducible first | apply go_ldN h | apply go_lenL h)
 | ((with_reducible apply go_st h); intro _ h)
 | ((with_reducible apply go_stA h); rfl; rfl; (first | rfl | simp [OneV.o]); intro _ h)
 | ((with_reducible apply go_stN h); rfl; (first | rfl | simp [OneV.o]); intro _ h)
 | ((with_reducible apply go_box h); rfl; intro _ _ h)
 | ((with_reducible apply go_ix h); omega)
 | ((with_reducible first | apply go_elN h | apply go_f1 h | apply go_rf1 h | apply go_rel h); (case hi => omega); (try case hx => exact inferInstance); (try case hv => rfl))
 | ((with_reducible apply go_fa h); omega; omega)
))
    unfold F35_2 F35_2b
    exact hK
  · have g' : decide (r < 0) = false := by simpa using g
    rw [if_neg g] at hK
    (repeat (first
 | (simp (disch := omega) only [evA, evB, evC, bAdd_i64, bSub_i64, g'])
 | (refine go_some (e1 ..) ?_)
 | (with_reducible apply go_ld1 h)
 | ((with_reducible first | apply go_ldA h | apply go_rd h | apply go_rdN h | apply go_rlen h); rfl)
 | (with_reducible first | apply go_ldN h | apply go_lenL h)
 | ((with_reducible apply go_st h); intro _ h)
 | ((with_reducible apply go_stA h); rfl; rfl; (first | rfl | simp [OneV.o]); intro _ h)
 | ((with_reducible apply go_stN h); rfl; (first | rfl | simp [OneV.o]); intro _ h)
 | ((with_reducible apply go_box h); rfl; intro _ _ h)
 | ((with_reducible apply go_ix h); omega)
 | ((with_reducible first | apply go_elN h | apply go_f1 h | apply go_rf1 h | apply go_rel h); (case hi => omega); (try case hx => exact inferInstance); (try case hv => rfl))
 | ((with_reducible apply go_fa h); omega; omega)
))
    unfold F35_2 F35_2b
    exact hK
omit w0 w L K v d n x M in
theorem crF_snoc {keep : List Int} {f : Fil} : ∀ {j : Nat} {l : List Fil}, crF keep j (l ++ [f]) = crF keep j l ++ [crFil keep (j + l.length) f]
  | j, [] => rfl
  | j, g :: l => by
    have := crF_snoc (keep := keep) (f := f) (j := j + 1) (l := l)
    simp only [List.cons_append, crF, this, List.length_cons]
    rw [show j + 1 + l.length = j + (l.length + 1) from by omega]
theorem crash_loop {p : Nat} {sv nv m : Value} {keep : List Int} [hrd : RdIn w0 L sv Int cI 1 keep] (hc : d.fs.length ≤ 1073741824) (ok : DOk d) (hK : ∀ w', Sat w0 (DiskA (ptr p) (crashD keep d) :: L) w' → K (.tuple #[]) w') :
    ∀ (k i : Nat) (M : List (List UInt8 × (List UInt8 × Nat))) (w : World), d.fs.length - i < k → i ≤ d.fs.length → KInv ltS fKey fVal M (crF keep 0 (d.fs.take i) ++ d.fs.drop i) →
      Sat w0 (Cl p #[.int .i64 d.room, m, .bool d.stop, .int .i64 d.left] 50 :: MapH kSt fiV m M :: LsH cSt 1 9 nv (d.fs.map (·.name)) :: L) w → F13_2L k (ptr p) sv nv (.int .i64 (d.fs.length : Nat)) (.int .i64 i) w K := by
  intro k
  induction k with
  | zero => intro i M w hd; omega
  | succ k ih =>
    intro i M w hd hi H h
    rw [F13_2L]
    unfold F13_4 F13_4b
    by_cases g : i < d.fs.length
    · have g' : decide ((i : Int) < (d.fs.length : Int)) = true := by simpa using g
      have hil : i < (d.fs.map (·.name)).length := by simpa using g
      (repeat (first
 | (simp (disch := omega) only [evA, evB, evC, bAdd_i64, bSub_i64, g'])
 | (with_reducible apply go_ld1 h)
 | ((with_reducible first | apply go_ldA h | apply go_rd h | apply go_rdN h); rfl)
 | (with_reducible first | apply go_ldN h | apply go_lenR h)
 | ((with_reducible apply go_st h); intro _ h)
 | ((with_reducible apply go_stA h); rfl; rfl; (first | rfl | simp [OneV.o]); intro _ h)
 | ((with_reducible apply go_stN h); rfl; (first | rfl | simp [OneV.o]); intro _ h)
 | ((with_reducible apply go_box h); rfl; intro _ _ h)
 | ((with_reducible apply go_ixR h); omega)
 | ((with_reducible first | apply go_elR h | apply go_f1R h | apply go_rf1R h | apply go_relR h | apply go_e1R h | apply go_re1R h); (case hc => exact inferInstance); (case hi => omega); (try case hx => exact inferInstance); (try case hv => rfl))
 | ((with_reducible apply go_fNR h); (case hc => exact inferInstance); (case hi => omega); (try case hp => exact inferInstance); (try case hv => rfl))
 | ((with_reducible apply go_faR h); (case hc => exact inferInstance); omega; omega)
 | ((with_reducible apply go_rlenR h); rfl)
))
      unfold F13_5 F13_7 F13_7b
      have hnm : (d.fs.map (·.name))[i] = d.fs[i].name := by simp
      have hfo := ok.ok _ (List.getElem_mem g)
      have hfl := usedF_mem (List.getElem_mem g)
      have hu := ok.used
      have hr := ok.room
      have hcl := crLong_le (keep := keep) (i := i) hfo
      have hcur : crF keep 0 (d.fs.take i) ++ d.fs.drop i = crF keep 0 (d.fs.take i) ++ d.fs[i] :: d.fs.drop (i + 1) := by rw [List.drop_eq_getElem_cons g]
      rw [hcur] at H
      obtain ⟨f, hf⟩ : ∃ f, d.fs[i] = f := ⟨_, rfl⟩
      rw [hf] at hnm hfo hfl hcl H
      have hget : aGet f.name M = some (f.s, f.safe) := by
        rw [show aGet f.name M = _ from H.get STO.txt f.name, show kGet fKey f.name _ = some f from kGet_of STO.txt H.asc (by simp)]
        rfl
      (repeat (first
 | (simp (disch := omega) only [evA, evB, evC, bAdd_i64, bSub_i64, hnm])
 | (with_reducible apply go_ld1 h)
 | ((with_reducible first | apply go_ldA h | apply go_rd h | apply go_rdN h); rfl)
 | (with_reducible first | apply go_ldN h | apply go_lenR h)
 | ((with_reducible apply go_st h); intro _ h)
 | ((with_reducible apply go_stA h); rfl; rfl; (first | rfl | simp [OneV.o]); intro _ h)
 | ((with_reducible apply go_stN h); rfl; (first | rfl | simp [OneV.o]); intro _ h)
 | ((with_reducible apply go_box h); rfl; intro _ _ h)
 | ((with_reducible apply go_ixR h); omega)
 | ((with_reducible first | apply go_elR h | apply go_f1R h | apply go_rf1R h | apply go_relR h | apply go_e1R h | apply go_re1R h); (case hc => exact inferInstance); (case hi => omega); (try case hx => exact inferInstance); (try case hv => rfl))
 | ((with_reducible apply go_fNR h); (case hc => exact inferInstance); (case hi => omega); (try case hp => exact inferInstance); (try case hv => rfl))
 | ((with_reducible apply go_faR h); (case hc => exact inferInstance); omega; omega)
 | ((with_reducible apply go_rlenR h); rfl)
))
      refine go_look1 h (by repeat (first | exact .here | apply Fnt.there)) KST um48 zFi f.name ?_
      rw [hget]
      simp only [Option.elim_some]
      refine go_alloc h zFi rfl fun q _ h => ?_
      have fin : ∀ (lg : Nat) (w : World), lg = crLong keep i f → Sat w0 (Cl q (cFi (f.s, f.safe)).toArray 58 :: Cl p #[.int .i64 d.room, m, .bool d.stop, .int .i64 d.left] 50 :: MapH kSt fiV m M :: LsH cSt 1 9 nv (d.fs.map (·.name)) :: L) w →
          F13_8 (ptr p) sv (.string (bs f.name)) (ptr q) (.int .i64 (lg : Nat)) nv (.int .i64 (d.fs.length : Nat)) (.int .i64 (i : Nat)) w K (fun a0 a1 a9 a10 a11 w => F13_2L k a0 a1 a9 a10 a11 w K) := by
        intro lg w elg h
        subst elg
        unfold F13_8 F13_8b
        (repeat (first
 | (simp (disch := omega) only [evA, evB, evC, bAdd_i64, bSub_i64])
 | (with_reducible apply go_ld1 h)
 | ((with_reducible first | apply go_ldA h | apply go_rd h | apply go_rdN h); rfl)
 | (with_reducible first | apply go_ldN h | apply go_lenR h)
 | ((with_reducible apply go_st h); intro _ h)
 | ((with_reducible apply go_stA h); rfl; rfl; (first | rfl | simp [OneV.o]); intro _ h)
 | ((with_reducible apply go_stN h); rfl; (first | rfl | simp [OneV.o]); intro _ h)
 | ((with_reducible apply go_box h); rfl; intro _ _ h)
 | ((with_reducible apply go_ixR h); omega)
 | ((with_reducible first | apply go_elR h | apply go_f1R h | apply go_rf1R h | apply go_relR h | apply go_e1R h | apply go_re1R h); (case hc => exact inferInstance); (case hi => omega); (try case hx => exact inferInstance); (try case hv => rfl))
 | ((with_reducible apply go_fNR h); (case hc => exact inferInstance); (case hi => omega); (try case hp => exact inferInstance); (try case hv => rfl))
 | ((with_reducible apply go_faR h); (case hc => exact inferInstance); omega; omega)
 | ((with_reducible apply go_rlenR h); rfl)
))
        refine go_some (sub_to (l := f.s) (i := crLong keep i f) hcl.2) ?_
        refine go_some (fbFi _ _) ?_
        refine eMapSet_sat (h.drew.frt (A := MapH kSt fiV m M)) KST um48 f.name (f.s.take (crLong keep i f), crLong keep i f) fun w h => ?_
        unfold F13_6 F13_6b
        (repeat (first
 | (simp (disch := omega) only [evA, evB, evC, bAdd_i64, bSub_i64])
 | (with_reducible apply go_ld1 h)
 | ((with_reducible first | apply go_ldA h | apply go_rd h | apply go_rdN h | apply go_rlen h); rfl)
 | (with_reducible first | apply go_ldN h | apply go_lenL h)
 | ((with_reducible apply go_st h); intro _ h)
 | ((with_reducible apply go_stA h); rfl; rfl; (first | rfl | simp [OneV.o]); intro _ h)
 | ((with_reducible apply go_stN h); rfl; (first | rfl | simp [OneV.o]); intro _ h)
 | ((with_reducible apply go_box h); rfl; intro _ _ h)
 | ((with_reducible apply go_ix h); omega)
 | ((with_reducible first | apply go_elN h | apply go_f1 h | apply go_rf1 h | apply go_rel h); (case hi => omega); (try case hx => exact inferInstance); (try case hv => rfl))
 | ((with_reducible apply go_fa h); omega; omega)
))
        refine ih (i + 1) _ w (by omega) (by omega) ?_ (h.got)
        have h1 := H.put STO.txt (crFil keep i f)
        have hsp := H.asc.ne STO.txt
        rw [List.pairwise_append, List.pairwise_cons] at hsp
        have e2 : kPut ltS fKey (crFil keep i f) (crF keep 0 (d.fs.take i) ++ f :: d.fs.drop (i + 1)) = crF keep 0 (d.fs.take i) ++ crFil keep i f :: d.fs.drop (i + 1) := by
          rw [kPut_rep STO.txt H.asc (x := crFil keep i f) (b := f) (by simp) rfl]
          exact kRep_split (b := f) rfl (fun d hd => hsp.2.2 d hd f (by simp)) (fun d hd e => hsp.2.1.1 d hd e.symm)
        rw [e2] at h1
        have e3 : crF keep 0 (d.fs.take (i + 1)) ++ d.fs.drop (i + 1) = crF keep 0 (d.fs.take i) ++ crFil keep i f :: d.fs.drop (i + 1) := by
          rw [List.take_succ_eq_append_getElem g, crF_snoc, hf, List.length_take, Nat.zero_add, Nat.min_eq_left hi, List.append_assoc]
          rfl
        rw [e3]; exact h1
      by_cases g2 : i < keep.length
      · have g2' : decide ((i : Int) < (keep.length : Int)) = true := by simpa using g2
        have esub : ((f.s.length : Nat) : Int) - ((f.safe : Nat) : Int) = ((f.s.length - f.safe : Nat) : Int) := by have := hfo.1; omega
        (repeat (first
 | (simp (disch := omega) only [evA, evB, evC, bAdd_i64, bSub_i64, g2', esub])
 | (with_reducible apply go_ld1 h)
 | ((with_reducible first | apply go_ldA h | apply go_rd h | apply go_rdN h); rfl)
 | (with_reducible first | apply go_ldN h | apply go_lenR h)
 | ((with_reducible apply go_st h); intro _ h)
 | ((with_reducible apply go_stA h); rfl; rfl; (first | rfl | simp [OneV.o]); intro _ h)
 | ((with_reducible apply go_stN h); rfl; (first | rfl | simp [OneV.o]); intro _ h)
 | ((with_reducible apply go_box h); rfl; intro _ _ h)
 | ((with_reducible apply go_ixR h); omega)
 | ((with_reducible first | apply go_elR h | apply go_f1R h | apply go_rf1R h | apply go_relR h | apply go_e1R h | apply go_re1R h); (case hc => exact inferInstance); (case hi => omega); (try case hx => exact inferInstance); (try case hv => rfl))
 | ((with_reducible apply go_fNR h); (case hc => exact inferInstance); (case hi => omega); (try case hp => exact inferInstance); (try case hv => rfl))
 | ((with_reducible apply go_faR h); (case hc => exact inferInstance); omega; omega)
 | ((with_reducible apply go_rlenR h); rfl)
))
        refine kept_spec (k := keep[i]) (many := f.s.length - f.safe) (by omega) ?_
        have hkl := keptN_le keep[i] (f.s.length - f.safe)
        have eadd : ((f.safe : Nat) : Int) + ((keptN keep[i] (f.s.length - f.safe) : Nat) : Int) = ((f.safe + keptN keep[i] (f.s.length - f.safe) : Nat) : Int) := by omega
        (repeat (first
 | (simp (disch := omega) only [evA, evB, evC, bAdd_i64, bSub_i64, eadd])
 | (with_reducible apply go_ld1 h)
 | ((with_reducible first | apply go_ldA h | apply go_rd h | apply go_rdN h); rfl)
 | (with_reducible first | apply go_ldN h | apply go_lenR h)
 | ((with_reducible apply go_st h); intro _ h)
 | ((with_reducible apply go_stA h); rfl; rfl; (first | rfl | simp [OneV.o]); intro _ h)
 | ((with_reducible apply go_stN h); rfl; (first | rfl | simp [OneV.o]); intro _ h)
 | ((with_reducible apply go_box h); rfl; intro _ _ h)
 | ((with_reducible apply go_ixR h); omega)
 | ((with_reducible first | apply go_elR h | apply go_f1R h | apply go_rf1R h | apply go_relR h | apply go_e1R h | apply go_re1R h); (case hc => exact inferInstance); (case hi => omega); (try case hx => exact inferInstance); (try case hv => rfl))
 | ((with_reducible apply go_fNR h); (case hc => exact inferInstance); (case hi => omega); (try case hp => exact inferInstance); (try case hv => rfl))
 | ((with_reducible apply go_faR h); (case hc => exact inferInstance); omega; omega)
 | ((with_reducible apply go_rlenR h); rfl)
))
        refine fin _ _ ?_ (h.drew.got)
        unfold crLong
        rw [List.getElem?_eq_getElem g2]
      · have g2' : decide ((i : Int) < (keep.length : Int)) = false := by simpa using g2
        (repeat (first
 | (simp (disch := omega) only [evA, evB, evC, bAdd_i64, bSub_i64, g2'])
 | (with_reducible apply go_ld1 h)
 | ((with_reducible first | apply go_ldA h | apply go_rd h | apply go_rdN h); rfl)
 | (with_reducible first | apply go_ldN h | apply go_lenR h)
 | ((with_reducible apply go_st h); intro _ h)
 | ((with_reducible apply go_stA h); rfl; rfl; (first | rfl | simp [OneV.o]); intro _ h)
 | ((with_reducible apply go_stN h); rfl; (first | rfl | simp [OneV.o]); intro _ h)
 | ((with_reducible apply go_box h); rfl; intro _ _ h)
 | ((with_reducible apply go_ixR h); omega)
 | ((with_reducible first | apply go_elR h | apply go_f1R h | apply go_rf1R h | apply go_relR h | apply go_e1R h | apply go_re1R h); (case hc => exact inferInstance); (case hi => omega); (try case hx => exact inferInstance); (try case hv => rfl))
 | ((with_reducible apply go_fNR h); (case hc => exact inferInstance); (case hi => omega); (try case hp => exact inferInstance); (try case hv => rfl))
 | ((with_reducible apply go_faR h); (case hc => exact inferInstance); omega; omega)
 | ((with_reducible apply go_rlenR h); rfl)
))
        refine fin _ _ ?_ (h.got)
        unfold crLong
        rw [List.getElem?_eq_none (by omega)]
    · have g' : decide ((i : Int) < (d.fs.length : Int)) = false := by simpa using g
      have e : i = d.fs.length := by omega
      subst e
      rw [List.take_length, List.drop_length, List.append_nil] at H
      (repeat (first
 | (simp (disch := omega) only [evA, evB, evC, bAdd_i64, bSub_i64, g'])
 | (with_reducible apply go_ld1 h)
 | ((with_reducible first | apply go_ldA h | apply go_rd h | apply go_rdN h | apply go_rlen h); rfl)
 | (with_reducible first | apply go_ldN h | apply go_lenL h)
 | ((with_reducible apply go_st h); intro _ h)
 | ((with_reducible apply go_stA h); rfl; rfl; (first | rfl | simp [OneV.o]); intro _ h)
 | ((with_reducible apply go_stN h); rfl; (first | rfl | simp [OneV.o]); intro _ h)
 | ((with_reducible apply go_box h); rfl; intro _ _ h)
 | ((with_reducible apply go_ix h); omega)
 | ((with_reducible first | apply go_elN h | apply go_f1 h | apply go_rf1 h | apply go_rel h); (case hi => omega); (try case hx => exact inferInstance); (try case hv => rfl))
 | ((with_reducible apply go_fa h); omega; omega)
))
      unfold F13_3 F13_3b
      (repeat (first
 | (simp (disch := omega) only [evA, evB, evC, bAdd_i64, bSub_i64])
 | (with_reducible apply go_ld1 h)
 | ((with_reducible first | apply go_ldA h | apply go_rd h | apply go_rdN h | apply go_rlen h); rfl)
 | (with_reducible first | apply go_ldN h | apply go_lenL h)
 | ((with_reducible apply go_st h); intro _ h)
 | ((with_reducible apply go_stA h); rfl; rfl; (first | rfl | simp [OneV.o]); intro _ h)
 | ((with_reducible apply go_stN h); rfl; (first | rfl | simp [OneV.o]); intro _ h)
 | ((with_reducible apply go_box h); rfl; intro _ _ h)
 | ((with_reducible apply go_ix h); omega)
 | ((with_reducible first | apply go_elN h | apply go_f1 h | apply go_rf1 h | apply go_rel h); (case hi => omega); (try case hx => exact inferInstance); (try case hv => rfl))
 | ((with_reducible apply go_fa h); omega; omega)
))
      exact hK _ (diskA_close (d := crashD keep d) H (crashD_ok ok keep) (h.got))
theorem dcrash_spec {sv : Value} {keep : List Int} [hrd : RdIn w0 L sv Int cI 1 keep] (hc : d.fs.length ≤ 1073741824) (h : Sat w0 (DiskA v d :: L) w) (hK : ∀ w', Sat w0 (DiskA v (crashD keep d) :: L) w' → K (.tuple #[]) w') : callP G13 [v, sv] w K := by
  refine c13 ?_
  unfold F13 F13_1 F13_1b
  refine dnames_spec hc h fun nv w h => ?_
  replace h := h.frt (A := DiskA v d)
  obtain ⟨p, m, M, rfl, H, ok, h2⟩ := diskA_open h
  clear h
  have h := h2
  clear h2
  (repeat (first
 | (simp (disch := omega) only [evA, evB, evC, bAdd_i64, bSub_i64])
 | (with_reducible apply go_ld1 h)
 | ((with_reducible first | apply go_ldA h | apply go_rd h | apply go_rdN h | apply go_rlen h); rfl)
 | (with_reducible first | apply go_ldN h | apply go_lenL h)
 | ((with_reducible apply go_st h); intro _ h)
 | ((with_reducible apply go_stA h); rfl; rfl; (first | rfl | simp [OneV.o]); intro _ h)
 | ((with_reducible apply go_stN h); rfl; (first | rfl | simp [OneV.o]); intro _ h)
 | ((with_reducible apply go_box h); rfl; intro _ _ h)
 | ((with_reducible apply go_ix h); omega)
 | ((with_reducible first | apply go_elN h | apply go_f1 h | apply go_rf1 h | apply go_rel h); (case hi => omega); (try case hx => exact inferInstance); (try case hv => rfl))
 | ((with_reducible apply go_fa h); omega; omega)
))
  rw [List.length_map]
  unfold F13_2
  exact crash_loop (keep := keep) hc ok hK fuel 0 M _ (by unfold fuel; omega) (by omega) (by simpa [crF] using H) (h.got)
end
end Go.Proofs.Gong

/- Jn0 -/
namespace Go.Proofs.Gong
open Go Go.Sx Go.Proofs
set_option maxRecDepth 100000
def halfT : List Nat := [0x00000000, 0x1DB71064, 0x3B6E20C8, 0x26D930AC, 0x76DC4190, 0x6B6B51F4, 0x4DB26158, 0x5005713C, 0xEDB88320, 0xF00F9344, 0xD6D6A3E8, 0xCB61B38C, 0x9B64C2B0, 0x86D3D2D4, 0xA00AE278, 0xBDBDF21C]
def halfN (i : Nat) : Nat := halfT[i]?.getD 0
def crc4 (c : Nat) : Nat := (c / 16) ^^^ halfN (c % 16)
def crcB (c : Nat) (b : UInt8) : Nat := crc4 (crc4 (c ^^^ b.toNat))
def behindN (c : Nat) (s : List UInt8) : Nat := s.foldl crcB c
def sumN (s : List UInt8) : Nat := 4294967295 - behindN 4294967295 s
def loL : Nat → Nat → List UInt8
  | 0, _ => []
  | k + 1, n => UInt8.ofNat (n % 256) :: loL k (n / 256)
def tagL (s : List UInt8) : List UInt8 := s ++ loL 4 (sumN s)
def openL (s : List UInt8) : Option (List UInt8) := if s.length < 4 then none else if tagL (s.take (s.length - 4)) = s then some (s.take (s.length - 4)) else none
theorem loL_len : ∀ (k n : Nat), (loL k n).length = k
  | 0, _ => rfl
  | k + 1, n => by simp [loL, loL_len k]
theorem tagL_len (s : List UInt8) : (tagL s).length = s.length + 4 := by simp [tagL, loL_len]
theorem openL_tag (s : List UInt8) : openL (tagL s) = some s := by
  have e : (tagL s).take ((tagL s).length - 4) = s := by rw [tagL_len]; simp [tagL]
  unfold openL
  rw [e, if_neg (by rw [tagL_len]; omega), if_pos rfl]
def recL (p : List UInt8) : List UInt8 := tagL (txtL p)
def nextL (s : List UInt8) : Option (List UInt8 × List UInt8) :=
  let r1 := rText 65536 (0, s)
  let r2 := rBytes 4 r1.2
  if r2.2.1 ≠ 0 then none else if (openL (s.take (s.length - r2.2.2.length))).isSome = true then some (r1.1, s.drop (s.length - r2.2.2.length)) else none
theorem recL_len (p : List UInt8) : (recL p).length = (txtL p).length + 4 := tagL_len _
theorem txtL_len {p : List UInt8} (h : p.length ≤ 65536) : p.length + 1 ≤ (txtL p).length ∧ (txtL p).length ≤ p.length + 3 := by
  have h1 : 1 ≤ (grp p.length).length := by
    have := grp_ne p.length
    cases hg : grp p.length with
    | nil => exact absurd hg this
    | cons _ _ => simp
  have h2 : (grp p.length).length ≤ 3 := by
    have h3 := hiG_len 2 (p.length / 128) (by omega)
    simp [grp]; omega
  simp [txtL]; omega
theorem nextL_rec {p t : List UInt8} (h : p.length ≤ 65536) : nextL (recL p ++ t) = some (p, t) := by
  have e1 : rText 65536 (0, recL p ++ t) = (p, (0, loL 4 (sumN (txtL p)) ++ t)) := by
    unfold recL tagL
    rw [List.append_assoc]
    exact rText_enc (by omega) (by omega) _
  have e2 : rBytes 4 (0, loL 4 (sumN (txtL p)) ++ t) = (loL 4 (sumN (txtL p)), (0, t)) := by
    unfold rBytes
    rw [if_neg (by simp), if_neg (by omega), if_neg (by simp [loL_len]; omega)]
    simp only [show (4 : Int).toNat = 4 from rfl]
    rw [List.take_append_of_le_length (by simp [loL_len]), List.drop_append_of_le_length (by simp [loL_len])]
    rw [List.take_of_length_le (by simp [loL_len]), List.drop_of_length_le (by simp [loL_len])]
    rfl
  unfold nextL
  simp only [e1, e2]
  rw [if_neg (by simp)]
  have e3 : (recL p ++ t).length - t.length = (recL p).length := by simp
  rw [e3, List.take_append_of_le_length (by simp), List.take_of_length_le (by simp), List.drop_append_of_le_length (by simp), List.drop_of_length_le (by simp)]
  rw [show openL (recL p) = some (txtL p) from openL_tag _]
  simp
def scanL : Nat → List UInt8 → List (List UInt8) × Nat
  | 0, _ => ([], 0)
  | k + 1, s => if s = [] then ([], 0) else match nextL s with
    | none => ([], 0)
    | some (p, t) => (p :: (scanL k t).1, s.length - t.length + (scanL k t).2)
theorem scanL_recs : ∀ {l : List (List UInt8)} {k : Nat}, (∀ p ∈ l, p.length ≤ 65536) → (l.flatMap recL).length < k → scanL k (l.flatMap recL) = (l, (l.flatMap recL).length)
  | [], k, _, hk => by
    obtain ⟨k, rfl⟩ : ∃ j, k = j + 1 := ⟨k - 1, by omega⟩
    simp [scanL]
  | p :: l, k, h, hk => by
    obtain ⟨k, rfl⟩ : ∃ j, k = j + 1 := ⟨k - 1, by omega⟩
    have hp := h p (by simp)
    have hl := txtL_len hp
    have hr := recL_len p
    rw [List.flatMap_cons] at hk ⊢
    rw [List.length_append] at hk
    have ih := scanL_recs (l := l) (k := k) (fun x hx => h x (List.mem_cons_of_mem _ hx)) (by omega)
    unfold scanL
    rw [if_neg (by intro e; have := congrArg List.length e; rw [List.length_append, List.length_nil] at this; omega), nextL_rec hp]
    simp only [ih]
    simp
end Go.Proofs.Gong

/- Crc -/
namespace Go.Proofs.Gong
open Go Go.Sx Go.Proofs
set_option linter.all false
set_option maxRecDepth 100000
variable {kn kr : ET} {ke : JT}
def T95 : List (Nat × FnT) := []
def F95_3b (s0 : Value) (w : World) (K : V1) : Prop :=
K s0 w
def F95_3 (s0 : Value) (w : World) (K : V1) : Prop := F95_3b s0 w K
theorem ok95_3 {K : V1}
    (hn : HN (fun e w => K (e 4) w) kn) (hr : HR Tryz.prog [.tmp 4] K kr) (he : HE noE ke) :
    ∀ e w, F95_3 (e 0) w K → denL Tryz.prog (tabOf T95) 33 fuel ((flat (bodyOf Tryz.f95)).drop 3) e w kn kr ke := by
  intro e w h
  unfold F95_3 at h
  have e1 : ∀ (_ : Unit), F95_3b (e 0) w K = denL Tryz.prog (tabOf T95) 33 fuel ((flat (bodyOf Tryz.f95)).drop 3) e w (fun e w => K (e 4) w) (endD Tryz.prog [.tmp 4] K) noE := by intro _; kernel_rfl
  exact seg_end (Eq.mp (e1 ()) h) hn hr he
def F95_2b (s0 s1 s7 s8 : Value) (w : World) (_K : V1) (Y0 : V4) (Y1 : V1) : Prop :=
bindP (bLt s8 s7) fun v1 =>
ifB v1 (
bindP (pIndexS s1 s8) fun v2 =>
bindP (cInt .u32 v2) fun v3 =>
bindP (bBit .xor s0 v3) fun v4 =>
bindP (bShr v4 (.int .u64 4)) fun v5 =>
bindP (bBit .and v4 (.int .u32 15)) fun v6 =>
bindP (pIndexP 16 1 (.pointer (some ⟨0, 0, none⟩)) v6) fun v7 =>
bindP (ld1 v7 w) fun v8 =>
bindP (bBit .xor v5 v8) fun v9 =>
bindP (bShr v9 (.int .u64 4)) fun v10 =>
bindP (bBit .and v9 (.int .u32 15)) fun v11 =>
bindP (pIndexP 16 1 (.pointer (some ⟨0, 0, none⟩)) v11) fun v12 =>
bindP (ld1 v12 w) fun v13 =>
bindP (bBit .xor v10 v13) fun v14 =>
bindP (bAdd s8 (.int .i64 1)) fun v15 =>
Y0 v14 s1 s7 v15 w) (
Y1 s0 w)
def F95_2L : Nat → Value → Value → Value → Value → World → (V1) → Prop
  | 0, _, _, _, _, _, _ => False
  | n + 1, s0, s1, s7, s8, w, K => F95_2b s0 s1 s7 s8 w K (fun a0 a1 a7 a8 w => F95_2L n a0 a1 a7 a8 w K) (fun a0 w => F95_3 a0 w K)
def F95_2 (s0 s1 s7 s8 : Value) (w : World) (K : V1) : Prop := F95_2L fuel s0 s1 s7 s8 w K
theorem ok95_2 {K : V1}
    (hn : HN (fun e w => K (e 4) w) kn) (hr : HR Tryz.prog [.tmp 4] K kr) (he : HE noE ke) :
    ∀ e w, F95_2 (e 0) (e 1) (e 7) (e 8) w K → denL Tryz.prog (tabOf T95) 33 fuel ((flat (bodyOf Tryz.f95)).drop 2) e w kn kr ke := by
  intro e w h
  unfold F95_2 at h
  refine seg_loop (id := 0) (body := (loopB (blkB (nthC (flat (bodyOf Tryz.f95)) 2)))) (l2 := (flat (bodyOf Tryz.f95)).drop 3) (by kernel_rfl) ?_
  refine loop_ok (FL := fun m e w => F95_2L m (e 0) (e 1) (e 7) (e 8) w K) (fr := endD Tryz.prog [.tmp 4] K) (fe := (blkK 0 (fun e w => F95_3 (e 0) w K) noE)) (fun _ _ h => h) ?_ hr (blkK_mono (fun e w h => ok95_3 hn hr he e w h) he) fuel e w h
  intro m e w h
  have h : F95_2L (m + 1) (e 0) (e 1) (e 7) (e 8) w K := h
  rw [F95_2L] at h
  have e1 : ∀ (Y0 : V4) (Y1 : V1), F95_2b (e 0) (e 1) (e 7) (e 8) w K Y0 Y1 = denL Tryz.prog (tabOf T95) 33 fuel (flat (loopB (blkB (nthC (flat (bodyOf Tryz.f95)) 2)))) e w (fun e w => Y0 (e 0) (e 1) (e 7) (e 8) w) (endD Tryz.prog [.tmp 4] K) (blkK 0 (fun e w => Y1 (e 0) w) noE) := by intro Y0 Y1; kernel_rfl
  exact Eq.mp (e1 (fun a0 a1 a7 a8 w => F95_2L m a0 a1 a7 a8 w K) (fun a0 w => F95_3 a0 w K)) h
def F95_1b (s0 s1 : Value) (w : World) (_K : V1) (Y0 : V4) : Prop :=
bindP (lenS s1) fun v16 =>
Y0 s0 s1 v16 (.int .i64 0) w
def F95_1 (s0 s1 : Value) (w : World) (K : V1) : Prop := F95_1b s0 s1 w K (fun a0 a1 a7 a8 w => F95_2 a0 a1 a7 a8 w K)
theorem ok95_1 {K : V1}
    (hn : HN (fun e w => K (e 4) w) kn) (hr : HR Tryz.prog [.tmp 4] K kr) (he : HE noE ke) :
    ∀ e w, F95_1 (e 0) (e 1) w K → denL Tryz.prog (tabOf T95) 33 fuel ((flat (bodyOf Tryz.f95)).drop 0) e w kn kr ke := by
  intro e w h
  unfold F95_1 at h
  have e1 : ∀ (Y0 : V4), F95_1b (e 0) (e 1) w K Y0 = denL Tryz.prog (tabOf T95) 33 fuel (((flat (bodyOf Tryz.f95)).drop 0).take 2) e w (fun e w => Y0 (e 0) (e 1) (e 7) (e 8) w) (endD Tryz.prog [.tmp 4] K) noE := by intro Y0; kernel_rfl
  exact seg 2 (Eq.mp (e1 (fun a0 a1 a7 a8 w => F95_2 a0 a1 a7 a8 w K)) h) (fun e w h => ok95_2 hn hr he e w h) hr he
def F95 (x0 x1 : Value) (w : World) (K : V1) : Prop := F95_1 x0 x1 w K
def G95 : FnT := fun args w K => on2 (fun x0 x1 => F95 x0 x1 w K) args
theorem c95 {x0 x1 : Value} {w : World} {K : V1} (h : F95 x0 x1 w K) : callP G95 [x0, x1] w K := callP_intro (on2_mk (p := fun x0 x1 => F95 x0 x1 w K) h)
theorem ok95 : OkF Tryz.prog 95 G95 := by
  refine okF_of (tab_ok (l := T95) trivial) mixed (n := fuel) Tryz.func95 Tryz.call95 fun args w K h => ?_
  obtain ⟨x0, x1, rfl, hh⟩ := of_on2 h
  unfold F95 at hh
  exact fnD_list (c := bodyOf Tryz.f95) (by kernel_rfl) (by kernel_rfl) (ok95_1 (fun _ _ h => h) (fun _ _ h => h) (fun _ _ _ h => h) (initE [x0, x1]) w hh)
def T75 : List (Nat × FnT) := [(95, G95)]
def F75 (x0 : Value) (w : World) (K : V1) : Prop :=
callP G95 [(.int .u32 4294967295), x0] w fun v2 w1 =>
bindP (uXor v2) fun v3 =>
bindP (cInt .i64 v3) fun v4 =>
K v4 w1
def G75 : FnT := fun args w K => on1 (fun x0 => F75 x0 w K) args
theorem c75 {x0 : Value} {w : World} {K : V1} (h : F75 x0 w K) : callP G75 [x0] w K := callP_intro (on1_mk (p := fun x0 => F75 x0 w K) h)
theorem ok75 : OkF Tryz.prog 75 G75 := by
  refine okF_of (tab_ok (l := T75) ⟨ok95, trivial⟩) mixed (n := fuel) Tryz.func75 Tryz.call75 fun args w K h => ?_
  obtain ⟨x0, rfl, hh⟩ := of_on1 h
  exact fnD_list (c := bodyOf Tryz.f75) (by kernel_rfl) (by kernel_rfl) (Eq.mp (by kernel_rfl) hh)
def T49 : List (Nat × FnT) := [(75, G75)]
def F49_3b (s3 : Value) (w : World) (K : V1) : Prop :=
bindP (cBytes s3 w) fun v1 =>
K v1 w
def F49_3 (s3 : Value) (w : World) (K : V1) : Prop := F49_3b s3 w K
theorem ok49_3 {K : V1}
    (hn : HN (fun e w => K (e 2) w) kn) (hr : HR Tryz.prog [.tmp 2] K kr) (he : HE noE ke) :
    ∀ e w, F49_3 (e 3) w K → denL Tryz.prog (tabOf T49) 24 fuel ((flat (bodyOf Tryz.f49)).drop 4) e w kn kr ke := by
  intro e w h
  unfold F49_3 at h
  have e1 : ∀ (_ : Unit), F49_3b (e 3) w K = denL Tryz.prog (tabOf T49) 24 fuel ((flat (bodyOf Tryz.f49)).drop 4) e w (fun e w => K (e 2) w) (endD Tryz.prog [.tmp 2] K) noE := by intro _; kernel_rfl
  exact seg_end (Eq.mp (e1 ()) h) hn hr he
def F49_2b (s0 s3 s4 : Value) (w : World) (_K : V1) (Y0 : V3) (Y1 : V1) : Prop :=
bindP (lenL s3) fun v2 =>
bindP (lenS s0) fun v3 =>
bindP (bAdd v3 (.int .i64 4)) fun v4 =>
bindP (bLt v2 v4) fun v5 =>
ifB v5 (
bindP (cInt .u8 s4) fun v6 =>
eBuildSl Tryz.prog 86 1 [(0, v6)] w fun v8 w7 =>
eAppend Tryz.prog 86 86 s3 v8 w7 fun v10 w9 =>
bindP (bShr s4 (.int .u64 8)) fun v11 =>
Y0 s0 v10 v11 w9) (
Y1 s3 w)
def F49_2L : Nat → Value → Value → Value → World → (V1) → Prop
  | 0, _, _, _, _, _ => False
  | n + 1, s0, s3, s4, w, K => F49_2b s0 s3 s4 w K (fun a0 a3 a4 w => F49_2L n a0 a3 a4 w K) (fun a3 w => F49_3 a3 w K)
def F49_2 (s0 s3 s4 : Value) (w : World) (K : V1) : Prop := F49_2L fuel s0 s3 s4 w K
theorem ok49_2 {K : V1}
    (hn : HN (fun e w => K (e 2) w) kn) (hr : HR Tryz.prog [.tmp 2] K kr) (he : HE noE ke) :
    ∀ e w, F49_2 (e 0) (e 3) (e 4) w K → denL Tryz.prog (tabOf T49) 24 fuel ((flat (bodyOf Tryz.f49)).drop 3) e w kn kr ke := by
  intro e w h
  unfold F49_2 at h
  refine seg_loop (id := 0) (body := (loopB (blkB (nthC (flat (bodyOf Tryz.f49)) 3)))) (l2 := (flat (bodyOf Tryz.f49)).drop 4) (by kernel_rfl) ?_
  refine loop_ok (FL := fun m e w => F49_2L m (e 0) (e 3) (e 4) w K) (fr := endD Tryz.prog [.tmp 2] K) (fe := (blkK 0 (fun e w => F49_3 (e 3) w K) noE)) (fun _ _ h => h) ?_ hr (blkK_mono (fun e w h => ok49_3 hn hr he e w h) he) fuel e w h
  intro m e w h
  have h : F49_2L (m + 1) (e 0) (e 3) (e 4) w K := h
  rw [F49_2L] at h
  have e1 : ∀ (Y0 : V3) (Y1 : V1), F49_2b (e 0) (e 3) (e 4) w K Y0 Y1 = denL Tryz.prog (tabOf T49) 24 fuel (flat (loopB (blkB (nthC (flat (bodyOf Tryz.f49)) 3)))) e w (fun e w => Y0 (e 0) (e 3) (e 4) w) (endD Tryz.prog [.tmp 2] K) (blkK 0 (fun e w => Y1 (e 3) w) noE) := by intro Y0 Y1; kernel_rfl
  exact Eq.mp (e1 (fun a0 a3 a4 w => F49_2L m a0 a3 a4 w K) (fun a3 w => F49_3 a3 w K)) h
def F49_1b (s0 : Value) (w : World) (_K : V1) (Y0 : V3) : Prop :=
eToBytes Tryz.prog 9 86 s0 w fun v13 w12 =>
callP G75 [s0] w12 fun v15 w14 =>
Y0 s0 v13 v15 w14
def F49_1 (s0 : Value) (w : World) (K : V1) : Prop := F49_1b s0 w K (fun a0 a3 a4 w => F49_2 a0 a3 a4 w K)
theorem ok49_1 {K : V1}
    (hn : HN (fun e w => K (e 2) w) kn) (hr : HR Tryz.prog [.tmp 2] K kr) (he : HE noE ke) :
    ∀ e w, F49_1 (e 0) w K → denL Tryz.prog (tabOf T49) 24 fuel ((flat (bodyOf Tryz.f49)).drop 0) e w kn kr ke := by
  intro e w h
  unfold F49_1 at h
  have e1 : ∀ (Y0 : V3), F49_1b (e 0) w K Y0 = denL Tryz.prog (tabOf T49) 24 fuel (((flat (bodyOf Tryz.f49)).drop 0).take 3) e w (fun e w => Y0 (e 0) (e 3) (e 4) w) (endD Tryz.prog [.tmp 2] K) noE := by intro Y0; kernel_rfl
  exact seg 3 (Eq.mp (e1 (fun a0 a3 a4 w => F49_2 a0 a3 a4 w K)) h) (fun e w h => ok49_2 hn hr he e w h) hr he
def F49 (x0 : Value) (w : World) (K : V1) : Prop := F49_1 x0 w K
def G49 : FnT := fun args w K => on1 (fun x0 => F49 x0 w K) args
theorem c49 {x0 : Value} {w : World} {K : V1} (h : F49 x0 w K) : callP G49 [x0] w K := callP_intro (on1_mk (p := fun x0 => F49 x0 w K) h)
theorem ok49 : OkF Tryz.prog 49 G49 := by
  refine okF_of (tab_ok (l := T49) ⟨ok75, trivial⟩) mixed (n := fuel) Tryz.func49 Tryz.call49 fun args w K h => ?_
  obtain ⟨x0, rfl, hh⟩ := of_on1 h
  unfold F49 at hh
  exact fnD_list (c := bodyOf Tryz.f49) (by kernel_rfl) (by kernel_rfl) (ok49_1 (fun _ _ h => h) (fun _ _ h => h) (fun _ _ _ h => h) (initE [x0]) w hh)
def T67 : List (Nat × FnT) := [(49, G49)]
def F67 (x0 : Value) (w : World) (K : V1) : Prop :=
bindP (lenS x0) fun v1 =>
bindP (bLt v1 (.int .i64 4)) fun v2 =>
ifB v2 (
K (.tuple #[(.string ⟨#[]⟩), (.bool false)]) w) (
bindP (lenS x0) fun v3 =>
bindP (bSub v3 (.int .i64 4)) fun v4 =>
bindP (pSliceS x0 none (some v4)) fun v5 =>
callP G49 [v5] w fun v7 w6 =>
bindP (bNe Tryz.prog 9 (.tmp 14) (.tmp 15) v7 x0) fun v8 =>
ifB v8 (
K (.tuple #[(.string ⟨#[]⟩), (.bool false)]) w6) (
K (.tuple #[v5, (.bool true)]) w6))
def G67 : FnT := fun args w K => on1 (fun x0 => F67 x0 w K) args
theorem c67 {x0 : Value} {w : World} {K : V1} (h : F67 x0 w K) : callP G67 [x0] w K := callP_intro (on1_mk (p := fun x0 => F67 x0 w K) h)
theorem ok67 : OkF Tryz.prog 67 G67 := by
  refine okF_of (tab_ok (l := T67) ⟨ok49, trivial⟩) mixed (n := fuel) Tryz.func67 Tryz.call67 fun args w K h => ?_
  obtain ⟨x0, rfl, hh⟩ := of_on1 h
  exact fnD_list (c := bodyOf Tryz.f67) (by kernel_rfl) (by kernel_rfl) (Eq.mp (by kernel_rfl) hh)
end Go.Proofs.Gong

/- Jn1 -/
namespace Go.Proofs.Gong
open Go Go.Sx Go.Proofs
set_option maxRecDepth 100000
def ByH (ty : TypeId) (v : Value) (l : List UInt8) : HP := HEx fun b => HEx fun c => HEx fun fz =>
  HPr (v = .slice (some ⟨b, 0, none⟩) l.length c.size ∧ l.length ≤ c.size ∧ c.toList.take l.length = cellsB l ∧ (fz = (0, 0) ∨ fz = (c.size, c.size + 1))) (Blk b (.cells c ty fz))
theorem byH_iff {w0 w : World} {L : List HP} {ty : TypeId} {v : Value} {l : List UInt8} : Sat w0 (ByH ty v l :: L) w ↔ ∃ b c fz, (v = .slice (some ⟨b, 0, none⟩) l.length c.size ∧ l.length ≤ c.size ∧ c.toList.take l.length = cellsB l ∧ (fz = (0, 0) ∨ fz = (c.size, c.size + 1))) ∧ Sat w0 (Blk b (.cells c ty fz) :: L) w := by
  simp only [ByH, Sat.ex_iff, Sat.pr_iff]
section
variable {w0 w : World} {L : List HP} {P : Program} {ty : TypeId} {v : Value} {l : List UInt8} {K : Value → World → Prop}
theorem byH_rd (h : Sat w0 (ByH ty v l :: L) w) : Rd w 1 v l.length (cellsB l) := by
  obtain ⟨b, c, fz, ⟨rfl, h1, h2, h3⟩, hs⟩ := byH_iff.1 h
  exact .blk hs.blk h1 (by omega) (by rw [List.drop_zero, Nat.mul_one]; exact h2.symm)
theorem toBytes_own {s d el : TypeId} (h : Sat w0 L w) (us : P.underlying s = some .string) (ud : P.underlying d = some (.slice el)) (ue : P.underlying el = some (.int .u8))
    (hK : ∀ v w', Sat w0 (ByH el v l :: L) w' → K v w') : eToBytes P s d (.string (bs l)) w K := by
  simp only [eToBytes, us, ud, ue]
  intro cap hc
  have h1 := (h.drew).alloc (.cells (((bs l).data.map fun b => .int .u8 b.toNat) ++ Array.replicate (cap - (bs l).size) (.int .u8 0)) el (cap, cap + 1))
  simp at hc
  have hsz : (((bs l).data.map fun b : UInt8 => Value.int .u8 b.toNat) ++ Array.replicate (cap - (bs l).size) (Value.int .u8 0)).size = cap := by simp [bs, ByteArray.size] at *; omega
  refine hK _ _ (byH_iff.2 ⟨_, _, _, ⟨?_, ?_, ?_, ?_⟩, h1⟩)
  · rw [hsz]; simp [sl]
  · rw [hsz]; exact hc
  · simp [bs, cellsB]
  · rw [hsz]; exact .inr rfl
theorem by_app {t xt : TypeId} {m : List UInt8} {x : Value} (h : Sat w0 (ByH ty v l :: L) w) (T : SlT P t ty 1 1) (hxt : isSS P xt = true) (hR : Rd w 1 x m.length (cellsB m)) (hb : l.length + m.length ≤ 140737488355328)
    (hK : ∀ s' w', Sat w0 (ByH ty s' (l ++ m) :: L) w' → K s' w') : eAppend P t xt v x w K := by
  have hrd := byH_rd h
  obtain ⟨b, c, fz, ⟨rfl, h1, h2, h3⟩, hs⟩ := byH_iff.1 h
  obtain ⟨i, hi, his, hib⟩ := T.i
  obtain ⟨z, hz, hzs⟩ := T.z
  have hnew := hR.firstC (Nat.le_refl _)
  have hlen := hR.length
  rw [List.take_of_length_le (by omega)] at hnew
  have hold := hrd.firstC (Nat.le_refl _)
  have hlenc := hrd.length
  rw [List.take_of_length_le (by omega)] at hold
  unfold eAppend
  simp only [T.u, hi, hxt, hR.lenV, hz, his, hnew, hold]
  refine ⟨fun hc => ?_, fun hc => ?_⟩
  · have e : stMaybe w (some ⟨b, 0, none⟩) (l.length * 1) (cellsB m) = some (setBlk w b (.cells (wr c l.length (cellsB m)) ty fz)) := by
      simp only [stMaybe, stCells, hs.blk]
      have hz3 : fz.2 ≤ fz.1 ∨ 0 + l.length * 1 + (cellsB m).length ≤ fz.1 ∨ fz.2 ≤ 0 + l.length * 1 := by
        rcases h3 with rfl | rfl
        · exact .inl (by simp)
        · exact .inr (.inl (by simp; omega))
      rw [if_pos ⟨by simp; omega, hz3, by simp [cellsB, Value.oneCell']⟩]
      simp
    rw [e]
    have hsz : (wr c l.length (cellsB m)).size = c.size := size_wr _ _ _
    refine hK _ _ (byH_iff.2 ⟨b, _, fz, ⟨?_, ?_, ?_, ?_⟩, hs.set _⟩)
    · rw [hsz]; simp
    · rw [hsz, List.length_append]; exact hc
    · rw [wr_toList _ _ _ (by simp; omega), h2]
      rw [List.take_append_of_le_length (by simp), List.take_of_length_le (by simp)]
      simp [cellsB]
    · rw [hsz]; exact h3
  · have := growslice_fits hc (hib ▸ (by omega : (l.length + m.length) * 1 ≤ 140737488355328))
    refine ⟨by rw [hib] at this ⊢; omega, by have := T.bpos; omega, fun cap hcap => ?_⟩
    have h4 := (hs.drop.drew).alloc (.cells ((cellsB l).toArray ++ (cellsB m).toArray ++ Builtin.zeroCells z.cells (cap - (l.length + m.length))) ty)
    have hsz : ((cellsB l).toArray ++ (cellsB m).toArray ++ Builtin.zeroCells z.cells (cap - (l.length + m.length))).size = cap := by
      simp [Builtin.zeroCells, hzs]; omega
    refine hK _ _ (byH_iff.2 ⟨_, _, _, ⟨?_, ?_, ?_, .inl rfl⟩, h4⟩)
    · rw [hsz]; simp [sl]
    · rw [hsz, List.length_append]; exact hcap
    · simp only [Array.toList_append]
      rw [List.take_append_of_le_length (by simp), List.take_of_length_le (by simp)]
      simp [cellsB]
end
def HalfIs (w : World) : Prop := ∀ i : Nat, i < 16 → w.cell? ⟨0, i, none⟩ = some (.int .u32 (halfN i : Nat))
theorem wrap_u32 (n : Nat) : IntKind.u32.wrap n = (n % 4294967296 : Nat) := by
  rw [show IntKind.u32.wrap n = ((n : Int).emod (2 ^ 32)) from rfl]
  norm_cast
theorem wrap_u32_id {n : Nat} (h : n < 4294967296) : IntKind.u32.wrap n = (n : Nat) := by
  rw [wrap_u32, Nat.mod_eq_of_lt h]
theorem bXor_u32 {a b : Nat} (ha : a < 4294967296) (hb : b < 4294967296) : bBit .xor (.int .u32 a) (.int .u32 b) = some (.int .u32 ((a ^^^ b : Nat))) := by
  have hlt : a ^^^ b < 4294967296 := Nat.xor_lt_two_pow (n := 32) ha hb
  simp only [bBit, bBits, if_true, Option.map_some]
  congr 3
  rw [BitVec.toNat_xor]
  have e1 : (BitVec.ofInt IntKind.u32.bits (a : Int)).toNat = a := by
    rw [BitVec.ofInt_natCast, BitVec.toNat_ofNat]; exact Nat.mod_eq_of_lt ha
  have e2 : (BitVec.ofInt IntKind.u32.bits (b : Int)).toNat = b := by
    rw [BitVec.ofInt_natCast, BitVec.toNat_ofNat]; exact Nat.mod_eq_of_lt hb
  rw [e1, e2]
  exact wrap_u32_id hlt
theorem bAnd15 {a : Nat} (ha : a < 4294967296) : bBit .and (.int .u32 a) (.int .u32 15) = some (.int .u32 ((a % 16 : Nat))) := by
  simp only [bBit, bBits, if_true, Option.map_some]
  congr 3
  rw [BitVec.toNat_and]
  have e1 : (BitVec.ofInt IntKind.u32.bits (a : Int)).toNat = a := by
    rw [BitVec.ofInt_natCast, BitVec.toNat_ofNat]; exact Nat.mod_eq_of_lt ha
  have e2 : (BitVec.ofInt IntKind.u32.bits (15 : Int)).toNat = 15 := by decide
  rw [e1, e2, show (15 : Nat) = 2 ^ 4 - 1 from rfl, Nat.and_two_pow_sub_one_eq_mod]
  exact wrap_u32_id (by omega)
theorem shr4 (n : Nat) : bShr (.int .u32 n) (.int .u64 4) = some (.int .u32 ((n / 16 : Nat))) := bShr_nat (k := 4) (by decide)
theorem half_lt : ∀ i, i < 16 → halfN i < 4294967296 := by decide
theorem crc4_lt {c : Nat} (h : c < 4294967296) : crc4 c < 4294967296 := by
  unfold crc4
  exact Nat.xor_lt_two_pow (n := 32) (by omega) (half_lt _ (by omega))
theorem crcB_lt {c : Nat} {b : UInt8} (h : c < 4294967296) : crcB c b < 4294967296 := by
  unfold crcB
  have := b.toNat_lt
  exact crc4_lt (crc4_lt (Nat.xor_lt_two_pow (n := 32) h (by omega)))
theorem behindN_lt : ∀ (s : List UInt8) {c : Nat}, c < 4294967296 → behindN c s < 4294967296
  | [], _, h => h
  | b :: s, _, h => behindN_lt s (crcB_lt h)
theorem half_ix {n : Nat} (h : n < 16) : pIndexP 16 1 (.pointer (some ⟨0, 0, none⟩)) (.int .u32 n) = some (.pointer (some ⟨0, n, none⟩)) := by
  unfold pIndexP
  simp only []
  rw [if_pos (by omega)]
  simp
theorem to32 (b : UInt8) : cInt .u32 (.int .u8 b.toNat) = some (.int .u32 (b.toNat : Nat)) := by
  have := b.toNat_lt
  simp only [cInt]; rw [wrap_u32_id (by omega)]
theorem not32 {n : Nat} (h : n < 4294967296) : uXor (.int .u32 n) = some (.int .u32 ((4294967295 - n : Nat))) := by
  have e1 : (BitVec.ofInt IntKind.u32.bits (n : Int)).toNat = n := by
    rw [BitVec.ofInt_natCast, BitVec.toNat_ofNat]; exact Nat.mod_eq_of_lt h
  have e : ∀ x : BitVec 32, (BitVec.ofInt 32 (if IntKind.u32.signed = true then -1 else IntKind.u32.max) ^^^ x).toNat = 4294967295 - x.toNat := by
    intro x
    have e2 : (BitVec.ofInt 32 (if IntKind.u32.signed = true then -1 else IntKind.u32.max)) = BitVec.allOnes 32 := by rfl
    rw [e2, BitVec.allOnes_xor, BitVec.toNat_not]
  simp only [uXor, bBits, Option.map_some]
  congr 3
  refine (congrArg (fun k : Nat => IntKind.u32.wrap (k : Int)) (e (BitVec.ofInt IntKind.u32.bits (n : Int)))).trans ?_
  show IntKind.u32.wrap ((4294967295 - (BitVec.ofInt IntKind.u32.bits (n : Int)).toNat : Nat) : Int) = _
  rw [e1]
  exact wrap_u32_id (by omega)
theorem to64u {n : Nat} (h : n < 4294967296) : cInt .i64 (.int .u32 n) = some (.int .i64 (n : Nat)) := by
  simp only [cInt]; rw [wrap_id (by omega)]
section
variable {w0 w : World} {L : List HP} {K : Value → World → Prop} {s : List UInt8}
theorem half_at (W : HalfIs w0) {w1 : World} (h : Sat w0 L w1) {n : Nat} (hn : n < 16) : ld1 (.pointer (some ⟨0, n, none⟩)) w1 = some (.int .u32 (halfN n : Nat)) := by
  rw [ld1_ptr, h.cellOld (W n hn)]
theorem behindL (W : HalfIs w0) (hs : s.length < 4611686018427387904) (h : Sat w0 L w) : ∀ (t : List UInt8) (i c m : Nat), s.drop i = t → i + t.length = s.length → c < 4294967296 → t.length < m → K (.int .u32 (behindN c t : Nat)) w →
    F95_2L m (.int .u32 c) (.string (bs s)) (.int .i64 s.length) (.int .i64 i) w K
  | [], i, c, m, hd, hi, hc, hm, hK => by
    obtain ⟨m, rfl⟩ : ∃ k, m = k + 1 := ⟨m - 1, by omega⟩
    simp at hi
    rw [F95_2L]; unfold F95_2b F95_3 F95_3b
    have e : bLt (.int .i64 (i : Int)) (.int .i64 s.length) = some (.bool false) := by simp; omega
    rw [e]
    simp only [bindP_some, ifB_false]
    exact hK
  | b :: t, i, c, m, hd, hi, hc, hm, hK => by
    obtain ⟨m, rfl⟩ : ∃ k, m = k + 1 := ⟨m - 1, by omega⟩
    simp only [List.length_cons] at hi hm
    rw [F95_2L]; unfold F95_2b
    have hlt : i < s.length := by omega
    have e : bLt (.int .i64 (i : Int)) (.int .i64 s.length) = some (.bool true) := by simp; omega
    have hb : s[i] = b := by
      have := congrArg (fun l => l[0]?) hd
      simp [hlt] at this; exact this
    have hb8 := b.toNat_lt
    have hx : c ^^^ b.toNat < 4294967296 := Nat.xor_lt_two_pow (n := 32) hc (by omega)
    have h4 := crc4_lt hx
    rw [e]
    simp only [bindP_some, ifB_true, ix_txt hlt, hb, to32, bXor_u32 hc (show b.toNat < 4294967296 by omega), shr4, bAnd15 hx, half_ix (Nat.mod_lt _ (by decide : 16 > 0)), half_at W h (Nat.mod_lt _ (by decide : 16 > 0)),
      bXor_u32 (show (c ^^^ b.toNat) / 16 < 4294967296 by omega) (half_lt _ (Nat.mod_lt _ (by decide : 16 > 0)))]
    have e4 : ((c ^^^ b.toNat) / 16 ^^^ halfN ((c ^^^ b.toNat) % 16)) = crc4 (c ^^^ b.toNat) := rfl
    rw [e4]
    simp only [bindP_some, shr4, bAnd15 h4, half_ix (Nat.mod_lt _ (by decide : 16 > 0)), half_at W h (Nat.mod_lt _ (by decide : 16 > 0)),
      bXor_u32 (show crc4 (c ^^^ b.toNat) / 16 < 4294967296 by omega) (half_lt _ (Nat.mod_lt _ (by decide : 16 > 0)))]
    rw [bAdd_int, show ((i : Int) + 1) = ((i + 1 : Nat) : Int) by omega, wrap_id (by omega)]
    simp only [bindP_some]
    exact behindL W hs h t (i + 1) (crcB c b) m (by rw [← List.drop_drop, hd]; rfl) (by omega) (crcB_lt hc) (by omega) hK
theorem sum_spec (W : HalfIs w0) (hs : s.length < 4611686018427387903) (h : Sat w0 L w) (hK : K (.int .i64 (sumN s : Nat)) w) : callP G75 [.string (bs s)] w K := by
  refine c75 ?_
  unfold F75
  refine c95 ?_
  unfold F95 F95_1 F95_1b F95_2
  simp only [lenS_mk, bs_size, bindP_some]
  refine behindL W (by omega) h s 0 4294967295 fuel rfl (by simp) (by omega) (by unfold fuel; omega) ?_
  have hlt := behindN_lt s (c := 4294967295) (by omega)
  rw [not32 hlt]
  simp only [bindP_some]
  rw [to64u (by omega)]
  simp only [bindP_some]
  exact hK
theorem ofNat_mod (n : Nat) : UInt8.ofNat (n % 256) = UInt8.ofNat n := by
  apply UInt8.toNat_inj.1
  simp
theorem tagLoop (hs : s.length ≤ 70368744177664) : ∀ (k n m : Nat) (acc : List UInt8) (v : Value) (w : World), acc.length + k = s.length + 4 → k < m → Sat w0 (ByH 5 v acc :: L) w →
    (∀ w', Sat w0 L w' → K (.string (bs (acc ++ loL k n))) w') → F49_2L m (.string (bs s)) v (.int .i64 n) w K
  | 0, n, m, acc, v, w, hk, hm, h, hK => by
    obtain ⟨m, rfl⟩ : ∃ j, m = j + 1 := ⟨m - 1, by omega⟩
    rw [F49_2L]; unfold F49_2b F49_3 F49_3b
    have hrd := byH_rd h
    obtain ⟨b, c, fz, ⟨rfl, _⟩, _⟩ := byH_iff.1 h
    have e1 : lenL (.slice (some ⟨b, 0, none⟩) acc.length c.size) = some (.int .i64 acc.length) := rfl
    have e2 : bAdd (.int .i64 (s.length : Int)) (.int .i64 4) = some (.int .i64 ((s.length + 4 : Nat))) := by
      rw [bAdd_int, wrap_id (by omega)]; rfl
    have e3 : bLt (.int .i64 (acc.length : Int)) (.int .i64 ((s.length + 4 : Nat))) = some (.bool false) := by simp; omega
    rw [e1]
    simp only [bindP_some, lenS_mk, bs_size, e2, e3, ifB_false]
    rw [cBytes_rd hrd (by omega)]
    simp only [bindP_some]
    have := hK w h.drop
    rwa [loL, List.append_nil] at this
  | k + 1, n, m, acc, v, w, hk, hm, h, hK => by
    obtain ⟨m, rfl⟩ : ∃ j, m = j + 1 := ⟨m - 1, by omega⟩
    rw [F49_2L]; unfold F49_2b
    have e1 : lenL v = some (.int .i64 acc.length) := by
      obtain ⟨b, c, fz, ⟨rfl, _⟩, _⟩ := byH_iff.1 h
      rfl
    have e2 : bAdd (.int .i64 (s.length : Int)) (.int .i64 4) = some (.int .i64 ((s.length + 4 : Nat))) := by
      rw [bAdd_int, wrap_id (by omega)]; rfl
    have e3 : bLt (.int .i64 (acc.length : Int)) (.int .i64 ((s.length + 4 : Nat))) = some (.bool true) := by simp; omega
    rw [e1]
    simp only [bindP_some, lenS_mk, bs_size, e2, e3, ifB_true, to8]
    have hb : fBuildSl Tryz.prog 5 1 [(0, .int .u8 (UInt8.ofNat n).toNat)] = some (cellsB [UInt8.ofNat n]).toArray := by kernel_rfl
    refine eBuildSl_sat (es := 1) h u86 hb (by simp) fun x w h1 => ?_
    have hR : Rd w 1 x [UInt8.ofNat n].length (cellsB [UInt8.ofNat n]) := h1.rd
    refine by_app h1.drop sl86 ss86 hR (by simp; omega) fun v w h => ?_
    rw [shr8]
    simp only [bindP_some]
    refine tagLoop hs k (n / 256) m _ v w (by simp; omega) (by omega) h fun w' h' => ?_
    have := hK w' h'
    rwa [loL, ofNat_mod, ← List.singleton_append, ← List.append_assoc] at this
theorem tag_spec (W : HalfIs w0) (hs : s.length ≤ 70368744177664) (h : Sat w0 L w) (hK : ∀ w', Sat w0 L w' → K (.string (bs (tagL s))) w') : callP G49 [.string (bs s)] w K := by
  refine c49 ?_
  unfold F49 F49_1 F49_1b
  refine toBytes_own (el := 5) h (by kernel_rfl) (by kernel_rfl) (by kernel_rfl) fun v w h => ?_
  refine sum_spec W (by omega) h ?_
  unfold F49_2
  exact tagLoop hs 4 (sumN s) fuel s v w rfl (by unfold fuel; omega) h fun w' h' => hK w' h'
theorem open_spec (W : HalfIs w0) (hs : s.length ≤ 70368744177664) (h : Sat w0 L w) (hK : ∀ b w', Sat w0 L w' → K (.tuple #[.string (bs b), .bool (openL s).isSome]) w') : callP G67 [.string (bs s)] w K := by
  refine c67 ?_
  unfold F67
  have e0 : (ByteArray.mk #[] : ByteArray) = bs [] := rfl
  rw [e0]
  by_cases h4 : s.length < 4
  · have e : bLt (.int .i64 (s.length : Int)) (.int .i64 4) = some (.bool true) := by simp; omega
    simp only [lenS_mk, bs_size, bindP_some, e, ifB_true]
    have := hK [] w h
    unfold openL at this
    rw [if_pos h4] at this
    exact this
  have e : bLt (.int .i64 (s.length : Int)) (.int .i64 4) = some (.bool false) := by simp; omega
  have e2 : bSub (.int .i64 (s.length : Int)) (.int .i64 4) = some (.int .i64 ((s.length - 4 : Nat))) := by
    rw [bSub_int, show (s.length : Int) - 4 = ((s.length - 4 : Nat) : Int) by omega, wrap_id (by omega)]
  simp only [lenS_mk, bs_size, bindP_some, e, e2, ifB_false, sub_to (show s.length - 4 ≤ s.length by omega)]
  refine tag_spec W (by simp; omega) h fun w h => ?_
  by_cases g : tagL (s.take (s.length - 4)) = s
  · have hk := fun b => hK b w h
    unfold openL at hk
    rw [if_neg h4, if_pos g] at hk
    simp only [bNe_str, bs_beq, bs_inj, g, decide_true, Bool.not_true, bindP_some, ifB_false]
    exact hk _
  · have hk := hK [] w h
    unfold openL at hk
    rw [if_neg h4, if_neg g] at hk
    simp only [bNe_str, bs_beq, bs_inj, g, decide_false, Bool.not_false, bindP_some, ifB_true]
    exact hk
end
end Go.Proofs.Gong

/- Rec -/
namespace Go.Proofs.Gong
open Go Go.Sx Go.Proofs
set_option linter.all false
set_option maxRecDepth 100000
variable {kn kr : ET} {ke : JT}
def T26 : List (Nat × FnT) := [(49, G49), (50, G50)]
def F26 (x0 : Value) (w : World) (K : V1) : Prop :=
bindP (lenS x0) fun v1 =>
bindP (bGt v1 (.int .i64 65536)) fun v2 =>
ifB v2 (
K (.tuple #[(.string ⟨#[]⟩), (.int .i64 2)]) w) (
callP G50 [x0] w fun v4 w3 =>
callP G49 [v4] w3 fun v6 w5 =>
K (.tuple #[v6, (.int .i64 0)]) w5)
def G26 : FnT := fun args w K => on1 (fun x0 => F26 x0 w K) args
theorem c26 {x0 : Value} {w : World} {K : V1} (h : F26 x0 w K) : callP G26 [x0] w K := callP_intro (on1_mk (p := fun x0 => F26 x0 w K) h)
theorem ok26 : OkF Tryz.prog 26 G26 := by
  refine okF_of (tab_ok (l := T26) ⟨ok49, ok50, trivial⟩) mixed (n := fuel) Tryz.func26 Tryz.call26 fun args w K h => ?_
  obtain ⟨x0, rfl, hh⟩ := of_on1 h
  exact fnD_list (c := bodyOf Tryz.f26) (by kernel_rfl) (by kernel_rfl) (Eq.mp (by kernel_rfl) hh)
def T44 : List (Nat × FnT) := []
def F44 (x0 : Value) (w : World) (K : V1) : Prop :=
bindP (pNil x0) fun v1 =>
bindP (pFieldAddr 0 v1) fun v2 =>
bindP (ld1 v2 w) fun v3 =>
bindP (lenS v3) fun v4 =>
K v4 w
def G44 : FnT := fun args w K => on1 (fun x0 => F44 x0 w K) args
theorem c44 {x0 : Value} {w : World} {K : V1} (h : F44 x0 w K) : callP G44 [x0] w K := callP_intro (on1_mk (p := fun x0 => F44 x0 w K) h)
theorem ok44 : OkF Tryz.prog 44 G44 := by
  refine okF_of (tab_ok (l := T44) trivial) mixed (n := fuel) Tryz.func44 Tryz.call44 fun args w K h => ?_
  obtain ⟨x0, rfl, hh⟩ := of_on1 h
  exact fnD_list (c := bodyOf Tryz.f44) (by kernel_rfl) (by kernel_rfl) (Eq.mp (by kernel_rfl) hh)
def T66 : List (Nat × FnT) := []
def F66 (x0 : Value) (w : World) (K : V1) : Prop :=
bindP (pNil x0) fun v1 =>
bindP (pFieldAddr 1 v1) fun v2 =>
bindP (ld1 v2 w) fun v3 =>
K v3 w
def G66 : FnT := fun args w K => on1 (fun x0 => F66 x0 w K) args
theorem c66 {x0 : Value} {w : World} {K : V1} (h : F66 x0 w K) : callP G66 [x0] w K := callP_intro (on1_mk (p := fun x0 => F66 x0 w K) h)
theorem ok66 : OkF Tryz.prog 66 G66 := by
  refine okF_of (tab_ok (l := T66) trivial) mixed (n := fuel) Tryz.func66 Tryz.call66 fun args w K h => ?_
  obtain ⟨x0, rfl, hh⟩ := of_on1 h
  exact fnD_list (c := bodyOf Tryz.f66) (by kernel_rfl) (by kernel_rfl) (Eq.mp (by kernel_rfl) hh)
def T40 : List (Nat × FnT) := [(41, G41), (43, G43), (44, G44), (65, G65), (66, G66), (67, G67)]
def F40 (x0 : Value) (w : World) (K : V1) : Prop :=
callP G41 [x0] w fun v2 w1 =>
callP G65 [v2, (.int .i64 65536)] w1 fun v4 w3 =>
callP G43 [v2, (.int .i64 4)] w3 fun _ w5 =>
callP G66 [v2] w5 fun v8 w7 =>
bindP (bNe Tryz.prog 26 (.tmp 16) (.const (.int .i64 0)) v8 (.int .i64 0)) fun v9 =>
ifB v9 (
K (.tuple #[(.string ⟨#[]⟩), (.string ⟨#[]⟩), (.int .i64 260)]) w7) (
bindP (lenS x0) fun v10 =>
callP G44 [v2] w7 fun v12 w11 =>
bindP (bSub v10 v12) fun v13 =>
bindP (pSliceS x0 none (some v13)) fun v14 =>
callP G67 [v14] w11 fun v16 w15 =>
bindP (pTuple v16 0) fun _ =>
bindP (pTuple v16 1) fun v18 =>
bindP (uNot v18) fun v19 =>
ifB v19 (
K (.tuple #[(.string ⟨#[]⟩), (.string ⟨#[]⟩), (.int .i64 260)]) w15) (
bindP (pSliceS x0 (some v13) none) fun v20 =>
K (.tuple #[v4, v20, (.int .i64 0)]) w15.drew))
def G40 : FnT := fun args w K => on1 (fun x0 => F40 x0 w K) args
theorem c40 {x0 : Value} {w : World} {K : V1} (h : F40 x0 w K) : callP G40 [x0] w K := callP_intro (on1_mk (p := fun x0 => F40 x0 w K) h)
theorem ok40 : OkF Tryz.prog 40 G40 := by
  refine okF_of (tab_ok (l := T40) ⟨ok41, ok43, ok44, ok65, ok66, ok67, trivial⟩) mixed (n := fuel) Tryz.func40 Tryz.call40 fun args w K h => ?_
  obtain ⟨x0, rfl, hh⟩ := of_on1 h
  exact fnD_list (c := bodyOf Tryz.f40) (by kernel_rfl) (by kernel_rfl) (Eq.mp (by kernel_rfl) hh)
def T71 : List (Nat × FnT) := [(40, G40)]
def F71_3b (s2 s3 : Value) (w : World) (K : V1) : Prop :=
K (.tuple #[s2, s3]) w
def F71_3 (s2 s3 : Value) (w : World) (K : V1) : Prop := F71_3b s2 s3 w K
theorem ok71_3 {K : V1}
    (hn : HN (fun e w => K (.tuple #[(e 2), (e 3)]) w) kn) (hr : HR Tryz.prog [.tmp 2, .tmp 3] K kr) (he : HE noE ke) :
    ∀ e w, F71_3 (e 2) (e 3) w K → denL Tryz.prog (tabOf T71) 32 fuel ((flat (bodyOf Tryz.f71)).drop 2) e w kn kr ke := by
  intro e w h
  unfold F71_3 at h
  have e1 : ∀ (_ : Unit), F71_3b (e 2) (e 3) w K = denL Tryz.prog (tabOf T71) 32 fuel ((flat (bodyOf Tryz.f71)).drop 2) e w (fun e w => K (.tuple #[(e 2), (e 3)]) w) (endD Tryz.prog [.tmp 2, .tmp 3] K) noE := by intro _; kernel_rfl
  exact seg_end (Eq.mp (e1 ()) h) hn hr he
def F71_2b (s0 s2 s3 : Value) (w : World) (_K : V1) (Y0 : V2) (Y1 : V3) : Prop :=
bindP (lenS s0) fun v1 =>
bindP (bLt s3 v1) fun v2 =>
ifB v2 (
bindP (pSliceS s0 (some s3) none) fun v3 =>
callP G40 [v3] w fun v5 w4 =>
bindP (pTuple v5 0) fun v6 =>
bindP (pTuple v5 1) fun v7 =>
bindP (pTuple v5 2) fun v8 =>
bindP (bNe Tryz.prog 26 (.tmp 19) (.const (.int .i64 0)) v8 (.int .i64 0)) fun v9 =>
ifB v9 (
Y0 s2 s3 w4) (
eBuildSl Tryz.prog 22 1 [(0, v6)] w4 fun v11 w10 =>
eAppend Tryz.prog 22 22 s2 v11 w10 fun v13 w12 =>
bindP (lenS s0) fun v14 =>
bindP (lenS v7) fun v15 =>
bindP (bSub v14 v15) fun v16 =>
Y1 s0 v13 v16 w12)) (
Y0 s2 s3 w)
def F71_2L : Nat → Value → Value → Value → World → (V1) → Prop
  | 0, _, _, _, _, _ => False
  | n + 1, s0, s2, s3, w, K => F71_2b s0 s2 s3 w K (fun a2 a3 w => F71_3 a2 a3 w K) (fun a0 a2 a3 w => F71_2L n a0 a2 a3 w K)
def F71_2 (s0 s2 s3 : Value) (w : World) (K : V1) : Prop := F71_2L fuel s0 s2 s3 w K
theorem ok71_2 {K : V1}
    (hn : HN (fun e w => K (.tuple #[(e 2), (e 3)]) w) kn) (hr : HR Tryz.prog [.tmp 2, .tmp 3] K kr) (he : HE noE ke) :
    ∀ e w, F71_2 (e 0) (e 2) (e 3) w K → denL Tryz.prog (tabOf T71) 32 fuel ((flat (bodyOf Tryz.f71)).drop 1) e w kn kr ke := by
  intro e w h
  unfold F71_2 at h
  refine seg_loop (id := 0) (body := (loopB (blkB (nthC (flat (bodyOf Tryz.f71)) 1)))) (l2 := (flat (bodyOf Tryz.f71)).drop 2) (by kernel_rfl) ?_
  refine loop_ok (FL := fun m e w => F71_2L m (e 0) (e 2) (e 3) w K) (fr := endD Tryz.prog [.tmp 2, .tmp 3] K) (fe := (blkK 0 (fun e w => F71_3 (e 2) (e 3) w K) noE)) (fun _ _ h => h) ?_ hr (blkK_mono (fun e w h => ok71_3 hn hr he e w h) he) fuel e w h
  intro m e w h
  have h : F71_2L (m + 1) (e 0) (e 2) (e 3) w K := h
  rw [F71_2L] at h
  have e1 : ∀ (Y0 : V2) (Y1 : V3), F71_2b (e 0) (e 2) (e 3) w K Y0 Y1 = denL Tryz.prog (tabOf T71) 32 fuel (flat (loopB (blkB (nthC (flat (bodyOf Tryz.f71)) 1)))) e w (fun e w => Y1 (e 0) (e 2) (e 3) w) (endD Tryz.prog [.tmp 2, .tmp 3] K) (blkK 0 (fun e w => Y0 (e 2) (e 3) w) noE) := by intro Y0 Y1; kernel_rfl
  exact Eq.mp (e1 (fun a2 a3 w => F71_3 a2 a3 w K) (fun a0 a2 a3 w => F71_2L m a0 a2 a3 w K)) h
def F71_1b (s0 : Value) (w : World) (_K : V1) (Y0 : V3) : Prop :=
Y0 s0 (.slice none 0 0) (.int .i64 0) w
def F71_1 (s0 : Value) (w : World) (K : V1) : Prop := F71_1b s0 w K (fun a0 a2 a3 w => F71_2 a0 a2 a3 w K)
theorem ok71_1 {K : V1}
    (hn : HN (fun e w => K (.tuple #[(e 2), (e 3)]) w) kn) (hr : HR Tryz.prog [.tmp 2, .tmp 3] K kr) (he : HE noE ke) :
    ∀ e w, F71_1 (e 0) w K → denL Tryz.prog (tabOf T71) 32 fuel ((flat (bodyOf Tryz.f71)).drop 0) e w kn kr ke := by
  intro e w h
  unfold F71_1 at h
  have e1 : ∀ (Y0 : V3), F71_1b (e 0) w K Y0 = denL Tryz.prog (tabOf T71) 32 fuel (((flat (bodyOf Tryz.f71)).drop 0).take 1) e w (fun e w => Y0 (e 0) (e 2) (e 3) w) (endD Tryz.prog [.tmp 2, .tmp 3] K) noE := by intro Y0; kernel_rfl
  exact seg 1 (Eq.mp (e1 (fun a0 a2 a3 w => F71_2 a0 a2 a3 w K)) h) (fun e w h => ok71_2 hn hr he e w h) hr he
def F71 (x0 : Value) (w : World) (K : V1) : Prop := F71_1 x0 w K
def G71 : FnT := fun args w K => on1 (fun x0 => F71 x0 w K) args
theorem c71 {x0 : Value} {w : World} {K : V1} (h : F71 x0 w K) : callP G71 [x0] w K := callP_intro (on1_mk (p := fun x0 => F71 x0 w K) h)
theorem ok71 : OkF Tryz.prog 71 G71 := by
  refine okF_of (tab_ok (l := T71) ⟨ok40, trivial⟩) mixed (n := fuel) Tryz.func71 Tryz.call71 fun args w K h => ?_
  obtain ⟨x0, rfl, hh⟩ := of_on1 h
  unfold F71 at hh
  exact fnD_list (c := bodyOf Tryz.f71) (by kernel_rfl) (by kernel_rfl) (ok71_1 (fun _ _ h => h) (fun _ _ h => h) (fun _ _ _ h => h) (initE [x0]) w hh)
end Go.Proofs.Gong

/- So4 -/
set_option linter.all false
namespace Go.Sx
open Go.Proofs
theorem heap_putE {α : Type} [Inhabited α] {enc : α → Value} {w : World} {b o : Nat} {F : Array α} (i : Nat) : (Go.Sort.putRow enc w b o F).heap[i]? = if i = b then (w.heap[b]?).map (Go.Sort.onCells (Go.Sort.putCells enc o F)) else w.heap[i]? := by
  unfold Go.Sort.putRow Go.Sort.mapBlock
  simp only [Array.getElem?_modify]
  by_cases h : i = b
  · subst h; simp
  · rw [if_neg (fun e => h e.symm), if_neg h]
theorem cI_map (l : List Int) : l.flatMap cI = l.map (Value.int .i64) := by
  induction l with
  | nil => rfl
  | cons a l ih => simp [List.flatMap_cons, cI, ih]
theorem sortWI {w : World} {b o q : Nat} {a : Array Value} {ty : TypeId} {l l' : List Int} {os : Array Obj} (hb : w.heap[b]? = some (.cells a ty (0, 0))) (hlen : l'.length = l.length) (ha : o + l.length ≤ a.size) :
    ∃ a' : Array Value, (Go.Sort.grow (Go.Sort.putRow (Value.int .i64) (Go.Sort.ahead w q) b o l'.toArray) os).heap[b]? = some (.cells a' ty (0, 0)) ∧ a'.size = a.size ∧ l'.map (Value.int .i64) = (a'.toList.drop o).take l.length ∧
      Stp [b] [b] w (Go.Sort.grow (Go.Sort.putRow (Value.int .i64) (Go.Sort.ahead w q) b o l'.toArray) os) := by
  have hlt := lt_of_blk hb
  have hs : (Go.Sort.putRow (Value.int .i64) (Go.Sort.ahead w q) b o l'.toArray).heap.size = w.heap.size := by
    unfold Go.Sort.putRow Go.Sort.mapBlock Go.Sort.ahead; simp
  have heap : ∀ i, i < w.heap.size → (Go.Sort.grow (Go.Sort.putRow (Value.int .i64) (Go.Sort.ahead w q) b o l'.toArray) os).heap[i]? = (Go.Sort.putRow (Value.int .i64) w b o l'.toArray).heap[i]? := by
    intro i hi
    show (((Go.Sort.putRow (Value.int .i64) (Go.Sort.ahead w q) b o l'.toArray).heap) ++ os)[i]? = _
    rw [Array.getElem?_append_left (by rw [hs]; exact hi), heap_putE, heap_putE]
    rfl
  refine ⟨Go.Sort.putCells (Value.int .i64) o l'.toArray a, ?_, by simp [Go.Sort.putCells], ?_, ⟨⟨rfl, rfl, rfl, ?_, fun i hi hn => ?_⟩, fun x hx => .inl hx⟩⟩
  · rw [heap b hlt, heap_putE, if_pos rfl, hb]; rfl
  · apply List.ext_getElem?
    intro i
    rw [List.getElem?_take, List.getElem?_map]
    by_cases hi : i < l.length
    · rw [if_pos hi, List.getElem?_drop]
      have h1 : o + i < a.size := by omega
      have h2 : i < l'.length := by omega
      rw [List.getElem?_eq_getElem h2, Array.getElem?_toList]
      simp only [Go.Sort.putCells, Array.getElem?_mapIdx, Array.getElem?_eq_getElem h1, Option.map_some]
      rw [if_pos ⟨by omega, by rw [List.size_toArray]; omega⟩]
      simp only [Nat.add_sub_cancel_left]
      rw [getElem!_pos _ _ (by simpa using h2)]
      simp
    · rw [if_neg hi, List.getElem?_eq_none (by omega)]; rfl
  · show _ ≤ (((Go.Sort.putRow (Value.int .i64) (Go.Sort.ahead w q) b o l'.toArray).heap) ++ os).size
    rw [Array.size_append, hs]; omega
  · rw [heap i hi, heap_putE, if_neg (by simpa using hn)]
def srtI (l : List Int) : List Int := l.mergeSort fun x y => decide (x ≤ y)
def gSortI (ty : TypeId) : FnT := fun args w K => ∃ (v : Value) (w0 : World) (L : List HP) (l : List Int),
  args = [v] ∧ Sat w0 (LsH cI 1 ty v l :: L) w ∧ l.length < 4611686018427387904 ∧ ∀ w', Sat w0 (LsH cI 1 ty v (srtI l) :: L) w' → K (.tuple #[]) w'
theorem okSortI {P : Program} {ρt : Go.Shelf.Ren} {f : Nat} {ty : TypeId} (T : SlLaysM.n5 P ρt) (hf : ρt.f 5 = f) (ef : ∀ args w, (callFunc f args).run P w = .ok (.enter f args) w) : OkF P f (gSortI ty) := by
  subst hf
  intro args w K ⟨v, w0, L, l, ha, hs, hlen, hk⟩
  subst ha
  refine .inl ⟨ef _ _, ?_⟩
  obtain ⟨fp, hO', kk⟩ := Sat.own hs
  generalize hcs : l.flatMap cI = cs at hO'
  generalize hn' : l.length = n at hO'
  cases hO' with
  | nil =>
    obtain rfl : l = [] := List.eq_nil_of_length_eq_zero hn'
    refine (AnyM.slices_Sort_int_none T none 0 w).mono fun e w' ⟨he, hw⟩ => ?_
    subst hw
    exact ⟨_, he, hk w' (by simpa [srtI] using hs)⟩
  | blk hb hn ha hc =>
    rename_i b o cap a
    subst hn'
    have hH : Go.Sort.Holds (Value.int .i64) w b o l.toArray := by
      intro j hj
      have hj : j < l.length := by simpa using hj
      refine ⟨?_, by simp [World.frozen?, hb]⟩
      rw [cell_of hb, getElem!_pos _ _ (by simpa using hj)]
      have e1 : (l.map (Value.int .i64))[j]? = a.toList[o + j]? := by
        rw [← cI_map, hcs, hc, List.getElem?_take, if_pos (by omega), List.getElem?_drop]
      rw [List.getElem?_map, List.getElem?_eq_getElem hj] at e1
      simpa using e1.symm
    refine (AnyM.slices_Sort_int T b o cap l w hH (lt_of_blk hb) hlen).mono fun e w' ⟨he, q, os, hw⟩ => ?_
    have hlen' : (srtI l).length = l.length := List.length_mergeSort _
    obtain ⟨a', hb', hs', hc', hst⟩ := sortWI (q := q) (os := os) hb hlen' (by omega : o + l.length ≤ a.size)
    refine ⟨_, he, hk w' ?_⟩
    rw [hw]
    have := kk _ [b] (.slice (some ⟨b, o, none⟩) l.length cap) l.length ((srtI l).flatMap cI) 1 ty (.blk hb' hn (by omega) (by rw [cI_map, hc', Nat.mul_one])) hst
    unfold LsH
    rw [hlen']; exact this
theorem sortI_sat {ty : TypeId} {v : Value} {l : List Int} {w0 w : World} {L : List HP} {K : Value → World → Prop} (h : Sat w0 (LsH cI 1 ty v l :: L) w) (hl : l.length < 4611686018427387904)
    (hK : ∀ w', Sat w0 (LsH cI 1 ty v (srtI l) :: L) w' → K (.tuple #[]) w') : callP (gSortI ty) [v] w K := callP_intro ⟨v, w0, L, l, rfl, h, hl, hK⟩
def gCopyS : FnT := fun args w K => ∃ (s : List UInt8), args = [.string (bs s)] ∧ s.length ≤ 281474976710656 ∧ ∀ w', RowKit.Below w.heap.size w w' → K (.string (bs s)) w'
theorem okCopyS {P : Program} {ρ : Go.Shelf.Ren} {f : Nat} (T : LaysM.n316 P ρ) (hf : ρ.f 316 = f) (ef : ∀ args w, (callFunc f args).run P w = .ok (.enter f args) w) : OkF P f gCopyS := by
  subst hf
  intro args w K ⟨s, ha, hlen, hk⟩
  subst ha
  refine .inl ⟨ef _ _, ?_⟩
  refine (Any.stringslite_Clone T (bs s) w (by simpa [bs, ByteArray.size] using hlen)).mono fun e w' ⟨he, hb⟩ => ⟨_, he, hk w' hb⟩
theorem copyS_sat {s : List UInt8} {w0 w : World} {L : List HP} {K : Value → World → Prop} (h : Sat w0 L w) (hl : s.length ≤ 281474976710656) (hK : ∀ w', Sat w0 L w' → K (.string (bs s)) w') : callP gCopyS [.string (bs s)] w K := by
  refine callP_intro ⟨s, rfl, hl, fun w' hb => hK w' ?_⟩
  exact (h.ofOwn (es := 1) (ty := 0) .nil (stp_of_below hb [] (by simp))).drop
end Go.Sx

/- Jn2 -/
namespace Go.Proofs.Gong
open Go Go.Sx Go.Proofs
set_option maxRecDepth 100000
theorem rBytes_le (n : Int) (r : Rdr) : (rBytes n r).2.2.length ≤ r.2.length := by
  unfold rBytes
  split
  · exact Nat.le_refl _
  split
  · exact Nat.le_refl _
  split
  · exact Nat.le_refl _
  · simp
theorem rGrp_le (m : Int) (r : Rdr) : (rGrp m r).2.2.length ≤ r.2.length := by
  unfold rGrp
  split
  · exact Nat.le_refl _
  split
  · have := rdG_len (most := m) 9 true 0 r.2
    simp only; omega
  · exact Nat.le_refl _
theorem rText_le (m : Int) (r : Rdr) : (rText m r).2.2.length ≤ r.2.length := by
  unfold rText
  split
  · exact Nat.le_refl _
  · exact Nat.le_trans (rBytes_le _ _) (rGrp_le _ _)
theorem rBytes_sum (n : Int) (r : Rdr) : (rBytes n r).1.length + (rBytes n r).2.2.length ≤ r.2.length ∧ ((rBytes n r).2.1 ≠ 0 → (rBytes n r).1 = []) := by
  unfold rBytes
  split
  · simp
  split
  · simp
  split
  · simp
  · simp; omega
theorem rText_sum (m : Int) (r : Rdr) : (rText m r).1.length + (rText m r).2.2.length ≤ r.2.length := by
  have h1 := rBytes_sum (rGrp m r).1 (rGrp m r).2
  have h2 := rGrp_le m r
  unfold rText
  by_cases g : (rBytes (rGrp m r).1 (rGrp m r).2).2.1 ≠ 0
  · rw [if_pos g, h1.2 g]; simp
  · rw [if_neg g]; simp only; omega
theorem rBytes_ok {n : Nat} {r : Rdr} (h : (rBytes n r).2.1 = 0) : n + (rBytes n r).2.2.length = r.2.length := by
  unfold rBytes at *
  split at h
  · rename_i g; exact absurd h g
  split at h
  · simp at h
  split at h
  · simp at h
  · rename_i g1 g2 g3
    rw [if_neg g1, if_neg g2, if_neg g3]
    simp; omega
def nextV (s : List UInt8) : Value := match nextL s with
  | none => .tuple #[.string (bs []), .string (bs []), .int .i64 260]
  | some (p, t) => .tuple #[.string (bs p), .string (bs t), .int .i64 0]
theorem nextL_some {s p t : List UInt8} (h : nextL s = some (p, t)) : t.length < s.length ∧ p.length + t.length ≤ s.length := by
  unfold nextL at h
  simp only at h
  split at h
  · cases h
  split at h
  · rename_i g1 g2
    have e := Option.some.inj h
    have e1 := congrArg Prod.fst e
    have e2 := congrArg Prod.snd e
    simp only at e1 e2
    have h2 : (rText 65536 (0, s)).2.2.length ≤ s.length := rText_le 65536 (0, s)
    have h3 := rBytes_le 4 (rText 65536 (0, s)).2
    have g3 : (rBytes 4 (rText 65536 (0, s)).2).2.1 = 0 := by simpa using g1
    have h4 := rText_sum 65536 (0, s)
    have h5 := rBytes_ok (n := 4) g3
    rw [← e1, ← e2, List.length_drop]
    have h6 : ((4 : Nat) : Int) = 4 := rfl
    rw [h6] at h5
    simp only at h4
    omega
  · cases h
theorem nextL_drop {s p t : List UInt8} (h : nextL s = some (p, t)) : s.drop (s.length - t.length) = t := by
  have hl := nextL_some h
  unfold nextL at h
  simp only at h
  split at h
  · cases h
  split at h
  · have e := Option.some.inj h
    have e2 := congrArg Prod.snd e
    simp only at e2
    rw [← e2, List.length_drop]
    congr 1
    have h2 : (rText 65536 (0, s)).2.2.length ≤ s.length := rText_le 65536 (0, s)
    have h3 := rBytes_le 4 (rText 65536 (0, s)).2
    omega
  · cases h
section
variable {w0 w : World} {L : List HP} {K : Value → World → Prop} {v : Value} {r : Rdr} {s : List UInt8}
theorem code_spec (h : Sat w0 (RdrH v r :: L) w) (hK : K (.int .i64 r.1) w) : callP G66 [v] w K := by
  refine c66 ?_
  unfold F66
  obtain ⟨p, rfl, hs⟩ := rdr_iff.1 h
  simp only [ptr, pNil_ptr, bindP_some, pFieldAddr_ptr, ld1_ptr, cell_of hs.cl]
  simp
  exact hK
theorem left_spec (h : Sat w0 (RdrH v r :: L) w) (hK : K (.int .i64 r.2.length) w) : callP G44 [v] w K := by
  refine c44 ?_
  unfold F44
  obtain ⟨p, rfl, hs⟩ := rdr_iff.1 h
  simp only [ptr, pNil_ptr, bindP_some, pFieldAddr_ptr, ld1_ptr, cell_of hs.cl]
  simp
  exact hK
theorem rput_spec (W : HalfIs w0) (hs : s.length ≤ 1073741824) (h : Sat w0 L w) (hK0 : 65536 < s.length → K (.tuple #[.string (bs []), .int .i64 2]) w) (hK : s.length ≤ 65536 → ∀ w', Sat w0 L w' → K (.tuple #[.string (bs (recL s)), .int .i64 0]) w') :
    callP G26 [.string (bs s)] w K := by
  refine c26 ?_
  unfold F26
  have e0 : (ByteArray.mk #[] : ByteArray) = bs [] := rfl
  rw [e0]
  by_cases g : 65536 < s.length
  · have e : bGt (.int .i64 (s.length : Int)) (.int .i64 65536) = some (.bool true) := by simp; omega
    simp only [lenS_mk, bs_size, bindP_some, e, ifB_true]
    exact hK0 g
  have e : bGt (.int .i64 (s.length : Int)) (.int .i64 65536) = some (.bool false) := by simp; omega
  simp only [lenS_mk, bs_size, bindP_some, e, ifB_false]
  refine text_spec h (by omega) fun w h => ?_
  have hl := txtL_len (p := s) (by omega)
  refine tag_spec W (by omega) h fun w h => ?_
  exact hK (by omega) w h
theorem next_spec (W : HalfIs w0) (hs : s.length ≤ 70368744177664) (h : Sat w0 L w) (hK : ∀ w', Sat w0 L w' → K (nextV s) w') : callP G40 [.string (bs s)] w K := by
  refine c40 ?_
  unfold F40
  have e0 : (ByteArray.mk #[] : ByteArray) = bs [] := rfl
  rw [e0]
  refine read_spec h fun v w h => ?_
  have wf0 : Rdr.wf (0, s) := by unfold Rdr.wf; simp only; omega
  refine rtext_spec h wf0 fun w h => ?_
  have l1 : (rText 65536 (0, s)).2.2.length ≤ s.length := rText_le 65536 (0, s)
  have wf1 : Rdr.wf (rText 65536 (0, s)).2 := by unfold Rdr.wf; omega
  refine bytes_spec h wf1 fun w h => ?_
  have l2 := rBytes_le 4 (rText 65536 (0, s)).2
  refine code_spec h ?_
  unfold nextV nextL at hK
  simp only at hK
  by_cases g1 : (rBytes 4 (rText 65536 (0, s)).2).2.1 = 0
  · rw [if_neg (by simpa using g1)] at hK
    simp only [g1, bNe_int, decide_true, Bool.not_true, bindP_some, ifB_false, lenS_mk, bs_size]
    refine left_spec h ?_
    have e2 : bSub (.int .i64 (s.length : Int)) (.int .i64 ((rBytes 4 (rText 65536 (0, s)).2).2.2.length : Int)) = some (.int .i64 ((s.length - (rBytes 4 (rText 65536 (0, s)).2).2.2.length : Nat))) := by
      rw [bSub_int, show (s.length : Int) - ((rBytes 4 (rText 65536 (0, s)).2).2.2.length : Int) = ((s.length - (rBytes 4 (rText 65536 (0, s)).2).2.2.length : Nat) : Int) by omega, wrap_id (by omega)]
    rw [e2]
    simp only [bindP_some, sub_to (show s.length - (rBytes 4 (rText 65536 (0, s)).2).2.2.length ≤ s.length by omega)]
    refine open_spec W (by simp; omega) h.drop fun b w h => ?_
    have t0 : ∀ x y : Value, pTuple (.tuple #[x, y]) 0 = some x := fun _ _ => rfl
    have t1 : ∀ x y : Value, pTuple (.tuple #[x, y]) 1 = some y := fun _ _ => rfl
    have un : ∀ b : Bool, uNot (.bool b) = some (.bool (!b)) := fun _ => rfl
    cases g2 : (openL (s.take (s.length - (rBytes 4 (rText 65536 (0, s)).2).2.2.length))).isSome
    · rw [g2, if_neg (by decide)] at hK
      simp only [t0, t1, un, bindP_some, Bool.not_false, ifB_true]
      exact hK _ h
    · rw [g2, if_pos rfl] at hK
      simp only [t0, t1, un, bindP_some, Bool.not_true, ifB_false, sub_from (show s.length - (rBytes 4 (rText 65536 (0, s)).2).2.2.length ≤ s.length by omega)]
      exact hK _ h.drew
  · rw [if_pos (by simpa using g1)] at hK
    simp only [bNe_int, g1, decide_false, Bool.not_false, bindP_some, ifB_true]
    exact hK _ h.drop
theorem scanLoop (W : HalfIs w0) (hs : s.length ≤ 8796093022207) : ∀ (k i m : Nat) (acc : List (List UInt8)) (v : Value) (w : World), i ≤ s.length → s.length - i < k → k ≤ m → acc.length ≤ i → Sat w0 (LsH cSt 1 9 v acc :: L) w →
    (∀ v' w', Sat w0 (LsH cSt 1 9 v' (acc ++ (scanL k (s.drop i)).1) :: L) w' → K (.tuple #[v', .int .i64 ((i + (scanL k (s.drop i)).2 : Nat))]) w') → F71_2L m (.string (bs s)) v (.int .i64 i) w K := by
  intro k
  induction k with
  | zero => intro i m acc v w hi hk; omega
  | succ k ih =>
    intro i m acc v w hi hk hm ha h hK
    obtain ⟨m, rfl⟩ : ∃ j, m = j + 1 := ⟨m - 1, by omega⟩
    rw [F71_2L]; unfold F71_2b F71_3 F71_3b
    unfold scanL at hK
    by_cases g : s.drop i = []
    · have hi2 : i = s.length := by have := congrArg List.length g; simp at this; omega
      rw [if_pos g] at hK
      have e : bLt (.int .i64 (i : Int)) (.int .i64 s.length) = some (.bool false) := by simp; omega
      simp only [lenS_mk, bs_size, bindP_some, e, ifB_false]
      have := hK v w (by simpa using h)
      simpa using this
    · have hi2 : i < s.length := by
        rcases Nat.lt_or_ge i s.length with g' | g'
        · exact g'
        · exact absurd (List.drop_of_length_le g') g
      rw [if_neg g] at hK
      have e : bLt (.int .i64 (i : Int)) (.int .i64 s.length) = some (.bool true) := by simp; omega
      simp only [lenS_mk, bs_size, bindP_some, e, ifB_true, sub_from hi]
      refine next_spec W (by simp; omega) h fun w h => ?_
      unfold nextV
      have t0 : ∀ x y z : Value, pTuple (.tuple #[x, y, z]) 0 = some x := fun _ _ _ => rfl
      have t1 : ∀ x y z : Value, pTuple (.tuple #[x, y, z]) 1 = some y := fun _ _ _ => rfl
      have t2 : ∀ x y z : Value, pTuple (.tuple #[x, y, z]) 2 = some z := fun _ _ _ => rfl
      cases hn : nextL (s.drop i) with
      | none =>
        rw [hn] at hK
        simp only [t0, t1, t2, bindP_some, bNe_int]
        have := hK v w (by simpa using h)
        simpa using this
      | some q =>
        obtain ⟨p, t⟩ := q
        rw [hn] at hK
        obtain ⟨l1, l2⟩ := nextL_some hn
        rw [List.length_drop] at l1 l2
        simp only [t0, t1, t2, bindP_some, bNe_int, decide_true, Bool.not_true, ifB_false]
        have hb : fBuildSl Tryz.prog 9 1 [(0, .string (bs p))] = some (([p]).flatMap cSt).toArray := by kernel_rfl
        refine ls_lit (m := [p]) CodC.cod h u22 hb rfl fun x w h1 => ?_
        have hR : Rd w 1 x [p].length ([p].flatMap cSt) := h1.rd
        refine ls_app (m := [p]) CodC.cod h1.f1 sl22 ss22 hR (by simp; omega) fun v w h => ?_
        have h := h.f1.drop
        have e2 : bSub (.int .i64 (s.length : Int)) (.int .i64 (t.length : Int)) = some (.int .i64 ((s.length - t.length : Nat))) := by
          rw [bSub_int, show (s.length : Int) - (t.length : Int) = ((s.length - t.length : Nat) : Int) by omega, wrap_id (by omega)]
        simp only [lenS_mk, bs_size, e2, bindP_some]
        have e3 : s.drop (s.length - t.length) = t := by
          have := nextL_drop hn
          rw [List.length_drop, List.drop_drop] at this
          rw [← this]; congr 1; simp; omega
        refine ih (s.length - t.length) m _ v w (by omega) (by omega) (by omega) (by simp; omega) h fun v' w' h' => ?_
        rw [e3] at h' ⊢
        have := hK v' w' (by simpa [List.append_assoc] using h')
        simp only [List.length_drop] at this
        have e4 : s.length - t.length + (scanL k t).2 = i + (s.length - i - t.length + (scanL k t).2) := by omega
        rw [e4]
        exact this
theorem scan_spec (W : HalfIs w0) (hs : s.length ≤ 8796093022207) (h : Sat w0 L w) (hK : ∀ v w', Sat w0 (LsH cSt 1 9 v (scanL (s.length + 1) s).1 :: L) w' → K (.tuple #[v, .int .i64 ((scanL (s.length + 1) s).2 : Nat)]) w') : callP G71 [.string (bs s)] w K := by
  refine c71 ?_
  unfold F71 F71_1 F71_1b F71_2
  refine scanLoop W hs (s.length + 1) 0 fuel [] _ w (by omega) (by omega) (by unfold fuel; omega) (by simp) (h.nilLs _ _ _) fun v w h => ?_
  simpa using hK v w (by simpa using h)
end
end Go.Proofs.Gong

/- Jh0 -/
namespace Go.Proofs.Gong
open Go Go.Sx Go.Proofs
set_option maxRecDepth 100000
def hx (n : Nat) : UInt8 := if n < 10 then UInt8.ofNat (48 + n) else UInt8.ofNat (87 + n)
def digs : Nat → Nat → List Nat
  | 0, _ => []
  | k + 1, n => digs k (n / 16) ++ [n % 16]
def pad16 (n : Nat) : List UInt8 := (digs 8 n).map hx
def preL : List UInt8 := [108, 111, 103, 46]
def nameL (n : Nat) : List UInt8 := preL ++ pad16 n
def val16 (a : Nat) (l : List Nat) : Nat := l.foldl (fun a d => a * 16 + d) a
def hexT : Nat → Nat → List Nat → List Nat
  | 0, n, acc => n :: acc
  | k + 1, n, acc => if n < 16 then n :: acc else hexT k (n / 16) (n % 16 :: acc)
def hexL (n : Nat) : List Nat := hexT 15 n []
theorem digs_len : ∀ (k n : Nat), (digs k n).length = k
  | 0, _ => rfl
  | k + 1, n => by simp [digs, digs_len k]
theorem digs_lt : ∀ (k n : Nat), ∀ d ∈ digs k n, d < 16
  | 0, _, d, h => by simp [digs] at h
  | k + 1, n, d, h => by
    rcases List.mem_append.1 h with h | h
    · exact digs_lt k _ d h
    · simp at h; omega
theorem val16_digs : ∀ (k n : Nat), val16 0 (digs k n) = n % 16 ^ k
  | 0, n => by simp [val16, digs, Nat.mod_one]
  | k + 1, n => by
    have ih := val16_digs k (n / 16)
    unfold val16 at *
    simp only [digs, List.foldl_append, List.foldl_cons, List.foldl_nil, ih]
    rw [Nat.pow_succ, Nat.mul_comm (16 ^ k), Nat.mod_mul]; omega
theorem val16_ge : ∀ (l : List Nat) (a : Nat), a ≤ val16 a l
  | [], a => Nat.le_refl _
  | d :: l, a => by
    have := val16_ge l (a * 16 + d)
    show a ≤ val16 (a * 16 + d) l
    omega
theorem digs_zero : ∀ k, digs k 0 = List.replicate k 0
  | 0 => rfl
  | k + 1 => by simp [digs, digs_zero k, ← List.replicate_succ']
theorem hexT_digs : ∀ (j k n : Nat) (acc : List Nat), n < 16 ^ (j + 1) → n < 16 ^ k → 1 ≤ k → ∃ z, hexT j n acc = z ++ acc ∧ z.length ≤ k ∧ 1 ≤ z.length ∧ digs k n = List.replicate (k - z.length) 0 ++ z
  | 0, k, n, acc, hn, hk, h1 => by
    obtain ⟨k, rfl⟩ : ∃ i, k = i + 1 := ⟨k - 1, by omega⟩
    refine ⟨[n], rfl, by simp, by simp, ?_⟩
    rw [digs, Nat.div_eq_of_lt (by omega), Nat.mod_eq_of_lt (by omega), digs_zero]
    simp
  | j + 1, k, n, acc, hn, hk, h1 => by
    obtain ⟨k, rfl⟩ : ∃ i, k = i + 1 := ⟨k - 1, by omega⟩
    unfold hexT
    by_cases h : n < 16
    · rw [if_pos h]
      refine ⟨[n], rfl, by simp, by simp, ?_⟩
      rw [digs, Nat.div_eq_of_lt h, Nat.mod_eq_of_lt h, digs_zero]
      simp
    · rw [if_neg h]
      obtain ⟨z, h1, h2, h3, h4⟩ := hexT_digs j k (n / 16) (n % 16 :: acc) (by rw [Nat.pow_succ] at hn; omega) (by rw [Nat.pow_succ] at hk; omega) (by
        rcases Nat.eq_zero_or_pos k with rfl | g
        · simp at hk; omega
        · exact g)
      refine ⟨z ++ [n % 16], by rw [h1]; simp, by simp; omega, by simp, ?_⟩
      rw [digs, h4, List.length_append, List.length_singleton, List.append_assoc]
      congr 2; omega
theorem hexL_pad {n : Nat} (h : n < 4294967296) : 1 ≤ (hexL n).length ∧ (hexL n).length ≤ 8 ∧ List.replicate (8 - (hexL n).length) 48 ++ (hexL n).map hx = pad16 n := by
  obtain ⟨z, h1, h2, h3, h4⟩ := hexT_digs 15 8 n [] (by omega) (by omega) (by omega)
  have e : hexL n = z := by rw [hexL, h1, List.append_nil]
  rw [e]
  refine ⟨h3, h2, ?_⟩
  unfold pad16
  rw [h4, List.map_append, List.map_replicate]
  rfl
theorem nameL_len (n : Nat) : (nameL n).length = 12 := by simp [nameL, preL, pad16, digs_len]
end Go.Proofs.Gong
