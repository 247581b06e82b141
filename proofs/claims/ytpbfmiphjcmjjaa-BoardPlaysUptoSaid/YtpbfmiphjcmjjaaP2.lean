/- A part of the proofs: what stands below it, told in lemmas. No condition. -/
import Derived.Test.YtpbfmiphjcmjjaaP1
set_option linter.all false

/- Heap -/
namespace Go.Proofs.Gong
open Go Go.Sx Go.Proofs
set_option linter.all false
set_option maxRecDepth 100000
def F26 (x0 : Value) (w : World) (K : Value → World → Prop) : Prop :=
bindP (bLt x0 (.int .i64 1)) fun v1 =>
stepM (gd false v1) x0 fun v2 =>
Sx.stepG (gd false v1) (bGt v2 (.int .i64 65536)) fun v3 =>
bindP (pPick v1 (.bool true) v3) fun v4 =>
ifB v4 (
K (.tuple #[(.pointer none), (.int .i64 1)]) w) (
eMakeMap none w fun v6 w5 =>
bindP (fBuild Try.prog 126 [(0, x0), (2, v6)]) fun v7 =>
eBox 126 v7 w5 fun v9 w8 =>
K (.tuple #[v9, (.int .i64 0)]) w8)
def G26 : FnT := fun args w K => on1 (fun x0 => F26 x0 w K) args
def F76 (x0 : Value) (x1 : Value) (x2 : Value) (w : World) (K : Value → World → Prop) : Prop :=
eBox 55 x2 w fun v2 w1 =>
bindP (pNil x0) fun v3 =>
bindP (pFieldAddr 1 v3) fun v4 =>
bindP (ld1 v4 w1.drew) fun v5 =>
bindP (ldN 2 v2 w1.drew) fun v6 =>
bindP (pIndexL 2 v5 x1) fun v7 =>
bindW (st 2 v7 v6 w1.drew) fun w8 =>
bindP (pNil x0) fun v10 =>
bindP (pFieldAddr 2 v10) fun v11 =>
bindP (ld1 v11 w8.drew) fun v12 =>
bindP (pFieldAddr 0 v2) fun v13 =>
bindP (ld1 v13 w8.drew) fun v14 =>
eMapSet Try.prog 124 v12 v14 x1 w8.drew fun _ w15 =>
K (.tuple #[]) w15
def G76 : FnT := fun args w K => on3 (fun x0 x1 x2 => F76 x0 x1 x2 w K) args
def T116 : List (Nat × FnT) := []
def F116_3b (s3 : Value) (w : World) (K : Value → World → Prop) : Prop :=
K s3 w
def F116_3 (s3 : Value) (w : World) (K : Value → World → Prop) : Prop := F116_3b s3 w K
theorem ok116_3 {K : Value → World → Prop} {kn kr : Env → World → Prop} {ke : Nat → Env → World → Prop}
    (hn : ∀ e w, (fun e w => K (e 2) w) e w → kn e w) (hr : ∀ e w, endD Try.prog [.tmp 2] K e w → kr e w) (he : ∀ i e w, noE i e w → ke i e w) :
    ∀ e w, F116_3 (e 3) w K → denL Try.prog (tabOf T116) 18 fuel ((flat (bodyOf Try.f116)).drop 4) e w kn kr ke := by
  intro e w h
  unfold F116_3 at h
  have e1 : ∀ (_ : Unit), F116_3b (e 3) w K = denL Try.prog (tabOf T116) 18 fuel ((flat (bodyOf Try.f116)).drop 4) e w (fun e w => K (e 2) w) (endD Try.prog [.tmp 2] K) noE := by intro _; kernel_rfl
  exact seg_end (Eq.mp (e1 ()) h) hn hr he
def F116_2b (s3 : Value) (s6 : Value) (s7 : Value) (s8 : Value) (w : World) (K : Value → World → Prop) (Y0 : Value → Value → Value → Value → World → Prop) (Y1 : Value → World → Prop) : Prop :=
bindP (bLt s8 s7) fun v1 =>
ifB v1 (
bindP (pIndexL 1 s6 s8) fun v2 =>
bindP (ld1 v2 w) fun v3 =>
bindP (bNe Try.prog 3 (.tmp 12) (.tmp 13) v3 s3) fun v4 =>
ifB v4 (
K v3 w) (
bindP (bAdd s8 (.int .i64 1)) fun v5 =>
Y0 s3 s6 s7 v5 w)) (
Y1 s3 w)
def F116_2L : Nat → Value → Value → Value → Value → World → (Value → World → Prop) → Prop
  | 0, _, _, _, _, _, _ => False
  | n + 1, s3, s6, s7, s8, w, K => F116_2b s3 s6 s7 s8 w K (fun a3 a6 a7 a8 w => F116_2L n a3 a6 a7 a8 w K) (fun a3 w => F116_3 a3 w K)
def F116_2 (s3 : Value) (s6 : Value) (s7 : Value) (s8 : Value) (w : World) (K : Value → World → Prop) : Prop := F116_2L fuel s3 s6 s7 s8 w K
theorem ok116_2 {K : Value → World → Prop} {kn kr : Env → World → Prop} {ke : Nat → Env → World → Prop}
    (hn : ∀ e w, (fun e w => K (e 2) w) e w → kn e w) (hr : ∀ e w, endD Try.prog [.tmp 2] K e w → kr e w) (he : ∀ i e w, noE i e w → ke i e w) :
    ∀ e w, F116_2 (e 3) (e 6) (e 7) (e 8) w K → denL Try.prog (tabOf T116) 18 fuel ((flat (bodyOf Try.f116)).drop 3) e w kn kr ke := by
  intro e w h
  unfold F116_2 at h
  refine seg_loop (id := 0) (body := (loopB (blkB (nthC (flat (bodyOf Try.f116)) 3)))) (l2 := (flat (bodyOf Try.f116)).drop 4) (by kernel_rfl) ?_
  refine loop_ok (FL := fun m e w => F116_2L m (e 3) (e 6) (e 7) (e 8) w K) (fr := endD Try.prog [.tmp 2] K) (fe := (blkK 0 (fun e w => F116_3 (e 3) w K) noE)) (fun _ _ h => h) ?_ hr (blkK_mono (fun e w h => ok116_3 hn hr he e w h) he) fuel e w h
  intro m e w h
  have h : F116_2L (m + 1) (e 3) (e 6) (e 7) (e 8) w K := h
  rw [F116_2L] at h
  have e1 : ∀ (Y0 : Value → Value → Value → Value → World → Prop) (Y1 : Value → World → Prop), F116_2b (e 3) (e 6) (e 7) (e 8) w K Y0 Y1 = denL Try.prog (tabOf T116) 18 fuel (flat (loopB (blkB (nthC (flat (bodyOf Try.f116)) 3)))) e w (fun e w => Y0 (e 3) (e 6) (e 7) (e 8) w) (endD Try.prog [.tmp 2] K) (blkK 0 (fun e w => Y1 (e 3) w) noE) := by intro Y0 Y1; kernel_rfl
  exact Eq.mp (e1 (fun a3 a6 a7 a8 w => F116_2L m a3 a6 a7 a8 w K) (fun a3 w => F116_3 a3 w K)) h
def F116_1b (s0 : Value) (w : World) (_K : Value → World → Prop) (Y0 : Value → Value → Value → Value → World → Prop) : Prop :=
bindP (lenL s0) fun v6 =>
Y0 (.int .i64 0) s0 v6 (.int .i64 0) w
def F116_1 (s0 : Value) (w : World) (K : Value → World → Prop) : Prop := F116_1b s0 w K (fun a3 a6 a7 a8 w => F116_2 a3 a6 a7 a8 w K)
theorem ok116_1 {K : Value → World → Prop} {kn kr : Env → World → Prop} {ke : Nat → Env → World → Prop}
    (hn : ∀ e w, (fun e w => K (e 2) w) e w → kn e w) (hr : ∀ e w, endD Try.prog [.tmp 2] K e w → kr e w) (he : ∀ i e w, noE i e w → ke i e w) :
    ∀ e w, F116_1 (e 0) w K → denL Try.prog (tabOf T116) 18 fuel ((flat (bodyOf Try.f116)).drop 0) e w kn kr ke := by
  intro e w h
  unfold F116_1 at h
  have e1 : ∀ (Y0 : Value → Value → Value → Value → World → Prop), F116_1b (e 0) w K Y0 = denL Try.prog (tabOf T116) 18 fuel (((flat (bodyOf Try.f116)).drop 0).take 3) e w (fun e w => Y0 (e 3) (e 6) (e 7) (e 8) w) (endD Try.prog [.tmp 2] K) noE := by intro Y0; kernel_rfl
  exact seg 3 (Eq.mp (e1 (fun a3 a6 a7 a8 w => F116_2 a3 a6 a7 a8 w K)) h) (fun e w h => ok116_2 hn hr he e w h) hr he
def F116 (x0 : Value) (w : World) (K : Value → World → Prop) : Prop := F116_1 x0 w K
def G116 : FnT := fun args w K => on1 (fun x0 => F116 x0 w K) args
theorem c116 {x0 : Value} {w : World} {K : Value → World → Prop} (h : F116 x0 w K) : callP G116 [x0] w K := callP_intro (on1_mk (p := fun x0 => F116 x0 w K) h)
theorem ok116 : OkF Try.prog 116 G116 := by
  refine okF_of (tab_ok (l := T116) trivial) mixed (n := fuel) Try.func116 Try.call116 fun args w K h => ?_
  obtain ⟨x0, rfl, hh⟩ := of_on1 h
  unfold F116 at hh
  exact fnD_list (c := bodyOf Try.f116) (by kernel_rfl) (by kernel_rfl) (ok116_1 (fun _ _ h => h) (fun _ _ h => h) (fun _ _ _ h => h) (initE [x0]) w hh)
def T139 : List (Nat × FnT) := []
def F139 (x0 : Value) (w : World) (K : Value → World → Prop) : Prop :=
bindP (bNe Try.prog 3 (.tmp 3) (.tmp 4) x0 x0) fun v1 =>
K v1 w
def G139 : FnT := fun args w K => on1 (fun x0 => F139 x0 w K) args
theorem c139 {x0 : Value} {w : World} {K : Value → World → Prop} (h : F139 x0 w K) : callP G139 [x0] w K := callP_intro (on1_mk (p := fun x0 => F139 x0 w K) h)
theorem ok139 : OkF Try.prog 139 G139 := by
  refine okF_of (tab_ok (l := T139) trivial) mixed (n := fuel) Try.func139 Try.call139 fun args w K h => ?_
  obtain ⟨x0, rfl, hh⟩ := of_on1 h
  exact fnD_list (c := bodyOf Try.f139) (by kernel_rfl) (by kernel_rfl) (Eq.mp (by kernel_rfl) hh)
def T117 : List (Nat × FnT) := [(139, G139)]
def F117 (x0 : Value) (x1 : Value) (w : World) (K : Value → World → Prop) : Prop :=
callP G139 [x0] w fun v2 w1 =>
callP G139 [x1] w1 fun v4 w3 =>
ifB v2 (
ifB v4 (
K (.int .i64 0) w3) (
K (.int .i64 (-1)) w3)) (
ifB v4 (
K (.int .i64 1) w3) (
bindP (bLt x0 x1) fun v5 =>
ifB v5 (
K (.int .i64 (-1)) w3) (
bindP (bGt x0 x1) fun v6 =>
ifB v6 (
K (.int .i64 1) w3) (
K (.int .i64 0) w3))))
def G117 : FnT := fun args w K => on2 (fun x0 x1 => F117 x0 x1 w K) args
theorem c117 {x0 x1 : Value} {w : World} {K : Value → World → Prop} (h : F117 x0 x1 w K) : callP G117 [x0, x1] w K := callP_intro (on2_mk (p := fun x0 x1 => F117 x0 x1 w K) h)
theorem ok117 : OkF Try.prog 117 G117 := by
  refine okF_of (tab_ok (l := T117) ⟨ok139, trivial⟩) mixed (n := fuel) Try.func117 Try.call117 fun args w K h => ?_
  obtain ⟨x0, x1, rfl, hh⟩ := of_on2 h
  exact fnD_list (c := bodyOf Try.f117) (by kernel_rfl) (by kernel_rfl) (Eq.mp (by kernel_rfl) hh)
def F81 (x0 : Value) (x1 : Value) (w : World) (K : Value → World → Prop) : Prop :=
eBox 55 x0 w fun v2 w1 =>
eBox 55 x1 w1 fun v4 w3 =>
bindP (pFieldAddr 1 v2) fun v5 =>
bindP (ld1 v5 w3.drew) fun v6 =>
bindP (pFieldAddr 1 v4) fun v7 =>
bindP (ld1 v7 w3.drew) fun v8 =>
bindP (pFieldAddr 0 v2) fun v9 =>
bindP (ld1 v9 w3.drew) fun v10 =>
bindP (pFieldAddr 0 v4) fun v11 =>
bindP (ld1 v11 w3.drew) fun v12 =>
callP G117 [v6, v8] w3.drew fun v14 w13 =>
(fok true (ld1 v9 w13) v10 ∧ fok true (ld1 v11 w13) v12) ∧ (callP G117 [v10, v12] w13 fun v16 w15 =>
eBuildSl Try.prog 22 2 [(0, v14), (1, v16)] w15 fun v18 w17 =>
callP G116 [v18] w17 fun v20 w19 =>
K v20 w19)
def G81 : FnT := fun args w K => on2 (fun x0 x1 => F81 x0 x1 w K) args
def F77_3b (s0 : Value) (s1 : Value) (s4 : Value) (w : World) (K : Value → World → Prop) : Prop :=
bindP (ldN 2 s4 w) fun v1 =>
callP G76 [s0, s1, v1] w fun _ w2 =>
K (.tuple #[]) w2
def F77_3 (s0 : Value) (s1 : Value) (s4 : Value) (w : World) (K : Value → World → Prop) : Prop := F77_3b s0 s1 s4 w K
def F77_2b (s0 : Value) (s1 : Value) (s4 : Value) (w : World) (_K : Value → World → Prop) (Y0 : Value → Value → Value → World → Prop) (Y1 : Value → Value → Value → World → Prop) : Prop :=
bindP (bGt s1 (.int .i64 0)) fun v4 =>
ifB v4 (
bindP (bSub s1 (.int .i64 1)) fun v5 =>
bindP (bQuo v5 (.int .i64 2)) fun v6 =>
bindP (pNil s0) fun v7 =>
bindP (pFieldAddr 1 v7) fun v8 =>
bindP (ld1 v8 w.drew) fun v9 =>
bindP (pIndexL 2 v9 v6) fun v10 =>
bindP (ldN 2 v10 w.drew) fun v11 =>
bindP (ldN 2 s4 w.drew) fun v12 =>
callP G81 [v11, v12] w.drew fun v14 w13 =>
bindP (bLe v14 (.int .i64 0)) fun v15 =>
ifB v15 (
Y0 s0 s1 s4 w13) (
bindP (pNil s0) fun v16 =>
bindP (pFieldAddr 1 v16) fun v17 =>
bindP (ld1 v17 w13) fun v18 =>
bindP (pIndexL 2 v18 v6) fun v19 =>
bindP (ldN 2 v19 w13) fun v20 =>
callP G76 [s0, s1, v20] w13 fun _ w21 =>
Y1 s0 v6 s4 w21)) (
Y0 s0 s1 s4 w)
def F77_2L : Nat → Value → Value → Value → World → (Value → World → Prop) → Prop
  | 0, _, _, _, _, _ => False
  | n + 1, s0, s1, s4, w, K => F77_2b s0 s1 s4 w K (fun a0 a1 a4 w => F77_3 a0 a1 a4 w K) (fun a0 a1 a4 w => F77_2L n a0 a1 a4 w K)
def F77_2 (s0 : Value) (s1 : Value) (s4 : Value) (w : World) (K : Value → World → Prop) : Prop := F77_2L fuel s0 s1 s4 w K
def F77_1b (s0 : Value) (s1 : Value) (w : World) (_K : Value → World → Prop) (Y0 : Value → Value → Value → World → Prop) : Prop :=
bindP (pNil s0) fun v23 =>
bindP (pFieldAddr 1 v23) fun v24 =>
bindP (ld1 v24 w) fun v25 =>
bindP (pIndexL 2 v25 s1) fun v26 =>
bindP (ldN 2 v26 w) fun v27 =>
eAlloc Try.prog 55 w fun v29 w28 =>
bindW (st 2 v29 v27 w28) fun w30 =>
Y0 s0 s1 v29 w30
def F77_1 (s0 : Value) (s1 : Value) (w : World) (K : Value → World → Prop) : Prop := F77_1b s0 s1 w K (fun a0 a1 a4 w => F77_2 a0 a1 a4 w K)
def F77 (x0 : Value) (x1 : Value) (w : World) (K : Value → World → Prop) : Prop := F77_1 x0 x1 w K
def G77 : FnT := fun args w K => on2 (fun x0 x1 => F77 x0 x1 w K) args
def F78_3b (s0 : Value) (s1 : Value) (s4 : Value) (w : World) (K : Value → World → Prop) : Prop :=
bindP (ldN 2 s4 w) fun v1 =>
callP G76 [s0, s1, v1] w fun _ w2 =>
K (.tuple #[]) w2
def F78_3 (s0 : Value) (s1 : Value) (s4 : Value) (w : World) (K : Value → World → Prop) : Prop := F78_3b s0 s1 s4 w K
def F78_6b (s0 : Value) (s1 : Value) (s4 : Value) (s5 : Value) (w : World) (_K : Value → World → Prop) (R3 : Value → Value → Value → World → Prop) (Y0 : Value → Value → Value → World → Prop) : Prop :=
bindP (ldN 2 s4 w.drew) fun v4 =>
bindP (pNil s0) fun v5 =>
bindP (pFieldAddr 1 v5) fun v6 =>
bindP (ld1 v6 w.drew) fun v7 =>
bindP (pIndexL 2 v7 s5) fun v8 =>
bindP (ldN 2 v8 w.drew) fun v9 =>
callP G81 [v4, v9] w.drew fun v11 w10 =>
bindP (bLe v11 (.int .i64 0)) fun v12 =>
ifB v12 (
Y0 s0 s1 s4 w10) (
bindP (pNil s0) fun v13 =>
bindP (pFieldAddr 1 v13) fun v14 =>
bindP (ld1 v14 w10) fun v15 =>
bindP (pIndexL 2 v15 s5) fun v16 =>
bindP (ldN 2 v16 w10) fun v17 =>
callP G76 [s0, s1, v17] w10 fun _ w18 =>
R3 s0 s5 s4 w18)
def F78_6 (s0 : Value) (s1 : Value) (s4 : Value) (s5 : Value) (w : World) (K : Value → World → Prop) (R3 : Value → Value → Value → World → Prop) : Prop := F78_6b s0 s1 s4 s5 w K R3 (fun a0 a1 a4 w => F78_3 a0 a1 a4 w K)
def F78_5b (s0 : Value) (s1 : Value) (s4 : Value) (w : World) (_K : Value → World → Prop) (R3 : Value → Value → Value → World → Prop) (Y0 : Value → Value → Value → World → Prop) (Y1 : Value → Value → Value → Value → World → Prop) : Prop :=
bindP (bMul (.int .i64 2) s1) fun v20 =>
bindP (bAdd v20 (.int .i64 1)) fun v21 =>
bindP (pNil s0) fun v22 =>
bindP (pFieldAddr 1 v22) fun v23 =>
bindP (ld1 v23 w) fun v24 =>
bindP (lenL v24) fun v25 =>
bindP (bGe v21 v25) fun v26 =>
ifB v26 (
Y0 s0 s1 s4 w) (
bindP (bAdd v21 (.int .i64 1)) fun v27 =>
bindP (pNil s0) fun v28 =>
bindP (pFieldAddr 1 v28) fun v29 =>
bindP (ld1 v29 w.drew) fun v30 =>
bindP (lenL v30) fun v31 =>
bindP (bLt v27 v31) fun v32 =>
stepM (gd true v32) s0 fun v33 =>
Sx.stepG (gd true v32) (pNil v33) fun v34 =>
Sx.stepG (gd true v32) (pFieldAddr 1 v34) fun v35 =>
Sx.stepG (gd true v32) (ld1 v35 w.drew) fun v36 =>
stepM (gd true v32) v21 fun v37 =>
Sx.stepG (gd true v32) (bAdd v37 (.int .i64 1)) fun v38 =>
Sx.stepG (gd true v32) (pIndexL 2 v36 v38) fun v39 =>
Sx.stepG (gd true v32) (ldN 2 v39 w.drew) fun v40 =>
stepM (gd true v32) s0 fun v41 =>
Sx.stepG (gd true v32) (pNil v41) fun v42 =>
Sx.stepG (gd true v32) (pFieldAddr 1 v42) fun v43 =>
Sx.stepG (gd true v32) (ld1 v43 w.drew) fun v44 =>
stepM (gd true v32) v21 fun v45 =>
Sx.stepG (gd true v32) (pIndexL 2 v44 v45) fun v46 =>
Sx.stepG (gd true v32) (ldN 2 v46 w.drew) fun v47 =>
stepE (gd true v32) (fun k => callP G81 [v40, v47] w.drew k) w.drew fun v49 w48 =>
Sx.stepG (gd true v32) (bLt v49 (.int .i64 0)) fun v50 =>
bindP (pPick v32 v50 (.bool false)) fun v51 =>
ifB v51 (
bindP (bAdd v21 (.int .i64 1)) fun v52 =>
Y1 s0 s1 s4 v52 w48) (
Y1 s0 s1 s4 v21 w48))
def F78_5 (s0 : Value) (s1 : Value) (s4 : Value) (w : World) (K : Value → World → Prop) (R3 : Value → Value → Value → World → Prop) : Prop := F78_5b s0 s1 s4 w K R3 (fun a0 a1 a4 w => F78_3 a0 a1 a4 w K) (fun a0 a1 a4 a5 w => F78_6 a0 a1 a4 a5 w K R3)
def F78_4 (s0 : Value) (s1 : Value) (s4 : Value) (w : World) (K : Value → World → Prop) (R3 : Value → Value → Value → World → Prop) : Prop := F78_5 s0 s1 s4 w K R3
def F78_2L : Nat → Value → Value → Value → World → (Value → World → Prop) → Prop
  | 0, _, _, _, _, _ => False
  | n + 1, s0, s1, s4, w, K => F78_4 s0 s1 s4 w K (fun a0 a1 a4 w => F78_2L n a0 a1 a4 w K)
def F78_2 (s0 : Value) (s1 : Value) (s4 : Value) (w : World) (K : Value → World → Prop) : Prop := F78_2L fuel s0 s1 s4 w K
def F78_1b (s0 : Value) (s1 : Value) (w : World) (_K : Value → World → Prop) (Y0 : Value → Value → Value → World → Prop) : Prop :=
bindP (pNil s0) fun v53 =>
bindP (pFieldAddr 1 v53) fun v54 =>
bindP (ld1 v54 w) fun v55 =>
bindP (pIndexL 2 v55 s1) fun v56 =>
bindP (ldN 2 v56 w) fun v57 =>
eAlloc Try.prog 55 w fun v59 w58 =>
bindW (st 2 v59 v57 w58) fun w60 =>
Y0 s0 s1 v59 w60
def F78_1 (s0 : Value) (s1 : Value) (w : World) (K : Value → World → Prop) : Prop := F78_1b s0 s1 w K (fun a0 a1 a4 w => F78_2 a0 a1 a4 w K)
def F78 (x0 : Value) (x1 : Value) (w : World) (K : Value → World → Prop) : Prop := F78_1 x0 x1 w K
def G78 : FnT := fun args w K => on2 (fun x0 x1 => F78 x0 x1 w K) args
def F28_2b (s0 : Value) (s1 : Value) (s2 : Value) (s7 : Value) (w : World) (K : Value → World → Prop) : Prop :=
bindP (fBuild Try.prog 55 [(0, s1), (1, s2)]) fun v1 =>
callP G76 [s0, s7, v1] w fun _ w2 =>
callP G77 [s0, s7] w2 fun _ w4 =>
bindP (pNil s0) fun v6 =>
bindP (pFieldAddr 2 v6) fun v7 =>
bindP (ld1 v7 w4) fun v8 =>
bindP (fLook Try.prog 124 v8 s1 false w4) fun v9 =>
callP G78 [s0, v9] w4 fun _ w10 =>
K (.int .i64 0) w10
def F28_2 (s0 : Value) (s1 : Value) (s2 : Value) (s7 : Value) (w : World) (K : Value → World → Prop) : Prop := F28_2b s0 s1 s2 s7 w K
def F28_1b (s0 : Value) (s1 : Value) (s2 : Value) (w : World) (K : Value → World → Prop) (Y0 : Value → Value → Value → Value → World → Prop) : Prop :=
bindP (bLt s2 (.int .i64 0)) fun v12 =>
stepM (gd false v12) s2 fun v13 =>
Sx.stepG (gd false v12) (bGt v13 (.int .i64 2305843009213693952)) fun v14 =>
bindP (pPick v12 (.bool true) v14) fun v15 =>
ifB v15 (
K (.int .i64 1) w) (
bindP (pNil s0) fun v16 =>
bindP (pFieldAddr 2 v16) fun v17 =>
bindP (ld1 v17 w) fun v18 =>
bindP (fLook Try.prog 124 v18 s1 true w) fun v19 =>
bindP (pTuple v19 0) fun v20 =>
bindP (pTuple v19 1) fun v21 =>
bindP (uNot v21) fun v22 =>
ifB v22 (
bindP (pNil s0) fun v23 =>
bindP (pFieldAddr 1 v23) fun v24 =>
bindP (ld1 v24 w.drew) fun v25 =>
bindP (lenL v25) fun v26 =>
bindP (pNil s0) fun v27 =>
bindP (pFieldAddr 0 v27) fun v28 =>
bindP (ld1 v28 w.drew) fun v29 =>
bindP (bGe v26 v29) fun v30 =>
ifB v30 (
K (.int .i64 200) w.drew) (
bindP (pNil s0) fun v31 =>
bindP (pFieldAddr 1 v31) fun v32 =>
bindP (ld1 v32 w.drew) fun v33 =>
bindP (lenL v33) fun v34 =>
bindP (pNil s0) fun v35 =>
bindP (pFieldAddr 1 v35) fun v36 =>
bindP (ld1 v36 w.drew) fun v37 =>
bindP (fBuild Try.prog 55 []) fun v38 =>
eBuildSl Try.prog 52 1 [(0, v38)] w.drew fun v40 w39 =>
eAppend Try.prog 52 52 v37 v40 w39 fun v42 w41 =>
bindP (pNil s0) fun v43 =>
bindP (pFieldAddr 1 v43) fun v44 =>
bindW (st 1 v44 v42 w41) fun w45 =>
Y0 s0 s1 s2 v34 w45)) (
Y0 s0 s1 s2 v20 w))
def F28_1 (s0 : Value) (s1 : Value) (s2 : Value) (w : World) (K : Value → World → Prop) : Prop := F28_1b s0 s1 s2 w K (fun a0 a1 a2 a7 w => F28_2 a0 a1 a2 a7 w K)
def F28 (x0 : Value) (x1 : Value) (x2 : Value) (w : World) (K : Value → World → Prop) : Prop := F28_1 x0 x1 x2 w K
def G28 : FnT := fun args w K => on3 (fun x0 x1 x2 => F28 x0 x1 x2 w K) args
def F29_2b (w : World) (K : Value → World → Prop) : Prop :=
K (.bool true) w
def F29_2 (w : World) (K : Value → World → Prop) : Prop := F29_2b w K
def F29_1b (s0 : Value) (s1 : Value) (w : World) (K : Value → World → Prop) (Y0 : World → Prop) : Prop :=
bindP (pNil s0) fun v1 =>
bindP (pFieldAddr 2 v1) fun v2 =>
bindP (ld1 v2 w) fun v3 =>
bindP (fLook Try.prog 124 v3 s1 true w) fun v4 =>
bindP (pTuple v4 0) fun v5 =>
bindP (pTuple v4 1) fun v6 =>
bindP (uNot v6) fun v7 =>
ifB v7 (
K (.bool false) w) (
bindP (pNil s0) fun v8 =>
bindP (pFieldAddr 1 v8) fun v9 =>
bindP (ld1 v9 w) fun v10 =>
bindP (lenL v10) fun v11 =>
bindP (bSub v11 (.int .i64 1)) fun v12 =>
bindP (pNil s0) fun v13 =>
bindP (pFieldAddr 1 v13) fun v14 =>
bindP (ld1 v14 w) fun v15 =>
bindP (pIndexL 2 v15 v12) fun v16 =>
bindP (ldN 2 v16 w) fun v17 =>
eAlloc Try.prog 55 w fun v19 w18 =>
bindW (st 2 v19 v17 w18) fun w20 =>
bindP (pNil s0) fun v22 =>
bindP (pFieldAddr 1 v22) fun v23 =>
bindP (ld1 v23 w20) fun v24 =>
bindP (pSliceL 2 v24 none (some v12) none) fun v25 =>
bindP (pNil s0) fun v26 =>
bindP (pFieldAddr 1 v26) fun v27 =>
bindW (st 1 v27 v25 w20) fun w28 =>
bindP (pNil s0) fun v30 =>
bindP (pFieldAddr 2 v30) fun v31 =>
bindP (ld1 v31 w28) fun v32 =>
eDelete Try.prog 124 v32 s1 w28 fun _ w33 =>
bindP (bLt v5 v12) fun v35 =>
ifB v35 (
bindP (ldN 2 v19 w33) fun v36 =>
callP G76 [s0, v5, v36] w33 fun _ w37 =>
callP G77 [s0, v5] w37 fun _ w39 =>
bindP (pNil s0) fun v41 =>
bindP (pFieldAddr 2 v41) fun v42 =>
bindP (ld1 v42 w39.drew) fun v43 =>
bindP (pFieldAddr 0 v19) fun v44 =>
bindP (ld1 v44 w39.drew) fun v45 =>
bindP (fLook Try.prog 124 v43 v45 false w39.drew) fun v46 =>
callP G78 [s0, v46] w39.drew fun _ w47 =>
Y0 w47) (
Y0 w33))
def F29_1 (s0 : Value) (s1 : Value) (w : World) (K : Value → World → Prop) : Prop := F29_1b s0 s1 w K (fun w => F29_2 w K)
def F29 (x0 : Value) (x1 : Value) (w : World) (K : Value → World → Prop) : Prop := F29_1 x0 x1 w K
def G29 : FnT := fun args w K => on2 (fun x0 x1 => F29 x0 x1 w K) args
def F83 (x0 : Value) (w : World) (K : Value → World → Prop) : Prop :=
eAlloc Try.prog 55 w fun v2 w1 =>
bindP (pNil x0) fun v3 =>
bindP (pFieldAddr 1 v3) fun v4 =>
bindP (ld1 v4 w1) fun v5 =>
bindP (lenL v5) fun v6 =>
bindP (bEq Try.prog 3 (.tmp 8) (.const (.int .i64 0)) v6 (.int .i64 0)) fun v7 =>
ifB v7 (
bindP (fBuild Try.prog 55 []) fun v8 =>
bindW (st 2 v2 v8 w1) fun w9 =>
bindP (ldN 2 v2 w9) fun v11 =>
K (.tuple #[v11, (.bool false)]) w9) (
bindP (pNil x0) fun v12 =>
bindP (pFieldAddr 1 v12) fun v13 =>
bindP (ld1 v13 w1) fun v14 =>
bindP (pIndexL 2 v14 (.int .i64 0)) fun v15 =>
bindP (ldN 2 v15 w1) fun v16 =>
bindW (st 2 v2 v16 w1) fun w17 =>
bindP (ldN 2 v2 w17) fun v19 =>
K (.tuple #[v19, (.bool true)]) w17)
def G83 : FnT := fun args w K => on1 (fun x0 => F83 x0 w K) args
def F35_3b (s5 : Value) (w : World) (K : Value → World → Prop) : Prop :=
K s5 w
def F35_3 (s5 : Value) (w : World) (K : Value → World → Prop) : Prop := F35_3b s5 w K
def F35_2b (s0 : Value) (s1 : Value) (s5 : Value) (s6 : Value) (s7 : Value) (w : World) (_K : Value → World → Prop) (Y0 : Value → Value → Value → Value → Value → World → Prop) (Y1 : Value → World → Prop) : Prop :=
Sx.stepG (gd true s7) (pFieldAddr 1 s6) fun v1 =>
Sx.stepG (gd true s7) (ld1 v1 w) fun v2 =>
stepM (gd true s7) s1 fun v3 =>
Sx.stepG (gd true s7) (bLe v2 v3) fun v4 =>
bindP (pPick s7 v4 (.bool false)) fun v5 =>
ifB v5 (
bindP (pFieldAddr 0 s6) fun v6 =>
bindP (ld1 v6 w) fun v7 =>
callP G29 [s0, v7] w fun _ w8 =>
bindP (ldN 2 s6 w8) fun v10 =>
eBuildSl Try.prog 52 1 [(0, v10)] w8 fun v12 w11 =>
eAppend Try.prog 52 52 s5 v12 w11 fun v14 w13 =>
bindP (ldN 2 s6 w13) fun v15 =>
eAlloc Try.prog 55 w13 fun v17 w16 =>
bindW (st 2 v17 v15 w16) fun w18 =>
callP G83 [s0] w18 fun v21 w20 =>
bindP (pTuple v21 0) fun v22 =>
bindP (pTuple v21 1) fun v23 =>
bindW (st 2 v17 v22 w20) fun w24 =>
Y0 s0 s1 v14 v17 v23 w24) (
Y1 s5 w)
def F35_2L : Nat → Value → Value → Value → Value → Value → World → (Value → World → Prop) → Prop
  | 0, _, _, _, _, _, _, _ => False
  | n + 1, s0, s1, s5, s6, s7, w, K => F35_2b s0 s1 s5 s6 s7 w K (fun a0 a1 a5 a6 a7 w => F35_2L n a0 a1 a5 a6 a7 w K) (fun a5 w => F35_3 a5 w K)
def F35_2 (s0 : Value) (s1 : Value) (s5 : Value) (s6 : Value) (s7 : Value) (w : World) (K : Value → World → Prop) : Prop := F35_2L fuel s0 s1 s5 s6 s7 w K
def F35_1b (s0 : Value) (s1 : Value) (w : World) (_K : Value → World → Prop) (Y0 : Value → Value → Value → Value → Value → World → Prop) : Prop :=
callP G83 [s0] w fun v27 w26 =>
bindP (pTuple v27 0) fun v28 =>
bindP (pTuple v27 1) fun v29 =>
eAlloc Try.prog 55 w26 fun v31 w30 =>
bindW (st 2 v31 v28 w30) fun w32 =>
Y0 s0 s1 (.slice none 0 0) v31 v29 w32
def F35_1 (s0 : Value) (s1 : Value) (w : World) (K : Value → World → Prop) : Prop := F35_1b s0 s1 w K (fun a0 a1 a5 a6 a7 w => F35_2 a0 a1 a5 a6 a7 w K)
def F35 (x0 : Value) (x1 : Value) (w : World) (K : Value → World → Prop) : Prop := F35_1 x0 x1 w K
def G35 : FnT := fun args w K => on2 (fun x0 x1 => F35 x0 x1 w K) args
def F75 (x0 : Value) (w : World) (K : Value → World → Prop) : Prop :=
bindP (pNil x0) fun v1 =>
bindP (pFieldAddr 1 v1) fun v2 =>
bindP (ld1 v2 w) fun v3 =>
bindP (lenL v3) fun v4 =>
K v4 w
def G75 : FnT := fun args w K => on1 (fun x0 => F75 x0 w K) args
def F27 (w : World) (K : Value → World → Prop) : Prop :=
callP G26 [(.int .i64 9)] w fun v2 w1 =>
bindP (pTuple v2 0) fun v3 =>
bindP (pTuple v2 1) fun v4 =>
bindP (bEq Try.prog 46 (.tmp 8) (.const (.pointer none)) v3 (.pointer none)) fun v5 =>
stepM (gd false v5) v4 fun v6 =>
Sx.stepG (gd false v5) (bNe Try.prog 24 (.tmp 11) (.const (.int .i64 0)) v6 (.int .i64 0)) fun v7 =>
bindP (pPick v5 (.bool true) v7) fun v8 =>
stepM (gd false v8) v3 fun v9 =>
stepE (gd false v8) (fun k => callP G28 [v9, (.int .i64 7), (.int .i64 20)] w1 k) w1 fun v11 w10 =>
Sx.stepG (gd false v8) (bNe Try.prog 24 (.tmp 16) (.const (.int .i64 0)) v11 (.int .i64 0)) fun v12 =>
bindP (pPick v8 (.bool true) v12) fun v13 =>
stepM (gd false v13) v3 fun v14 =>
stepE (gd false v13) (fun k => callP G28 [v14, (.int .i64 3), (.int .i64 10)] w10 k) w10 fun v16 w15 =>
Sx.stepG (gd false v13) (bNe Try.prog 24 (.tmp 21) (.const (.int .i64 0)) v16 (.int .i64 0)) fun v17 =>
bindP (pPick v13 (.bool true) v17) fun v18 =>
stepM (gd false v18) v3 fun v19 =>
stepE (gd false v18) (fun k => callP G28 [v19, (.int .i64 9), (.int .i64 20)] w15 k) w15 fun v21 w20 =>
Sx.stepG (gd false v18) (bNe Try.prog 24 (.tmp 26) (.const (.int .i64 0)) v21 (.int .i64 0)) fun v22 =>
bindP (pPick v18 (.bool true) v22) fun v23 =>
ifB v23 (
K (.bool false) w20) (
callP G35 [v3, (.int .i64 20)] w20 fun v25 w24 =>
bindP (lenL v25) fun v26 =>
bindP (bEq Try.prog 3 (.tmp 32) (.const (.int .i64 3)) v26 (.int .i64 3)) fun v27 =>
stepM (gd true v27) v25 fun v28 =>
Sx.stepG (gd true v27) (pIndexL 2 v28 (.int .i64 0)) fun v29 =>
Sx.stepG (gd true v27) (pFieldAddr 0 v29) fun v30 =>
Sx.stepG (gd true v27) (ld1 v30 w24) fun v31 =>
Sx.stepG (gd true v27) (bEq Try.prog 3 (.tmp 38) (.const (.int .i64 3)) v31 (.int .i64 3)) fun v32 =>
bindP (pPick v27 v32 (.bool false)) fun v33 =>
stepM (gd true v33) v25 fun v34 =>
Sx.stepG (gd true v33) (pIndexL 2 v34 (.int .i64 1)) fun v35 =>
Sx.stepG (gd true v33) (pFieldAddr 0 v35) fun v36 =>
Sx.stepG (gd true v33) (ld1 v36 w24) fun v37 =>
Sx.stepG (gd true v33) (bEq Try.prog 3 (.tmp 45) (.const (.int .i64 7)) v37 (.int .i64 7)) fun v38 =>
bindP (pPick v33 v38 (.bool false)) fun v39 =>
stepM (gd true v39) v25 fun v40 =>
Sx.stepG (gd true v39) (pIndexL 2 v40 (.int .i64 2)) fun v41 =>
Sx.stepG (gd true v39) (pFieldAddr 0 v41) fun v42 =>
Sx.stepG (gd true v39) (ld1 v42 w24) fun v43 =>
Sx.stepG (gd true v39) (bEq Try.prog 3 (.tmp 52) (.const (.int .i64 9)) v43 (.int .i64 9)) fun v44 =>
bindP (pPick v39 v44 (.bool false)) fun v45 =>
stepM (gd true v45) v3 fun v46 =>
stepE (gd true v45) (fun k => callP G75 [v46] w24 k) w24 fun v48 w47 =>
Sx.stepG (gd true v45) (bEq Try.prog 3 (.tmp 57) (.const (.int .i64 0)) v48 (.int .i64 0)) fun v49 =>
bindP (pPick v45 v49 (.bool false)) fun v50 =>
K v50 w47)
def G27 : FnT := fun args w K => on0 (F27 w K) args
def F79 (x0 : Value) (w : World) (K : Value → World → Prop) : Prop :=
bindP (bEq Try.prog 52 (.tmp 3) (.const (.slice none 0 0)) x0 (.slice none 0 0)) fun v1 =>
ifB v1 (
K (.slice none 0 0) w) (
eBuildSl Try.prog 52 0 [] w fun v3 w2 =>
eAppend Try.prog 52 52 v3 x0 w2 fun v5 w4 =>
K v5 w4)
def G79 : FnT := fun args w K => on1 (fun x0 => F79 x0 w K) args
def G80 : FnT := gSortF Try.prog 2 55
def F30 (x0 : Value) (w : World) (K : Value → World → Prop) : Prop :=
bindP (pNil x0) fun v1 =>
bindP (pFieldAddr 1 v1) fun v2 =>
bindP (ld1 v2 w) fun v3 =>
callP G79 [v3] w fun v5 w4 =>
callP G80 [v5, (.func (.func 81) #[] #[])] w4 fun _ w6 =>
K v5 w6
def G30 : FnT := fun args w K => on1 (fun x0 => F30 x0 w K) args
def F6_5b (w : World) (K : Value → World → Prop) : Prop :=
K (.bool true) w
def F6_5 (w : World) (K : Value → World → Prop) : Prop := F6_5b w K
def F6_4b (s13 : Value) (s14 : Value) (s129 : Value) (s130 : Value) (w : World) (K : Value → World → Prop) (Y0 : Value → Value → Value → Value → World → Prop) (Y1 : World → Prop) : Prop :=
bindP (bLt s130 s129) fun v1 =>
ifB v1 (
bindP (pIndexL 2 s13 s130) fun v2 =>
bindP (ldN 2 v2 w.drew) fun v3 =>
bindP (pIndexL 2 s14 s130) fun v4 =>
bindP (ldN 2 v4 w.drew) fun v5 =>
bindP (bNe Try.prog 55 (.tmp 136) (.tmp 140) v3 v5) fun v6 =>
ifB v6 (
K (.bool false) w.drew) (
bindP (bAdd s130 (.int .i64 1)) fun v7 =>
Y0 s13 s14 s129 v7 w.drew)) (
Y1 w)
def F6_4L : Nat → Value → Value → Value → Value → World → (Value → World → Prop) → Prop
  | 0, _, _, _, _, _, _ => False
  | n + 1, s13, s14, s129, s130, w, K => F6_4b s13 s14 s129 s130 w K (fun a13 a14 a129 a130 w => F6_4L n a13 a14 a129 a130 w K) (fun w => F6_5 w K)
def F6_4 (s13 : Value) (s14 : Value) (s129 : Value) (s130 : Value) (w : World) (K : Value → World → Prop) : Prop := F6_4L fuel s13 s14 s129 s130 w K
def F6_3b (s0 : Value) (s5 : Value) (s7 : Value) (w : World) (K : Value → World → Prop) (Y0 : Value → Value → Value → Value → World → Prop) : Prop :=
callP G30 [s5] w fun v9 w8 =>
callP G30 [s7] w8 fun v11 w10 =>
bindP (lenL v9) fun v12 =>
bindP (lenL v11) fun v13 =>
bindP (bNe Try.prog 3 (.tmp 117) (.tmp 119) v12 v13) fun v14 =>
stepM (gd false v14) v9 fun v15 =>
Sx.stepG (gd false v14) (lenL v15) fun v16 =>
stepM (gd false v14) s0 fun v17 =>
Sx.stepG (gd false v14) (lenL v17) fun v18 =>
Sx.stepG (gd false v14) (bNe Try.prog 3 (.tmp 123) (.tmp 125) v16 v18) fun v19 =>
bindP (pPick v14 (.bool true) v19) fun v20 =>
ifB v20 (
K (.bool false) w10) (
bindP (lenL v9) fun v21 =>
Y0 v9 v11 v21 (.int .i64 0) w10)
def F6_3 (s0 : Value) (s5 : Value) (s7 : Value) (w : World) (K : Value → World → Prop) : Prop := F6_3b s0 s5 s7 w K (fun a13 a14 a129 a130 w => F6_4 a13 a14 a129 a130 w K)
def F6_7b (s0 : Value) (s1 : Value) (s5 : Value) (s7 : Value) (s48 : Value) (s49 : Value) (w : World) (_K : Value → World → Prop) (R5 : Value → Value → Value → Value → Value → Value → World → Prop) : Prop :=
bindP (bAdd s49 (.int .i64 1)) fun v22 =>
R5 s0 s1 s5 s7 s48 v22 w
def F6_7 (s0 : Value) (s1 : Value) (s5 : Value) (s7 : Value) (s48 : Value) (s49 : Value) (w : World) (K : Value → World → Prop) (R5 : Value → Value → Value → Value → Value → Value → World → Prop) : Prop := F6_7b s0 s1 s5 s7 s48 s49 w K R5
def F6_6b (s0 : Value) (s1 : Value) (s5 : Value) (s7 : Value) (s48 : Value) (s49 : Value) (w : World) (K : Value → World → Prop) (R5 : Value → Value → Value → Value → Value → Value → World → Prop) (Y0 : Value → Value → Value → Value → Value → Value → World → Prop) (Y1 : Value → Value → Value → World → Prop) : Prop :=
bindP (bLt s49 s48) fun v23 =>
ifB v23 (
bindP (pIndexL 2 s0 s49) fun v24 =>
bindP (ldN 2 v24 w.drew) fun v25 =>
bindP (lenL s0) fun v26 =>
bindP (bSub v26 (.int .i64 1)) fun v27 =>
bindP (bSub v27 s49) fun v28 =>
bindP (pIndexL 2 s0 v28) fun v29 =>
bindP (ldN 2 v29 w.drew) fun v30 =>
(eAlloc Try.prog 49 w.drew fun v32 w31 =>
(fok true (ldN 2 v24 w31) v25 ∧ fok true (lenL s0) v26 ∧ fok true (ldN 2 v29 w31) v30) ∧ (eAlloc Try.prog 49 w31 fun v34 w33 =>
(fok true (ldN 2 v24 w33) v25 ∧ fok true (lenL s0) v26 ∧ fok true (ldN 2 v29 w33) v30) ∧ (bindW (st 2 v32 v25 w33) fun w35 =>
(fok true (lenL s0) v26 ∧ fok true (ldN 2 v29 w35) v30) ∧ (bindW (st 2 v34 v30 w35) fun w37 =>
bindP (pIndexP 2 1 v32 (.int .i64 1)) fun v39 =>
bindP (ld1 v39 w37) fun v40 =>
callP G15 [v40, (.int .i64 100)] w37 fun v42 w41 =>
callP G28 [s5, s49, v42] w41 fun v44 w43 =>
bindP (bNe Try.prog 24 (.tmp 69) (.const (.int .i64 0)) v44 (.int .i64 0)) fun v45 =>
stepM (gd false v45) s7 fun v46 =>
stepM (gd false v45) s0 fun v47 =>
Sx.stepG (gd false v45) (lenL v47) fun v48 =>
Sx.stepG (gd false v45) (bSub v48 (.int .i64 1)) fun v49 =>
stepM (gd false v45) s49 fun v50 =>
Sx.stepG (gd false v45) (bSub v49 v50) fun v51 =>
Sx.stepG (gd false v45) (pIndexP 2 1 v34 (.int .i64 1)) fun v52 =>
Sx.stepG (gd false v45) (ld1 v52 w43) fun v53 =>
stepE (gd false v45) (fun k => callP G15 [v53, (.int .i64 100)] w43 k) w43 fun v55 w54 =>
stepE (gd false v45) (fun k => callP G28 [v46, v51, v55] w54 k) w54 fun v57 w56 =>
Sx.stepG (gd false v45) (bNe Try.prog 24 (.tmp 81) (.const (.int .i64 0)) v57 (.int .i64 0)) fun v58 =>
bindP (pPick v45 (.bool true) v58) fun v59 =>
ifB v59 (
K (.bool false) w56) (
bindP (lenL s1) fun v60 =>
bindP (bLt s49 v60) fun v61 =>
ifB v61 (
bindP (pIndexL 1 s1 s49) fun v62 =>
bindP (ld1 v62 w56) fun v63 =>
callP G15 [v63, (.int .i64 50)] w56 fun v65 w64 =>
bindP (bAdd (.int .i64 1000) v65) fun v66 =>
bindP (pIndexL 1 s1 s49) fun v67 =>
bindP (ld1 v67 w64) fun v68 =>
callP G15 [v68, (.int .i64 100)] w64 fun v70 w69 =>
callP G28 [s7, v66, v70] w69 fun _ w71 =>
callP G29 [s7, v66] w71 fun v74 w73 =>
bindP (uNot v74) fun v75 =>
stepM (gd false v75) s7 fun v76 =>
stepM (gd false v75) v66 fun v77 =>
stepE (gd false v75) (fun k => callP G29 [v76, v77] w73 k) w73 fun v79 w78 =>
bindP (pPick v75 (.bool true) v79) fun v80 =>
ifB v80 (
K (.bool false) w78) (
Y0 s0 s1 s5 s7 s48 s49 w78)) (
Y0 s0 s1 s5 s7 s48 s49 w56)))))) ∧ (eAlloc Try.prog 49 w.drew fun v82 w81 =>
(fok true (ldN 2 v24 w81) v25 ∧ fok true (lenL s0) v26 ∧ fok true (ldN 2 v29 w81) v30) ∧ (eAlloc Try.prog 49 w81 fun v84 w83 =>
(fok true (ldN 2 v24 w83) v25 ∧ fok true (lenL s0) v26 ∧ fok true (ldN 2 v29 w83) v30) ∧ (bindW (st 2 v84 v25 w83) fun w85 =>
(fok true (lenL s0) v26 ∧ fok true (ldN 2 v29 w85) v30) ∧ (bindW (st 2 v82 v30 w85) fun w87 =>
bindP (pIndexP 2 1 v84 (.int .i64 1)) fun v89 =>
bindP (ld1 v89 w87) fun v90 =>
callP G15 [v90, (.int .i64 100)] w87 fun v92 w91 =>
callP G28 [s5, s49, v92] w91 fun v94 w93 =>
bindP (bNe Try.prog 24 (.tmp 69) (.const (.int .i64 0)) v94 (.int .i64 0)) fun v95 =>
stepM (gd false v95) s7 fun v96 =>
stepM (gd false v95) s0 fun v97 =>
Sx.stepG (gd false v95) (lenL v97) fun v98 =>
Sx.stepG (gd false v95) (bSub v98 (.int .i64 1)) fun v99 =>
stepM (gd false v95) s49 fun v100 =>
Sx.stepG (gd false v95) (bSub v99 v100) fun v101 =>
Sx.stepG (gd false v95) (pIndexP 2 1 v82 (.int .i64 1)) fun v102 =>
Sx.stepG (gd false v95) (ld1 v102 w93) fun v103 =>
stepE (gd false v95) (fun k => callP G15 [v103, (.int .i64 100)] w93 k) w93 fun v105 w104 =>
stepE (gd false v95) (fun k => callP G28 [v96, v101, v105] w104 k) w104 fun v107 w106 =>
Sx.stepG (gd false v95) (bNe Try.prog 24 (.tmp 81) (.const (.int .i64 0)) v107 (.int .i64 0)) fun v108 =>
bindP (pPick v95 (.bool true) v108) fun v109 =>
ifB v109 (
K (.bool false) w106) (
bindP (lenL s1) fun v110 =>
bindP (bLt s49 v110) fun v111 =>
ifB v111 (
bindP (pIndexL 1 s1 s49) fun v112 =>
bindP (ld1 v112 w106) fun v113 =>
callP G15 [v113, (.int .i64 50)] w106 fun v115 w114 =>
bindP (bAdd (.int .i64 1000) v115) fun v116 =>
bindP (pIndexL 1 s1 s49) fun v117 =>
bindP (ld1 v117 w114) fun v118 =>
callP G15 [v118, (.int .i64 100)] w114 fun v120 w119 =>
callP G28 [s7, v116, v120] w119 fun _ w121 =>
callP G29 [s7, v116] w121 fun v124 w123 =>
bindP (uNot v124) fun v125 =>
stepM (gd false v125) s7 fun v126 =>
stepM (gd false v125) v116 fun v127 =>
stepE (gd false v125) (fun k => callP G29 [v126, v127] w123 k) w123 fun v129 w128 =>
bindP (pPick v125 (.bool true) v129) fun v130 =>
ifB v130 (
K (.bool false) w128) (
Y0 s0 s1 s5 s7 s48 s49 w128)) (
Y0 s0 s1 s5 s7 s48 s49 w106))))))) (
Y1 s0 s5 s7 w)
def F6_6 (s0 : Value) (s1 : Value) (s5 : Value) (s7 : Value) (s48 : Value) (s49 : Value) (w : World) (K : Value → World → Prop) (R5 : Value → Value → Value → Value → Value → Value → World → Prop) : Prop := F6_6b s0 s1 s5 s7 s48 s49 w K R5 (fun a0 a1 a5 a7 a48 a49 w => F6_7 a0 a1 a5 a7 a48 a49 w K R5) (fun a0 a5 a7 w => F6_3 a0 a5 a7 w K)
def F6_2L : Nat → Value → Value → Value → Value → Value → Value → World → (Value → World → Prop) → Prop
  | 0, _, _, _, _, _, _, _, _ => False
  | n + 1, s0, s1, s5, s7, s48, s49, w, K => F6_6 s0 s1 s5 s7 s48 s49 w K (fun a0 a1 a5 a7 a48 a49 w => F6_2L n a0 a1 a5 a7 a48 a49 w K)
def F6_2 (s0 : Value) (s1 : Value) (s5 : Value) (s7 : Value) (s48 : Value) (s49 : Value) (w : World) (K : Value → World → Prop) : Prop := F6_2L fuel s0 s1 s5 s7 s48 s49 w K
def F6_1b (s0 : Value) (s1 : Value) (w : World) (K : Value → World → Prop) (Y0 : Value → Value → Value → Value → Value → Value → World → Prop) : Prop :=
callP G26 [(.int .i64 200)] w fun v132 w131 =>
bindP (pTuple v132 0) fun v133 =>
bindP (pTuple v132 1) fun v134 =>
callP G26 [(.int .i64 200)] w131 fun v136 w135 =>
bindP (pTuple v136 0) fun v137 =>
bindP (pTuple v136 1) fun v138 =>
bindP (bEq Try.prog 46 (.tmp 24) (.const (.pointer none)) v133 (.pointer none)) fun v139 =>
stepM (gd false v139) v137 fun v140 =>
Sx.stepG (gd false v139) (bEq Try.prog 46 (.tmp 27) (.const (.pointer none)) v140 (.pointer none)) fun v141 =>
bindP (pPick v139 (.bool true) v141) fun v142 =>
stepM (gd false v142) v134 fun v143 =>
Sx.stepG (gd false v142) (bNe Try.prog 24 (.tmp 31) (.const (.int .i64 0)) v143 (.int .i64 0)) fun v144 =>
bindP (pPick v142 (.bool true) v144) fun v145 =>
stepM (gd false v145) v138 fun v146 =>
Sx.stepG (gd false v145) (bNe Try.prog 24 (.tmp 35) (.const (.int .i64 0)) v146 (.int .i64 0)) fun v147 =>
bindP (pPick v145 (.bool true) v147) fun v148 =>
stepE (gd false v148) (fun k => callP G27 [] w135 k) w135 fun v150 w149 =>
Sx.stepG (gd false v148) (uNot v150) fun v151 =>
bindP (pPick v148 (.bool true) v151) fun v152 =>
ifB v152 (
K (.bool false) w149) (
bindP (lenL s0) fun v153 =>
bindP (pMin v153 (.int .i64 60)) fun v154 =>
bindP (pSliceL 2 s0 none (some v154) none) fun v155 =>
bindP (lenL v155) fun v156 =>
Y0 v155 s1 v133 v137 v156 (.int .i64 0) w149)
def F6_1 (s0 : Value) (s1 : Value) (w : World) (K : Value → World → Prop) : Prop := F6_1b s0 s1 w K (fun a0 a1 a5 a7 a48 a49 w => F6_2 a0 a1 a5 a7 a48 a49 w K)
def F6 (x0 : Value) (x1 : Value) (w : World) (K : Value → World → Prop) : Prop := F6_1 x0 x1 w K
def G6 : FnT := fun args w K => on2 (fun x0 x1 => F6 x0 x1 w K) args
theorem c6 {x0 x1 : Value} {w : World} {K : Value → World → Prop} (h : F6 x0 x1 w K) : callP G6 [x0, x1] w K := callP_intro (on2_mk (p := fun x0 x1 => F6 x0 x1 w K) h)
def F31 (x0 : Value) (w : World) (K : Value → World → Prop) : Prop :=
bindP (bLt x0 (.int .i64 1)) fun v1 =>
stepM (gd false v1) x0 fun v2 =>
Sx.stepG (gd false v1) (bGt v2 (.int .i64 65536)) fun v3 =>
bindP (pPick v1 (.bool true) v3) fun v4 =>
ifB v4 (
K (.tuple #[(.pointer none), (.int .i64 1)]) w) (
bindP (fBuild Try.prog 133 [(0, x0)]) fun v5 =>
eBox 133 v5 w fun v7 w6 =>
K (.tuple #[v7, (.int .i64 0)]) w6)
def G31 : FnT := fun args w K => on1 (fun x0 => F31 x0 w K) args
def F33_3b (s0 : Value) (s5 : Value) (w : World) (K : Value → World → Prop) : Prop :=
bindP (lenL s5) fun v1 =>
bindP (pNil s0) fun v2 =>
bindP (pFieldAddr 1 v2) fun v3 =>
bindP (ld1 v3 w) fun v4 =>
bindP (lenL v4) fun v5 =>
bindP (bLt v1 v5) fun v6 =>
bindP (pNil s0) fun v7 =>
bindP (pFieldAddr 1 v7) fun v8 =>
bindW (st 1 v8 s5 w) fun w9 =>
K v6 w9
def F33_3 (s0 : Value) (s5 : Value) (w : World) (K : Value → World → Prop) : Prop := F33_3b s0 s5 w K
def F33_5b (s0 : Value) (s1 : Value) (s5 : Value) (s6 : Value) (w : World) (_K : Value → World → Prop) (R3 : Value → Value → Value → Value → World → Prop) : Prop :=
bindP (bAdd s6 (.int .i64 1)) fun v11 =>
R3 s0 s1 s5 v11 w
def F33_5 (s0 : Value) (s1 : Value) (s5 : Value) (s6 : Value) (w : World) (K : Value → World → Prop) (R3 : Value → Value → Value → Value → World → Prop) : Prop := F33_5b s0 s1 s5 s6 w K R3
def F33_4b (s0 : Value) (s1 : Value) (s5 : Value) (s6 : Value) (w : World) (_K : Value → World → Prop) (R3 : Value → Value → Value → Value → World → Prop) (Y0 : Value → Value → Value → Value → World → Prop) (Y1 : Value → Value → World → Prop) : Prop :=
bindP (pNil s0) fun v12 =>
bindP (pFieldAddr 1 v12) fun v13 =>
bindP (ld1 v13 w) fun v14 =>
bindP (lenL v14) fun v15 =>
bindP (bLt s6 v15) fun v16 =>
ifB v16 (
bindP (pNil s0) fun v17 =>
bindP (pFieldAddr 1 v17) fun v18 =>
bindP (ld1 v18 w) fun v19 =>
bindP (pIndexL 2 v19 s6) fun v20 =>
bindP (pFieldAddr 0 v20) fun v21 =>
bindP (ld1 v21 w) fun v22 =>
bindP (bNe Try.prog 3 (.tmp 24) (.tmp 25) v22 s1) fun v23 =>
ifB v23 (
bindP (pNil s0) fun v24 =>
bindP (pFieldAddr 1 v24) fun v25 =>
bindP (ld1 v25 w) fun v26 =>
bindP (pIndexL 2 v26 s6) fun v27 =>
bindP (ldN 2 v27 w) fun v28 =>
eBuildSl Try.prog 65 1 [(0, v28)] w fun v30 w29 =>
eAppend Try.prog 65 65 s5 v30 w29 fun v32 w31 =>
Y0 s0 s1 v32 s6 w31) (
Y0 s0 s1 s5 s6 w)) (
Y1 s0 s5 w)
def F33_4 (s0 : Value) (s1 : Value) (s5 : Value) (s6 : Value) (w : World) (K : Value → World → Prop) (R3 : Value → Value → Value → Value → World → Prop) : Prop := F33_4b s0 s1 s5 s6 w K R3 (fun a0 a1 a5 a6 w => F33_5 a0 a1 a5 a6 w K R3) (fun a0 a5 w => F33_3 a0 a5 w K)
def F33_2L : Nat → Value → Value → Value → Value → World → (Value → World → Prop) → Prop
  | 0, _, _, _, _, _, _ => False
  | n + 1, s0, s1, s5, s6, w, K => F33_4 s0 s1 s5 s6 w K (fun a0 a1 a5 a6 w => F33_2L n a0 a1 a5 a6 w K)
def F33_2 (s0 : Value) (s1 : Value) (s5 : Value) (s6 : Value) (w : World) (K : Value → World → Prop) : Prop := F33_2L fuel s0 s1 s5 s6 w K
def F33_1b (s0 : Value) (s1 : Value) (w : World) (_K : Value → World → Prop) (Y0 : Value → Value → Value → Value → World → Prop) : Prop :=
Y0 s0 s1 (.slice none 0 0) (.int .i64 0) w
def F33_1 (s0 : Value) (s1 : Value) (w : World) (K : Value → World → Prop) : Prop := F33_1b s0 s1 w K (fun a0 a1 a5 a6 w => F33_2 a0 a1 a5 a6 w K)
def F33 (x0 : Value) (x1 : Value) (w : World) (K : Value → World → Prop) : Prop := F33_1 x0 x1 w K
def G33 : FnT := fun args w K => on2 (fun x0 x1 => F33 x0 x1 w K) args
def F82_3b (w : World) (K : Value → World → Prop) : Prop :=
K (.tuple #[(.int .i64 0), (.bool false)]) w
def F82_3 (w : World) (K : Value → World → Prop) : Prop := F82_3b w K
def F82_2b (s0 : Value) (s1 : Value) (s6 : Value) (w : World) (K : Value → World → Prop) (Y0 : Value → Value → Value → World → Prop) (Y1 : World → Prop) : Prop :=
bindP (pNil s0) fun v1 =>
bindP (pFieldAddr 1 v1) fun v2 =>
bindP (ld1 v2 w) fun v3 =>
bindP (lenL v3) fun v4 =>
bindP (bLt s6 v4) fun v5 =>
ifB v5 (
bindP (pNil s0) fun v6 =>
bindP (pFieldAddr 1 v6) fun v7 =>
bindP (ld1 v7 w) fun v8 =>
bindP (pIndexL 2 v8 s6) fun v9 =>
bindP (pFieldAddr 0 v9) fun v10 =>
bindP (ld1 v10 w) fun v11 =>
bindP (bEq Try.prog 3 (.tmp 23) (.tmp 24) v11 s1) fun v12 =>
ifB v12 (
bindP (pNil s0) fun v13 =>
bindP (pFieldAddr 1 v13) fun v14 =>
bindP (ld1 v14 w) fun v15 =>
bindP (pIndexL 2 v15 s6) fun v16 =>
bindP (pFieldAddr 1 v16) fun v17 =>
bindP (ld1 v17 w) fun v18 =>
K (.tuple #[v18, (.bool true)]) w) (
bindP (bAdd s6 (.int .i64 1)) fun v19 =>
Y0 s0 s1 v19 w)) (
Y1 w)
def F82_2L : Nat → Value → Value → Value → World → (Value → World → Prop) → Prop
  | 0, _, _, _, _, _ => False
  | n + 1, s0, s1, s6, w, K => F82_2b s0 s1 s6 w K (fun a0 a1 a6 w => F82_2L n a0 a1 a6 w K) (fun w => F82_3 w K)
def F82_2 (s0 : Value) (s1 : Value) (s6 : Value) (w : World) (K : Value → World → Prop) : Prop := F82_2L fuel s0 s1 s6 w K
def F82_1b (s0 : Value) (s1 : Value) (w : World) (_K : Value → World → Prop) (Y0 : Value → Value → Value → World → Prop) : Prop :=
Y0 s0 s1 (.int .i64 0) w
def F82_1 (s0 : Value) (s1 : Value) (w : World) (K : Value → World → Prop) : Prop := F82_1b s0 s1 w K (fun a0 a1 a6 w => F82_2 a0 a1 a6 w K)
def F82 (x0 : Value) (x1 : Value) (w : World) (K : Value → World → Prop) : Prop := F82_1 x0 x1 w K
def G82 : FnT := fun args w K => on2 (fun x0 x1 => F82 x0 x1 w K) args
def F32_3b (s0 : Value) (s1 : Value) (s2 : Value) (s9 : Value) (w : World) (K : Value → World → Prop) : Prop :=
bindP (pNil s0) fun v1 =>
bindP (pFieldAddr 1 v1) fun v2 =>
bindP (ld1 v2 w) fun v3 =>
bindP (pSliceL 2 v3 none (some s9) none) fun v4 =>
eAppend Try.prog 65 65 (.slice none 0 0) v4 w fun v6 w5 =>
bindP (fBuild Try.prog 135 [(0, s1), (1, s2)]) fun v7 =>
eBuildSl Try.prog 65 1 [(0, v7)] w5 fun v9 w8 =>
eAppend Try.prog 65 65 v6 v9 w8 fun v11 w10 =>
bindP (pNil s0) fun v12 =>
bindP (pFieldAddr 1 v12) fun v13 =>
bindP (ld1 v13 w10) fun v14 =>
bindP (pSliceL 2 v14 (some s9) none none) fun v15 =>
eAppend Try.prog 65 65 v11 v15 w10 fun v17 w16 =>
bindP (pNil s0) fun v18 =>
bindP (pFieldAddr 1 v18) fun v19 =>
bindW (st 1 v19 v17 w16) fun w20 =>
K (.int .i64 0) w20
def F32_3 (s0 : Value) (s1 : Value) (s2 : Value) (s9 : Value) (w : World) (K : Value → World → Prop) : Prop := F32_3b s0 s1 s2 s9 w K
def F32_2b (s0 : Value) (s1 : Value) (s2 : Value) (s9 : Value) (w : World) (_K : Value → World → Prop) (Y0 : Value → Value → Value → Value → World → Prop) (Y1 : Value → Value → Value → Value → World → Prop) : Prop :=
bindP (pNil s0) fun v22 =>
bindP (pFieldAddr 1 v22) fun v23 =>
bindP (ld1 v23 w) fun v24 =>
bindP (lenL v24) fun v25 =>
bindP (bLt s9 v25) fun v26 =>
stepM (gd true v26) s0 fun v27 =>
Sx.stepG (gd true v26) (pNil v27) fun v28 =>
Sx.stepG (gd true v26) (pFieldAddr 1 v28) fun v29 =>
Sx.stepG (gd true v26) (ld1 v29 w) fun v30 =>
stepM (gd true v26) s9 fun v31 =>
Sx.stepG (gd true v26) (pIndexL 2 v30 v31) fun v32 =>
Sx.stepG (gd true v26) (pFieldAddr 1 v32) fun v33 =>
Sx.stepG (gd true v26) (ld1 v33 w) fun v34 =>
stepM (gd true v26) s2 fun v35 =>
Sx.stepG (gd true v26) (bLt v34 v35) fun v36 =>
stepM (gd true v26) v36 fun v37 =>
stepM (gd false v37) s0 fun v38 =>
Sx.stepG (gd false v37) (pNil v38) fun v39 =>
Sx.stepG (gd false v37) (pFieldAddr 1 v39) fun v40 =>
Sx.stepG (gd false v37) (ld1 v40 w) fun v41 =>
stepM (gd false v37) s9 fun v42 =>
Sx.stepG (gd false v37) (pIndexL 2 v41 v42) fun v43 =>
Sx.stepG (gd false v37) (pFieldAddr 1 v43) fun v44 =>
Sx.stepG (gd false v37) (ld1 v44 w) fun v45 =>
stepM (gd false v37) s2 fun v46 =>
Sx.stepG (gd false v37) (bEq Try.prog 3 (.tmp 66) (.tmp 67) v45 v46) fun v47 =>
stepM (gd false v37) v47 fun v48 =>
stepM (gd true v48) s0 fun v49 =>
Sx.stepG (gd true v48) (pNil v49) fun v50 =>
Sx.stepG (gd true v48) (pFieldAddr 1 v50) fun v51 =>
Sx.stepG (gd true v48) (ld1 v51 w) fun v52 =>
stepM (gd true v48) s9 fun v53 =>
Sx.stepG (gd true v48) (pIndexL 2 v52 v53) fun v54 =>
Sx.stepG (gd true v48) (pFieldAddr 0 v54) fun v55 =>
Sx.stepG (gd true v48) (ld1 v55 w) fun v56 =>
stepM (gd true v48) s1 fun v57 =>
Sx.stepG (gd true v48) (bLt v56 v57) fun v58 =>
Sx.stepG (gd false v37) (pPick v48 v58 (.bool false)) fun v59 =>
Sx.stepG (gd true v26) (pPick v37 (.bool true) v59) fun v60 =>
bindP (pPick v26 v60 (.bool false)) fun v61 =>
ifB v61 (
bindP (bAdd s9 (.int .i64 1)) fun v62 =>
Y0 s0 s1 s2 v62 w) (
Y1 s0 s1 s2 s9 w)
def F32_2L : Nat → Value → Value → Value → Value → World → (Value → World → Prop) → Prop
  | 0, _, _, _, _, _, _ => False
  | n + 1, s0, s1, s2, s9, w, K => F32_2b s0 s1 s2 s9 w K (fun a0 a1 a2 a9 w => F32_2L n a0 a1 a2 a9 w K) (fun a0 a1 a2 a9 w => F32_3 a0 a1 a2 a9 w K)
def F32_2 (s0 : Value) (s1 : Value) (s2 : Value) (s9 : Value) (w : World) (K : Value → World → Prop) : Prop := F32_2L fuel s0 s1 s2 s9 w K
def F32_1b (s0 : Value) (s1 : Value) (s2 : Value) (w : World) (K : Value → World → Prop) (Y0 : Value → Value → Value → Value → World → Prop) : Prop :=
bindP (bLt s2 (.int .i64 0)) fun v63 =>
stepM (gd false v63) s2 fun v64 =>
Sx.stepG (gd false v63) (bGt v64 (.int .i64 2305843009213693952)) fun v65 =>
bindP (pPick v63 (.bool true) v65) fun v66 =>
ifB v66 (
K (.int .i64 1) w) (
callP G82 [s0, s1] w fun v68 w67 =>
bindP (pTuple v68 0) fun _ =>
bindP (pTuple v68 1) fun v70 =>
bindP (uNot v70) fun v71 =>
stepM (gd true v71) s0 fun v72 =>
Sx.stepG (gd true v71) (pNil v72) fun v73 =>
Sx.stepG (gd true v71) (pFieldAddr 1 v73) fun v74 =>
Sx.stepG (gd true v71) (ld1 v74 w67.drew) fun v75 =>
Sx.stepG (gd true v71) (lenL v75) fun v76 =>
stepM (gd true v71) s0 fun v77 =>
Sx.stepG (gd true v71) (pNil v77) fun v78 =>
Sx.stepG (gd true v71) (pFieldAddr 0 v78) fun v79 =>
Sx.stepG (gd true v71) (ld1 v79 w67.drew) fun v80 =>
Sx.stepG (gd true v71) (bGe v76 v80) fun v81 =>
bindP (pPick v71 v81 (.bool false)) fun v82 =>
ifB v82 (
K (.int .i64 200) w67.drew) (
callP G33 [s0, s1] w67.drew fun _ w83 =>
Y0 s0 s1 s2 (.int .i64 0) w83))
def F32_1 (s0 : Value) (s1 : Value) (s2 : Value) (w : World) (K : Value → World → Prop) : Prop := F32_1b s0 s1 s2 w K (fun a0 a1 a2 a9 w => F32_2 a0 a1 a2 a9 w K)
def F32 (x0 : Value) (x1 : Value) (x2 : Value) (w : World) (K : Value → World → Prop) : Prop := F32_1 x0 x1 x2 w K
def G32 : FnT := fun args w K => on3 (fun x0 x1 x2 => F32 x0 x1 x2 w K) args
def F34_3b (w : World) (K : Value → World → Prop) : Prop :=
K (.bool true) w
def F34_3 (w : World) (K : Value → World → Prop) : Prop := F34_3b w K
def F34_2b (s0 : Value) (s1 : Value) (s5 : Value) (w : World) (K : Value → World → Prop) (Y0 : Value → Value → Value → World → Prop) (Y1 : World → Prop) : Prop :=
bindP (lenL s0) fun v1 =>
bindP (bLt s5 v1) fun v2 =>
ifB v2 (
bindP (pIndexL 2 s0 s5) fun v3 =>
bindP (pFieldAddr 0 v3) fun v4 =>
bindP (ld1 v4 w.drew) fun v5 =>
bindP (pIndexL 2 s1 s5) fun v6 =>
bindP (pFieldAddr 0 v6) fun v7 =>
bindP (ld1 v7 w.drew) fun v8 =>
bindP (bNe Try.prog 3 (.tmp 21) (.tmp 26) v5 v8) fun v9 =>
stepM (gd false v9) s0 fun v10 =>
stepM (gd false v9) s5 fun v11 =>
Sx.stepG (gd false v9) (pIndexL 2 v10 v11) fun v12 =>
Sx.stepG (gd false v9) (pFieldAddr 1 v12) fun v13 =>
Sx.stepG (gd false v9) (ld1 v13 w.drew) fun v14 =>
stepM (gd false v9) s1 fun v15 =>
stepM (gd false v9) s5 fun v16 =>
Sx.stepG (gd false v9) (pIndexL 2 v15 v16) fun v17 =>
Sx.stepG (gd false v9) (pFieldAddr 1 v17) fun v18 =>
Sx.stepG (gd false v9) (ld1 v18 w.drew) fun v19 =>
Sx.stepG (gd false v9) (bNe Try.prog 3 (.tmp 33) (.tmp 38) v14 v19) fun v20 =>
bindP (pPick v9 (.bool true) v20) fun v21 =>
ifB v21 (
K (.bool false) w.drew) (
bindP (bAdd s5 (.int .i64 1)) fun v22 =>
Y0 s0 s1 v22 w.drew)) (
Y1 w)
def F34_2L : Nat → Value → Value → Value → World → (Value → World → Prop) → Prop
  | 0, _, _, _, _, _ => False
  | n + 1, s0, s1, s5, w, K => F34_2b s0 s1 s5 w K (fun a0 a1 a5 w => F34_2L n a0 a1 a5 w K) (fun w => F34_3 w K)
def F34_2 (s0 : Value) (s1 : Value) (s5 : Value) (w : World) (K : Value → World → Prop) : Prop := F34_2L fuel s0 s1 s5 w K
def F34_1b (s0 : Value) (s1 : Value) (w : World) (K : Value → World → Prop) (Y0 : Value → Value → Value → World → Prop) : Prop :=
bindP (lenL s0) fun v23 =>
bindP (lenL s1) fun v24 =>
bindP (bNe Try.prog 3 (.tmp 7) (.tmp 9) v23 v24) fun v25 =>
ifB v25 (
K (.bool false) w) (
Y0 s0 s1 (.int .i64 0) w)
def F34_1 (s0 : Value) (s1 : Value) (w : World) (K : Value → World → Prop) : Prop := F34_1b s0 s1 w K (fun a0 a1 a5 w => F34_2 a0 a1 a5 w K)
def F34 (x0 : Value) (x1 : Value) (w : World) (K : Value → World → Prop) : Prop := F34_1 x0 x1 w K
def G34 : FnT := fun args w K => on2 (fun x0 x1 => F34 x0 x1 w K) args
def F36_3b (s0 : Value) (s5 : Value) (w : World) (K : Value → World → Prop) : Prop :=
eBuildSl Try.prog 65 0 [] w fun v2 w1 =>
bindP (pNil s0) fun v3 =>
bindP (pFieldAddr 1 v3) fun v4 =>
bindP (ld1 v4 w1) fun v5 =>
bindP (pSliceL 2 v5 none (some s5) none) fun v6 =>
eAppend Try.prog 65 65 v2 v6 w1 fun v8 w7 =>
eBuildSl Try.prog 65 0 [] w7 fun v10 w9 =>
bindP (pNil s0) fun v11 =>
bindP (pFieldAddr 1 v11) fun v12 =>
bindP (ld1 v12 w9) fun v13 =>
bindP (pSliceL 2 v13 (some s5) none none) fun v14 =>
eAppend Try.prog 65 65 v10 v14 w9 fun v16 w15 =>
bindP (pNil s0) fun v17 =>
bindP (pFieldAddr 1 v17) fun v18 =>
bindW (st 1 v18 v16 w15) fun w19 =>
K v8 w19
def F36_3 (s0 : Value) (s5 : Value) (w : World) (K : Value → World → Prop) : Prop := F36_3b s0 s5 w K
def F36_2b (s0 : Value) (s1 : Value) (s5 : Value) (w : World) (_K : Value → World → Prop) (Y0 : Value → Value → Value → World → Prop) (Y1 : Value → Value → World → Prop) : Prop :=
bindP (pNil s0) fun v21 =>
bindP (pFieldAddr 1 v21) fun v22 =>
bindP (ld1 v22 w) fun v23 =>
bindP (lenL v23) fun v24 =>
bindP (bLt s5 v24) fun v25 =>
stepM (gd true v25) s0 fun v26 =>
Sx.stepG (gd true v25) (pNil v26) fun v27 =>
Sx.stepG (gd true v25) (pFieldAddr 1 v27) fun v28 =>
Sx.stepG (gd true v25) (ld1 v28 w) fun v29 =>
stepM (gd true v25) s5 fun v30 =>
Sx.stepG (gd true v25) (pIndexL 2 v29 v30) fun v31 =>
Sx.stepG (gd true v25) (pFieldAddr 1 v31) fun v32 =>
Sx.stepG (gd true v25) (ld1 v32 w) fun v33 =>
stepM (gd true v25) s1 fun v34 =>
Sx.stepG (gd true v25) (bLe v33 v34) fun v35 =>
bindP (pPick v25 v35 (.bool false)) fun v36 =>
ifB v36 (
bindP (bAdd s5 (.int .i64 1)) fun v37 =>
Y0 s0 s1 v37 w) (
Y1 s0 s5 w)
def F36_2L : Nat → Value → Value → Value → World → (Value → World → Prop) → Prop
  | 0, _, _, _, _, _ => False
  | n + 1, s0, s1, s5, w, K => F36_2b s0 s1 s5 w K (fun a0 a1 a5 w => F36_2L n a0 a1 a5 w K) (fun a0 a5 w => F36_3 a0 a5 w K)
def F36_2 (s0 : Value) (s1 : Value) (s5 : Value) (w : World) (K : Value → World → Prop) : Prop := F36_2L fuel s0 s1 s5 w K
def F36_1b (s0 : Value) (s1 : Value) (w : World) (_K : Value → World → Prop) (Y0 : Value → Value → Value → World → Prop) : Prop :=
Y0 s0 s1 (.int .i64 0) w
def F36_1 (s0 : Value) (s1 : Value) (w : World) (K : Value → World → Prop) : Prop := F36_1b s0 s1 w K (fun a0 a1 a5 w => F36_2 a0 a1 a5 w K)
def F36 (x0 : Value) (x1 : Value) (w : World) (K : Value → World → Prop) : Prop := F36_1 x0 x1 w K
def G36 : FnT := fun args w K => on2 (fun x0 x1 => F36 x0 x1 w K) args
def G118 : FnT := gClone
theorem ok118 : OkF Try.prog 118 G118 := okClone Try.func118 (by kernel_rfl) (by kernel_rfl) (by kernel_rfl) (by kernel_rfl)
def F84 (x0 : Value) (w : World) (K : Value → World → Prop) : Prop :=
bindP (bEq Try.prog 124 (.tmp 3) (.const (.map none)) x0 (.map none)) fun v1 =>
ifB v1 (
K (.map none) w) (
bindP (fMkI Try.prog 124 x0) fun v2 =>
callP G118 [v2] w fun v4 w3 =>
bindP (fAssert Try.prog v4 124 false) fun v5 =>
K v5 w3)
def G84 : FnT := fun args w K => on1 (fun x0 => F84 x0 w K) args
def F37 (x0 : Value) (w : World) (K : Value → World → Prop) : Prop :=
bindP (pNil x0) fun v1 =>
bindP (pFieldAddr 0 v1) fun v2 =>
bindP (ld1 v2 w.drew) fun v3 =>
bindP (pNil x0) fun v4 =>
bindP (pFieldAddr 1 v4) fun v5 =>
bindP (ld1 v5 w.drew) fun v6 =>
bindP (pNil x0) fun v7 =>
bindP (pFieldAddr 2 v7) fun v8 =>
bindP (ld1 v8 w.drew) fun v9 =>
callP G79 [v6] w.drew fun v11 w10 =>
(fok true (ld1 v2 w10) v3 ∧ fok true (ld1 v8 w10) v9) ∧ (callP G84 [v9] w10 fun v13 w12 =>
fok true (ld1 v2 w12) v3 ∧ (bindP (fBuild Try.prog 126 [(0, v3), (1, v11), (2, v13)]) fun v14 =>
eBox 126 v14 w12 fun v16 w15 =>
K v16 w15))
def G37 : FnT := fun args w K => on1 (fun x0 => F37 x0 w K) args
def F85 (x0 : Value) (x1 : Value) (w : World) (K : Value → World → Prop) : Prop :=
bindP (pNil x0) fun v1 =>
bindP (pFieldAddr 2 v1) fun v2 =>
bindP (ld1 v2 w) fun v3 =>
bindP (fLook Try.prog 124 v3 x1 true w) fun v4 =>
bindP (pTuple v4 0) fun v5 =>
bindP (pTuple v4 1) fun v6 =>
bindP (uNot v6) fun v7 =>
ifB v7 (
K (.tuple #[(.int .i64 0), (.bool false)]) w) (
bindP (pNil x0) fun v8 =>
bindP (pFieldAddr 1 v8) fun v9 =>
bindP (ld1 v9 w) fun v10 =>
bindP (pIndexL 2 v10 v5) fun v11 =>
bindP (pFieldAddr 1 v11) fun v12 =>
bindP (ld1 v12 w) fun v13 =>
K (.tuple #[v13, (.bool true)]) w)
def G85 : FnT := fun args w K => on2 (fun x0 x1 => F85 x0 x1 w K) args
def F86 (x0 : Value) (w : World) (K : Value → World → Prop) : Prop :=
eAlloc Try.prog 135 w fun v2 w1 =>
bindP (pNil x0) fun v3 =>
bindP (pFieldAddr 1 v3) fun v4 =>
bindP (ld1 v4 w1) fun v5 =>
bindP (lenL v5) fun v6 =>
bindP (bEq Try.prog 3 (.tmp 8) (.const (.int .i64 0)) v6 (.int .i64 0)) fun v7 =>
ifB v7 (
bindP (fBuild Try.prog 135 []) fun v8 =>
bindW (st 2 v2 v8 w1) fun w9 =>
bindP (ldN 2 v2 w9) fun v11 =>
K (.tuple #[v11, (.bool false)]) w9) (
bindP (pNil x0) fun v12 =>
bindP (pFieldAddr 1 v12) fun v13 =>
bindP (ld1 v13 w1) fun v14 =>
bindP (pIndexL 2 v14 (.int .i64 0)) fun v15 =>
bindP (ldN 2 v15 w1) fun v16 =>
bindW (st 2 v2 v16 w1) fun w17 =>
bindP (ldN 2 v2 w17) fun v19 =>
K (.tuple #[v19, (.bool true)]) w17)
def G86 : FnT := fun args w K => on1 (fun x0 => F86 x0 w K) args
def F38_3b (s0 : Value) (s1 : Value) (s7 : Value) (s8 : Value) (s9 : Value) (s10 : Value) (s11 : Value) (s12 : Value) (s13 : Value) (s14 : Value) (s16 : Value) (w : World) (K : Value → World → Prop) : Prop :=
stepM (gd true s16) s7 fun v1 =>
stepM (gd true s16) s9 fun v2 =>
Sx.stepG (gd true s16) (bEq Try.prog 3 (.tmp 60) (.tmp 61) v1 v2) fun v3 =>
bindP (pPick s16 v3 (.bool false)) fun v4 =>
stepM (gd true v4) s8 fun v5 =>
stepM (gd true v4) s10 fun v6 =>
Sx.stepG (gd true v4) (bEq Try.prog 4 (.tmp 65) (.tmp 66) v5 v6) fun v7 =>
bindP (pPick v4 v7 (.bool false)) fun v8 =>
Sx.stepG (gd true v8) (pFieldAddr 0 s11) fun v9 =>
Sx.stepG (gd true v8) (ld1 v9 w.drew) fun v10 =>
Sx.stepG (gd true v8) (pFieldAddr 0 s13) fun v11 =>
Sx.stepG (gd true v8) (ld1 v11 w.drew) fun v12 =>
Sx.stepG (gd true v8) (bEq Try.prog 3 (.tmp 71) (.tmp 73) v10 v12) fun v13 =>
bindP (pPick v8 v13 (.bool false)) fun v14 =>
Sx.stepG (gd true v14) (pFieldAddr 1 s11) fun v15 =>
Sx.stepG (gd true v14) (ld1 v15 w.drew) fun v16 =>
Sx.stepG (gd true v14) (pFieldAddr 1 s13) fun v17 =>
Sx.stepG (gd true v14) (ld1 v17 w.drew) fun v18 =>
Sx.stepG (gd true v14) (bEq Try.prog 3 (.tmp 78) (.tmp 80) v16 v18) fun v19 =>
bindP (pPick v14 v19 (.bool false)) fun v20 =>
stepM (gd true v20) s12 fun v21 =>
stepM (gd true v20) s14 fun v22 =>
Sx.stepG (gd true v20) (bEq Try.prog 4 (.tmp 84) (.tmp 85) v21 v22) fun v23 =>
bindP (pPick v20 v23 (.bool false)) fun v24 =>
stepM (gd true v24) s0 fun v25 =>
stepM (gd true v24) s1 fun v26 =>
Sx.stepG (gd true v24) (pNil v26) fun v27 =>
Sx.stepG (gd true v24) (pFieldAddr 1 v27) fun v28 =>
Sx.stepG (gd true v24) (ld1 v28 w.drew) fun v29 =>
Sx.stepG (gd true v24) (lenL v29) fun v30 =>
stepE (gd true v24) (fun k => callP G75 [v25] w.drew k) w.drew fun v32 w31 =>
(fok (gd true v24) (ld1 v28 w31) v29 ∧ fok (gd true v24) (lenL v29) v30) ∧ (Sx.stepG (gd true v24) (bEq Try.prog 3 (.tmp 90) (.tmp 95) v32 v30) fun v33 =>
bindP (pPick v24 v33 (.bool false)) fun v34 =>
stepM (gd true v34) s0 fun v35 =>
stepM (gd true v34) s1 fun v36 =>
Sx.stepG (gd true v34) (pNil v36) fun v37 =>
Sx.stepG (gd true v34) (pFieldAddr 1 v37) fun v38 =>
Sx.stepG (gd true v34) (ld1 v38 w31) fun v39 =>
stepE (gd true v34) (fun k => callP G30 [v35] w31 k) w31 fun v41 w40 =>
fok (gd true v34) (ld1 v38 w40) v39 ∧ (stepE (gd true v34) (fun k => callP G34 [v41, v39] w40 k) w40 fun v43 w42 =>
bindP (pPick v34 v43 (.bool false)) fun v44 =>
K v44 w42))
def F38_3 (s0 : Value) (s1 : Value) (s7 : Value) (s8 : Value) (s9 : Value) (s10 : Value) (s11 : Value) (s12 : Value) (s13 : Value) (s14 : Value) (s16 : Value) (w : World) (K : Value → World → Prop) : Prop := F38_3b s0 s1 s7 s8 s9 s10 s11 s12 s13 s14 s16 w K
def F38_2b (s0 : Value) (s1 : Value) (s7 : Value) (s8 : Value) (s9 : Value) (s10 : Value) (s11 : Value) (s12 : Value) (s13 : Value) (s14 : Value) (s15 : Value) (s16 : Value) (s17 : Value) (w : World) (_K : Value → World → Prop) (Y0 : Value → Value → Value → Value → Value → Value → Value → Value → Value → Value → Value → Value → Value → World → Prop) (Y1 : Value → Value → Value → Value → Value → Value → Value → Value → Value → Value → Value → World → Prop) : Prop :=
bindP (lenL s15) fun v45 =>
bindP (bLt s17 v45) fun v46 =>
ifB v46 (
bindP (pIndexL 2 s15 s17) fun v47 =>
bindP (pFieldAddr 1 v47) fun v48 =>
bindW (st 1 v48 (.int .i64 (-7)) w) fun w49 =>
bindP (bAdd s17 (.int .i64 1)) fun v51 =>
Y0 s0 s1 s7 s8 s9 s10 s11 s12 s13 s14 s15 s16 v51 w49) (
Y1 s0 s1 s7 s8 s9 s10 s11 s12 s13 s14 s16 w)
def F38_2L : Nat → Value → Value → Value → Value → Value → Value → Value → Value → Value → Value → Value → Value → Value → World → (Value → World → Prop) → Prop
  | 0, _, _, _, _, _, _, _, _, _, _, _, _, _, _, _ => False
  | n + 1, s0, s1, s7, s8, s9, s10, s11, s12, s13, s14, s15, s16, s17, w, K => F38_2b s0 s1 s7 s8 s9 s10 s11 s12 s13 s14 s15 s16 s17 w K (fun a0 a1 a7 a8 a9 a10 a11 a12 a13 a14 a15 a16 a17 w => F38_2L n a0 a1 a7 a8 a9 a10 a11 a12 a13 a14 a15 a16 a17 w K) (fun a0 a1 a7 a8 a9 a10 a11 a12 a13 a14 a16 w => F38_3 a0 a1 a7 a8 a9 a10 a11 a12 a13 a14 a16 w K)
def F38_2 (s0 : Value) (s1 : Value) (s7 : Value) (s8 : Value) (s9 : Value) (s10 : Value) (s11 : Value) (s12 : Value) (s13 : Value) (s14 : Value) (s15 : Value) (s16 : Value) (s17 : Value) (w : World) (K : Value → World → Prop) : Prop := F38_2L fuel s0 s1 s7 s8 s9 s10 s11 s12 s13 s14 s15 s16 s17 w K
def F38_1b (s0 : Value) (s1 : Value) (s2 : Value) (w : World) (_K : Value → World → Prop) (Y0 : Value → Value → Value → Value → Value → Value → Value → Value → Value → Value → Value → Value → Value → World → Prop) : Prop :=
callP G85 [s0, s2] w fun v53 w52 =>
bindP (pTuple v53 0) fun v54 =>
bindP (pTuple v53 1) fun v55 =>
callP G82 [s1, s2] w52 fun v57 w56 =>
bindP (pTuple v57 0) fun v58 =>
bindP (pTuple v57 1) fun v59 =>
callP G83 [s0] w56 fun v61 w60 =>
bindP (pTuple v61 0) fun v62 =>
bindP (pTuple v61 1) fun v63 =>
eAlloc Try.prog 55 w60 fun v65 w64 =>
bindW (st 2 v65 v62 w64) fun w66 =>
callP G86 [s1] w66 fun v69 w68 =>
bindP (pTuple v69 0) fun v70 =>
bindP (pTuple v69 1) fun v71 =>
eAlloc Try.prog 135 w68 fun v73 w72 =>
bindW (st 2 v73 v70 w72) fun w74 =>
callP G30 [s0] w74 fun v77 w76 =>
bindP (pNil s1) fun v78 =>
bindP (pFieldAddr 1 v78) fun v79 =>
bindP (ld1 v79 w76) fun v80 =>
callP G34 [v77, v80] w76 fun v82 w81 =>
Y0 s0 s1 v54 v55 v58 v59 v65 v63 v73 v71 v77 v82 (.int .i64 0) w81
def F38_1 (s0 : Value) (s1 : Value) (s2 : Value) (w : World) (K : Value → World → Prop) : Prop := F38_1b s0 s1 s2 w K (fun a0 a1 a7 a8 a9 a10 a11 a12 a13 a14 a15 a16 a17 w => F38_2 a0 a1 a7 a8 a9 a10 a11 a12 a13 a14 a15 a16 a17 w K)
def F38 (x0 : Value) (x1 : Value) (x2 : Value) (w : World) (K : Value → World → Prop) : Prop := F38_1 x0 x1 x2 w K
def G38 : FnT := fun args w K => on3 (fun x0 x1 x2 => F38 x0 x1 x2 w K) args
def F7_3b (w : World) (K : Value → World → Prop) : Prop :=
K (.bool true) w
def F7_3 (w : World) (K : Value → World → Prop) : Prop := F7_3b w K
def F7_6b (s1 : Value) (s5 : Value) (s7 : Value) (s9 : Value) (w : World) (_K : Value → World → Prop) (R3 : Value → Value → Value → Value → World → Prop) : Prop :=
bindP (bAdd s9 (.int .i64 1)) fun v1 =>
R3 s1 s5 s7 v1 w
def F7_6 (s1 : Value) (s5 : Value) (s7 : Value) (s9 : Value) (w : World) (K : Value → World → Prop) (R3 : Value → Value → Value → Value → World → Prop) : Prop := F7_6b s1 s5 s7 s9 w K R3
def F7_8b (s1 : Value) (s5 : Value) (s7 : Value) (s9 : Value) (s10 : Value) (w : World) (K : Value → World → Prop) (R3 : Value → Value → Value → Value → World → Prop) (Y0 : Value → Value → Value → Value → World → Prop) : Prop :=
bindP (pFieldAddr 1 s10) fun v2 =>
bindP (ld1 v2 w) fun v3 =>
callP G38 [s5, s7, v3] w fun v5 w4 =>
bindP (uNot v5) fun v6 =>
ifB v6 (
K (.bool false) w4) (
Y0 s1 s5 s7 s9 w4)
def F7_8 (s1 : Value) (s5 : Value) (s7 : Value) (s9 : Value) (s10 : Value) (w : World) (K : Value → World → Prop) (R3 : Value → Value → Value → Value → World → Prop) : Prop := F7_8b s1 s5 s7 s9 s10 w K R3 (fun a1 a5 a7 a9 w => F7_6 a1 a5 a7 a9 w K R3)
def F7_7b (s1 : Value) (s5 : Value) (s7 : Value) (s9 : Value) (w : World) (K : Value → World → Prop) (R3 : Value → Value → Value → Value → World → Prop) (Y0 : Value → Value → Value → Value → Value → World → Prop) : Prop :=
bindP (pIndexL 3 s1 s9) fun v7 =>
bindP (ldN 3 v7 w) fun v8 =>
eAlloc Try.prog 62 w fun v10 w9 =>
bindW (st 3 v10 v8 w9) fun w11 =>
bindP (pFieldAddr 0 v10) fun v13 =>
bindP (ld1 v13 w11) fun v14 =>
callP G15 [v14, (.int .i64 4)] w11 fun v16 w15 =>
bindP (bEq Try.prog 3 (.tmp 58) (.const (.int .i64 0)) v16 (.int .i64 0)) fun v17 =>
ifB v17 (
bindP (pFieldAddr 1 v10) fun v18 =>
bindP (ld1 v18 w15.drew) fun v19 =>
bindP (pFieldAddr 2 v10) fun v20 =>
bindP (ld1 v20 w15.drew) fun v21 =>
bindP (pFieldAddr 1 v10) fun v22 =>
bindP (ld1 v22 w15.drew) fun v23 =>
bindP (pFieldAddr 2 v10) fun v24 =>
bindP (ld1 v24 w15.drew) fun v25 =>
callP G28 [s5, v19, v21] w15.drew fun v27 w26 =>
(fok true (ld1 v22 w26) v23 ∧ fok true (ld1 v24 w26) v25) ∧ (callP G32 [s7, v23, v25] w26 fun v29 w28 =>
bindP (bNe Try.prog 24 (.tmp 86) (.tmp 92) v27 v29) fun v30 =>
ifB v30 (
K (.bool false) w28) (
Y0 s1 s5 s7 s9 v10 w28))) (
bindP (bEq Try.prog 3 (.tmp 58) (.const (.int .i64 1)) v16 (.int .i64 1)) fun v31 =>
ifB v31 (
bindP (pFieldAddr 1 v10) fun v32 =>
bindP (ld1 v32 w15.drew) fun v33 =>
bindP (pFieldAddr 1 v10) fun v34 =>
bindP (ld1 v34 w15.drew) fun v35 =>
callP G29 [s5, v33] w15.drew fun v37 w36 =>
fok true (ld1 v34 w36) v35 ∧ (callP G33 [s7, v35] w36 fun v39 w38 =>
bindP (bNe Try.prog 4 (.tmp 99) (.tmp 103) v37 v39) fun v40 =>
ifB v40 (
K (.bool false) w38) (
Y0 s1 s5 s7 s9 v10 w38))) (
bindP (bEq Try.prog 3 (.tmp 58) (.const (.int .i64 2)) v16 (.int .i64 2)) fun v41 =>
ifB v41 (
bindP (pFieldAddr 2 v10) fun v42 =>
bindP (ld1 v42 w15.drew) fun v43 =>
bindP (pFieldAddr 2 v10) fun v44 =>
bindP (ld1 v44 w15.drew) fun v45 =>
callP G35 [s5, v43] w15.drew fun v47 w46 =>
fok true (ld1 v44 w46) v45 ∧ (callP G36 [s7, v45] w46 fun v49 w48 =>
callP G34 [v47, v49] w48 fun v51 w50 =>
bindP (uNot v51) fun v52 =>
ifB v52 (
K (.bool false) w50) (
Y0 s1 s5 s7 s9 v10 w50))) (
callP G37 [s5] w15 fun v54 w53 =>
bindP (bEq Try.prog 46 (.tmp 61) (.const (.pointer none)) v54 (.pointer none)) fun v55 =>
stepM (gd false v55) v54 fun v56 =>
stepM (gd false v55) s7 fun v57 =>
Sx.stepG (gd false v55) (pFieldAddr 1 v10) fun v58 =>
Sx.stepG (gd false v55) (ld1 v58 w53) fun v59 =>
stepE (gd false v55) (fun k => callP G38 [v56, v57, v59] w53 k) w53 fun v61 w60 =>
Sx.stepG (gd false v55) (uNot v61) fun v62 =>
bindP (pPick v55 (.bool true) v62) fun v63 =>
ifB v63 (
K (.bool false) w60) (
bindP (pFieldAddr 1 v10) fun v64 =>
bindP (ld1 v64 w60) fun v65 =>
callP G28 [v54, v65, (.int .i64 5)] w60 fun _ w66 =>
bindP (pFieldAddr 2 v10) fun v68 =>
bindP (ld1 v68 w66) fun v69 =>
callP G35 [v54, v69] w66 fun _ w70 =>
Y0 s1 s5 s7 s9 v10 w70))))
def F7_7 (s1 : Value) (s5 : Value) (s7 : Value) (s9 : Value) (w : World) (K : Value → World → Prop) (R3 : Value → Value → Value → Value → World → Prop) : Prop := F7_7b s1 s5 s7 s9 w K R3 (fun a1 a5 a7 a9 a10 w => F7_8 a1 a5 a7 a9 a10 w K R3)
def F7_5 (s1 : Value) (s5 : Value) (s7 : Value) (s9 : Value) (w : World) (K : Value → World → Prop) (R3 : Value → Value → Value → Value → World → Prop) : Prop := F7_7 s1 s5 s7 s9 w K R3
def F7_4b (s1 : Value) (s5 : Value) (s7 : Value) (s9 : Value) (w : World) (_K : Value → World → Prop) (R3 : Value → Value → Value → Value → World → Prop) (Y0 : Value → Value → Value → Value → World → Prop) (Y1 : World → Prop) : Prop :=
bindP (bNe Try.prog 58 (.tmp 38) (.const (.pointer none)) s7 (.pointer none)) fun v72 =>
stepM (gd true v72) s9 fun v73 =>
stepM (gd true v72) s1 fun v74 =>
Sx.stepG (gd true v72) (lenL v74) fun v75 =>
Sx.stepG (gd true v72) (bLt v73 v75) fun v76 =>
bindP (pPick v72 v76 (.bool false)) fun v77 =>
stepM (gd true v77) s9 fun v78 =>
Sx.stepG (gd true v77) (bLt v78 (.int .i64 80)) fun v79 =>
bindP (pPick v77 v79 (.bool false)) fun v80 =>
ifB v80 (
Y0 s1 s5 s7 s9 w) (
Y1 w)
def F7_4 (s1 : Value) (s5 : Value) (s7 : Value) (s9 : Value) (w : World) (K : Value → World → Prop) (R3 : Value → Value → Value → Value → World → Prop) : Prop := F7_4b s1 s5 s7 s9 w K R3 (fun a1 a5 a7 a9 w => F7_5 a1 a5 a7 a9 w K R3) (fun w => F7_3 w K)
def F7_2L : Nat → Value → Value → Value → Value → World → (Value → World → Prop) → Prop
  | 0, _, _, _, _, _, _ => False
  | n + 1, s1, s5, s7, s9, w, K => F7_4 s1 s5 s7 s9 w K (fun a1 a5 a7 a9 w => F7_2L n a1 a5 a7 a9 w K)
def F7_2 (s1 : Value) (s5 : Value) (s7 : Value) (s9 : Value) (w : World) (K : Value → World → Prop) : Prop := F7_2L fuel s1 s5 s7 s9 w K
def F7_1b (s0 : Value) (s1 : Value) (w : World) (K : Value → World → Prop) (Y0 : Value → Value → Value → Value → World → Prop) : Prop :=
callP G26 [s0] w fun v82 w81 =>
bindP (pTuple v82 0) fun v83 =>
bindP (pTuple v82 1) fun v84 =>
callP G31 [s0] w81 fun v86 w85 =>
bindP (pTuple v86 0) fun v87 =>
bindP (pTuple v86 1) fun v88 =>
bindP (bNe Try.prog 24 (.tmp 22) (.tmp 23) v84 v88) fun v89 =>
stepM (gd false v89) v83 fun v90 =>
Sx.stepG (gd false v89) (bEq Try.prog 46 (.tmp 26) (.const (.pointer none)) v90 (.pointer none)) fun v91 =>
stepM (gd false v89) v87 fun v92 =>
Sx.stepG (gd false v89) (bEq Try.prog 58 (.tmp 28) (.const (.pointer none)) v92 (.pointer none)) fun v93 =>
Sx.stepG (gd false v89) (bNe Try.prog 4 (.tmp 27) (.tmp 29) v91 v93) fun v94 =>
bindP (pPick v89 (.bool true) v94) fun v95 =>
bindP (pPick v95 (.bool true) (.bool false)) fun v96 =>
stepE (gd false v96) (fun k => callP G27 [] w85 k) w85 fun v98 w97 =>
Sx.stepG (gd false v96) (uNot v98) fun v99 =>
bindP (pPick v96 (.bool true) v99) fun v100 =>
ifB v100 (
K (.bool false) w97) (
Y0 s1 v83 v87 (.int .i64 0) w97)
def F7_1 (s0 : Value) (s1 : Value) (w : World) (K : Value → World → Prop) : Prop := F7_1b s0 s1 w K (fun a1 a5 a7 a9 w => F7_2 a1 a5 a7 a9 w K)
def F7 (x0 : Value) (x1 : Value) (w : World) (K : Value → World → Prop) : Prop := F7_1 x0 x1 w K
def G7 : FnT := fun args w K => on2 (fun x0 x1 => F7 x0 x1 w K) args
theorem c7 {x0 x1 : Value} {w : World} {K : Value → World → Prop} (h : F7 x0 x1 w K) : callP G7 [x0, x1] w K := callP_intro (on2_mk (p := fun x0 x1 => F7 x0 x1 w K) h)
end Go.Proofs.Gong

/- Hp3 -/
namespace Go.Proofs.Gong
open Go Go.Sx Go.Proofs
section
variable {w0 w : World} {L : List HP} {K : Value → World → Prop} {v : Value} {n : Int} {l : List It} {m : Pl}
theorem nan_spec {a : Int} (hK : K (.bool false) w) : callP G139 [.int .i64 a] w K := by
  refine c139 ?_
  unfold F139
  simpa using hK
theorem cmp_spec {a b : Int} (hK : K (.int .i64 (if a < b then -1 else if b < a then 1 else 0)) w) : callP G117 [.int .i64 a, .int .i64 b] w K := by
  refine c117 ?_
  unfold F117
  refine nan_spec (nan_spec ?_)
  simp
  by_cases h1 : a < b
  · simp [h1] at hK ⊢; exact hK
  · by_cases h2 : b < a
    · simp [h1, h2] at hK ⊢; exact hK
    · simp [h1, h2] at hK ⊢; exact hK
theorem or_loop {s : Value} {cs : List Int} (hr : Rd w 1 s cs.length (cs.flatMap cI)) (hlen : cs.length < 1000) (hK : K (.int .i64 ((cs.find? (fun c => decide (c ≠ 0))).getD 0)) w) :
    ∀ (d i : Nat), cs.length - i < d → i ≤ cs.length → (∀ c ∈ cs.take i, c = 0) → F116_2L d (.int .i64 0) s (.int .i64 cs.length) (.int .i64 i) w K := by
  intro d
  induction d with
  | zero => intro i hd; omega
  | succ d ih =>
    intro i hd hi h0
    rw [F116_2L]
    unfold F116_2b
    by_cases hlt : i < cs.length
    · have e1 := rd_ld1 (g := fun c => .int .i64 c) hr hlt
      simp [hlt, ix_el hr hlt, e1]
      by_cases hc : cs[i] = 0
      · simp [hc, wrap_id (show -9223372036854775808 ≤ (i : Int) + 1 ∧ (i : Int) + 1 ≤ 9223372036854775807 by omega)]
        refine ih (i + 1) (by omega) (by omega) fun c hc' => ?_
        rw [List.take_succ_eq_append_getElem hlt] at hc'
        rcases List.mem_append.1 hc' with h | h
        · exact h0 c h
        · simp at h; rw [h, hc]
      · simp [hc]
        have : cs.find? (fun c => decide (c ≠ 0)) = some cs[i] := by
          rw [List.find?_eq_some_iff_getElem]
          refine ⟨by simpa using hc, i, hlt, rfl, fun j hj => ?_⟩
          have := h0 cs[j] (by rw [List.mem_take_iff_getElem]; exact ⟨j, by omega, rfl⟩)
          simp [this]
        rw [this] at hK; exact hK
    · have : ¬ ((i : Int) < cs.length) := by omega
      simp [this, F116_3, F116_3b]
      have : cs.find? (fun c => decide (c ≠ 0)) = none := by
        rw [List.find?_eq_none]
        intro c hc
        rw [List.take_of_length_le (by omega)] at h0
        simp [h0 c hc]
      rw [this] at hK; exact hK
theorem or_spec {s : Value} {cs : List Int} (hr : Rd w 1 s cs.length (cs.flatMap cI)) (hlen : cs.length < 1000) (hK : K (.int .i64 ((cs.find? (fun c => decide (c ≠ 0))).getD 0)) w) : callP G116 [s] w K := by
  refine c116 ?_
  unfold F116 F116_1 F116_1b
  simp [hr.len]
  exact or_loop hr hlen hK fuel 0 (by unfold fuel; omega) (by omega) (by simp)
def ordV (x y : It) : Int := if itLt x y then -1 else if itLt y x then 1 else 0
theorem ord_find (x y : It) : (([if x.2 < y.2 then (-1 : Int) else if y.2 < x.2 then 1 else 0, if x.1 < y.1 then (-1 : Int) else if y.1 < x.1 then 1 else 0] : List Int).find? (fun c => decide (c ≠ 0))).getD 0 = ordV x y := by
  unfold ordV itLt
  by_cases a1 : x.2 < y.2
  · simp [a1]
  · by_cases a2 : y.2 < x.2
    · have : ¬ x.2 = y.2 := by omega
      simp [a1, a2, this]
    · have a3 : x.2 = y.2 := by omega
      by_cases b1 : x.1 < y.1
      · simp [a3, b1]
      · by_cases b2 : y.1 < x.1
        · simp [a3, b1, b2]
        · simp [a3, b1, b2]
theorem ordV_neg (x y : It) : ordV x y < 0 ↔ itLt x y = true := by unfold ordV; split <;> (try split) <;> simp_all
end
end Go.Proofs.Gong

/- Hp4 -/
namespace Go.Proofs.Gong
open Go Go.Sx Go.Proofs
set_option maxRecDepth 100000
section
variable {w0 w : World} {L : List HP} {K : Value → World → Prop} {v : Value} {n : Int} {l : List It} {m : Pl}
end
end Go.Proofs.Gong

/- Hp5 -/
namespace Go.Proofs.Gong
open Go Go.Sx Go.Proofs
set_option maxRecDepth 100000
section
variable {w0 w : World} {L : List HP} {K : Value → World → Prop} {v : Value} {n : Int} {l : List It} {m : Pl} {M : List It}
end
end Go.Proofs.Gong

/- Hp6 -/
namespace Go.Proofs.Gong
open Go Go.Sx Go.Proofs
set_option maxRecDepth 100000
section
variable {w0 w : World} {L : List HP} {K : Value → World → Prop} {v : Value} {n : Int} {l : List It} {m : Pl} {M : List It}
end
end Go.Proofs.Gong

/- Hp7 -/
namespace Go.Proofs.Gong
open Go Go.Sx Go.Proofs
set_option maxRecDepth 100000
section
variable {w0 w : World} {L : List HP} {K : Value → World → Prop} {v : Value} {n : Int} {l : List It} {m : Pl} {M : List It}
end
end Go.Proofs.Gong

/- Bk0 -/
namespace Go.Proofs.Gong
open Go Go.Sx Go.Proofs
def bel (x n : Int) : Int := (x.tmod n + n).tmod n
section
variable {w : World} {K : Value → World → Prop}
theorem Below_spec {x n : Int} (hn : 0 < n) (hn2 : n ≤ 4611686018427387904) (hK : ∀ r : Int, 0 ≤ r → r < n → r = bel x n → K (.int .i64 r) w) : callP G15 [.int .i64 x, .int .i64 n] w K := by
  refine c15 ?_
  unfold F15
  have h1 := Int.tmod_lt_of_pos x hn
  have h2 : -n < x.tmod n := by
    have := Int.lt_tmod_of_pos x hn
    omega
  have h3 := Int.tmod_nonneg n (show (0 : Int) ≤ x.tmod n + n by omega)
  have h4 := Int.tmod_lt_of_pos (x.tmod n + n) hn
  simp [bRem_int _ _ _ (show n ≠ 0 by omega), wrap_id (show -9223372036854775808 ≤ x.tmod n + n ∧ x.tmod n + n ≤ 9223372036854775807 by omega)]
  exact hK _ h3 h4 rfl
end
theorem bs_sEq (a b : List UInt8) : sEq (bs a) (bs b) = decide (a = b) := by rw [sEq_eq, bs_beq]; simp
end Go.Proofs.Gong

/- Hp9 -/
namespace Go.Proofs.Gong
open Go Go.Sx Go.Proofs
set_option maxRecDepth 100000
attribute [local irreducible] fBuild fLook fZero eqv bEqv Cl MapH LsH SlH ld1 ldN st callP eBox eAlloc lenM lenL eMapSet eDelete eAppend eBuildSl eRange eNext
section
variable {w0 w : World} {L : List HP} {K : Value → World → Prop} {v : Value} {n : Int} {M : List It}
end
end Go.Proofs.Gong

/- Nm0 -/
namespace Go.Proofs.Gong
open Go Go.Sx
def longP (b : Nat) : Nat × Nat := if b < 128 then (1, b) else if b / 32 = 6 then (2, b % 32) else if b / 16 = 14 then (3, b % 16) else if b / 8 = 30 then (4, b % 8) else (0, 0)
def leastP (n : Nat) : Nat := if n = 2 then 128 else if n = 3 then 2048 else if n = 4 then 65536 else 0
def isC (c : Nat) : Bool := decide (c ≤ 1114111) && (decide (c < 55296) || decide (57343 < c))
def contP : Nat → Nat → List UInt8 → Option Nat
  | 0, c, _ => some c
  | _ + 1, _, [] => none
  | k + 1, c, b :: s => if b.toNat / 64 = 2 then contP k (c * 64 + b.toNat % 64) s else none
def firstP : List UInt8 → Option (Nat × Nat)
  | [] => none
  | b :: s => if (longP b.toNat).1 = 0 ∨ s.length + 1 < (longP b.toNat).1 then none else
    match contP ((longP b.toNat).1 - 1) (longP b.toNat).2 s with
    | none => none
    | some c => if isC c = true ∧ leastP (longP b.toNat).1 ≤ c then some (c, (longP b.toNat).1) else none
def madeP (c : Nat) : List UInt8 :=
  if c < 128 then [UInt8.ofNat c] else if c < 2048 then [UInt8.ofNat (192 + c / 64), UInt8.ofNat (128 + c % 64)] else
  if c < 65536 then [UInt8.ofNat (224 + c / 4096), UInt8.ofNat (128 + c / 64 % 64), UInt8.ofNat (128 + c % 64)] else
  [UInt8.ofNat (240 + c / 262144), UInt8.ofNat (128 + c / 4096 % 64), UInt8.ofNat (128 + c / 64 % 64), UInt8.ofNat (128 + c % 64)]
def foldP (c : Nat) (l : List UInt8) : Nat := l.foldl (fun c b => c * 64 + b.toNat % 64) c
def guessP (s : List UInt8) (n : Nat) : Nat := match s with
  | [] => 0
  | b :: t => if n = 1 then b.toNat else foldP (if n = 2 then b.toNat % 32 else if n = 3 then b.toNat % 16 else b.toNat % 8) (t.take (n - 1))
def hitP (s : List UInt8) (n : Nat) : Bool := isC (guessP s n) && decide (madeP (guessP s n) = s.take n)
def refP (s : List UInt8) : Nat → Nat → Option (Nat × Nat)
  | 0, _ => none
  | k + 1, n => if n ≤ s.length then if hitP s n = true then some (guessP s n, n) else refP s k (n + 1) else none
theorem u8eq {x : Nat} {b : UInt8} : UInt8.ofNat x = b ↔ x % 256 = b.toNat := by
  rw [← UInt8.toNat_inj]; simp
theorem isC_iff (x : Nat) : isC x = true ↔ x ≤ 1114111 ∧ (x < 55296 ∨ 57343 < x) := by simp [isC]
theorem made1 {x : Nat} (h : x < 128) : madeP x = [UInt8.ofNat x] := by unfold madeP; rw [if_pos h]
theorem made2 {x : Nat} (h1 : ¬ x < 128) (h2 : x < 2048) : madeP x = [UInt8.ofNat (192 + x / 64), UInt8.ofNat (128 + x % 64)] := by unfold madeP; rw [if_neg h1, if_pos h2]
theorem made3 {x : Nat} (h1 : ¬ x < 128) (h2 : ¬ x < 2048) (h3 : x < 65536) : madeP x = [UInt8.ofNat (224 + x / 4096), UInt8.ofNat (128 + x / 64 % 64), UInt8.ofNat (128 + x % 64)] := by unfold madeP; rw [if_neg h1, if_neg h2, if_pos h3]
theorem made4 {x : Nat} (h1 : ¬ x < 128) (h2 : ¬ x < 2048) (h3 : ¬ x < 65536) : madeP x = [UInt8.ofNat (240 + x / 262144), UInt8.ofNat (128 + x / 4096 % 64), UInt8.ofNat (128 + x / 64 % 64), UInt8.ofNat (128 + x % 64)] := by unfold madeP; rw [if_neg h1, if_neg h2, if_neg h3]
theorem hit1 (a : UInt8) (t : List UInt8) : hitP (a :: t) 1 = true ↔ a.toNat < 128 := by
  have := a.toNat_lt
  have hg : guessP (a :: t) 1 = a.toNat := rfl
  rw [hitP, hg, Bool.and_eq_true, decide_eq_true_eq, isC_iff, List.take_succ_cons, List.take_zero]
  by_cases h : a.toNat < 128
  · rw [made1 h]; simp only [List.cons.injEq, u8eq, and_true]; omega
  · rw [made2 h (by omega)]; simp only [List.cons.injEq, reduceCtorEq, and_false, false_iff]; exact h
theorem hit2 (a b : UInt8) (t : List UInt8) : hitP (a :: b :: t) 2 = true ↔ a.toNat / 32 = 6 ∧ b.toNat / 64 = 2 ∧ 128 ≤ a.toNat % 32 * 64 + b.toNat % 64 := by
  have := a.toNat_lt
  have := b.toNat_lt
  have hg : guessP (a :: b :: t) 2 = a.toNat % 32 * 64 + b.toNat % 64 := rfl
  rw [hitP, hg, Bool.and_eq_true, decide_eq_true_eq, isC_iff, List.take_succ_cons, List.take_succ_cons, List.take_zero]
  generalize hx : a.toNat % 32 * 64 + b.toNat % 64 = x
  by_cases h1 : x < 128
  · rw [made1 h1]; simp only [List.cons.injEq, reduceCtorEq, and_false, false_iff]; omega
  · rw [made2 h1 (by omega)]; simp only [List.cons.injEq, u8eq, and_true]; omega
theorem hit3 (a b c : UInt8) (t : List UInt8) : hitP (a :: b :: c :: t) 3 = true ↔ a.toNat / 16 = 14 ∧ b.toNat / 64 = 2 ∧ c.toNat / 64 = 2 ∧ isC ((a.toNat % 16 * 64 + b.toNat % 64) * 64 + c.toNat % 64) = true ∧ 2048 ≤ (a.toNat % 16 * 64 + b.toNat % 64) * 64 + c.toNat % 64 := by
  have := a.toNat_lt
  have := b.toNat_lt
  have := c.toNat_lt
  have hg : guessP (a :: b :: c :: t) 3 = (a.toNat % 16 * 64 + b.toNat % 64) * 64 + c.toNat % 64 := rfl
  rw [hitP, hg, Bool.and_eq_true, decide_eq_true_eq, isC_iff, List.take_succ_cons, List.take_succ_cons, List.take_succ_cons, List.take_zero]
  generalize hx : (a.toNat % 16 * 64 + b.toNat % 64) * 64 + c.toNat % 64 = x
  by_cases h1 : x < 128
  · rw [made1 h1]; simp only [List.cons.injEq, reduceCtorEq, and_false, false_iff]; omega
  · by_cases h2 : x < 2048
    · rw [made2 h1 h2]; simp only [List.cons.injEq, reduceCtorEq, and_false, false_iff]; omega
    · rw [made3 h1 h2 (by omega)]; simp only [List.cons.injEq, u8eq, and_true]; omega
theorem hit4 (a b c d : UInt8) (t : List UInt8) : hitP (a :: b :: c :: d :: t) 4 = true ↔ a.toNat / 8 = 30 ∧ b.toNat / 64 = 2 ∧ c.toNat / 64 = 2 ∧ d.toNat / 64 = 2 ∧ isC (((a.toNat % 8 * 64 + b.toNat % 64) * 64 + c.toNat % 64) * 64 + d.toNat % 64) = true ∧ 65536 ≤ ((a.toNat % 8 * 64 + b.toNat % 64) * 64 + c.toNat % 64) * 64 + d.toNat % 64 := by
  have := a.toNat_lt
  have := b.toNat_lt
  have := c.toNat_lt
  have := d.toNat_lt
  have hg : guessP (a :: b :: c :: d :: t) 4 = ((a.toNat % 8 * 64 + b.toNat % 64) * 64 + c.toNat % 64) * 64 + d.toNat % 64 := rfl
  rw [hitP, hg, Bool.and_eq_true, decide_eq_true_eq, isC_iff, List.take_succ_cons, List.take_succ_cons, List.take_succ_cons, List.take_succ_cons, List.take_zero]
  generalize hx : ((a.toNat % 8 * 64 + b.toNat % 64) * 64 + c.toNat % 64) * 64 + d.toNat % 64 = x
  by_cases h1 : x < 128
  · rw [made1 h1]; simp only [List.cons.injEq, reduceCtorEq, and_false, false_iff]; omega
  · by_cases h2 : x < 2048
    · rw [made2 h1 h2]; simp only [List.cons.injEq, reduceCtorEq, and_false, false_iff]; omega
    · by_cases h3 : x < 65536
      · rw [made3 h1 h2 h3]; simp only [List.cons.injEq, reduceCtorEq, and_false, false_iff]; omega
      · rw [made4 h1 h2 h3]; simp only [List.cons.injEq, u8eq, and_true]; omega
theorem refP_step {s : List UInt8} {k n : Nat} (h : n ≤ s.length) : refP s (k + 1) n = if hitP s n = true then some (guessP s n, n) else refP s k (n + 1) := by rw [refP, if_pos h]
theorem refP_end {s : List UInt8} {k n : Nat} (h : s.length < n) : refP s k n = none := by
  cases k with
  | zero => rfl
  | succ k => rw [refP, if_neg (by omega)]
theorem first_of {b : UInt8} {s : List UInt8} {n c0 : Nat} (hl : longP b.toNat = (n, c0)) (hn : n ≠ 0) : firstP (b :: s) = if s.length + 1 < n then none else match contP (n - 1) c0 s with
    | none => none
    | some c => if isC c = true ∧ leastP n ≤ c then some (c, n) else none := by
  rw [firstP, hl]
  simp only
  by_cases h : s.length + 1 < n
  · rw [if_pos (.inr h), if_pos h]
  · rw [if_neg (by rintro (h' | h') <;> omega), if_neg h]
theorem ref_skip {s : List UInt8} {k n : Nat} (h : n ≤ s.length → ¬ hitP s n = true) : refP s (k + 1) n = refP s k (n + 1) := by
  by_cases hl : n ≤ s.length
  · rw [refP_step hl, if_neg (h hl)]
  · rw [refP_end (by omega), refP_end (by omega)]
theorem miss2 {a : UInt8} {t : List UInt8} (h : a.toNat / 32 ≠ 6) (hl : 2 ≤ (a :: t).length) : ¬ hitP (a :: t) 2 = true := by
  match t, hl with
  | b :: t, _ => rw [hit2]; omega
theorem miss3 {a : UInt8} {t : List UInt8} (h : a.toNat / 16 ≠ 14) (hl : 3 ≤ (a :: t).length) : ¬ hitP (a :: t) 3 = true := by
  match t, hl with
  | b :: c :: t, _ => rw [hit3]; exact fun x => h x.1
theorem miss4 {a : UInt8} {t : List UInt8} (h : a.toNat / 8 ≠ 30) (hl : 4 ≤ (a :: t).length) : ¬ hitP (a :: t) 4 = true := by
  match t, hl with
  | b :: c :: d :: t, _ => rw [hit4]; exact fun x => h x.1
theorem refP_first (s : List UInt8) : refP s 4 1 = firstP s := by
  cases s with
  | nil => rfl
  | cons a t =>
    have ha := a.toNat_lt
    by_cases h1 : a.toNat < 128
    · rw [refP_step (by simp), if_pos ((hit1 a t).2 h1), first_of (n := 1) (c0 := a.toNat) (by simp [longP, h1]) (by omega), if_neg (by omega)]
      have : isC a.toNat = true := by rw [isC_iff]; omega
      simp [contP, this, leastP, guessP]
    · rw [ref_skip (fun _ => by rw [hit1]; exact h1)]
      by_cases h2 : a.toNat / 32 = 6
      · rw [first_of (n := 2) (c0 := a.toNat % 32) (by simp [longP, h1, h2]) (by omega)]
        cases t with
        | nil => rw [refP_end (by simp)]; simp
        | cons b t =>
          rw [if_neg (by simp)]
          have hb := b.toNat_lt
          by_cases hb2 : b.toNat / 64 = 2
          · simp only [contP, hb2, if_true, show (2 - 1 : Nat) = 0 + 1 from rfl]
            by_cases hc : 128 ≤ a.toNat % 32 * 64 + b.toNat % 64
            · rw [refP_step (by simp), if_pos ((hit2 a b t).2 ⟨h2, hb2, hc⟩), if_pos ⟨by rw [isC_iff]; omega, by simpa [leastP] using hc⟩]
              rfl
            · rw [ref_skip (fun _ => by rw [hit2]; omega), ref_skip (fun h => miss3 (by omega) h), ref_skip (fun h => miss4 (by omega) h), if_neg (by rintro ⟨_, h⟩; apply hc; simpa [leastP] using h)]
              rfl
          · rw [ref_skip (fun _ => by rw [hit2]; omega), ref_skip (fun h => miss3 (by omega) h), ref_skip (fun h => miss4 (by omega) h)]
            simp [contP, hb2, refP]
      · rw [ref_skip (fun h => miss2 h2 h)]
        by_cases h3 : a.toNat / 16 = 14
        · rw [first_of (n := 3) (c0 := a.toNat % 16) (by simp [longP, h1, h2, h3]) (by omega)]
          match t with
          | [] => rw [refP_end (by simp)]; simp
          | [b] => rw [refP_end (by simp)]; simp
          | b :: c :: t =>
            rw [if_neg (by simp)]
            have hb := b.toNat_lt
            have hc := c.toNat_lt
            by_cases hb2 : b.toNat / 64 = 2
            · by_cases hc2 : c.toNat / 64 = 2
              · simp only [contP, hb2, hc2, if_true, show (3 - 1 : Nat) = 0 + 1 + 1 from rfl]
                by_cases hk : isC ((a.toNat % 16 * 64 + b.toNat % 64) * 64 + c.toNat % 64) = true ∧ 2048 ≤ (a.toNat % 16 * 64 + b.toNat % 64) * 64 + c.toNat % 64
                · rw [refP_step (by simp), if_pos ((hit3 a b c t).2 ⟨h3, hb2, hc2, hk⟩), if_pos ⟨hk.1, by simpa [leastP] using hk.2⟩]
                  rfl
                · rw [ref_skip (fun _ => by rw [hit3]; exact fun x => hk ⟨x.2.2.2.1, x.2.2.2.2⟩), ref_skip (fun h => miss4 (by omega) h), if_neg (by rintro ⟨g, h⟩; apply hk; exact ⟨g, by simpa [leastP] using h⟩)]
                  rfl
              · rw [ref_skip (fun _ => by rw [hit3]; exact fun x => hc2 x.2.2.1), ref_skip (fun h => miss4 (by omega) h)]
                simp [contP, hb2, hc2, refP]
            · rw [ref_skip (fun _ => by rw [hit3]; exact fun x => hb2 x.2.1), ref_skip (fun h => miss4 (by omega) h)]
              simp [contP, hb2, refP]
        · rw [ref_skip (fun h => miss3 h3 h)]
          by_cases h4 : a.toNat / 8 = 30
          · rw [first_of (n := 4) (c0 := a.toNat % 8) (by simp [longP, h1, h2, h3, h4]) (by omega)]
            match t with
            | [] => rw [refP_end (by simp)]; simp
            | [b] => rw [refP_end (by simp)]; simp
            | [b, c] => rw [refP_end (by simp)]; simp
            | b :: c :: d :: t =>
              rw [if_neg (by simp)]
              by_cases hb2 : b.toNat / 64 = 2
              · by_cases hc2 : c.toNat / 64 = 2
                · by_cases hd2 : d.toNat / 64 = 2
                  · simp only [contP, hb2, hc2, hd2, if_true, show (4 - 1 : Nat) = 0 + 1 + 1 + 1 from rfl]
                    by_cases hk : isC (((a.toNat % 8 * 64 + b.toNat % 64) * 64 + c.toNat % 64) * 64 + d.toNat % 64) = true ∧ 65536 ≤ ((a.toNat % 8 * 64 + b.toNat % 64) * 64 + c.toNat % 64) * 64 + d.toNat % 64
                    · rw [refP_step (by simp), if_pos ((hit4 a b c d t).2 ⟨h4, hb2, hc2, hd2, hk⟩), if_pos ⟨hk.1, by simpa [leastP] using hk.2⟩]
                      rfl
                    · rw [ref_skip (fun _ => by rw [hit4]; exact fun x => hk x.2.2.2.2), if_neg (by rintro ⟨g, h⟩; apply hk; exact ⟨g, by simpa [leastP] using h⟩)]
                      rfl
                  · rw [ref_skip (fun _ => by rw [hit4]; exact fun x => hd2 x.2.2.2.1)]
                    simp [contP, hb2, hc2, hd2, refP]
                · rw [ref_skip (fun _ => by rw [hit4]; exact fun x => hc2 x.2.2.1)]
                  simp [contP, hb2, hc2, refP]
              · rw [ref_skip (fun _ => by rw [hit4]; exact fun x => hb2 x.2.1)]
                simp [contP, hb2, refP]
          · rw [ref_skip (fun h => miss4 h4 h)]
            have : longP a.toNat = (0, 0) := by simp [longP, h1, h2, h3, h4]
            rw [firstP, this]
            simp [refP]
end Go.Proofs.Gong

/- Norm -/
namespace Go.Proofs.Gong
open Go Go.Sx Go.Proofs
set_option linter.all false
set_option maxRecDepth 100000
def T180 : List (Nat × FnT) := []
def F180 (x0 : Value) (w : World) (K : Value → World → Prop) : Prop :=
bindP (bLt x0 (.int .u8 128)) fun v1 =>
ifB v1 (
bindP (cInt .i64 x0) fun v2 =>
K (.tuple #[(.int .i64 1), v2]) w) (
bindP (bShr x0 (.int .u64 5)) fun v3 =>
bindP (bEq Try.prog 5 (.tmp 11) (.const (.int .u8 6)) v3 (.int .u8 6)) fun v4 =>
ifB v4 (
bindP (bBit .and x0 (.int .u8 31)) fun v5 =>
bindP (cInt .i64 v5) fun v6 =>
K (.tuple #[(.int .i64 2), v6]) w) (
bindP (bShr x0 (.int .u64 4)) fun v7 =>
bindP (bEq Try.prog 5 (.tmp 18) (.const (.int .u8 14)) v7 (.int .u8 14)) fun v8 =>
ifB v8 (
bindP (bBit .and x0 (.int .u8 15)) fun v9 =>
bindP (cInt .i64 v9) fun v10 =>
K (.tuple #[(.int .i64 3), v10]) w) (
bindP (bShr x0 (.int .u64 3)) fun v11 =>
bindP (bEq Try.prog 5 (.tmp 25) (.const (.int .u8 30)) v11 (.int .u8 30)) fun v12 =>
ifB v12 (
bindP (bBit .and x0 (.int .u8 7)) fun v13 =>
bindP (cInt .i64 v13) fun v14 =>
K (.tuple #[(.int .i64 4), v14]) w) (
K (.tuple #[(.int .i64 0), (.int .i64 0)]) w))))
def G180 : FnT := fun args w K => on1 (fun x0 => F180 x0 w K) args
theorem c180 {x0 : Value} {w : World} {K : Value → World → Prop} (h : F180 x0 w K) : callP G180 [x0] w K := callP_intro (on1_mk (p := fun x0 => F180 x0 w K) h)
theorem ok180 : OkF Try.prog 180 G180 := by
  refine okF_of (tab_ok (l := T180) trivial) mixed (n := fuel) Try.func180 Try.call180 fun args w K h => ?_
  obtain ⟨x0, rfl, hh⟩ := of_on1 h
  exact fnD_list (c := bodyOf Try.f180) (by kernel_rfl) (by kernel_rfl) (Eq.mp (by kernel_rfl) hh)
def T181 : List (Nat × FnT) := []
def F181 (x0 : Value) (w : World) (K : Value → World → Prop) : Prop :=
bindP (bGe x0 (.int .i64 0)) fun v1 =>
stepM (gd true v1) x0 fun v2 =>
Sx.stepG (gd true v1) (bLe v2 (.int .i64 1114111)) fun v3 =>
bindP (pPick v1 v3 (.bool false)) fun v4 =>
stepM (gd true v4) x0 fun v5 =>
Sx.stepG (gd true v4) (bLt v5 (.int .i64 55296)) fun v6 =>
stepM (gd true v4) v6 fun v7 =>
stepM (gd false v7) x0 fun v8 =>
Sx.stepG (gd false v7) (bGt v8 (.int .i64 57343)) fun v9 =>
Sx.stepG (gd true v4) (pPick v7 (.bool true) v9) fun v10 =>
bindP (pPick v4 v10 (.bool false)) fun v11 =>
K v11 w
def G181 : FnT := fun args w K => on1 (fun x0 => F181 x0 w K) args
theorem c181 {x0 : Value} {w : World} {K : Value → World → Prop} (h : F181 x0 w K) : callP G181 [x0] w K := callP_intro (on1_mk (p := fun x0 => F181 x0 w K) h)
theorem ok181 : OkF Try.prog 181 G181 := by
  refine okF_of (tab_ok (l := T181) trivial) mixed (n := fuel) Try.func181 Try.call181 fun args w K h => ?_
  obtain ⟨x0, rfl, hh⟩ := of_on1 h
  exact fnD_list (c := bodyOf Try.f181) (by kernel_rfl) (by kernel_rfl) (Eq.mp (by kernel_rfl) hh)
def T182 : List (Nat × FnT) := []
def F182 (x0 : Value) (w : World) (K : Value → World → Prop) : Prop :=
bindP (bEq Try.prog 3 (.tmp 3) (.const (.int .i64 2)) x0 (.int .i64 2)) fun v1 =>
ifB v1 (
K (.int .i64 128) w) (
bindP (bEq Try.prog 3 (.tmp 3) (.const (.int .i64 3)) x0 (.int .i64 3)) fun v2 =>
ifB v2 (
K (.int .i64 2048) w) (
bindP (bEq Try.prog 3 (.tmp 3) (.const (.int .i64 4)) x0 (.int .i64 4)) fun v3 =>
ifB v3 (
K (.int .i64 65536) w) (
K (.int .i64 0) w)))
def G182 : FnT := fun args w K => on1 (fun x0 => F182 x0 w K) args
theorem c182 {x0 : Value} {w : World} {K : Value → World → Prop} (h : F182 x0 w K) : callP G182 [x0] w K := callP_intro (on1_mk (p := fun x0 => F182 x0 w K) h)
theorem ok182 : OkF Try.prog 182 G182 := by
  refine okF_of (tab_ok (l := T182) trivial) mixed (n := fuel) Try.func182 Try.call182 fun args w K h => ?_
  obtain ⟨x0, rfl, hh⟩ := of_on1 h
  exact fnD_list (c := bodyOf Try.f182) (by kernel_rfl) (by kernel_rfl) (Eq.mp (by kernel_rfl) hh)
def T161 : List (Nat × FnT) := [(180, G180), (181, G181), (182, G182)]
def F161_3b (s2 : Value) (s3 : Value) (w : World) (K : Value → World → Prop) : Prop :=
callP G181 [s2] w fun v2 w1 =>
bindP (uNot v2) fun v3 =>
stepM (gd false v3) s2 fun v4 =>
stepM (gd false v3) s3 fun v5 =>
stepE (gd false v3) (fun k => callP G182 [v5] w1 k) w1 fun v7 w6 =>
Sx.stepG (gd false v3) (bLt v4 v7) fun v8 =>
bindP (pPick v3 (.bool true) v8) fun v9 =>
ifB v9 (
K (.tuple #[(.int .i64 0), (.int .i64 0), (.int .i64 40)]) w6) (
K (.tuple #[s2, s3, (.int .i64 0)]) w6)
def F161_3 (s2 : Value) (s3 : Value) (w : World) (K : Value → World → Prop) : Prop := F161_3b s2 s3 w K
theorem ok161_3 {K : Value → World → Prop} {kn kr : Env → World → Prop} {ke : Nat → Env → World → Prop}
    (hn : ∀ e w, (fun e w => K (.tuple #[(e 2), (e 3), (e 4)]) w) e w → kn e w) (hr : ∀ e w, endD Try.prog [.tmp 2, .tmp 3, .tmp 4] K e w → kr e w) (he : ∀ i e w, noE i e w → ke i e w) :
    ∀ e w, F161_3 (e 2) (e 3) w K → denL Try.prog (tabOf T161) 51 fuel ((flat (bodyOf Try.f161)).drop 8) e w kn kr ke := by
  intro e w h
  unfold F161_3 at h
  have e1 : ∀ (_ : Unit), F161_3b (e 2) (e 3) w K = denL Try.prog (tabOf T161) 51 fuel ((flat (bodyOf Try.f161)).drop 8) e w (fun e w => K (.tuple #[(e 2), (e 3), (e 4)]) w) (endD Try.prog [.tmp 2, .tmp 3, .tmp 4] K) noE := by intro _; kernel_rfl
  exact seg_end (Eq.mp (e1 ()) h) hn hr he
def F161_2b (s0 : Value) (s2 : Value) (s3 : Value) (s5 : Value) (w : World) (K : Value → World → Prop) (Y0 : Value → Value → Value → Value → World → Prop) (Y1 : Value → Value → World → Prop) : Prop :=
bindP (bLt s5 s3) fun v10 =>
ifB v10 (
bindP (pIndexS s0 s5) fun v11 =>
bindP (bShr v11 (.int .u64 6)) fun v12 =>
bindP (bNe Try.prog 5 (.tmp 30) (.const (.int .u8 2)) v12 (.int .u8 2)) fun v13 =>
ifB v13 (
K (.tuple #[(.int .i64 0), (.int .i64 0), (.int .i64 40)]) w) (
bindP (bShl s2 (.int .u64 6)) fun v14 =>
bindP (pIndexS s0 s5) fun v15 =>
bindP (bBit .and v15 (.int .u8 63)) fun v16 =>
bindP (cInt .i64 v16) fun v17 =>
bindP (bBit .or v14 v17) fun v18 =>
bindP (bAdd s5 (.int .i64 1)) fun v19 =>
Y0 s0 v18 s3 v19 w)) (
Y1 s2 s3 w)
def F161_2L : Nat → Value → Value → Value → Value → World → (Value → World → Prop) → Prop
  | 0, _, _, _, _, _, _ => False
  | n + 1, s0, s2, s3, s5, w, K => F161_2b s0 s2 s3 s5 w K (fun a0 a2 a3 a5 w => F161_2L n a0 a2 a3 a5 w K) (fun a2 a3 w => F161_3 a2 a3 w K)
def F161_2 (s0 : Value) (s2 : Value) (s3 : Value) (s5 : Value) (w : World) (K : Value → World → Prop) : Prop := F161_2L fuel s0 s2 s3 s5 w K
theorem ok161_2 {K : Value → World → Prop} {kn kr : Env → World → Prop} {ke : Nat → Env → World → Prop}
    (hn : ∀ e w, (fun e w => K (.tuple #[(e 2), (e 3), (e 4)]) w) e w → kn e w) (hr : ∀ e w, endD Try.prog [.tmp 2, .tmp 3, .tmp 4] K e w → kr e w) (he : ∀ i e w, noE i e w → ke i e w) :
    ∀ e w, F161_2 (e 0) (e 2) (e 3) (e 5) w K → denL Try.prog (tabOf T161) 51 fuel ((flat (bodyOf Try.f161)).drop 7) e w kn kr ke := by
  intro e w h
  unfold F161_2 at h
  refine seg_loop (id := 0) (body := (loopB (blkB (nthC (flat (bodyOf Try.f161)) 7)))) (l2 := (flat (bodyOf Try.f161)).drop 8) (by kernel_rfl) ?_
  refine loop_ok (FL := fun m e w => F161_2L m (e 0) (e 2) (e 3) (e 5) w K) (fr := endD Try.prog [.tmp 2, .tmp 3, .tmp 4] K) (fe := (blkK 0 (fun e w => F161_3 (e 2) (e 3) w K) noE)) (fun _ _ h => h) ?_ hr (blkK_mono (fun e w h => ok161_3 hn hr he e w h) he) fuel e w h
  intro m e w h
  have h : F161_2L (m + 1) (e 0) (e 2) (e 3) (e 5) w K := h
  rw [F161_2L] at h
  have e1 : ∀ (Y0 : Value → Value → Value → Value → World → Prop) (Y1 : Value → Value → World → Prop), F161_2b (e 0) (e 2) (e 3) (e 5) w K Y0 Y1 = denL Try.prog (tabOf T161) 51 fuel (flat (loopB (blkB (nthC (flat (bodyOf Try.f161)) 7)))) e w (fun e w => Y0 (e 0) (e 2) (e 3) (e 5) w) (endD Try.prog [.tmp 2, .tmp 3, .tmp 4] K) (blkK 0 (fun e w => Y1 (e 2) (e 3) w) noE) := by intro Y0 Y1; kernel_rfl
  exact Eq.mp (e1 (fun a0 a2 a3 a5 w => F161_2L m a0 a2 a3 a5 w K) (fun a2 a3 w => F161_3 a2 a3 w K)) h
def F161_1b (s0 : Value) (w : World) (K : Value → World → Prop) (Y0 : Value → Value → Value → Value → World → Prop) : Prop :=
bindP (bEq Try.prog 9 (.tmp 6) (.const (.string ⟨#[]⟩)) s0 (.string ⟨#[]⟩)) fun v20 =>
ifB v20 (
K (.tuple #[(.int .i64 0), (.int .i64 0), (.int .i64 40)]) w) (
bindP (pIndexS s0 (.int .i64 0)) fun v21 =>
callP G180 [v21] w fun v23 w22 =>
bindP (pTuple v23 0) fun v24 =>
bindP (pTuple v23 1) fun v25 =>
bindP (bEq Try.prog 3 (.tmp 14) (.const (.int .i64 0)) v24 (.int .i64 0)) fun v26 =>
stepM (gd false v26) v24 fun v27 =>
stepM (gd false v26) s0 fun v28 =>
Sx.stepG (gd false v26) (lenS v28) fun v29 =>
Sx.stepG (gd false v26) (bGt v27 v29) fun v30 =>
bindP (pPick v26 (.bool true) v30) fun v31 =>
ifB v31 (
K (.tuple #[(.int .i64 0), (.int .i64 0), (.int .i64 40)]) w22) (
Y0 s0 v25 v24 (.int .i64 1) w22))
def F161_1 (s0 : Value) (w : World) (K : Value → World → Prop) : Prop := F161_1b s0 w K (fun a0 a2 a3 a5 w => F161_2 a0 a2 a3 a5 w K)
theorem ok161_1 {K : Value → World → Prop} {kn kr : Env → World → Prop} {ke : Nat → Env → World → Prop}
    (hn : ∀ e w, (fun e w => K (.tuple #[(e 2), (e 3), (e 4)]) w) e w → kn e w) (hr : ∀ e w, endD Try.prog [.tmp 2, .tmp 3, .tmp 4] K e w → kr e w) (he : ∀ i e w, noE i e w → ke i e w) :
    ∀ e w, F161_1 (e 0) w K → denL Try.prog (tabOf T161) 51 fuel ((flat (bodyOf Try.f161)).drop 0) e w kn kr ke := by
  intro e w h
  unfold F161_1 at h
  have e1 : ∀ (Y0 : Value → Value → Value → Value → World → Prop), F161_1b (e 0) w K Y0 = denL Try.prog (tabOf T161) 51 fuel (((flat (bodyOf Try.f161)).drop 0).take 7) e w (fun e w => Y0 (e 0) (e 2) (e 3) (e 5) w) (endD Try.prog [.tmp 2, .tmp 3, .tmp 4] K) noE := by intro Y0; kernel_rfl
  exact seg 7 (Eq.mp (e1 (fun a0 a2 a3 a5 w => F161_2 a0 a2 a3 a5 w K)) h) (fun e w h => ok161_2 hn hr he e w h) hr he
def F161 (x0 : Value) (w : World) (K : Value → World → Prop) : Prop := F161_1 x0 w K
def G161 : FnT := fun args w K => on1 (fun x0 => F161 x0 w K) args
theorem c161 {x0 : Value} {w : World} {K : Value → World → Prop} (h : F161 x0 w K) : callP G161 [x0] w K := callP_intro (on1_mk (p := fun x0 => F161 x0 w K) h)
theorem ok161 : OkF Try.prog 161 G161 := by
  refine okF_of (tab_ok (l := T161) ⟨ok180, ok181, ok182, trivial⟩) mixed (n := fuel) Try.func161 Try.call161 fun args w K h => ?_
  obtain ⟨x0, rfl, hh⟩ := of_on1 h
  unfold F161 at hh
  exact fnD_list (c := bodyOf Try.f161) (by kernel_rfl) (by kernel_rfl) (ok161_1 (fun _ _ h => h) (fun _ _ h => h) (fun _ _ _ h => h) (initE [x0]) w hh)
def T135 : List (Nat × FnT) := [(161, G161)]
def F135_3b (s4 : Value) (w : World) (K : Value → World → Prop) : Prop :=
K (.tuple #[s4, (.int .i64 0)]) w
def F135_3 (s4 : Value) (w : World) (K : Value → World → Prop) : Prop := F135_3b s4 w K
theorem ok135_3 {K : Value → World → Prop} {kn kr : Env → World → Prop} {ke : Nat → Env → World → Prop}
    (hn : ∀ e w, (fun e w => K (.tuple #[(e 2), (e 3)]) w) e w → kn e w) (hr : ∀ e w, endD Try.prog [.tmp 2, .tmp 3] K e w → kr e w) (he : ∀ i e w, noE i e w → ke i e w) :
    ∀ e w, F135_3 (e 4) w K → denL Try.prog (tabOf T135) 27 fuel ((flat (bodyOf Try.f135)).drop 3) e w kn kr ke := by
  intro e w h
  unfold F135_3 at h
  have e1 : ∀ (_ : Unit), F135_3b (e 4) w K = denL Try.prog (tabOf T135) 27 fuel ((flat (bodyOf Try.f135)).drop 3) e w (fun e w => K (.tuple #[(e 2), (e 3)]) w) (endD Try.prog [.tmp 2, .tmp 3] K) noE := by intro _; kernel_rfl
  exact seg_end (Eq.mp (e1 ()) h) hn hr he
def F135_2b (s0 : Value) (s4 : Value) (w : World) (K : Value → World → Prop) (Y0 : Value → Value → World → Prop) (Y1 : Value → World → Prop) : Prop :=
bindP (bNe Try.prog 9 (.tmp 8) (.const (.string ⟨#[]⟩)) s0 (.string ⟨#[]⟩)) fun v1 =>
ifB v1 (
callP G161 [s0] w fun v3 w2 =>
bindP (pTuple v3 0) fun v4 =>
bindP (pTuple v3 1) fun v5 =>
bindP (pTuple v3 2) fun v6 =>
bindP (bNe Try.prog 24 (.tmp 16) (.const (.int .i64 0)) v6 (.int .i64 0)) fun v7 =>
ifB v7 (
K (.tuple #[(.slice none 0 0), v6]) w2) (
eBuildSl Try.prog 22 1 [(0, v4)] w2 fun v9 w8 =>
eAppend Try.prog 22 22 s4 v9 w8 fun v11 w10 =>
bindP (pSliceS s0 (some v5) none) fun v12 =>
Y0 v12 v11 w10)) (
Y1 s4 w)
def F135_2L : Nat → Value → Value → World → (Value → World → Prop) → Prop
  | 0, _, _, _, _ => False
  | n + 1, s0, s4, w, K => F135_2b s0 s4 w K (fun a0 a4 w => F135_2L n a0 a4 w K) (fun a4 w => F135_3 a4 w K)
def F135_2 (s0 : Value) (s4 : Value) (w : World) (K : Value → World → Prop) : Prop := F135_2L fuel s0 s4 w K
theorem ok135_2 {K : Value → World → Prop} {kn kr : Env → World → Prop} {ke : Nat → Env → World → Prop}
    (hn : ∀ e w, (fun e w => K (.tuple #[(e 2), (e 3)]) w) e w → kn e w) (hr : ∀ e w, endD Try.prog [.tmp 2, .tmp 3] K e w → kr e w) (he : ∀ i e w, noE i e w → ke i e w) :
    ∀ e w, F135_2 (e 0) (e 4) w K → denL Try.prog (tabOf T135) 27 fuel ((flat (bodyOf Try.f135)).drop 2) e w kn kr ke := by
  intro e w h
  unfold F135_2 at h
  refine seg_loop (id := 0) (body := (loopB (blkB (nthC (flat (bodyOf Try.f135)) 2)))) (l2 := (flat (bodyOf Try.f135)).drop 3) (by kernel_rfl) ?_
  refine loop_ok (FL := fun m e w => F135_2L m (e 0) (e 4) w K) (fr := endD Try.prog [.tmp 2, .tmp 3] K) (fe := (blkK 0 (fun e w => F135_3 (e 4) w K) noE)) (fun _ _ h => h) ?_ hr (blkK_mono (fun e w h => ok135_3 hn hr he e w h) he) fuel e w h
  intro m e w h
  have h : F135_2L (m + 1) (e 0) (e 4) w K := h
  rw [F135_2L] at h
  have e1 : ∀ (Y0 : Value → Value → World → Prop) (Y1 : Value → World → Prop), F135_2b (e 0) (e 4) w K Y0 Y1 = denL Try.prog (tabOf T135) 27 fuel (flat (loopB (blkB (nthC (flat (bodyOf Try.f135)) 2)))) e w (fun e w => Y0 (e 0) (e 4) w) (endD Try.prog [.tmp 2, .tmp 3] K) (blkK 0 (fun e w => Y1 (e 4) w) noE) := by intro Y0 Y1; kernel_rfl
  exact Eq.mp (e1 (fun a0 a4 w => F135_2L m a0 a4 w K) (fun a4 w => F135_3 a4 w K)) h
def F135_1b (s0 : Value) (w : World) (_K : Value → World → Prop) (Y0 : Value → Value → World → Prop) : Prop :=
Y0 s0 (.slice none 0 0) w
def F135_1 (s0 : Value) (w : World) (K : Value → World → Prop) : Prop := F135_1b s0 w K (fun a0 a4 w => F135_2 a0 a4 w K)
theorem ok135_1 {K : Value → World → Prop} {kn kr : Env → World → Prop} {ke : Nat → Env → World → Prop}
    (hn : ∀ e w, (fun e w => K (.tuple #[(e 2), (e 3)]) w) e w → kn e w) (hr : ∀ e w, endD Try.prog [.tmp 2, .tmp 3] K e w → kr e w) (he : ∀ i e w, noE i e w → ke i e w) :
    ∀ e w, F135_1 (e 0) w K → denL Try.prog (tabOf T135) 27 fuel ((flat (bodyOf Try.f135)).drop 0) e w kn kr ke := by
  intro e w h
  unfold F135_1 at h
  have e1 : ∀ (Y0 : Value → Value → World → Prop), F135_1b (e 0) w K Y0 = denL Try.prog (tabOf T135) 27 fuel (((flat (bodyOf Try.f135)).drop 0).take 2) e w (fun e w => Y0 (e 0) (e 4) w) (endD Try.prog [.tmp 2, .tmp 3] K) noE := by intro Y0; kernel_rfl
  exact seg 2 (Eq.mp (e1 (fun a0 a4 w => F135_2 a0 a4 w K)) h) (fun e w h => ok135_2 hn hr he e w h) hr he
def F135 (x0 : Value) (w : World) (K : Value → World → Prop) : Prop := F135_1 x0 w K
def G135 : FnT := fun args w K => on1 (fun x0 => F135 x0 w K) args
theorem c135 {x0 : Value} {w : World} {K : Value → World → Prop} (h : F135 x0 w K) : callP G135 [x0] w K := callP_intro (on1_mk (p := fun x0 => F135 x0 w K) h)
theorem ok135 : OkF Try.prog 135 G135 := by
  refine okF_of (tab_ok (l := T135) ⟨ok161, trivial⟩) mixed (n := fuel) Try.func135 Try.call135 fun args w K h => ?_
  obtain ⟨x0, rfl, hh⟩ := of_on1 h
  unfold F135 at hh
  exact fnD_list (c := bodyOf Try.f135) (by kernel_rfl) (by kernel_rfl) (ok135_1 (fun _ _ h => h) (fun _ _ h => h) (fun _ _ _ h => h) (initE [x0]) w hh)
def T137 : List (Nat × FnT) := []
def F137 (x0 : Value) (w : World) (K : Value → World → Prop) : Prop :=
bindP (bLt x0 (.int .i64 32)) fun v1 =>
stepM (gd false v1) x0 fun v2 =>
Sx.stepG (gd false v1) (bEq Try.prog 3 (.tmp 6) (.const (.int .i64 127)) v2 (.int .i64 127)) fun v3 =>
bindP (pPick v1 (.bool true) v3) fun v4 =>
K v4 w
def G137 : FnT := fun args w K => on1 (fun x0 => F137 x0 w K) args
theorem c137 {x0 : Value} {w : World} {K : Value → World → Prop} (h : F137 x0 w K) : callP G137 [x0] w K := callP_intro (on1_mk (p := fun x0 => F137 x0 w K) h)
theorem ok137 : OkF Try.prog 137 G137 := by
  refine okF_of (tab_ok (l := T137) trivial) mixed (n := fuel) Try.func137 Try.call137 fun args w K h => ?_
  obtain ⟨x0, rfl, hh⟩ := of_on1 h
  exact fnD_list (c := bodyOf Try.f137) (by kernel_rfl) (by kernel_rfl) (Eq.mp (by kernel_rfl) hh)
def T162 : List (Nat × FnT) := [(137, G137)]
def F162_3b (w : World) (K : Value → World → Prop) : Prop :=
K (.int .i64 (-1)) w
def F162_3 (w : World) (K : Value → World → Prop) : Prop := F162_3b w K
theorem ok162_3 {K : Value → World → Prop} {kn kr : Env → World → Prop} {ke : Nat → Env → World → Prop}
    (hn : ∀ e w, (fun e w => K (e 4) w) e w → kn e w) (hr : ∀ e w, endD Try.prog [.tmp 4] K e w → kr e w) (he : ∀ i e w, noE i e w → ke i e w) :
    ∀ e w, F162_3 w K → denL Try.prog (tabOf T162) 19 fuel ((flat (bodyOf Try.f162)).drop 3) e w kn kr ke := by
  intro e w h
  unfold F162_3 at h
  have e1 : ∀ (_ : Unit), F162_3b w K = denL Try.prog (tabOf T162) 19 fuel ((flat (bodyOf Try.f162)).drop 3) e w (fun e w => K (e 4) w) (endD Try.prog [.tmp 4] K) noE := by intro _; kernel_rfl
  exact seg_end (Eq.mp (e1 ()) h) hn hr he
def F162_2b (s0 : Value) (s1 : Value) (s7 : Value) (s8 : Value) (w : World) (K : Value → World → Prop) (Y0 : Value → Value → Value → Value → World → Prop) (Y1 : World → Prop) : Prop :=
bindP (bLt s8 s7) fun v1 =>
ifB v1 (
bindP (pIndexL 1 s0 s8) fun v2 =>
bindP (ld1 v2 w) fun v3 =>
eCallV (tabOf T162) s1 [v3] w fun v5 w4 =>
ifB v5 (
K s8 w4) (
bindP (bAdd s8 (.int .i64 1)) fun v6 =>
Y0 s0 s1 s7 v6 w4)) (
Y1 w)
def F162_2L : Nat → Value → Value → Value → Value → World → (Value → World → Prop) → Prop
  | 0, _, _, _, _, _, _ => False
  | n + 1, s0, s1, s7, s8, w, K => F162_2b s0 s1 s7 s8 w K (fun a0 a1 a7 a8 w => F162_2L n a0 a1 a7 a8 w K) (fun w => F162_3 w K)
def F162_2 (s0 : Value) (s1 : Value) (s7 : Value) (s8 : Value) (w : World) (K : Value → World → Prop) : Prop := F162_2L fuel s0 s1 s7 s8 w K
theorem ok162_2 {K : Value → World → Prop} {kn kr : Env → World → Prop} {ke : Nat → Env → World → Prop}
    (hn : ∀ e w, (fun e w => K (e 4) w) e w → kn e w) (hr : ∀ e w, endD Try.prog [.tmp 4] K e w → kr e w) (he : ∀ i e w, noE i e w → ke i e w) :
    ∀ e w, F162_2 (e 0) (e 1) (e 7) (e 8) w K → denL Try.prog (tabOf T162) 19 fuel ((flat (bodyOf Try.f162)).drop 2) e w kn kr ke := by
  intro e w h
  unfold F162_2 at h
  refine seg_loop (id := 0) (body := (loopB (blkB (nthC (flat (bodyOf Try.f162)) 2)))) (l2 := (flat (bodyOf Try.f162)).drop 3) (by kernel_rfl) ?_
  refine loop_ok (FL := fun m e w => F162_2L m (e 0) (e 1) (e 7) (e 8) w K) (fr := endD Try.prog [.tmp 4] K) (fe := (blkK 0 (fun e w => F162_3 w K) noE)) (fun _ _ h => h) ?_ hr (blkK_mono (fun e w h => ok162_3 hn hr he e w h) he) fuel e w h
  intro m e w h
  have h : F162_2L (m + 1) (e 0) (e 1) (e 7) (e 8) w K := h
  rw [F162_2L] at h
  have e1 : ∀ (Y0 : Value → Value → Value → Value → World → Prop) (Y1 : World → Prop), F162_2b (e 0) (e 1) (e 7) (e 8) w K Y0 Y1 = denL Try.prog (tabOf T162) 19 fuel (flat (loopB (blkB (nthC (flat (bodyOf Try.f162)) 2)))) e w (fun e w => Y0 (e 0) (e 1) (e 7) (e 8) w) (endD Try.prog [.tmp 4] K) (blkK 0 (fun e w => Y1 w) noE) := by intro Y0 Y1; kernel_rfl
  exact Eq.mp (e1 (fun a0 a1 a7 a8 w => F162_2L m a0 a1 a7 a8 w K) (fun w => F162_3 w K)) h
def F162_1b (s0 : Value) (s1 : Value) (w : World) (_K : Value → World → Prop) (Y0 : Value → Value → Value → Value → World → Prop) : Prop :=
bindP (lenL s0) fun v7 =>
Y0 s0 s1 v7 (.int .i64 0) w
def F162_1 (s0 : Value) (s1 : Value) (w : World) (K : Value → World → Prop) : Prop := F162_1b s0 s1 w K (fun a0 a1 a7 a8 w => F162_2 a0 a1 a7 a8 w K)
theorem ok162_1 {K : Value → World → Prop} {kn kr : Env → World → Prop} {ke : Nat → Env → World → Prop}
    (hn : ∀ e w, (fun e w => K (e 4) w) e w → kn e w) (hr : ∀ e w, endD Try.prog [.tmp 4] K e w → kr e w) (he : ∀ i e w, noE i e w → ke i e w) :
    ∀ e w, F162_1 (e 0) (e 1) w K → denL Try.prog (tabOf T162) 19 fuel ((flat (bodyOf Try.f162)).drop 0) e w kn kr ke := by
  intro e w h
  unfold F162_1 at h
  have e1 : ∀ (Y0 : Value → Value → Value → Value → World → Prop), F162_1b (e 0) (e 1) w K Y0 = denL Try.prog (tabOf T162) 19 fuel (((flat (bodyOf Try.f162)).drop 0).take 2) e w (fun e w => Y0 (e 0) (e 1) (e 7) (e 8) w) (endD Try.prog [.tmp 4] K) noE := by intro Y0; kernel_rfl
  exact seg 2 (Eq.mp (e1 (fun a0 a1 a7 a8 w => F162_2 a0 a1 a7 a8 w K)) h) (fun e w h => ok162_2 hn hr he e w h) hr he
def F162 (x0 : Value) (x1 : Value) (w : World) (K : Value → World → Prop) : Prop := F162_1 x0 x1 w K
def G162 : FnT := fun args w K => on2 (fun x0 x1 => F162 x0 x1 w K) args
theorem c162 {x0 x1 : Value} {w : World} {K : Value → World → Prop} (h : F162 x0 x1 w K) : callP G162 [x0, x1] w K := callP_intro (on2_mk (p := fun x0 x1 => F162 x0 x1 w K) h)
theorem ok162 : OkF Try.prog 162 G162 := by
  refine okF_of (tab_ok (l := T162) ⟨ok137, trivial⟩) mixed (n := fuel) Try.func162 Try.call162 fun args w K h => ?_
  obtain ⟨x0, x1, rfl, hh⟩ := of_on2 h
  unfold F162 at hh
  exact fnD_list (c := bodyOf Try.f162) (by kernel_rfl) (by kernel_rfl) (ok162_1 (fun _ _ h => h) (fun _ _ h => h) (fun _ _ _ h => h) (initE [x0, x1]) w hh)
def T136 : List (Nat × FnT) := [(162, G162)]
def F136 (x0 : Value) (x1 : Value) (w : World) (K : Value → World → Prop) : Prop :=
callP G162 [x0, x1] w fun v2 w1 =>
bindP (bGe v2 (.int .i64 0)) fun v3 =>
K v3 w1
def G136 : FnT := fun args w K => on2 (fun x0 x1 => F136 x0 x1 w K) args
theorem c136 {x0 x1 : Value} {w : World} {K : Value → World → Prop} (h : F136 x0 x1 w K) : callP G136 [x0, x1] w K := callP_intro (on2_mk (p := fun x0 x1 => F136 x0 x1 w K) h)
theorem ok136 : OkF Try.prog 136 G136 := by
  refine okF_of (tab_ok (l := T136) ⟨ok162, trivial⟩) mixed (n := fuel) Try.func136 Try.call136 fun args w K h => ?_
  obtain ⟨x0, x1, rfl, hh⟩ := of_on2 h
  exact fnD_list (c := bodyOf Try.f136) (by kernel_rfl) (by kernel_rfl) (Eq.mp (by kernel_rfl) hh)
def T111 : List (Nat × FnT) := [(135, G135), (136, G136)]
def F111 (x0 : Value) (x1 : Value) (w : World) (K : Value → World → Prop) : Prop :=
callP G135 [x0] w fun v2 w1 =>
bindP (pTuple v2 0) fun v3 =>
bindP (pTuple v2 1) fun v4 =>
callP G136 [v3, (.func (.func 137) #[] #[])] w1 fun v6 w5 =>
bindP (bEq Try.prog 24 (.tmp 15) (.const (.int .i64 0)) v4 (.int .i64 0)) fun v7 =>
stepM (gd true v7) v6 fun v8 =>
Sx.stepG (gd true v7) (uNot v8) fun v9 =>
bindP (pPick v7 v9 (.bool false)) fun v10 =>
stepM (gd true v10) x0 fun v11 =>
Sx.stepG (gd true v10) (lenS v11) fun v12 =>
stepM (gd true v10) x1 fun v13 =>
Sx.stepG (gd true v10) (bLe v12 v13) fun v14 =>
bindP (pPick v10 v14 (.bool false)) fun v15 =>
K v15 w5
def G111 : FnT := fun args w K => on2 (fun x0 x1 => F111 x0 x1 w K) args
theorem c111 {x0 x1 : Value} {w : World} {K : Value → World → Prop} (h : F111 x0 x1 w K) : callP G111 [x0, x1] w K := callP_intro (on2_mk (p := fun x0 x1 => F111 x0 x1 w K) h)
theorem ok111 : OkF Try.prog 111 G111 := by
  refine okF_of (tab_ok (l := T111) ⟨ok135, ok136, trivial⟩) mixed (n := fuel) Try.func111 Try.call111 fun args w K h => ?_
  obtain ⟨x0, x1, rfl, hh⟩ := of_on2 h
  exact fnD_list (c := bodyOf Try.f111) (by kernel_rfl) (by kernel_rfl) (Eq.mp (by kernel_rfl) hh)
def T61 : List (Nat × FnT) := [(111, G111)]
def F61 (x0 : Value) (w : World) (K : Value → World → Prop) : Prop :=
eBox 31 x0 w fun v2 w1 =>
bindP (pFieldAddr 0 v2) fun v3 =>
bindP (ld1 v3 w1) fun v4 =>
bindP (bNe Try.prog 9 (.tmp 5) (.const (.string ⟨#[]⟩)) v4 (.string ⟨#[]⟩)) fun v5 =>
Sx.stepG (gd true v5) (pFieldAddr 1 v2) fun v6 =>
Sx.stepG (gd true v5) (ld1 v6 w1) fun v7 =>
Sx.stepG (gd true v5) (bNe Try.prog 9 (.tmp 9) (.const (.string ⟨#[]⟩)) v7 (.string ⟨#[]⟩)) fun v8 =>
bindP (pPick v5 v8 (.bool false)) fun v9 =>
Sx.stepG (gd true v9) (pFieldAddr 0 v2) fun v10 =>
Sx.stepG (gd true v9) (ld1 v10 w1) fun v11 =>
stepE (gd true v9) (fun k => callP G111 [v11, (.int .i64 64)] w1 k) w1 fun v13 w12 =>
bindP (pPick v9 v13 (.bool false)) fun v14 =>
Sx.stepG (gd true v14) (pFieldAddr 1 v2) fun v15 =>
Sx.stepG (gd true v14) (ld1 v15 w12) fun v16 =>
stepE (gd true v14) (fun k => callP G111 [v16, (.int .i64 64)] w12 k) w12 fun v18 w17 =>
bindP (pPick v14 v18 (.bool false)) fun v19 =>
bindP (uNot v19) fun v20 =>
Sx.stepG (gd false v20) (pFieldAddr 2 v2) fun v21 =>
Sx.stepG (gd false v20) (ld1 v21 w17) fun v22 =>
stepE (gd false v20) (fun k => callP G111 [v22, (.int .i64 128)] w17 k) w17 fun v24 w23 =>
Sx.stepG (gd false v20) (uNot v24) fun v25 =>
bindP (pPick v20 (.bool true) v25) fun v26 =>
Sx.stepG (gd false v26) (pFieldAddr 4 v2) fun v27 =>
Sx.stepG (gd false v26) (ld1 v27 w23) fun v28 =>
stepE (gd false v26) (fun k => callP G111 [v28, (.int .i64 1024)] w23 k) w23 fun v30 w29 =>
Sx.stepG (gd false v26) (uNot v30) fun v31 =>
bindP (pPick v26 (.bool true) v31) fun v32 =>
Sx.stepG (gd false v32) (pFieldAddr 3 v2) fun v33 =>
Sx.stepG (gd false v32) (ld1 v33 w29) fun v34 =>
Sx.stepG (gd false v32) (bLt v34 (.int .i64 0)) fun v35 =>
bindP (pPick v32 (.bool true) v35) fun v36 =>
Sx.stepG (gd false v36) (pFieldAddr 3 v2) fun v37 =>
Sx.stepG (gd false v36) (ld1 v37 w29) fun v38 =>
Sx.stepG (gd false v36) (bGt v38 (.int .i64 5)) fun v39 =>
bindP (pPick v36 (.bool true) v39) fun v40 =>
ifB v40 (
K (.int .i64 180) w29) (
K (.int .i64 0) w29)
def G61 : FnT := fun args w K => on1 (fun x0 => F61 x0 w K) args
theorem c61 {x0 : Value} {w : World} {K : Value → World → Prop} (h : F61 x0 w K) : callP G61 [x0] w K := callP_intro (on1_mk (p := fun x0 => F61 x0 w K) h)
theorem ok61 : OkF Try.prog 61 G61 := by
  refine okF_of (tab_ok (l := T61) ⟨ok111, trivial⟩) mixed (n := fuel) Try.func61 Try.call61 fun args w K h => ?_
  obtain ⟨x0, rfl, hh⟩ := of_on1 h
  exact fnD_list (c := bodyOf Try.f61) (by kernel_rfl) (by kernel_rfl) (Eq.mp (by kernel_rfl) hh)
def T183 : List (Nat × FnT) := []
def F183_4b (s5 : Value) (w : World) (K : Value → World → Prop) : Prop :=
K s5 w
def F183_4 (s5 : Value) (w : World) (K : Value → World → Prop) : Prop := F183_4b s5 w K
theorem ok183_4 {K : Value → World → Prop} {kn kr : Env → World → Prop} {ke : Nat → Env → World → Prop}
    (hn : ∀ e w, (fun e w => K (e 4) w) e w → kn e w) (hr : ∀ e w, endD Try.prog [.tmp 4] K e w → kr e w) (he : ∀ i e w, noE i e w → ke i e w) :
    ∀ e w, F183_4 (e 5) w K → denL Try.prog (tabOf T183) 38 fuel ((flat (bodyOf Try.f183)).drop 6) e w kn kr ke := by
  intro e w h
  unfold F183_4 at h
  have e1 : ∀ (_ : Unit), F183_4b (e 5) w K = denL Try.prog (tabOf T183) 38 fuel ((flat (bodyOf Try.f183)).drop 6) e w (fun e w => K (e 4) w) (endD Try.prog [.tmp 4] K) noE := by intro _; kernel_rfl
  exact seg_end (Eq.mp (e1 ()) h) hn hr he
def F183_3b (s0 : Value) (s1 : Value) (s5 : Value) (s6 : Value) (w : World) (_K : Value → World → Prop) (Y0 : Value → Value → Value → Value → World → Prop) (Y1 : Value → World → Prop) : Prop :=
bindP (bLt s6 s1) fun v1 =>
ifB v1 (
bindP (bMul s5 (.int .i64 64)) fun v2 =>
bindP (pIndexS s0 s6) fun v3 =>
bindP (bRem v3 (.int .u8 64)) fun v4 =>
bindP (cInt .i64 v4) fun v5 =>
bindP (bAdd v2 v5) fun v6 =>
bindP (bAdd s6 (.int .i64 1)) fun v7 =>
Y0 s0 s1 v6 v7 w) (
Y1 s5 w)
def F183_3L : Nat → Value → Value → Value → Value → World → (Value → World → Prop) → Prop
  | 0, _, _, _, _, _, _ => False
  | n + 1, s0, s1, s5, s6, w, K => F183_3b s0 s1 s5 s6 w K (fun a0 a1 a5 a6 w => F183_3L n a0 a1 a5 a6 w K) (fun a5 w => F183_4 a5 w K)
def F183_3 (s0 : Value) (s1 : Value) (s5 : Value) (s6 : Value) (w : World) (K : Value → World → Prop) : Prop := F183_3L fuel s0 s1 s5 s6 w K
theorem ok183_3 {K : Value → World → Prop} {kn kr : Env → World → Prop} {ke : Nat → Env → World → Prop}
    (hn : ∀ e w, (fun e w => K (e 4) w) e w → kn e w) (hr : ∀ e w, endD Try.prog [.tmp 4] K e w → kr e w) (he : ∀ i e w, noE i e w → ke i e w) :
    ∀ e w, F183_3 (e 0) (e 1) (e 5) (e 6) w K → denL Try.prog (tabOf T183) 38 fuel ((flat (bodyOf Try.f183)).drop 5) e w kn kr ke := by
  intro e w h
  unfold F183_3 at h
  refine seg_loop (id := 1) (body := (loopB (blkB (nthC (flat (bodyOf Try.f183)) 5)))) (l2 := (flat (bodyOf Try.f183)).drop 6) (by kernel_rfl) ?_
  refine loop_ok (FL := fun m e w => F183_3L m (e 0) (e 1) (e 5) (e 6) w K) (fr := endD Try.prog [.tmp 4] K) (fe := (blkK 1 (fun e w => F183_4 (e 5) w K) noE)) (fun _ _ h => h) ?_ hr (blkK_mono (fun e w h => ok183_4 hn hr he e w h) he) fuel e w h
  intro m e w h
  have h : F183_3L (m + 1) (e 0) (e 1) (e 5) (e 6) w K := h
  rw [F183_3L] at h
  have e1 : ∀ (Y0 : Value → Value → Value → Value → World → Prop) (Y1 : Value → World → Prop), F183_3b (e 0) (e 1) (e 5) (e 6) w K Y0 Y1 = denL Try.prog (tabOf T183) 38 fuel (flat (loopB (blkB (nthC (flat (bodyOf Try.f183)) 5)))) e w (fun e w => Y0 (e 0) (e 1) (e 5) (e 6) w) (endD Try.prog [.tmp 4] K) (blkK 1 (fun e w => Y1 (e 5) w) noE) := by intro Y0 Y1; kernel_rfl
  exact Eq.mp (e1 (fun a0 a1 a5 a6 w => F183_3L m a0 a1 a5 a6 w K) (fun a5 w => F183_4 a5 w K)) h
def F183_2b (s0 : Value) (s1 : Value) (s5 : Value) (w : World) (_K : Value → World → Prop) (Y0 : Value → Value → Value → Value → World → Prop) : Prop :=
Y0 s0 s1 s5 (.int .i64 1) w
def F183_2 (s0 : Value) (s1 : Value) (s5 : Value) (w : World) (K : Value → World → Prop) : Prop := F183_2b s0 s1 s5 w K (fun a0 a1 a5 a6 w => F183_3 a0 a1 a5 a6 w K)
theorem ok183_2 {K : Value → World → Prop} {kn kr : Env → World → Prop} {ke : Nat → Env → World → Prop}
    (hn : ∀ e w, (fun e w => K (e 4) w) e w → kn e w) (hr : ∀ e w, endD Try.prog [.tmp 4] K e w → kr e w) (he : ∀ i e w, noE i e w → ke i e w) :
    ∀ e w, F183_2 (e 0) (e 1) (e 5) w K → denL Try.prog (tabOf T183) 38 fuel ((flat (bodyOf Try.f183)).drop 4) e w kn kr ke := by
  intro e w h
  unfold F183_2 at h
  have e1 : ∀ (Y0 : Value → Value → Value → Value → World → Prop), F183_2b (e 0) (e 1) (e 5) w K Y0 = denL Try.prog (tabOf T183) 38 fuel (((flat (bodyOf Try.f183)).drop 4).take 1) e w (fun e w => Y0 (e 0) (e 1) (e 5) (e 6) w) (endD Try.prog [.tmp 4] K) noE := by intro Y0; kernel_rfl
  exact seg 1 (Eq.mp (e1 (fun a0 a1 a5 a6 w => F183_3 a0 a1 a5 a6 w K)) h) (fun e w h => ok183_3 hn hr he e w h) hr he
def F183_1b (s0 : Value) (s1 : Value) (w : World) (K : Value → World → Prop) (Y0 : Value → Value → Value → World → Prop) : Prop :=
bindP (pIndexS s0 (.int .i64 0)) fun v8 =>
bindP (cInt .i64 v8) fun v9 =>
bindP (bEq Try.prog 3 (.tmp 10) (.const (.int .i64 1)) s1 (.int .i64 1)) fun v10 =>
ifB v10 (
K v9 w) (
bindP (bEq Try.prog 3 (.tmp 10) (.const (.int .i64 2)) s1 (.int .i64 2)) fun v11 =>
ifB v11 (
bindP (bRem v9 (.int .i64 32)) fun v12 =>
Y0 s0 s1 v12 w) (
bindP (bEq Try.prog 3 (.tmp 10) (.const (.int .i64 3)) s1 (.int .i64 3)) fun v13 =>
ifB v13 (
bindP (bRem v9 (.int .i64 16)) fun v14 =>
Y0 s0 s1 v14 w) (
bindP (bRem v9 (.int .i64 8)) fun v15 =>
Y0 s0 s1 v15 w)))
def F183_1 (s0 : Value) (s1 : Value) (w : World) (K : Value → World → Prop) : Prop := F183_1b s0 s1 w K (fun a0 a1 a5 w => F183_2 a0 a1 a5 w K)
theorem ok183_1 {K : Value → World → Prop} {kn kr : Env → World → Prop} {ke : Nat → Env → World → Prop}
    (hn : ∀ e w, (fun e w => K (e 4) w) e w → kn e w) (hr : ∀ e w, endD Try.prog [.tmp 4] K e w → kr e w) (he : ∀ i e w, noE i e w → ke i e w) :
    ∀ e w, F183_1 (e 0) (e 1) w K → denL Try.prog (tabOf T183) 38 fuel ((flat (bodyOf Try.f183)).drop 0) e w kn kr ke := by
  intro e w h
  unfold F183_1 at h
  have e1 : ∀ (Y0 : Value → Value → Value → World → Prop), F183_1b (e 0) (e 1) w K Y0 = denL Try.prog (tabOf T183) 38 fuel (((flat (bodyOf Try.f183)).drop 0).take 4) e w (fun e w => Y0 (e 0) (e 1) (e 5) w) (endD Try.prog [.tmp 4] K) noE := by intro Y0; kernel_rfl
  exact seg 4 (Eq.mp (e1 (fun a0 a1 a5 w => F183_2 a0 a1 a5 w K)) h) (fun e w h => ok183_2 hn hr he e w h) hr he
def F183 (x0 : Value) (x1 : Value) (w : World) (K : Value → World → Prop) : Prop := F183_1 x0 x1 w K
def G183 : FnT := fun args w K => on2 (fun x0 x1 => F183 x0 x1 w K) args
theorem c183 {x0 x1 : Value} {w : World} {K : Value → World → Prop} (h : F183 x0 x1 w K) : callP G183 [x0, x1] w K := callP_intro (on2_mk (p := fun x0 x1 => F183 x0 x1 w K) h)
theorem ok183 : OkF Try.prog 183 G183 := by
  refine okF_of (tab_ok (l := T183) trivial) mixed (n := fuel) Try.func183 Try.call183 fun args w K h => ?_
  obtain ⟨x0, x1, rfl, hh⟩ := of_on2 h
  unfold F183 at hh
  exact fnD_list (c := bodyOf Try.f183) (by kernel_rfl) (by kernel_rfl) (ok183_1 (fun _ _ h => h) (fun _ _ h => h) (fun _ _ _ h => h) (initE [x0, x1]) w hh)
def T184 : List (Nat × FnT) := []
def F184 (x0 : Value) (w : World) (K : Value → World → Prop) : Prop :=
bindP (bGe x0 (.int .i64 0)) fun v1 =>
stepM (gd true v1) x0 fun v2 =>
Sx.stepG (gd true v1) (bLe v2 (.int .i64 1114111)) fun v3 =>
bindP (pPick v1 v3 (.bool false)) fun v4 =>
stepM (gd true v4) x0 fun v5 =>
Sx.stepG (gd true v4) (bLt v5 (.int .i64 55296)) fun v6 =>
stepM (gd true v4) v6 fun v7 =>
stepM (gd false v7) x0 fun v8 =>
Sx.stepG (gd false v7) (bGt v8 (.int .i64 57343)) fun v9 =>
Sx.stepG (gd true v4) (pPick v7 (.bool true) v9) fun v10 =>
bindP (pPick v4 v10 (.bool false)) fun v11 =>
K v11 w
def G184 : FnT := fun args w K => on1 (fun x0 => F184 x0 w K) args
theorem c184 {x0 : Value} {w : World} {K : Value → World → Prop} (h : F184 x0 w K) : callP G184 [x0] w K := callP_intro (on1_mk (p := fun x0 => F184 x0 w K) h)
theorem ok184 : OkF Try.prog 184 G184 := by
  refine okF_of (tab_ok (l := T184) trivial) mixed (n := fuel) Try.func184 Try.call184 fun args w K h => ?_
  obtain ⟨x0, rfl, hh⟩ := of_on1 h
  exact fnD_list (c := bodyOf Try.f184) (by kernel_rfl) (by kernel_rfl) (Eq.mp (by kernel_rfl) hh)
def T185 : List (Nat × FnT) := []
def F185 (x0 : Value) (w : World) (K : Value → World → Prop) : Prop :=
bindP (bLt x0 (.int .i64 128)) fun v1 =>
ifB v1 (
bindP (cInt .u8 x0) fun v2 =>
eBuildSl Try.prog 29 1 [(0, v2)] w fun v4 w3 =>
bindP (cBytes v4 w3) fun v5 =>
K v5 w3) (
bindP (bLt x0 (.int .i64 2048)) fun v6 =>
ifB v6 (
bindP (bQuo x0 (.int .i64 64)) fun v7 =>
bindP (bAdd (.int .i64 192) v7) fun v8 =>
bindP (cInt .u8 v8) fun v9 =>
bindP (bRem x0 (.int .i64 64)) fun v10 =>
bindP (bAdd (.int .i64 128) v10) fun v11 =>
bindP (cInt .u8 v11) fun v12 =>
eBuildSl Try.prog 29 2 [(0, v9), (1, v12)] w fun v14 w13 =>
bindP (cBytes v14 w13) fun v15 =>
K v15 w13) (
bindP (bLt x0 (.int .i64 65536)) fun v16 =>
ifB v16 (
bindP (bQuo x0 (.int .i64 4096)) fun v17 =>
bindP (bAdd (.int .i64 224) v17) fun v18 =>
bindP (cInt .u8 v18) fun v19 =>
bindP (bQuo x0 (.int .i64 64)) fun v20 =>
bindP (bRem v20 (.int .i64 64)) fun v21 =>
bindP (bAdd (.int .i64 128) v21) fun v22 =>
bindP (cInt .u8 v22) fun v23 =>
bindP (bRem x0 (.int .i64 64)) fun v24 =>
bindP (bAdd (.int .i64 128) v24) fun v25 =>
bindP (cInt .u8 v25) fun v26 =>
eBuildSl Try.prog 29 3 [(0, v19), (1, v23), (2, v26)] w fun v28 w27 =>
bindP (cBytes v28 w27) fun v29 =>
K v29 w27) (
bindP (bQuo x0 (.int .i64 262144)) fun v30 =>
bindP (bAdd (.int .i64 240) v30) fun v31 =>
bindP (cInt .u8 v31) fun v32 =>
bindP (bQuo x0 (.int .i64 4096)) fun v33 =>
bindP (bRem v33 (.int .i64 64)) fun v34 =>
bindP (bAdd (.int .i64 128) v34) fun v35 =>
bindP (cInt .u8 v35) fun v36 =>
bindP (bQuo x0 (.int .i64 64)) fun v37 =>
bindP (bRem v37 (.int .i64 64)) fun v38 =>
bindP (bAdd (.int .i64 128) v38) fun v39 =>
bindP (cInt .u8 v39) fun v40 =>
bindP (bRem x0 (.int .i64 64)) fun v41 =>
bindP (bAdd (.int .i64 128) v41) fun v42 =>
bindP (cInt .u8 v42) fun v43 =>
eBuildSl Try.prog 29 4 [(0, v32), (1, v36), (2, v40), (3, v43)] w fun v45 w44 =>
bindP (cBytes v45 w44) fun v46 =>
K v46 w44)))
def G185 : FnT := fun args w K => on1 (fun x0 => F185 x0 w K) args
theorem c185 {x0 : Value} {w : World} {K : Value → World → Prop} (h : F185 x0 w K) : callP G185 [x0] w K := callP_intro (on1_mk (p := fun x0 => F185 x0 w K) h)
theorem ok185 : OkF Try.prog 185 G185 := by
  refine okF_of (tab_ok (l := T185) trivial) mixed (n := fuel) Try.func185 Try.call185 fun args w K h => ?_
  obtain ⟨x0, rfl, hh⟩ := of_on1 h
  exact fnD_list (c := bodyOf Try.f185) (by kernel_rfl) (by kernel_rfl) (Eq.mp (by kernel_rfl) hh)
def T163 : List (Nat × FnT) := [(183, G183), (184, G184), (185, G185)]
def F163_3b (w : World) (K : Value → World → Prop) : Prop :=
K (.tuple #[(.int .i64 0), (.int .i64 0), (.int .i64 40)]) w
def F163_3 (w : World) (K : Value → World → Prop) : Prop := F163_3b w K
theorem ok163_3 {K : Value → World → Prop} {kn kr : Env → World → Prop} {ke : Nat → Env → World → Prop}
    (hn : ∀ e w, (fun e w => K (.tuple #[(e 2), (e 3), (e 4)]) w) e w → kn e w) (hr : ∀ e w, endD Try.prog [.tmp 2, .tmp 3, .tmp 4] K e w → kr e w) (he : ∀ i e w, noE i e w → ke i e w) :
    ∀ e w, F163_3 w K → denL Try.prog (tabOf T163) 32 fuel ((flat (bodyOf Try.f163)).drop 3) e w kn kr ke := by
  intro e w h
  unfold F163_3 at h
  have e1 : ∀ (_ : Unit), F163_3b w K = denL Try.prog (tabOf T163) 32 fuel ((flat (bodyOf Try.f163)).drop 3) e w (fun e w => K (.tuple #[(e 2), (e 3), (e 4)]) w) (endD Try.prog [.tmp 2, .tmp 3, .tmp 4] K) noE := by intro _; kernel_rfl
  exact seg_end (Eq.mp (e1 ()) h) hn hr he
def F163_2b (s0 : Value) (s5 : Value) (w : World) (K : Value → World → Prop) (Y0 : Value → Value → World → Prop) (Y1 : World → Prop) : Prop :=
bindP (bLe s5 (.int .i64 4)) fun v1 =>
stepM (gd true v1) s5 fun v2 =>
stepM (gd true v1) s0 fun v3 =>
Sx.stepG (gd true v1) (lenS v3) fun v4 =>
Sx.stepG (gd true v1) (bLe v2 v4) fun v5 =>
bindP (pPick v1 v5 (.bool false)) fun v6 =>
ifB v6 (
callP G183 [s0, s5] w fun v8 w7 =>
callP G184 [v8] w7.drew fun v10 w9 =>
stepM (gd true v10) v8 fun v11 =>
stepM (gd true v10) s0 fun v12 =>
stepM (gd true v10) s5 fun v13 =>
Sx.stepG (gd true v10) (pSliceS v12 none (some v13)) fun v14 =>
stepE (gd true v10) (fun k => callP G185 [v11] w9 k) w9 fun v16 w15 =>
Sx.stepG (gd true v10) (bEq Try.prog 9 (.tmp 24) (.tmp 27) v16 v14) fun v17 =>
bindP (pPick v10 v17 (.bool false)) fun v18 =>
ifB v18 (
K (.tuple #[v8, s5, (.int .i64 0)]) w15) (
bindP (bAdd s5 (.int .i64 1)) fun v19 =>
Y0 s0 v19 w15)) (
Y1 w)
def F163_2L : Nat → Value → Value → World → (Value → World → Prop) → Prop
  | 0, _, _, _, _ => False
  | n + 1, s0, s5, w, K => F163_2b s0 s5 w K (fun a0 a5 w => F163_2L n a0 a5 w K) (fun w => F163_3 w K)
def F163_2 (s0 : Value) (s5 : Value) (w : World) (K : Value → World → Prop) : Prop := F163_2L fuel s0 s5 w K
theorem ok163_2 {K : Value → World → Prop} {kn kr : Env → World → Prop} {ke : Nat → Env → World → Prop}
    (hn : ∀ e w, (fun e w => K (.tuple #[(e 2), (e 3), (e 4)]) w) e w → kn e w) (hr : ∀ e w, endD Try.prog [.tmp 2, .tmp 3, .tmp 4] K e w → kr e w) (he : ∀ i e w, noE i e w → ke i e w) :
    ∀ e w, F163_2 (e 0) (e 5) w K → denL Try.prog (tabOf T163) 32 fuel ((flat (bodyOf Try.f163)).drop 2) e w kn kr ke := by
  intro e w h
  unfold F163_2 at h
  refine seg_loop (id := 0) (body := (loopB (blkB (nthC (flat (bodyOf Try.f163)) 2)))) (l2 := (flat (bodyOf Try.f163)).drop 3) (by kernel_rfl) ?_
  refine loop_ok (FL := fun m e w => F163_2L m (e 0) (e 5) w K) (fr := endD Try.prog [.tmp 2, .tmp 3, .tmp 4] K) (fe := (blkK 0 (fun e w => F163_3 w K) noE)) (fun _ _ h => h) ?_ hr (blkK_mono (fun e w h => ok163_3 hn hr he e w h) he) fuel e w h
  intro m e w h
  have h : F163_2L (m + 1) (e 0) (e 5) w K := h
  rw [F163_2L] at h
  have e1 : ∀ (Y0 : Value → Value → World → Prop) (Y1 : World → Prop), F163_2b (e 0) (e 5) w K Y0 Y1 = denL Try.prog (tabOf T163) 32 fuel (flat (loopB (blkB (nthC (flat (bodyOf Try.f163)) 2)))) e w (fun e w => Y0 (e 0) (e 5) w) (endD Try.prog [.tmp 2, .tmp 3, .tmp 4] K) (blkK 0 (fun e w => Y1 w) noE) := by intro Y0 Y1; kernel_rfl
  exact Eq.mp (e1 (fun a0 a5 w => F163_2L m a0 a5 w K) (fun w => F163_3 w K)) h
def F163_1b (s0 : Value) (w : World) (_K : Value → World → Prop) (Y0 : Value → Value → World → Prop) : Prop :=
Y0 s0 (.int .i64 1) w
def F163_1 (s0 : Value) (w : World) (K : Value → World → Prop) : Prop := F163_1b s0 w K (fun a0 a5 w => F163_2 a0 a5 w K)
theorem ok163_1 {K : Value → World → Prop} {kn kr : Env → World → Prop} {ke : Nat → Env → World → Prop}
    (hn : ∀ e w, (fun e w => K (.tuple #[(e 2), (e 3), (e 4)]) w) e w → kn e w) (hr : ∀ e w, endD Try.prog [.tmp 2, .tmp 3, .tmp 4] K e w → kr e w) (he : ∀ i e w, noE i e w → ke i e w) :
    ∀ e w, F163_1 (e 0) w K → denL Try.prog (tabOf T163) 32 fuel ((flat (bodyOf Try.f163)).drop 0) e w kn kr ke := by
  intro e w h
  unfold F163_1 at h
  have e1 : ∀ (Y0 : Value → Value → World → Prop), F163_1b (e 0) w K Y0 = denL Try.prog (tabOf T163) 32 fuel (((flat (bodyOf Try.f163)).drop 0).take 2) e w (fun e w => Y0 (e 0) (e 5) w) (endD Try.prog [.tmp 2, .tmp 3, .tmp 4] K) noE := by intro Y0; kernel_rfl
  exact seg 2 (Eq.mp (e1 (fun a0 a5 w => F163_2 a0 a5 w K)) h) (fun e w h => ok163_2 hn hr he e w h) hr he
def F163 (x0 : Value) (w : World) (K : Value → World → Prop) : Prop := F163_1 x0 w K
def G163 : FnT := fun args w K => on1 (fun x0 => F163 x0 w K) args
theorem c163 {x0 : Value} {w : World} {K : Value → World → Prop} (h : F163 x0 w K) : callP G163 [x0] w K := callP_intro (on1_mk (p := fun x0 => F163 x0 w K) h)
theorem ok163 : OkF Try.prog 163 G163 := by
  refine okF_of (tab_ok (l := T163) ⟨ok183, ok184, ok185, trivial⟩) mixed (n := fuel) Try.func163 Try.call163 fun args w K h => ?_
  obtain ⟨x0, rfl, hh⟩ := of_on1 h
  unfold F163 at hh
  exact fnD_list (c := bodyOf Try.f163) (by kernel_rfl) (by kernel_rfl) (ok163_1 (fun _ _ h => h) (fun _ _ h => h) (fun _ _ _ h => h) (initE [x0]) w hh)
def T138 : List (Nat × FnT) := [(163, G163)]
def F138_3b (s4 : Value) (w : World) (K : Value → World → Prop) : Prop :=
K (.tuple #[s4, (.int .i64 0)]) w
def F138_3 (s4 : Value) (w : World) (K : Value → World → Prop) : Prop := F138_3b s4 w K
theorem ok138_3 {K : Value → World → Prop} {kn kr : Env → World → Prop} {ke : Nat → Env → World → Prop}
    (hn : ∀ e w, (fun e w => K (.tuple #[(e 2), (e 3)]) w) e w → kn e w) (hr : ∀ e w, endD Try.prog [.tmp 2, .tmp 3] K e w → kr e w) (he : ∀ i e w, noE i e w → ke i e w) :
    ∀ e w, F138_3 (e 4) w K → denL Try.prog (tabOf T138) 32 fuel ((flat (bodyOf Try.f138)).drop 4) e w kn kr ke := by
  intro e w h
  unfold F138_3 at h
  have e1 : ∀ (_ : Unit), F138_3b (e 4) w K = denL Try.prog (tabOf T138) 32 fuel ((flat (bodyOf Try.f138)).drop 4) e w (fun e w => K (.tuple #[(e 2), (e 3)]) w) (endD Try.prog [.tmp 2, .tmp 3] K) noE := by intro _; kernel_rfl
  exact seg_end (Eq.mp (e1 ()) h) hn hr he
def F138_2b (s0 : Value) (s4 : Value) (s5 : Value) (w : World) (K : Value → World → Prop) (Y0 : Value → Value → Value → World → Prop) (Y1 : Value → World → Prop) : Prop :=
bindP (lenS s0) fun v1 =>
bindP (bLt s5 v1) fun v2 =>
ifB v2 (
bindP (pSliceS s0 (some s5) none) fun v3 =>
callP G163 [v3] w fun v5 w4 =>
bindP (pTuple v5 0) fun v6 =>
bindP (pTuple v5 1) fun v7 =>
bindP (pTuple v5 2) fun v8 =>
bindP (bNe Try.prog 24 (.tmp 21) (.const (.int .i64 0)) v8 (.int .i64 0)) fun v9 =>
ifB v9 (
K (.tuple #[(.slice none 0 0), v8]) w4) (
eBuildSl Try.prog 22 1 [(0, v6)] w4 fun v11 w10 =>
eAppend Try.prog 22 22 s4 v11 w10 fun v13 w12 =>
bindP (bAdd s5 v7) fun v14 =>
Y0 s0 v13 v14 w12)) (
Y1 s4 w)
def F138_2L : Nat → Value → Value → Value → World → (Value → World → Prop) → Prop
  | 0, _, _, _, _, _ => False
  | n + 1, s0, s4, s5, w, K => F138_2b s0 s4 s5 w K (fun a0 a4 a5 w => F138_2L n a0 a4 a5 w K) (fun a4 w => F138_3 a4 w K)
def F138_2 (s0 : Value) (s4 : Value) (s5 : Value) (w : World) (K : Value → World → Prop) : Prop := F138_2L fuel s0 s4 s5 w K
theorem ok138_2 {K : Value → World → Prop} {kn kr : Env → World → Prop} {ke : Nat → Env → World → Prop}
    (hn : ∀ e w, (fun e w => K (.tuple #[(e 2), (e 3)]) w) e w → kn e w) (hr : ∀ e w, endD Try.prog [.tmp 2, .tmp 3] K e w → kr e w) (he : ∀ i e w, noE i e w → ke i e w) :
    ∀ e w, F138_2 (e 0) (e 4) (e 5) w K → denL Try.prog (tabOf T138) 32 fuel ((flat (bodyOf Try.f138)).drop 3) e w kn kr ke := by
  intro e w h
  unfold F138_2 at h
  refine seg_loop (id := 0) (body := (loopB (blkB (nthC (flat (bodyOf Try.f138)) 3)))) (l2 := (flat (bodyOf Try.f138)).drop 4) (by kernel_rfl) ?_
  refine loop_ok (FL := fun m e w => F138_2L m (e 0) (e 4) (e 5) w K) (fr := endD Try.prog [.tmp 2, .tmp 3] K) (fe := (blkK 0 (fun e w => F138_3 (e 4) w K) noE)) (fun _ _ h => h) ?_ hr (blkK_mono (fun e w h => ok138_3 hn hr he e w h) he) fuel e w h
  intro m e w h
  have h : F138_2L (m + 1) (e 0) (e 4) (e 5) w K := h
  rw [F138_2L] at h
  have e1 : ∀ (Y0 : Value → Value → Value → World → Prop) (Y1 : Value → World → Prop), F138_2b (e 0) (e 4) (e 5) w K Y0 Y1 = denL Try.prog (tabOf T138) 32 fuel (flat (loopB (blkB (nthC (flat (bodyOf Try.f138)) 3)))) e w (fun e w => Y0 (e 0) (e 4) (e 5) w) (endD Try.prog [.tmp 2, .tmp 3] K) (blkK 0 (fun e w => Y1 (e 4) w) noE) := by intro Y0 Y1; kernel_rfl
  exact Eq.mp (e1 (fun a0 a4 a5 w => F138_2L m a0 a4 a5 w K) (fun a4 w => F138_3 a4 w K)) h
def F138_1b (s0 : Value) (w : World) (_K : Value → World → Prop) (Y0 : Value → Value → Value → World → Prop) : Prop :=
Y0 s0 (.slice none 0 0) (.int .i64 0) w
def F138_1 (s0 : Value) (w : World) (K : Value → World → Prop) : Prop := F138_1b s0 w K (fun a0 a4 a5 w => F138_2 a0 a4 a5 w K)
theorem ok138_1 {K : Value → World → Prop} {kn kr : Env → World → Prop} {ke : Nat → Env → World → Prop}
    (hn : ∀ e w, (fun e w => K (.tuple #[(e 2), (e 3)]) w) e w → kn e w) (hr : ∀ e w, endD Try.prog [.tmp 2, .tmp 3] K e w → kr e w) (he : ∀ i e w, noE i e w → ke i e w) :
    ∀ e w, F138_1 (e 0) w K → denL Try.prog (tabOf T138) 32 fuel ((flat (bodyOf Try.f138)).drop 0) e w kn kr ke := by
  intro e w h
  unfold F138_1 at h
  have e1 : ∀ (Y0 : Value → Value → Value → World → Prop), F138_1b (e 0) w K Y0 = denL Try.prog (tabOf T138) 32 fuel (((flat (bodyOf Try.f138)).drop 0).take 3) e w (fun e w => Y0 (e 0) (e 4) (e 5) w) (endD Try.prog [.tmp 2, .tmp 3] K) noE := by intro Y0; kernel_rfl
  exact seg 3 (Eq.mp (e1 (fun a0 a4 a5 w => F138_2 a0 a4 a5 w K)) h) (fun e w h => ok138_2 hn hr he e w h) hr he
def F138 (x0 : Value) (w : World) (K : Value → World → Prop) : Prop := F138_1 x0 w K
def G138 : FnT := fun args w K => on1 (fun x0 => F138 x0 w K) args
theorem c138 {x0 : Value} {w : World} {K : Value → World → Prop} (h : F138 x0 w K) : callP G138 [x0] w K := callP_intro (on1_mk (p := fun x0 => F138 x0 w K) h)
theorem ok138 : OkF Try.prog 138 G138 := by
  refine okF_of (tab_ok (l := T138) ⟨ok163, trivial⟩) mixed (n := fuel) Try.func138 Try.call138 fun args w K h => ?_
  obtain ⟨x0, rfl, hh⟩ := of_on1 h
  unfold F138 at hh
  exact fnD_list (c := bodyOf Try.f138) (by kernel_rfl) (by kernel_rfl) (ok138_1 (fun _ _ h => h) (fun _ _ h => h) (fun _ _ _ h => h) (initE [x0]) w hh)
def T112 : List (Nat × FnT) := [(138, G138)]
def F112_3b (s0 : Value) (s1 : Value) (s6 : Value) (w : World) (K : Value → World → Prop) : Prop :=
bindP (bEq Try.prog 24 (.tmp 31) (.const (.int .i64 0)) s6 (.int .i64 0)) fun v1 =>
stepM (gd true v1) s0 fun v2 =>
Sx.stepG (gd true v1) (lenS v2) fun v3 =>
stepM (gd true v1) s1 fun v4 =>
Sx.stepG (gd true v1) (bLe v3 v4) fun v5 =>
bindP (pPick v1 v5 (.bool false)) fun v6 =>
K v6 w
def F112_3 (s0 : Value) (s1 : Value) (s6 : Value) (w : World) (K : Value → World → Prop) : Prop := F112_3b s0 s1 s6 w K
theorem ok112_3 {K : Value → World → Prop} {kn kr : Env → World → Prop} {ke : Nat → Env → World → Prop}
    (hn : ∀ e w, (fun e w => K (e 4) w) e w → kn e w) (hr : ∀ e w, endD Try.prog [.tmp 4] K e w → kr e w) (he : ∀ i e w, noE i e w → ke i e w) :
    ∀ e w, F112_3 (e 0) (e 1) (e 6) w K → denL Try.prog (tabOf T112) 39 fuel ((flat (bodyOf Try.f112)).drop 4) e w kn kr ke := by
  intro e w h
  unfold F112_3 at h
  have e1 : ∀ (_ : Unit), F112_3b (e 0) (e 1) (e 6) w K = denL Try.prog (tabOf T112) 39 fuel ((flat (bodyOf Try.f112)).drop 4) e w (fun e w => K (e 4) w) (endD Try.prog [.tmp 4] K) noE := by intro _; kernel_rfl
  exact seg_end (Eq.mp (e1 ()) h) hn hr he
def F112_2b (s0 : Value) (s1 : Value) (s5 : Value) (s6 : Value) (s7 : Value) (w : World) (K : Value → World → Prop) (Y0 : Value → Value → Value → Value → Value → World → Prop) (Y1 : Value → Value → Value → World → Prop) : Prop :=
bindP (lenL s5) fun v7 =>
bindP (bLt s7 v7) fun v8 =>
ifB v8 (
bindP (pIndexL 1 s5 s7) fun v9 =>
bindP (ld1 v9 w) fun v10 =>
bindP (bLt v10 (.int .i64 32)) fun v11 =>
stepM (gd false v11) s5 fun v12 =>
stepM (gd false v11) s7 fun v13 =>
Sx.stepG (gd false v11) (pIndexL 1 v12 v13) fun v14 =>
Sx.stepG (gd false v11) (ld1 v14 w) fun v15 =>
Sx.stepG (gd false v11) (bEq Try.prog 3 (.tmp 28) (.const (.int .i64 127)) v15 (.int .i64 127)) fun v16 =>
bindP (pPick v11 (.bool true) v16) fun v17 =>
ifB v17 (
K (.bool false) w) (
bindP (bAdd s7 (.int .i64 1)) fun v18 =>
Y0 s0 s1 s5 s6 v18 w)) (
Y1 s0 s1 s6 w)
def F112_2L : Nat → Value → Value → Value → Value → Value → World → (Value → World → Prop) → Prop
  | 0, _, _, _, _, _, _, _ => False
  | n + 1, s0, s1, s5, s6, s7, w, K => F112_2b s0 s1 s5 s6 s7 w K (fun a0 a1 a5 a6 a7 w => F112_2L n a0 a1 a5 a6 a7 w K) (fun a0 a1 a6 w => F112_3 a0 a1 a6 w K)
def F112_2 (s0 : Value) (s1 : Value) (s5 : Value) (s6 : Value) (s7 : Value) (w : World) (K : Value → World → Prop) : Prop := F112_2L fuel s0 s1 s5 s6 s7 w K
theorem ok112_2 {K : Value → World → Prop} {kn kr : Env → World → Prop} {ke : Nat → Env → World → Prop}
    (hn : ∀ e w, (fun e w => K (e 4) w) e w → kn e w) (hr : ∀ e w, endD Try.prog [.tmp 4] K e w → kr e w) (he : ∀ i e w, noE i e w → ke i e w) :
    ∀ e w, F112_2 (e 0) (e 1) (e 5) (e 6) (e 7) w K → denL Try.prog (tabOf T112) 39 fuel ((flat (bodyOf Try.f112)).drop 3) e w kn kr ke := by
  intro e w h
  unfold F112_2 at h
  refine seg_loop (id := 0) (body := (loopB (blkB (nthC (flat (bodyOf Try.f112)) 3)))) (l2 := (flat (bodyOf Try.f112)).drop 4) (by kernel_rfl) ?_
  refine loop_ok (FL := fun m e w => F112_2L m (e 0) (e 1) (e 5) (e 6) (e 7) w K) (fr := endD Try.prog [.tmp 4] K) (fe := (blkK 0 (fun e w => F112_3 (e 0) (e 1) (e 6) w K) noE)) (fun _ _ h => h) ?_ hr (blkK_mono (fun e w h => ok112_3 hn hr he e w h) he) fuel e w h
  intro m e w h
  have h : F112_2L (m + 1) (e 0) (e 1) (e 5) (e 6) (e 7) w K := h
  rw [F112_2L] at h
  have e1 : ∀ (Y0 : Value → Value → Value → Value → Value → World → Prop) (Y1 : Value → Value → Value → World → Prop), F112_2b (e 0) (e 1) (e 5) (e 6) (e 7) w K Y0 Y1 = denL Try.prog (tabOf T112) 39 fuel (flat (loopB (blkB (nthC (flat (bodyOf Try.f112)) 3)))) e w (fun e w => Y0 (e 0) (e 1) (e 5) (e 6) (e 7) w) (endD Try.prog [.tmp 4] K) (blkK 0 (fun e w => Y1 (e 0) (e 1) (e 6) w) noE) := by intro Y0 Y1; kernel_rfl
  exact Eq.mp (e1 (fun a0 a1 a5 a6 a7 w => F112_2L m a0 a1 a5 a6 a7 w K) (fun a0 a1 a6 w => F112_3 a0 a1 a6 w K)) h
def F112_1b (s0 : Value) (s1 : Value) (w : World) (_K : Value → World → Prop) (Y0 : Value → Value → Value → Value → Value → World → Prop) : Prop :=
callP G138 [s0] w fun v20 w19 =>
bindP (pTuple v20 0) fun v21 =>
bindP (pTuple v20 1) fun v22 =>
Y0 s0 s1 v21 v22 (.int .i64 0) w19
def F112_1 (s0 : Value) (s1 : Value) (w : World) (K : Value → World → Prop) : Prop := F112_1b s0 s1 w K (fun a0 a1 a5 a6 a7 w => F112_2 a0 a1 a5 a6 a7 w K)
theorem ok112_1 {K : Value → World → Prop} {kn kr : Env → World → Prop} {ke : Nat → Env → World → Prop}
    (hn : ∀ e w, (fun e w => K (e 4) w) e w → kn e w) (hr : ∀ e w, endD Try.prog [.tmp 4] K e w → kr e w) (he : ∀ i e w, noE i e w → ke i e w) :
    ∀ e w, F112_1 (e 0) (e 1) w K → denL Try.prog (tabOf T112) 39 fuel ((flat (bodyOf Try.f112)).drop 0) e w kn kr ke := by
  intro e w h
  unfold F112_1 at h
  have e1 : ∀ (Y0 : Value → Value → Value → Value → Value → World → Prop), F112_1b (e 0) (e 1) w K Y0 = denL Try.prog (tabOf T112) 39 fuel (((flat (bodyOf Try.f112)).drop 0).take 3) e w (fun e w => Y0 (e 0) (e 1) (e 5) (e 6) (e 7) w) (endD Try.prog [.tmp 4] K) noE := by intro Y0; kernel_rfl
  exact seg 3 (Eq.mp (e1 (fun a0 a1 a5 a6 a7 w => F112_2 a0 a1 a5 a6 a7 w K)) h) (fun e w h => ok112_2 hn hr he e w h) hr he
def F112 (x0 : Value) (x1 : Value) (w : World) (K : Value → World → Prop) : Prop := F112_1 x0 x1 w K
def G112 : FnT := fun args w K => on2 (fun x0 x1 => F112 x0 x1 w K) args
theorem c112 {x0 x1 : Value} {w : World} {K : Value → World → Prop} (h : F112 x0 x1 w K) : callP G112 [x0, x1] w K := callP_intro (on2_mk (p := fun x0 x1 => F112 x0 x1 w K) h)
theorem ok112 : OkF Try.prog 112 G112 := by
  refine okF_of (tab_ok (l := T112) ⟨ok138, trivial⟩) mixed (n := fuel) Try.func112 Try.call112 fun args w K h => ?_
  obtain ⟨x0, x1, rfl, hh⟩ := of_on2 h
  unfold F112 at hh
  exact fnD_list (c := bodyOf Try.f112) (by kernel_rfl) (by kernel_rfl) (ok112_1 (fun _ _ h => h) (fun _ _ h => h) (fun _ _ _ h => h) (initE [x0, x1]) w hh)
def T68 : List (Nat × FnT) := [(112, G112)]
def F68 (x0 : Value) (w : World) (K : Value → World → Prop) : Prop :=
eBox 31 x0 w fun v2 w1 =>
bindP (pFieldAddr 0 v2) fun v3 =>
bindP (ld1 v3 w1) fun v4 =>
bindP (bEq Try.prog 9 (.tmp 4) (.const (.string ⟨#[]⟩)) v4 (.string ⟨#[]⟩)) fun v5 =>
Sx.stepG (gd false v5) (pFieldAddr 1 v2) fun v6 =>
Sx.stepG (gd false v5) (ld1 v6 w1) fun v7 =>
Sx.stepG (gd false v5) (bEq Try.prog 9 (.tmp 8) (.const (.string ⟨#[]⟩)) v7 (.string ⟨#[]⟩)) fun v8 =>
bindP (pPick v5 (.bool true) v8) fun v9 =>
Sx.stepG (gd false v9) (pFieldAddr 0 v2) fun v10 =>
Sx.stepG (gd false v9) (ld1 v10 w1) fun v11 =>
stepE (gd false v9) (fun k => callP G112 [v11, (.int .i64 64)] w1 k) w1 fun v13 w12 =>
Sx.stepG (gd false v9) (uNot v13) fun v14 =>
bindP (pPick v9 (.bool true) v14) fun v15 =>
Sx.stepG (gd false v15) (pFieldAddr 1 v2) fun v16 =>
Sx.stepG (gd false v15) (ld1 v16 w12) fun v17 =>
stepE (gd false v15) (fun k => callP G112 [v17, (.int .i64 64)] w12 k) w12 fun v19 w18 =>
Sx.stepG (gd false v15) (uNot v19) fun v20 =>
bindP (pPick v15 (.bool true) v20) fun v21 =>
Sx.stepG (gd false v21) (pFieldAddr 2 v2) fun v22 =>
Sx.stepG (gd false v21) (ld1 v22 w18) fun v23 =>
stepE (gd false v21) (fun k => callP G112 [v23, (.int .i64 128)] w18 k) w18 fun v25 w24 =>
Sx.stepG (gd false v21) (uNot v25) fun v26 =>
bindP (pPick v21 (.bool true) v26) fun v27 =>
Sx.stepG (gd false v27) (pFieldAddr 4 v2) fun v28 =>
Sx.stepG (gd false v27) (ld1 v28 w24) fun v29 =>
stepE (gd false v27) (fun k => callP G112 [v29, (.int .i64 1024)] w24 k) w24 fun v31 w30 =>
Sx.stepG (gd false v27) (uNot v31) fun v32 =>
bindP (pPick v27 (.bool true) v32) fun v33 =>
Sx.stepG (gd false v33) (pFieldAddr 3 v2) fun v34 =>
Sx.stepG (gd false v33) (ld1 v34 w30) fun v35 =>
Sx.stepG (gd false v33) (bLt v35 (.int .i64 0)) fun v36 =>
bindP (pPick v33 (.bool true) v36) fun v37 =>
Sx.stepG (gd false v37) (pFieldAddr 3 v2) fun v38 =>
Sx.stepG (gd false v37) (ld1 v38 w30) fun v39 =>
Sx.stepG (gd false v37) (bGt v39 (.int .i64 5)) fun v40 =>
bindP (pPick v37 (.bool true) v40) fun v41 =>
ifB v41 (
K (.int .i64 180) w30) (
K (.int .i64 0) w30)
def G68 : FnT := fun args w K => on1 (fun x0 => F68 x0 w K) args
theorem c68 {x0 : Value} {w : World} {K : Value → World → Prop} (h : F68 x0 w K) : callP G68 [x0] w K := callP_intro (on1_mk (p := fun x0 => F68 x0 w K) h)
theorem ok68 : OkF Try.prog 68 G68 := by
  refine okF_of (tab_ok (l := T68) ⟨ok112, trivial⟩) mixed (n := fuel) Try.func68 Try.call68 fun args w K h => ?_
  obtain ⟨x0, rfl, hh⟩ := of_on1 h
  exact fnD_list (c := bodyOf Try.f68) (by kernel_rfl) (by kernel_rfl) (Eq.mp (by kernel_rfl) hh)
end Go.Proofs.Gong

/- Nm1 -/
namespace Go.Proofs.Gong
open Go Go.Sx Go.Proofs
set_option maxRecDepth 100000
theorem nil_b : (⟨#[]⟩ : ByteArray) = bs [] := by simp [bs]
theorem gd_undef (b : Bool) : gd b undef = false := by cases b <;> rfl
theorem and31 : ∀ n : Fin 256, bBits .and .u8 (n.val : Int) 31 = some ((n.val % 32 : Nat) : Int) := by decide +kernel
theorem and15 : ∀ n : Fin 256, bBits .and .u8 (n.val : Int) 15 = some ((n.val % 16 : Nat) : Int) := by decide +kernel
theorem and7 : ∀ n : Fin 256, bBits .and .u8 (n.val : Int) 7 = some ((n.val % 8 : Nat) : Int) := by decide +kernel
theorem and63 : ∀ n : Fin 256, bBits .and .u8 (n.val : Int) 63 = some ((n.val % 64 : Nat) : Int) := by decide +kernel
theorem bAnd_u8 {k m : Nat} (h : ∀ n : Fin 256, bBits .and .u8 (n.val : Int) (k : Int) = some ((n.val % m : Nat) : Int)) (b : UInt8) : bBit .and (.int .u8 b.toNat) (.int .u8 k) = some (.int .u8 ((b.toNat % m : Nat))) := by
  have := h ⟨b.toNat, b.toNat_lt⟩
  simp only at this
  simp only [bBit, if_true, this, Option.map_some]
theorem shr_u8 (n k : Nat) (h : k ≤ 8) : bShr (.int .u8 n) (.int .u64 k) = some (.int .u8 ((n / 2 ^ k : Nat))) := bShr_nat (j := .u8) (by exact h)
theorem to64 (n : Nat) (h : n < 9223372036854775808) : cInt .i64 (.int .u8 n) = some (.int .i64 n) := by
  simp only [cInt]; rw [wrap_id (by omega)]
theorem shl6 {n : Nat} (h : n < 72057594037927936) : bShl (.int .i64 n) (.int .u64 6) = some (.int .i64 ((n * 64 : Nat))) := by
  have e : min ((6 : Int).toNat) IntKind.i64.bits = 6 := by decide
  simp only [bShl]
  rw [if_neg (by decide), e, show ((n : Int) * 2 ^ 6) = ((n * 64 : Nat) : Int) by omega, wrap_id (by omega)]
theorem plus1 {a : Nat} (h : a + 1 < 9223372036854775808) : bAdd (.int .i64 a) (.int .i64 1) = some (.int .i64 ((a + 1 : Nat))) := by
  rw [bAdd_int, show ((a : Int) + 1) = ((a + 1 : Nat) : Int) by omega, wrap_id (by omega)]
section
variable {w : World} {K : Value → World → Prop}
theorem long_spec {b : UInt8} (hK : K (.tuple #[.int .i64 (longP b.toNat).1, .int .i64 (longP b.toNat).2]) w) : callP G180 [.int .u8 b.toNat] w K := by
  refine c180 ?_
  unfold F180
  have hb := b.toNat_lt
  unfold longP at hK
  by_cases h1 : b.toNat < 128
  · rw [if_pos h1] at hK
    have e : bLt (.int .u8 (b.toNat : Int)) (.int .u8 128) = some (.bool true) := by simp; omega
    simp only [e, bindP_some, ifB_true, to64 _ (show b.toNat < 9223372036854775808 by omega)]
    exact hK
  · rw [if_neg h1] at hK
    have e : bLt (.int .u8 (b.toNat : Int)) (.int .u8 128) = some (.bool false) := by simp; omega
    have s5 : bShr (.int .u8 (b.toNat : Int)) (.int .u64 5) = some (.int .u8 ((b.toNat / 32 : Nat))) := shr_u8 _ 5 (by omega)
    have s4 : bShr (.int .u8 (b.toNat : Int)) (.int .u64 4) = some (.int .u8 ((b.toNat / 16 : Nat))) := shr_u8 _ 4 (by omega)
    have s3 : bShr (.int .u8 (b.toNat : Int)) (.int .u64 3) = some (.int .u8 ((b.toNat / 8 : Nat))) := shr_u8 _ 3 (by omega)
    have a31 : bBit .and (.int .u8 (b.toNat : Int)) (.int .u8 31) = _ := bAnd_u8 (k := 31) and31 b
    have a15 : bBit .and (.int .u8 (b.toNat : Int)) (.int .u8 15) = _ := bAnd_u8 (k := 15) and15 b
    have a7 : bBit .and (.int .u8 (b.toNat : Int)) (.int .u8 7) = _ := bAnd_u8 (k := 7) and7 b
    simp only [e, bindP_some, ifB_false, s5, s4, s3, a31, a15, a7, bEq_int]
    by_cases h2 : b.toNat / 32 = 6
    · rw [if_pos h2] at hK
      have : decide (((b.toNat / 32 : Nat) : Int) = 6) = true := by rw [h2]; rfl
      simp only [this, ifB_true, to64 _ (show b.toNat % 32 < 9223372036854775808 by omega), bindP_some]
      exact hK
    · rw [if_neg h2] at hK
      have : decide (((b.toNat / 32 : Nat) : Int) = 6) = false := by rw [decide_eq_false_iff_not]; omega
      simp only [this, ifB_false]
      by_cases h3 : b.toNat / 16 = 14
      · rw [if_pos h3] at hK
        have : decide (((b.toNat / 16 : Nat) : Int) = 14) = true := by rw [h3]; rfl
        simp only [this, ifB_true, to64 _ (show b.toNat % 16 < 9223372036854775808 by omega), bindP_some]
        exact hK
      · rw [if_neg h3] at hK
        have : decide (((b.toNat / 16 : Nat) : Int) = 14) = false := by rw [decide_eq_false_iff_not]; omega
        simp only [this, ifB_false]
        by_cases h4 : b.toNat / 8 = 30
        · rw [if_pos h4] at hK
          have : decide (((b.toNat / 8 : Nat) : Int) = 30) = true := by rw [h4]; rfl
          simp only [this, ifB_true, to64 _ (show b.toNat % 8 < 9223372036854775808 by omega), bindP_some]
          exact hK
        · rw [if_neg h4] at hK
          have : decide (((b.toNat / 8 : Nat) : Int) = 30) = false := by rw [decide_eq_false_iff_not]; omega
          simp only [this, ifB_false]
          exact hK
theorem is_spec {c : Nat} (hK : K (.bool (isC c)) w) : callP G181 [.int .i64 c] w K := by
  refine c181 ?_
  unfold F181
  unfold isC at hK
  by_cases h1 : c ≤ 1114111
  · by_cases h2 : c < 55296
    · have e1 : decide ((c : Int) ≥ 0) = true := by simp
      have e2 : decide ((c : Int) ≤ 1114111) = true := by simp; omega
      have e3 : decide ((c : Int) < 55296) = true := by simp; omega
      simp only [bGe_int, bLe_int, bLt_int, e1, e2, e3, bindP_some, gd_true, gd_false, Bool.not_true, stepM_true, stepM_false, stepG_true, stepG_false, pPick_true]
      simpa [h1, h2] using hK
    · have e1 : decide ((c : Int) ≥ 0) = true := by simp
      have e2 : decide ((c : Int) ≤ 1114111) = true := by simp; omega
      have e3 : decide ((c : Int) < 55296) = false := by simp; omega
      have e4 : decide ((c : Int) > 57343) = decide (57343 < c) := by rw [decide_eq_decide]; omega
      simp only [bGe_int, bLe_int, bLt_int, bGt_int, e1, e2, e3, e4, bindP_some, gd_true, gd_false, Bool.not_false, stepM_true, stepG_true, pPick_true, pPick_false]
      simpa [h1, h2] using hK
  · have e1 : decide ((c : Int) ≥ 0) = true := by simp
    have e2 : decide ((c : Int) ≤ 1114111) = false := by simp; omega
    simp only [bGe_int, bLe_int, e1, e2, bindP_some, gd_true, gd_false, Bool.not_false, stepM_true, stepM_false, stepG_true, stepG_false, pPick_true, pPick_false, gd_undef]
    simpa [h1] using hK
theorem least_spec {n : Nat} (hK : K (.int .i64 (leastP n)) w) : callP G182 [.int .i64 n] w K := by
  refine c182 ?_
  unfold F182
  unfold leastP at hK
  by_cases h2 : n = 2
  · subst h2; simpa using hK
  · by_cases h3 : n = 3
    · subst h3; simpa using hK
    · by_cases h4 : n = 4
      · subst h4; simpa using hK
      · have e2 : decide ((n : Int) = 2) = false := by rw [decide_eq_false_iff_not]; omega
        have e3 : decide ((n : Int) = 3) = false := by rw [decide_eq_false_iff_not]; omega
        have e4 : decide ((n : Int) = 4) = false := by rw [decide_eq_false_iff_not]; omega
        simp only [bEq_int, e2, e3, e4, bindP_some, ifB_false]
        simpa [h2, h3, h4] using hK
def errV : Value := .tuple #[.int .i64 0, .int .i64 0, .int .i64 40]
def firstV (s : List UInt8) : Value := match firstP s with
  | some x => .tuple #[.int .i64 x.1, .int .i64 x.2, .int .i64 0]
  | none => errV
theorem cont_spec {s : List UInt8} {n : Nat} (hs : n ≤ s.length) (h4 : n ≤ 4) : ∀ (k i c m : Nat), k + i = n → k ≤ m → c < 256 * 64 ^ i → (match contP k c (s.drop i) with | none => K errV w | some c' => F161_3 (.int .i64 c') (.int .i64 n) w K) →
    F161_2L (m + 1) (.string (bs s)) (.int .i64 c) (.int .i64 n) (.int .i64 i) w K := by
  intro k
  induction k with
  | zero =>
    intro i c m hk hm hc hK
    rw [F161_2L]; unfold F161_2b
    obtain rfl : i = n := by omega
    rw [bLt_int]
    simp only [bindP_some, Int.lt_irrefl, decide_false, ifB_false]
    simpa [contP] using hK
  | succ k ih =>
    intro i c m hk hm hc hK
    obtain ⟨m, rfl⟩ : ∃ j, m = j + 1 := ⟨m - 1, by omega⟩
    rw [F161_2L]; unfold F161_2b
    have hi : i < s.length := by omega
    have e : bLt (.int .i64 (i : Int)) (.int .i64 n) = some (.bool true) := by simp; omega
    have hdr : s.drop i = s[i] :: s.drop (i + 1) := List.drop_eq_getElem_cons hi
    rw [hdr] at hK
    rw [e]
    simp only [bindP_some, ifB_true, ix_txt hi]
    generalize s[i] = b at hK
    have hb := b.toNat_lt
    have s6 : bShr (.int .u8 (b.toNat : Int)) (.int .u64 6) = some (.int .u8 ((b.toNat / 64 : Nat))) := shr_u8 _ 6 (by omega)
    simp only [s6, bindP_some, bNe_int]
    simp only [contP] at hK
    by_cases h2 : b.toNat / 64 = 2
    · rw [if_pos h2] at hK
      have : (!decide (((b.toNat / 64 : Nat) : Int) = 2)) = false := by rw [h2]; rfl
      have a63 : bBit .and (.int .u8 (b.toNat : Int)) (.int .u8 63) = _ := bAnd_u8 (k := 63) and63 b
      have hp : 64 ^ i ≤ 64 ^ 4 := Nat.pow_le_pow_right (by omega) (by omega)
      have e4 : 64 ^ 4 = 16777216 := by decide
      simp only [this, ifB_false, shl6 (show c < 72057594037927936 by omega), a63, to64 _ (show b.toNat % 64 < 9223372036854775808 by omega), bindP_some]
      rw [bOr_i64 (by omega) (by omega), or_add (a := c) (i := 6) (by omega)]
      simp only [bindP_some, plus1 (show i + 1 < 9223372036854775808 by omega)]
      refine ih (i + 1) (c * 64 + b.toNat % 64) m (by omega) (by omega) (by rw [Nat.pow_succ]; omega) hK
    · rw [if_neg h2] at hK
      have : (!decide (((b.toNat / 64 : Nat) : Int) = 2)) = true := by simp; omega
      simp only [this, ifB_true]
      exact hK
theorem first_spec4 {s : List UInt8} (hK : K (firstV s) w) : callP G161 [.string (bs s)] w K := by
  refine c161 ?_
  unfold F161 F161_1 F161_1b
  rw [nil_b]
  cases s with
  | nil =>
    simp only [bEq_str, bs_beq, decide_true, bindP_some, ifB_true]
    exact hK
  | cons b s =>
    have e : decide (bs (b :: s) = bs []) = false := by simp
    have ix := ix_txt (l := b :: s) (i := 0) (j := .i64) (by simp)
    simp only [List.getElem_cons_zero] at ix
    have ix0 : pIndexS (.string (bs (b :: s))) (.int .i64 0) = some (.int .u8 b.toNat) := ix
    simp only [bEq_str, bs_beq, e, bindP_some, ifB_false, ix0]
    refine long_spec ?_
    simp only [pTuple, List.getElem?_toArray, List.getElem?_cons_zero, List.getElem?_cons_succ, bindP_some, bEq_int]
    have hl4 : (longP b.toNat).1 ≤ 4 ∧ (longP b.toNat).2 < 256 := by
      have := b.toNat_lt
      unfold longP
      split
      · exact ⟨by simp, by simp; omega⟩
      · split
        · exact ⟨by simp, by simp; omega⟩
        · split
          · exact ⟨by simp, by simp; omega⟩
          · split
            · exact ⟨by simp, by simp; omega⟩
            · exact ⟨by simp, by simp⟩
    unfold firstV firstP at hK
    simp only at hK
    generalize longP b.toNat = x at hK hl4
    by_cases h0 : x.1 = 0
    · rw [if_pos (.inl h0)] at hK
      have : decide ((x.1 : Int) = 0) = true := by simp; omega
      simp only [this, gd_false, Bool.not_true, stepM_false, stepG_false, pPick_true, bindP_some, ifB_true]
      exact hK
    · have : decide ((x.1 : Int) = 0) = false := by simp; omega
      simp only [this, gd_false, Bool.not_false, stepM_true, stepG_true, lenS_mk, bs_size, bGt_int, pPick_false, bindP_some]
      by_cases h1 : s.length + 1 < x.1
      · rw [if_pos (.inr h1)] at hK
        have : decide ((x.1 : Int) > ((b :: s).length : Int)) = true := by simp; omega
        simp only [this, ifB_true]
        exact hK
      · rw [if_neg (by rintro (h | h) <;> omega)] at hK
        have : decide ((x.1 : Int) > ((b :: s).length : Int)) = false := by simp; omega
        simp only [this, ifB_false]
        unfold F161_2
        refine cont_spec (n := x.1) (by simp; omega) hl4.1 (x.1 - 1) 1 x.2 (fuel - 1) (by omega) (Nat.le_trans (show x.1 - 1 ≤ 4 by omega) (by decide)) (by omega) ?_
        simp only [List.drop_succ_cons, List.drop_zero]
        cases hc : contP (x.1 - 1) x.2 s with
        | none => rw [hc] at hK; exact hK
        | some c =>
          rw [hc] at hK
          simp only at hK ⊢
          unfold F161_3 F161_3b
          refine is_spec ?_
          by_cases h5 : isC c = true
          · simp only [h5, uNot_bool, Bool.not_true, bindP_some, gd_false, Bool.not_false, stepM_true, stepE_true]
            refine least_spec ?_
            by_cases h6 : leastP x.1 ≤ c
            · rw [if_pos ⟨h5, h6⟩] at hK
              have : decide ((c : Int) < (leastP x.1 : Int)) = false := by simp; omega
              simp only [bLt_int, this, stepG_true, bindP_some, pPick_false, ifB_false]
              exact hK
            · rw [if_neg (fun h => h6 h.2)] at hK
              have : decide ((c : Int) < (leastP x.1 : Int)) = true := by simp; omega
              simp only [bLt_int, this, stepG_true, bindP_some, pPick_false, ifB_true]
              exact hK
          · rw [if_neg (fun h => h5 h.1)] at hK
            have h5' : isC c = false := by simpa using h5
            simp only [h5', uNot_bool, Bool.not_false, bindP_some, gd_false, Bool.not_true, stepM_false, stepG_false, stepE_false, pPick_true, ifB_true]
            exact hK
end
end Go.Proofs.Gong

/- Nm2 -/
namespace Go.Proofs.Gong
open Go Go.Sx Go.Proofs
set_option maxRecDepth 100000
theorem to8n (n : Nat) : cInt .u8 (.int .i64 n) = some (.int .u8 (UInt8.ofNat n).toNat) := by
  simp only [cInt]; rw [wrap_u8]; congr 2
theorem quoN (n k : Nat) (hk : k ≠ 0) (h : n < 9223372036854775808) : bQuo (.int .i64 n) (.int .i64 k) = some (.int .i64 ((n / k : Nat))) := by
  rw [bQuo_int _ _ _ (by omega)]
  have e : (n : Int).tdiv k = ((n / k : Nat) : Int) := by rw [Int.tdiv_eq_ediv_of_nonneg (by omega)]; rfl
  have hq := Nat.div_le_self n k
  rw [e]
  generalize n / k = q at hq
  rw [wrap_id (by omega)]
theorem remN (j : IntKind) (n k : Nat) (hk : k ≠ 0) : bRem (.int j n) (.int j k) = some (.int j ((n % k : Nat))) := by
  rw [bRem_int _ _ _ (by omega)]
  have e : (n : Int).tmod k = ((n % k : Nat) : Int) := by rw [Int.tmod_eq_emod_of_nonneg (by omega)]; rfl
  rw [e]
theorem addN {a b : Nat} (h : a + b < 9223372036854775808) : bAdd (.int .i64 a) (.int .i64 b) = some (.int .i64 ((a + b : Nat))) := by
  rw [bAdd_int, show ((a : Int) + b) = ((a + b : Nat) : Int) by omega, wrap_id (by omega)]
theorem mul64 {n : Nat} (h : n < 72057594037927936) : bMul (.int .i64 n) (.int .i64 64) = some (.int .i64 ((n * 64 : Nat))) := by
  rw [bMul_int, show ((n : Int) * 64) = ((n * 64 : Nat) : Int) by omega, wrap_id (by omega)]
section
variable {w0 w : World} {L : List HP} {K : Value → World → Prop}
theorem fis_spec {c : Nat} (hK : K (.bool (isC c)) w) : callP G184 [.int .i64 c] w K := by
  refine c184 ?_
  unfold F184
  unfold isC at hK
  by_cases h1 : c ≤ 1114111
  · by_cases h2 : c < 55296
    · have e1 : decide ((c : Int) ≥ 0) = true := by simp
      have e2 : decide ((c : Int) ≤ 1114111) = true := by simp; omega
      have e3 : decide ((c : Int) < 55296) = true := by simp; omega
      simp only [bGe_int, bLe_int, bLt_int, e1, e2, e3, bindP_some, gd_true, gd_false, Bool.not_true, stepM_true, stepM_false, stepG_true, stepG_false, pPick_true]
      simpa [h1, h2] using hK
    · have e1 : decide ((c : Int) ≥ 0) = true := by simp
      have e2 : decide ((c : Int) ≤ 1114111) = true := by simp; omega
      have e3 : decide ((c : Int) < 55296) = false := by simp; omega
      have e4 : decide ((c : Int) > 57343) = decide (57343 < c) := by rw [decide_eq_decide]; omega
      simp only [bGe_int, bLe_int, bLt_int, bGt_int, e1, e2, e3, e4, bindP_some, gd_true, gd_false, Bool.not_false, stepM_true, stepG_true, pPick_true, pPick_false]
      simpa [h1, h2] using hK
  · have e1 : decide ((c : Int) ≥ 0) = true := by simp
    have e2 : decide ((c : Int) ≤ 1114111) = false := by simp; omega
    simp only [bGe_int, bLe_int, e1, e2, bindP_some, gd_true, gd_false, Bool.not_false, stepM_true, stepM_false, stepG_true, stepG_false, pPick_true, pPick_false, gd_undef]
    simpa [h1] using hK
theorem guessL_spec {s : List UInt8} {n : Nat} (hs : n ≤ s.length) (h4 : n ≤ 4) : ∀ (k i c m : Nat), k + i = n → k ≤ m → c < 256 * 64 ^ i → K (.int .i64 (foldP c ((s.drop i).take k))) w →
    F183_3L (m + 1) (.string (bs s)) (.int .i64 n) (.int .i64 c) (.int .i64 i) w K := by
  intro k
  induction k with
  | zero =>
    intro i c m hk hm hc hK
    rw [F183_3L]; unfold F183_3b F183_4 F183_4b
    obtain rfl : i = n := by omega
    rw [bLt_int]
    simp only [bindP_some, Int.lt_irrefl, decide_false, ifB_false]
    simpa [foldP] using hK
  | succ k ih =>
    intro i c m hk hm hc hK
    obtain ⟨m, rfl⟩ : ∃ j, m = j + 1 := ⟨m - 1, by omega⟩
    rw [F183_3L]; unfold F183_3b
    have hi : i < s.length := by omega
    have e : bLt (.int .i64 (i : Int)) (.int .i64 n) = some (.bool true) := by simp; omega
    have hdr : s.drop i = s[i] :: s.drop (i + 1) := List.drop_eq_getElem_cons hi
    rw [hdr, List.take_succ_cons] at hK
    have hp : 64 ^ i ≤ 64 ^ 4 := Nat.pow_le_pow_right (by omega) (by omega)
    have e4 : 64 ^ 4 = 16777216 := by decide
    rw [e]
    simp only [bindP_some, ifB_true, ix_txt hi]
    generalize s[i] = b at hK
    have hb := b.toNat_lt
    have r64 : bRem (.int .u8 (b.toNat : Int)) (.int .u8 64) = some (.int .u8 ((b.toNat % 64 : Nat))) := remN .u8 _ 64 (by omega)
    simp only [mul64 (show c < 72057594037927936 by omega), r64, bindP_some, to64 _ (show b.toNat % 64 < 9223372036854775808 by omega)]
    rw [addN (by omega)]
    simp only [bindP_some, plus1 (show i + 1 < 9223372036854775808 by omega)]
    exact ih (i + 1) (c * 64 + b.toNat % 64) m (by omega) (by omega) (by rw [Nat.pow_succ]; omega) hK
theorem guess_spec {s : List UInt8} {n : Nat} (hn : 1 ≤ n ∧ n ≤ 4) (hs : n ≤ s.length) (hK : K (.int .i64 (guessP s n)) w) : callP G183 [.string (bs s), .int .i64 n] w K := by
  refine c183 ?_
  unfold F183 F183_1 F183_1b
  cases s with
  | nil => simp at hs; omega
  | cons b t =>
    have ix : pIndexS (.string (bs (b :: t))) (.int .i64 0) = some (.int .u8 b.toNat) := ix_txt (l := b :: t) (i := 0) (j := .i64) (by simp)
    have hb := b.toNat_lt
    have r32 : bRem (.int .i64 (b.toNat : Int)) (.int .i64 32) = some (.int .i64 ((b.toNat % 32 : Nat))) := remN .i64 _ 32 (by omega)
    have r16 : bRem (.int .i64 (b.toNat : Int)) (.int .i64 16) = some (.int .i64 ((b.toNat % 16 : Nat))) := remN .i64 _ 16 (by omega)
    have r8 : bRem (.int .i64 (b.toNat : Int)) (.int .i64 8) = some (.int .i64 ((b.toNat % 8 : Nat))) := remN .i64 _ 8 (by omega)
    have go : ∀ c : Nat, c < 256 → n ≠ 1 → K (.int .i64 (foldP c (t.take (n - 1)))) w → F183_2 (.string (bs (b :: t))) (.int .i64 n) (.int .i64 c) w K := by
      intro c hc h1 hk
      unfold F183_2 F183_2b F183_3
      exact guessL_spec hs hn.2 (n - 1) 1 c (fuel - 1) (by omega) (Nat.le_trans (show n - 1 ≤ 4 by omega) (by decide)) (by omega) (by simpa using hk)
    simp only [ix, bindP_some, to64 _ (show b.toNat < 9223372036854775808 by omega), bEq_int, r32, r16, r8]
    unfold guessP at hK
    simp only at hK
    by_cases h1 : n = 1
    · rw [if_pos h1] at hK
      have e1 : decide ((n : Int) = 1) = true := by rw [h1]; rfl
      simp only [e1, ifB_true]
      exact hK
    · rw [if_neg h1] at hK
      have e1 : decide ((n : Int) = 1) = false := by rw [decide_eq_false_iff_not]; omega
      simp only [e1, ifB_false]
      by_cases h2 : n = 2
      · rw [if_pos h2] at hK
        have e2 : decide ((n : Int) = 2) = true := by simp; omega
        simp only [e2, ifB_true]
        exact go _ (by omega) h1 hK
      · rw [if_neg h2] at hK
        have e2 : decide ((n : Int) = 2) = false := by rw [decide_eq_false_iff_not]; omega
        simp only [e2, ifB_false]
        by_cases h3 : n = 3
        · rw [if_pos h3] at hK
          have e3 : decide ((n : Int) = 3) = true := by simp; omega
          simp only [e3, ifB_true]
          exact go _ (by omega) h1 hK
        · rw [if_neg h3] at hK
          have e3 : decide ((n : Int) = 3) = false := by rw [decide_eq_false_iff_not]; omega
          simp only [e3, ifB_false]
          exact go _ (by omega) h1 hK
theorem bytesOfN {l : List UInt8} {parts : List (Nat × Value)} {n : Nat} {k : Value → World → Prop} (h : Sat w0 L w) (hb : fBuildSl Try.prog 5 n parts = some (cellsB l).toArray) (hn : l.length = n) (h0 : 0 < n) (hK : ∀ sv w', Sat w0 L w' → cBytes sv w' = some (.string (bs l)) → k sv w') : eBuildSl Try.prog 29 n parts w k := by
  refine eBuildSl_sat (es := 1) h u29 hb (by simp [hn]) fun s w' h' => hK s w' h'.drop ?_
  have := h'.rd
  exact cBytes_rd this h0
theorem d65 {c : Nat} (h : c < 65536) : decide ((c : Int) < 65536) = true := by simp; omega
theorem n65 {c : Nat} (h : ¬ c < 65536) : decide ((c : Int) < 65536) = false := by simp; omega
theorem d128 {c : Nat} (h : c < 128) : decide ((c : Int) < 128) = true := by simp; omega
theorem n128 {c : Nat} (h : ¬ c < 128) : decide ((c : Int) < 128) = false := by simp; omega
theorem d2048 {c : Nat} (h : c < 2048) : decide ((c : Int) < 2048) = true := by simp; omega
theorem n2048 {c : Nat} (h : ¬ c < 2048) : decide ((c : Int) < 2048) = false := by simp; omega
theorem made_a {c : Nat} (h1 : c < 128) (h : Sat w0 L w) (hK : ∀ w', Sat w0 L w' → K (.string (bs (madeP c))) w') : callP G185 [.int .i64 c] w K := by
  refine c185 ?_
  unfold F185
  simp only [bLt_int, bindP_some, d128 h1, ifB_true, to8n]
  rw [made1 h1] at hK
  exact bytesOfN (l := [_]) h (by kernel_rfl) rfl (by omega) fun sv w1 h1 hb => by rw [hb]; exact hK _ h1
theorem made_b {c : Nat} (h1 : ¬ c < 128) (h2 : c < 2048) (h : Sat w0 L w) (hK : ∀ w', Sat w0 L w' → K (.string (bs (madeP c))) w') : callP G185 [.int .i64 c] w K := by
  have q64 : bQuo (.int .i64 (c : Int)) (.int .i64 64) = some (.int .i64 ((c / 64 : Nat))) := quoN _ 64 (by omega) (by omega)
  have r64 : ∀ n : Nat, bRem (.int .i64 (n : Int)) (.int .i64 64) = some (.int .i64 ((n % 64 : Nat))) := fun n => remN .i64 _ 64 (by omega)
  have a192 : ∀ n : Nat, n < 16777216 → bAdd (.int .i64 192) (.int .i64 (n : Int)) = some (.int .i64 ((192 + n : Nat))) := fun n hn => addN (a := 192) (by omega)
  have a128 : ∀ n : Nat, n < 16777216 → bAdd (.int .i64 128) (.int .i64 (n : Int)) = some (.int .i64 ((128 + n : Nat))) := fun n hn => addN (a := 128) (by omega)
  refine c185 ?_
  unfold F185
  simp only [bLt_int, bindP_some, n128 h1, d2048 h2, ifB_true, ifB_false, q64, r64, a192 (c / 64) (by omega), a128 (c % 64) (by omega), to8n]
  rw [made2 h1 h2] at hK
  exact bytesOfN (l := [_, _]) h (by kernel_rfl) rfl (by omega) fun sv w1 h1 hb => by rw [hb]; exact hK _ h1
theorem made_c {c : Nat} (h1 : ¬ c < 128) (h2 : ¬ c < 2048) (h3 : c < 65536) (h : Sat w0 L w) (hK : ∀ w', Sat w0 L w' → K (.string (bs (madeP c))) w') : callP G185 [.int .i64 c] w K := by
  have q64 : bQuo (.int .i64 (c : Int)) (.int .i64 64) = some (.int .i64 ((c / 64 : Nat))) := quoN _ 64 (by omega) (by omega)
  have q4096 : bQuo (.int .i64 (c : Int)) (.int .i64 4096) = some (.int .i64 ((c / 4096 : Nat))) := quoN _ 4096 (by omega) (by omega)
  have r64 : ∀ n : Nat, bRem (.int .i64 (n : Int)) (.int .i64 64) = some (.int .i64 ((n % 64 : Nat))) := fun n => remN .i64 _ 64 (by omega)
  have a128 : ∀ n : Nat, n < 16777216 → bAdd (.int .i64 128) (.int .i64 (n : Int)) = some (.int .i64 ((128 + n : Nat))) := fun n hn => addN (a := 128) (by omega)
  have a224 : ∀ n : Nat, n < 16777216 → bAdd (.int .i64 224) (.int .i64 (n : Int)) = some (.int .i64 ((224 + n : Nat))) := fun n hn => addN (a := 224) (by omega)
  refine c185 ?_
  unfold F185
  simp only [bLt_int, bindP_some, n128 h1, n2048 h2, d65 h3, ifB_true, ifB_false, q64, q4096, r64, a224 (c / 4096) (by omega), a128 (c / 64 % 64) (by omega), a128 (c % 64) (by omega), to8n]
  rw [made3 h1 h2 h3] at hK
  exact bytesOfN (l := [_, _, _]) h (by kernel_rfl) rfl (by omega) fun sv w1 h1 hb => by rw [hb]; exact hK _ h1
theorem made_d {c : Nat} (hc : c < 16777216) (h1 : ¬ c < 128) (h2 : ¬ c < 2048) (h3 : ¬ c < 65536) (h : Sat w0 L w) (hK : ∀ w', Sat w0 L w' → K (.string (bs (madeP c))) w') : callP G185 [.int .i64 c] w K := by
  have q64 : bQuo (.int .i64 (c : Int)) (.int .i64 64) = some (.int .i64 ((c / 64 : Nat))) := quoN _ 64 (by omega) (by omega)
  have q4096 : bQuo (.int .i64 (c : Int)) (.int .i64 4096) = some (.int .i64 ((c / 4096 : Nat))) := quoN _ 4096 (by omega) (by omega)
  have q26 : bQuo (.int .i64 (c : Int)) (.int .i64 262144) = some (.int .i64 ((c / 262144 : Nat))) := quoN _ 262144 (by omega) (by omega)
  have r64 : ∀ n : Nat, bRem (.int .i64 (n : Int)) (.int .i64 64) = some (.int .i64 ((n % 64 : Nat))) := fun n => remN .i64 _ 64 (by omega)
  have a128 : ∀ n : Nat, n < 16777216 → bAdd (.int .i64 128) (.int .i64 (n : Int)) = some (.int .i64 ((128 + n : Nat))) := fun n hn => addN (a := 128) (by omega)
  have a240 : ∀ n : Nat, n < 16777216 → bAdd (.int .i64 240) (.int .i64 (n : Int)) = some (.int .i64 ((240 + n : Nat))) := fun n hn => addN (a := 240) (by omega)
  refine c185 ?_
  unfold F185
  simp only [bLt_int, bindP_some, n128 h1, n2048 h2, n65 h3, ifB_false, q64, q4096, q26, r64, a240 (c / 262144) (by omega), a128 (c / 4096 % 64) (by omega), a128 (c / 64 % 64) (by omega), a128 (c % 64) (by omega), to8n]
  rw [made4 h1 h2 h3] at hK
  exact bytesOfN (l := [_, _, _, _]) h (by kernel_rfl) rfl (by omega) fun sv w1 h1 hb => by rw [hb]; exact hK _ h1
theorem made_spec {c : Nat} (hc : c < 16777216) (h : Sat w0 L w) (hK : ∀ w', Sat w0 L w' → K (.string (bs (madeP c))) w') : callP G185 [.int .i64 c] w K := by
  by_cases h1 : c < 128
  · exact made_a h1 h hK
  · by_cases h2 : c < 2048
    · exact made_b h1 h2 h hK
    · by_cases h3 : c < 65536
      · exact made_c h1 h2 h3 h hK
      · exact made_d hc h1 h2 h3 h hK
end
end Go.Proofs.Gong

/- Nm3 -/
namespace Go.Proofs.Gong
open Go Go.Sx Go.Proofs
set_option maxRecDepth 100000
def optV (o : Option (Nat × Nat)) : Value := match o with
  | some x => .tuple #[.int .i64 x.1, .int .i64 x.2, .int .i64 0]
  | none => errV
theorem isC_lt {c : Nat} (h : isC c = true) : c < 16777216 := by rw [isC_iff] at h; omega
section
variable {w0 w : World} {L : List HP} {K : Value → World → Prop}
theorem ffL_spec {s : List UInt8} : ∀ (k n m : Nat) (w : World), k + n = 5 → 1 ≤ n → k ≤ m → Sat w0 L w → (∀ w', Sat w0 L w' → K (optV (refP s k n)) w') → F163_2L (m + 1) (.string (bs s)) (.int .i64 n) w K := by
  intro k
  induction k with
  | zero =>
    intro n m w hk h1 hm hs hK
    rw [F163_2L]; unfold F163_2b F163_3 F163_3b
    have e : decide ((n : Int) ≤ 4) = false := by simp; omega
    simp only [bLe_int, e, bindP_some, gd_true, stepM_false, stepG_false, pPick_false, ifB_false]
    exact hK _ hs
  | succ k ih =>
    intro n m w hk h1 hm hs hK
    obtain ⟨m, rfl⟩ : ∃ j, m = j + 1 := ⟨m - 1, by omega⟩
    rw [F163_2L]; unfold F163_2b
    have e : decide ((n : Int) ≤ 4) = true := by simp; omega
    by_cases hl : n ≤ s.length
    · have e2 : decide ((n : Int) ≤ (s.length : Int)) = true := by simp; omega
      simp only [bLe_int, e, e2, bindP_some, gd_true, stepM_true, stepG_true, lenS_mk, bs_size, pPick_true, ifB_true]
      refine guess_spec ⟨h1, by omega⟩ hl ?_
      refine fis_spec ?_
      rw [refP_step hl] at hK
      have hs' := hs.drew
      have next : hitP s n = false → ∀ w2, Sat w0 L w2 → bindP (bAdd (.int .i64 (n : Int)) (.int .i64 1)) (fun v19 => F163_2L (m + 1) (.string (bs s)) v19 w2 K) := by
        intro hh w2 h2
        rw [if_neg (by rw [hh]; decide)] at hK
        rw [plus1 (by omega)]
        simp only [bindP_some]
        exact ih (n + 1) m w2 (by omega) (by omega) (by omega) h2 hK
      by_cases hi : isC (guessP s n) = true
      · simp only [hi, gd_true, stepM_true, stepG_true, stepE_true]
        have e3 : pSliceS (.string (bs s)) none (some (.int .i64 (n : Int))) = _ := sub_to hl
        rw [e3]
        simp only [bindP_some]
        refine made_spec (isC_lt hi) hs' fun w3 h3 => ?_
        simp only [bEq_str, bs_beq, bs_inj, bindP_some, pPick_true]
        by_cases hm2 : madeP (guessP s n) = s.take n
        · have hh : hitP s n = true := by simp [hitP, hi, hm2]
          rw [if_pos hh] at hK
          simp only [hm2, decide_true, ifB_true]
          exact hK _ h3
        · have hh : hitP s n = false := by simp [hitP, hm2]
          simp only [hm2, decide_false, ifB_false]
          exact next hh _ h3
      · have hi' : isC (guessP s n) = false := by simpa using hi
        have hh : hitP s n = false := by simp [hitP, hi']
        simp only [hi', gd_true, stepM_false, stepG_false, stepE_false, bindP_some, pPick_false, ifB_false]
        exact next hh _ hs'
    · have e2 : decide ((n : Int) ≤ (s.length : Int)) = false := by simp; omega
      simp only [bLe_int, e, e2, bindP_some, gd_true, stepM_true, stepG_true, lenS_mk, bs_size, pPick_true, ifB_false]
      unfold F163_3 F163_3b
      rw [refP_end (by omega)] at hK
      exact hK _ hs
theorem ffirst_spec {s : List UInt8} (h : Sat w0 L w) (hK : ∀ w', Sat w0 L w' → K (optV (firstP s)) w') : callP G163 [.string (bs s)] w K := by
  refine c163 ?_
  unfold F163 F163_1 F163_1b F163_2
  rw [← refP_first] at hK
  exact ffL_spec 4 1 (fuel - 1) w (by omega) (by omega) (by decide) h hK
def charsF : Nat → List UInt8 → Option (List Int)
  | _, [] => some []
  | 0, _ :: _ => none
  | k + 1, b :: s => match firstP (b :: s) with
    | none => none
    | some x => (charsF k ((b :: s).drop x.2)).map ((x.1 : Int) :: ·)
def charsP (s : List UInt8) : Option (List Int) := charsF s.length s
theorem firstP_len {s : List UInt8} {c n : Nat} (h : firstP s = some (c, n)) : 1 ≤ n ∧ n ≤ s.length := by
  cases s with
  | nil => simp [firstP] at h
  | cons b s =>
    unfold firstP at h
    simp only at h
    split at h
    · cases h
    · rename_i hn
      split at h
      · cases h
      · split at h
        · simp only [Option.some.injEq, Prod.mk.injEq] at h
          simp only [List.length_cons]
          omega
        · cases h
theorem one_lit {c : Int} {v : Value} {l : List Int} (h : Sat w0 (LsH cI 1 3 v l :: L) w) (hl : l.length < 1073741824) (hK : ∀ v' w', Sat w0 (LsH cI 1 3 v' (l ++ [c]) :: L) w' → K v' w') :
    eBuildSl Try.prog 22 1 [(0, .int .i64 c)] w fun v9 w8 => eAppend Try.prog 22 22 v v9 w8 K := by
  have hb : fBuildSl Try.prog 3 1 [(0, .int .i64 c)] = some #[.int .i64 c] := by kernel_rfl
  refine ls_lit (m := [c]) CI h u22 hb rfl fun sv w1 h1 => ?_
  exact ls_app (m := [c]) CI h1.f1 sl22 ss22 (ls_rd h1) (by simp; omega) fun s' w' h' => hK s' w' (h'.f1.drop)
theorem chL_spec : ∀ (k m : Nat) (s : List UInt8) (l : List Int) (v : Value) (w : World), s.length ≤ k → k ≤ m → l.length + s.length < 1073741824 → Sat w0 (LsH cI 1 3 v l :: L) w →
    (∀ w', Sat w0 L w' → charsF k s = none → K (.tuple #[.slice none 0 0, .int .i64 40]) w') → (∀ v' r w', charsF k s = some r → Sat w0 (LsH cI 1 3 v' (l ++ r) :: L) w' → K (.tuple #[v', .int .i64 0]) w') →
    F135_2L (m + 1) (.string (bs s)) v w K := by
  intro k
  induction k with
  | zero =>
    intro m s l v w hs hm hl h hN hK
    obtain rfl : s = [] := List.length_eq_zero_iff.1 (by omega)
    rw [F135_2L]; unfold F135_2b F135_3 F135_3b
    rw [nil_b]
    simp only [bNe_str, bs_beq, decide_true, Bool.not_true, bindP_some, ifB_false]
    exact hK v [] w rfl (by simpa using h)
  | succ k ih =>
    intro m s l v w hs hm hl h hN hK
    obtain ⟨m, rfl⟩ : ∃ j, m = j + 1 := ⟨m - 1, by omega⟩
    rw [F135_2L]; unfold F135_2b
    rw [nil_b]
    cases s with
    | nil =>
      unfold F135_3 F135_3b
      simp only [bNe_str, bs_beq, decide_true, Bool.not_true, bindP_some, ifB_false]
      exact hK v [] w rfl (by simpa using h)
    | cons b s =>
      have e : (!decide (bs (b :: s) = bs [])) = true := by simp
      simp only [bNe_str, bs_beq, e, bindP_some, ifB_true]
      refine first_spec4 ?_
      unfold firstV
      cases hf : firstP (b :: s) with
      | none =>
        have e1 : (!decide ((40 : Int) = 0)) = true := by decide
        simp only [errV, pTuple, List.getElem?_toArray, List.getElem?_cons_zero, List.getElem?_cons_succ, bindP_some, bNe_int, e1, ifB_true]
        exact hN w h.drop (by simp [charsF, hf])
      | some x =>
        obtain ⟨g1, g2⟩ := firstP_len (c := x.1) (n := x.2) hf
        simp only [pTuple, List.getElem?_toArray, List.getElem?_cons_zero, List.getElem?_cons_succ, bindP_some, bNe_int, decide_true, Bool.not_true, ifB_false]
        refine one_lit h (by omega) fun v' w' h' => ?_
        rw [sub_from g2]
        simp only [bindP_some]
        refine ih m ((b :: s).drop x.2) (l ++ [(x.1 : Int)]) v' w' (by simp at hs ⊢; omega) (by omega) (by simp at hl ⊢; omega) h' (fun w2 h2 hn => hN w2 h2 (by simp [charsF, hf, hn])) fun v2 r w2 hr h2 => ?_
        refine hK v2 ((x.1 : Int) :: r) w2 (by simp [charsF, hf, hr]) ?_
        simpa using h2
theorem chars_spec {s : List UInt8} (hs : s.length < 1073741824) (h : Sat w0 L w) (hN : ∀ w', Sat w0 L w' → charsP s = none → K (.tuple #[.slice none 0 0, .int .i64 40]) w')
    (hK : ∀ v' r w', charsP s = some r → Sat w0 (LsH cI 1 3 v' r :: L) w' → K (.tuple #[v', .int .i64 0]) w') : callP G135 [.string (bs s)] w K := by
  refine c135 ?_
  unfold F135 F135_1 F135_1b F135_2
  exact chL_spec s.length (fuel - 1) s [] _ w (Nat.le_refl _) (Nat.le_trans (show s.length ≤ 1073741824 by omega) (by decide)) (by simpa using hs) (ls_nil h) hN fun v' r w' hr h' => hK v' r w' hr (by simpa using h')
theorem fchL_spec {s : List UInt8} (hsl : s.length < 1073741824) : ∀ (k m a : Nat) (l : List Int) (v : Value) (w : World), a ≤ s.length → (s.drop a).length ≤ k → k ≤ m → l.length + (s.drop a).length < 1073741824 → Sat w0 (LsH cI 1 3 v l :: L) w →
    (∀ w', Sat w0 L w' → charsF k (s.drop a) = none → K (.tuple #[.slice none 0 0, .int .i64 40]) w') → (∀ v' r w', charsF k (s.drop a) = some r → Sat w0 (LsH cI 1 3 v' (l ++ r) :: L) w' → K (.tuple #[v', .int .i64 0]) w') →
    F138_2L (m + 1) (.string (bs s)) v (.int .i64 a) w K := by
  intro k
  induction k with
  | zero =>
    intro m a l v w ha hs hm hl h hN hK
    rw [F138_2L]; unfold F138_2b F138_3 F138_3b
    have hal : a = s.length := by simp at hs; omega
    have e : decide ((a : Int) < (s.length : Int)) = false := by simp; omega
    simp only [lenS_mk, bs_size, bLt_int, e, bindP_some, ifB_false]
    exact hK v [] w (by rw [List.drop_of_length_le (by omega)]; rfl) (by simpa using h)
  | succ k ih =>
    intro m a l v w ha hs hm hl h hN hK
    obtain ⟨m, rfl⟩ : ∃ j, m = j + 1 := ⟨m - 1, by omega⟩
    rw [F138_2L]; unfold F138_2b
    by_cases hal : a = s.length
    · unfold F138_3 F138_3b
      have e : decide ((a : Int) < (s.length : Int)) = false := by simp; omega
      simp only [lenS_mk, bs_size, bLt_int, e, bindP_some, ifB_false]
      exact hK v [] w (by rw [List.drop_of_length_le (by omega)]; rfl) (by simpa using h)
    · have e : decide ((a : Int) < (s.length : Int)) = true := by simp; omega
      simp only [lenS_mk, bs_size, bLt_int, e, bindP_some, ifB_true, sub_from ha]
      have hdl : (s.drop a).length = s.length - a := by simp
      generalize hd : s.drop a = t at *
      refine ffirst_spec h fun w1 h1 => ?_
      cases t with
      | nil => simp at hdl; omega
      | cons b t =>
      cases hf : firstP (b :: t) with
      | none =>
        have e1 : (!decide ((40 : Int) = 0)) = true := by decide
        simp only [optV, errV, pTuple, List.getElem?_toArray, List.getElem?_cons_zero, List.getElem?_cons_succ, bindP_some, bNe_int, e1, ifB_true]
        exact hN w1 h1.drop (by simp [charsF, hf])
      | some x =>
        obtain ⟨g1, g2⟩ := firstP_len (c := x.1) (n := x.2) hf
        simp only [optV, pTuple, List.getElem?_toArray, List.getElem?_cons_zero, List.getElem?_cons_succ, bindP_some, bNe_int, decide_true, Bool.not_true, ifB_false]
        refine one_lit h1 (by omega) fun v' w' h' => ?_
        have ea : bAdd (.int .i64 (a : Int)) (.int .i64 (x.2 : Int)) = some (.int .i64 ((a + x.2 : Nat))) := addN (by omega)
        rw [ea]
        simp only [bindP_some]
        have hd2 : s.drop (a + x.2) = (b :: t).drop x.2 := by rw [← List.drop_drop, hd]
        refine ih m (a + x.2) (l ++ [(x.1 : Int)]) v' w' (by omega) (by rw [hd2]; simp at hs ⊢; omega) (by omega) (by rw [hd2]; simp at hl ⊢; omega) h' (fun w2 h2 hn => hN w2 h2 (by rw [hd2] at hn; simp [charsF, hf, hn])) fun v2 r w2 hr h2 => ?_
        refine hK v2 ((x.1 : Int) :: r) w2 (by rw [hd2] at hr; simp [charsF, hf, hr]) ?_
        simpa using h2
theorem fchars_spec {s : List UInt8} (hs : s.length < 1073741824) (h : Sat w0 L w) (hN : ∀ w', Sat w0 L w' → charsP s = none → K (.tuple #[.slice none 0 0, .int .i64 40]) w')
    (hK : ∀ v' r w', charsP s = some r → Sat w0 (LsH cI 1 3 v' r :: L) w' → K (.tuple #[v', .int .i64 0]) w') : callP G138 [.string (bs s)] w K := by
  refine c138 ?_
  unfold F138 F138_1 F138_1b F138_2
  exact fchL_spec hs s.length (fuel - 1) 0 [] _ w (by omega) (by simp) (Nat.le_trans (show s.length ≤ 1073741824 by omega) (by decide)) (by simpa using hs) (ls_nil h) hN fun v' r w' hr h' => hK v' r w' hr (by simpa using h')
end
end Go.Proofs.Gong

/- Nm4 -/
namespace Go.Proofs.Gong
open Go Go.Sx Go.Proofs
set_option maxRecDepth 100000
def ctlP (c : Int) : Bool := decide (c < 32) || decide (c = 127)
def plainP (s : List UInt8) (most : Nat) : Bool := match charsP s with
  | none => false
  | some l => !(l.any ctlP) && decide (s.length ≤ most)
section
variable {w0 w : World} {L : List HP} {K : Value → World → Prop}
theorem ctl_spec {c : Int} (hK : K (.bool (ctlP c)) w) : callP G137 [.int .i64 c] w K := by
  refine c137 ?_
  unfold F137
  unfold ctlP at hK
  by_cases h : c < 32
  · simp [h] at hK ⊢; exact hK
  · simp [h] at hK ⊢; exact hK
def fnV : Value := .func (.func 137) #[] #[]
theorem ixL_spec {l : List Int} {v : Value} (h : Rd w 1 v l.length (l.flatMap cI)) (hl : l.length ≤ 1073741824) : ∀ (k i m : Nat), k + i = l.length → k ≤ m → (∀ j : Int, (decide (j ≥ 0) = (l.drop i).any ctlP) → K (.int .i64 j) w) →
    F162_2L (m + 1) v fnV (.int .i64 l.length) (.int .i64 i) w K := by
  intro k
  induction k with
  | zero =>
    intro i m hk hm hK
    rw [F162_2L]; unfold F162_2b F162_3 F162_3b
    obtain rfl : i = l.length := by omega
    rw [bLt_int]
    simp only [bindP_some, Int.lt_irrefl, decide_false, ifB_false]
    exact hK (-1) (by simp)
  | succ k ih =>
    intro i m hk hm hK
    obtain ⟨m, rfl⟩ : ∃ j, m = j + 1 := ⟨m - 1, by omega⟩
    rw [F162_2L]; unfold F162_2b
    have hi : i < l.length := by omega
    have e : bLt (.int .i64 (i : Int)) (.int .i64 l.length) = some (.bool true) := by simp; omega
    have e1 := ix_el h hi
    have e2 := rd_ld1 (g := fun c : Int => Value.int .i64 c) h hi
    have hdr : l.drop i = l[i] :: l.drop (i + 1) := List.drop_eq_getElem_cons hi
    rw [hdr, List.any_cons] at hK
    rw [e]
    simp only [bindP_some, ifB_true, e1, e2]
    generalize l[i] = c at hK
    have call : ∀ k : Value → World → Prop, callP G137 [.int .i64 c] w k → eCallV (tabOf T162) fnV [.int .i64 c] w k := by
      intro k h
      show callP (tabOf T162 137) _ _ _
      exact h
    refine call _ (ctl_spec ?_)
    by_cases hc : ctlP c = true
    · simp only [hc, ifB_true]
      exact hK i (by simp [hc])
    · have hc' : ctlP c = false := by simpa using hc
      simp only [hc', ifB_false, plus1 (show i + 1 < 9223372036854775808 by omega), bindP_some]
      exact ih (i + 1) m (by omega) (by omega) fun j hj => hK j (by rw [hj, hc']; simp)
theorem contains_spec {l : List Int} {v : Value} (h : Rd w 1 v l.length (l.flatMap cI)) (hl : l.length ≤ 1073741824) (hK : K (.bool (l.any ctlP)) w) : callP G136 [v, fnV] w K := by
  refine c136 ?_
  unfold F136
  refine c162 ?_
  unfold F162 F162_1 F162_1b
  rw [h.len]
  simp only [bindP_some]
  unfold F162_2
  refine ixL_spec h hl l.length 0 (fuel - 1) (by omega) (Nat.le_trans hl (by decide)) fun j hj => ?_
  simp only [bGe_int, bindP_some]
  rw [hj, List.drop_zero]
  exact hK
theorem charsF_len : ∀ (k : Nat) (s : List UInt8) (r : List Int), charsF k s = some r → r.length ≤ s.length
  | _, [], r, h => by
    have : some r = some [] := by rw [← h]; cases ‹Nat› <;> rfl
    simp at this; subst this; simp
  | 0, _ :: _, r, h => by simp [charsF] at h
  | k + 1, b :: s, r, h => by
    unfold charsF at h
    split at h
    · cases h
    · rename_i x hf
      obtain ⟨g1, g2⟩ := firstP_len (c := x.1) (n := x.2) hf
      simp only [Option.map_eq_some_iff] at h
      obtain ⟨r', h1, rfl⟩ := h
      have := charsF_len k _ r' h1
      simp at this ⊢
      simp at g2
      omega
theorem plain_spec {s : List UInt8} {most : Nat} (hs : s.length < 1073741824) (h : Sat w0 L w) (hK : ∀ w', Sat w0 L w' → K (.bool (plainP s most)) w') : callP G111 [.string (bs s), .int .i64 most] w K := by
  refine c111 ?_
  unfold F111
  unfold plainP at hK
  refine chars_spec hs h (fun w1 h1 hn => ?_) fun v r w1 hr h1 => ?_
  · rw [hn] at hK
    simp only [pTuple, List.getElem?_toArray, List.getElem?_cons_zero, List.getElem?_cons_succ, bindP_some]
    refine contains_spec (l := []) (.emp _ _) (by simp) ?_
    have e : decide ((40 : Int) = 0) = false := by decide
    simp only [bEq_int, e, bindP_some, gd_true, stepM_false, stepG_false, pPick_false]
    exact hK _ h1
  · rw [hr] at hK
    have hl := charsF_len _ _ _ hr
    simp only [pTuple, List.getElem?_toArray, List.getElem?_cons_zero, List.getElem?_cons_succ, bindP_some]
    refine contains_spec (ls_rd h1) (by omega) ?_
    have hk := hK _ h1.drop
    simp only at hk
    by_cases hc : r.any ctlP = true
    · simp only [hc, Bool.not_true, Bool.false_and] at hk
      simp only [bEq_int, decide_true, bindP_some, gd_true, stepM_true, stepG_true, hc, uNot_bool, Bool.not_true, pPick_true, stepM_false, stepG_false, pPick_false]
      exact hk
    · have hc' : r.any ctlP = false := by simpa using hc
      simp only [hc', Bool.not_false, Bool.true_and] at hk
      have e : decide ((s.length : Int) ≤ (most : Int)) = decide (s.length ≤ most) := by rw [decide_eq_decide]; omega
      simp only [bEq_int, decide_true, bindP_some, gd_true, stepM_true, stepG_true, hc', uNot_bool, Bool.not_false, pPick_true, lenS_mk, bs_size, bLe_int, e]
      exact hk
theorem fpL_spec {s : List UInt8} {most : Nat} {l : List Int} {v : Value} (h : Rd w 1 v l.length (l.flatMap cI)) (hl : l.length ≤ 1073741824) (hK : K (.bool (!(l.any ctlP) && decide (s.length ≤ most))) w) : ∀ (k i m : Nat), k + i = l.length → k ≤ m → (l.take i).any ctlP = false →
    F112_2L (m + 1) (.string (bs s)) (.int .i64 most) v (.int .i64 0) (.int .i64 i) w K := by
  intro k
  have e0 : decide ((s.length : Int) ≤ (most : Int)) = decide (s.length ≤ most) := by rw [decide_eq_decide]; omega
  induction k with
  | zero =>
    intro i m hk hm hi
    rw [F112_2L]; unfold F112_2b F112_3 F112_3b
    obtain rfl : i = l.length := by omega
    rw [List.take_length] at hi
    rw [hi] at hK
    rw [h.len]
    simp only [bLt_int, bindP_some, Int.lt_irrefl, decide_false, ifB_false, bEq_int, decide_true, gd_true, stepM_true, stepG_true, lenS_mk, bs_size, bLe_int, e0, pPick_true]
    simpa using hK
  | succ k ih =>
    intro i m hk hm hi0
    obtain ⟨m, rfl⟩ : ∃ j, m = j + 1 := ⟨m - 1, by omega⟩
    rw [F112_2L]; unfold F112_2b
    have hi : i < l.length := by omega
    have e : bLt (.int .i64 (i : Int)) (.int .i64 l.length) = some (.bool true) := by simp; omega
    have e1 := ix_el h hi
    have e2 := rd_ld1 (g := fun c : Int => Value.int .i64 c) h hi
    rw [h.len]
    simp only [bindP_some, e, ifB_true, e1, e2]
    have htk : (l.take (i + 1)).any ctlP = ctlP l[i] := by
      rw [List.take_succ_eq_append_getElem hi, List.any_append, hi0]; simp
    have hany : ctlP l[i] = true → l.any ctlP = true := fun h => List.any_eq_true.2 ⟨l[i], List.getElem_mem hi, h⟩
    generalize l[i] = c at htk hany e2 ⊢
    unfold ctlP at htk hany
    have out : ctlP c = true → K (.bool false) w := by
      intro hc
      have := hany hc
      rw [show (fun c => decide (c < 32) || decide (c = 127)) = ctlP from rfl] at this
      rw [this] at hK
      simpa using hK
    have step : ctlP c = false → bindP (bAdd (.int .i64 (i : Int)) (.int .i64 1)) (fun v18 => F112_2L (m + 1) (.string (bs s)) (.int .i64 most) v (.int .i64 0) v18 w K) := by
      intro hc
      rw [plus1 (by omega)]
      simp only [bindP_some]
      refine ih (i + 1) m (by omega) (by omega) ?_
      rw [show ctlP = (fun c => decide (c < 32) || decide (c = 127)) from rfl] at hc ⊢
      rw [htk]; exact hc
    by_cases h1 : c < 32
    · simp only [bLt_int, h1, decide_true, bindP_some, gd_false, Bool.not_true, stepM_false, stepG_false, pPick_true, ifB_true]
      exact out (by simp [ctlP, h1])
    · simp only [bLt_int, h1, decide_false, bindP_some, gd_false, Bool.not_false, stepM_true, stepG_true, e1, e2, bEq_int, pPick_false]
      by_cases h2 : c = 127
      · simp only [h2, decide_true, ifB_true]
        exact out (by simp [ctlP, h2])
      · simp only [h2, decide_false, ifB_false]
        exact step (by simp [ctlP, h1, h2])
theorem fplain_spec {s : List UInt8} {most : Nat} (hs : s.length < 1073741824) (h : Sat w0 L w) (hK : ∀ w', Sat w0 L w' → K (.bool (plainP s most)) w') : callP G112 [.string (bs s), .int .i64 most] w K := by
  refine c112 ?_
  unfold F112 F112_1 F112_1b
  unfold plainP at hK
  refine fchars_spec hs h (fun w1 h1 hn => ?_) fun v r w1 hr h1 => ?_
  · rw [hn] at hK
    simp only [pTuple, List.getElem?_toArray, List.getElem?_cons_zero, List.getElem?_cons_succ, bindP_some]
    unfold F112_2
    obtain ⟨m, hm⟩ : ∃ m, fuel = m + 1 := ⟨fuel - 1, by decide⟩
    rw [hm, F112_2L]
    unfold F112_2b F112_3 F112_3b
    have e : decide ((40 : Int) = 0) = false := by decide
    have e1 : bLt (.int .i64 0) (.int .i64 ((0 : Nat) : Int)) = some (.bool false) := by simp
    simp only [lenL_mk, e1, bEq_int, e, bindP_some, ifB_false, gd_true, stepM_false, stepG_false, pPick_false]
    exact hK _ h1
  · rw [hr] at hK
    have hl := charsF_len _ _ _ hr
    simp only [pTuple, List.getElem?_toArray, List.getElem?_cons_zero, List.getElem?_cons_succ, bindP_some]
    unfold F112_2
    exact fpL_spec (ls_rd h1) (by omega) (hK _ h1.drop) r.length 0 (fuel - 1) (by omega) (Nat.le_trans (show r.length ≤ 1073741824 by omega) (by decide)) (by simp)
end
end Go.Proofs.Gong

/- Nm5 -/
namespace Go.Proofs.Gong
open Go Go.Sx Go.Proofs
set_option maxRecDepth 100000
structure Evt where
  node : List UInt8
  cls : List UInt8
  key : List UInt8
  level : Int
  text : List UInt8
  deriving DecidableEq
@[reducible] def cEv (e : Evt) : List Value := [.string (bs e.node), .string (bs e.cls), .string (bs e.key), .int .i64 e.level, .string (bs e.text)]
abbrev evV (e : Evt) : Value := .agg (cEv e).toArray
def Evt.fits (e : Evt) : Prop := e.node.length < 1073741824 ∧ e.cls.length < 1073741824 ∧ e.key.length < 1073741824 ∧ e.text.length < 1073741824
def okE (e : Evt) : Bool := !decide (e.node = []) && !decide (e.cls = []) && plainP e.node 64 && plainP e.cls 64 && plainP e.key 128 && plainP e.text 1024 && decide (0 ≤ e.level) && decide (e.level ≤ 5)
def chkE (e : Evt) : Int := if okE e = true then 0 else 180
section
variable {w0 w : World} {L : List HP} {K : Value → World → Prop} {e : Evt}
theorem ncheck_spec (he : e.fits) (h : Sat w0 L w) (hK : ∀ w', Sat w0 L w' → K (.int .i64 (chkE e)) w') : callP G61 [evV e] w K := by
  refine c61 ?_
  unfold F61
  refine eBox_sat h fun p w1 h1 => ?_
  have e0 : (evV e).cells = (cEv e).toArray := rfl
  rw [e0] at h1
  have cs : ∀ {w' : World}, Sat w0 (Cl p (cEv e).toArray 31 :: L) w' → ∀ i, w'.cell? ⟨p, i, none⟩ = (cEv e)[i]? := fun h i => by rw [cell_of h.cl, List.getElem?_toArray]
  have k0 : (cEv e)[0]? = some (.string (bs e.node)) := rfl
  have k1 : (cEv e)[1]? = some (.string (bs e.cls)) := rfl
  have k2 : (cEv e)[2]? = some (.string (bs e.key)) := rfl
  have k3 : (cEv e)[3]? = some (.int .i64 e.level) := rfl
  have k4 : (cEv e)[4]? = some (.string (bs e.text)) := rfl
  obtain ⟨f1, f2, f3, f4⟩ := he
  unfold chkE okE at hK
  rw [nil_b]
  simp only [ptr, pFieldAddr_ptr, bindP_some, Nat.zero_add, ld1_ptr, cs h1, k0, k1, bNe_str, bs_beq, bs_inj]
  have bad : ∀ w', Sat w0 (Cl p (cEv e).toArray 31 :: L) w' → okE e = false → K (.int .i64 180) w' := by
    intro w' hs ho
    have := hK _ hs.drop
    unfold okE at ho
    rw [ho] at this
    exact this
  by_cases n1 : e.node = []
  · have ho : okE e = false := by simp [okE, n1]
    simp only [ld1_ptr, k0, k1, k2, k3, k4, bNe_str, bs_beq, bs_inj, cs h1, n1, decide_true, Bool.not_true, gd_true, stepG_false, stepE_false, pPick_false, bindP_some, uNot_bool, Bool.not_false, gd_false, pPick_true, ifB_true]
    exact bad _ h1 ho
  · by_cases n2 : e.cls = []
    · have ho : okE e = false := by simp [okE, n2]
      simp only [ld1_ptr, k0, k1, k2, k3, k4, bNe_str, bs_beq, bs_inj, cs h1, n1, n2, decide_true, decide_false, Bool.not_true, Bool.not_false, gd_true, stepG_true, stepG_false, stepE_false, pPick_true, pPick_false, bindP_some, uNot_bool, gd_false, ifB_true]
      exact bad _ h1 ho
    · simp only [ld1_ptr, k0, k1, k2, k3, k4, bNe_str, bs_beq, bs_inj, cs h1, n1, n2, decide_false, Bool.not_false, gd_true, stepG_true, stepE_true, pPick_true, bindP_some]
      refine plain_spec (most := 64) f1 h1 fun w2 h2 => ?_
      by_cases p1 : plainP e.node 64 = true
      · simp only [ld1_ptr, k0, k1, k2, k3, k4, bNe_str, bs_beq, bs_inj, p1, pPick_true, bindP_some, gd_true, stepG_true, stepE_true, cs h2, k1]
        refine plain_spec (most := 64) f2 h2 fun w3 h3 => ?_
        by_cases p2 : plainP e.cls 64 = true
        · simp only [ld1_ptr, k0, k1, k2, k3, k4, bNe_str, bs_beq, bs_inj, p2, pPick_true, bindP_some, uNot_bool, Bool.not_true, gd_false, Bool.not_false, stepG_true, stepE_true, cs h3, k2]
          refine plain_spec (most := 128) f3 h3 fun w4 h4 => ?_
          by_cases p3 : plainP e.key 128 = true
          · simp only [ld1_ptr, k0, k1, k2, k3, k4, bNe_str, bs_beq, bs_inj, p3, uNot_bool, Bool.not_true, pPick_false, bindP_some, gd_false, Bool.not_false, stepG_true, stepE_true, cs h4, k4]
            refine plain_spec (most := 1024) f4 h4 fun w5 h5 => ?_
            by_cases p4 : plainP e.text 1024 = true
            · simp only [ld1_ptr, k0, k1, k2, k3, k4, bNe_str, bs_beq, bs_inj, p4, uNot_bool, Bool.not_true, pPick_false, bindP_some, gd_false, Bool.not_false, stepG_true, cs h5, k3, bLt_int]
              by_cases l1 : e.level < 0
              · have ho : okE e = false := by
                  have : ¬ (0 ≤ e.level) := by omega
                  simp [okE, this]
                simp only [ld1_ptr, k0, k1, k2, k3, k4, bNe_str, bs_beq, bs_inj, l1, decide_true, pPick_true, bindP_some, gd_false, Bool.not_true, stepG_false, ifB_true]
                exact bad _ h5 ho
              · by_cases l2 : e.level > 5
                · have ho : okE e = false := by
                    have : ¬ (e.level ≤ 5) := by omega
                    simp [okE, this]
                  simp only [ld1_ptr, k0, k1, k2, k3, k4, bNe_str, bs_beq, bs_inj, cs h5, l1, l2, bGt_int, decide_true, decide_false, pPick_false, bindP_some, gd_false, Bool.not_false, stepG_true, ifB_true]
                  exact bad _ h5 ho
                · have hk := hK _ h5.drop
                  have g1 : 0 ≤ e.level := by omega
                  have g2 : e.level ≤ 5 := by omega
                  simp only [n1, n2, p1, p2, p3, p4, g1, g2, decide_true, decide_false, Bool.not_false, Bool.and_self, if_true] at hk
                  simp only [ld1_ptr, k0, k1, k2, k3, k4, bNe_str, bs_beq, bs_inj, cs h5, l1, l2, bGt_int, decide_false, pPick_false, bindP_some, gd_false, Bool.not_false, stepG_true, ifB_false]
                  exact hk
            · have p4' : plainP e.text 1024 = false := by simpa using p4
              have ho : okE e = false := by simp [okE, p4']
              simp only [ld1_ptr, k0, k1, k2, k3, k4, bNe_str, bs_beq, bs_inj, p4', uNot_bool, Bool.not_false, pPick_false, pPick_true, bindP_some, gd_false, Bool.not_true, stepG_false, ifB_true]
              exact bad _ h5 ho
          · have p3' : plainP e.key 128 = false := by simpa using p3
            have ho : okE e = false := by simp [okE, p3']
            simp only [ld1_ptr, k0, k1, k2, k3, k4, bNe_str, bs_beq, bs_inj, p3', uNot_bool, Bool.not_false, pPick_false, pPick_true, bindP_some, gd_false, Bool.not_true, stepG_false, stepE_false, ifB_true]
            exact bad _ h4 ho
        · have p2' : plainP e.cls 64 = false := by simpa using p2
          have ho : okE e = false := by simp [okE, p2']
          simp only [ld1_ptr, k0, k1, k2, k3, k4, bNe_str, bs_beq, bs_inj, p2', uNot_bool, Bool.not_false, pPick_false, pPick_true, bindP_some, gd_false, Bool.not_true, stepG_false, stepE_false, ifB_true]
          exact bad _ h3 ho
      · have p1' : plainP e.node 64 = false := by simpa using p1
        have ho : okE e = false := by simp [okE, p1']
        simp only [ld1_ptr, k0, k1, k2, k3, k4, bNe_str, bs_beq, bs_inj, p1', gd_true, uNot_bool, Bool.not_false, pPick_false, pPick_true, bindP_some, gd_false, Bool.not_true, stepG_false, stepE_false, ifB_true]
        exact bad _ h2 ho
theorem nfcheck_spec (he : e.fits) (h : Sat w0 L w) (hK : ∀ w', Sat w0 L w' → K (.int .i64 (chkE e)) w') : callP G68 [evV e] w K := by
  refine c68 ?_
  unfold F68
  refine eBox_sat h fun p w1 h1 => ?_
  have e0 : (evV e).cells = (cEv e).toArray := rfl
  rw [e0] at h1
  have cs : ∀ {w' : World}, Sat w0 (Cl p (cEv e).toArray 31 :: L) w' → ∀ i, w'.cell? ⟨p, i, none⟩ = (cEv e)[i]? := fun h i => by rw [cell_of h.cl, List.getElem?_toArray]
  have k0 : (cEv e)[0]? = some (.string (bs e.node)) := rfl
  have k1 : (cEv e)[1]? = some (.string (bs e.cls)) := rfl
  have k2 : (cEv e)[2]? = some (.string (bs e.key)) := rfl
  have k3 : (cEv e)[3]? = some (.int .i64 e.level) := rfl
  have k4 : (cEv e)[4]? = some (.string (bs e.text)) := rfl
  obtain ⟨f1, f2, f3, f4⟩ := he
  unfold chkE okE at hK
  rw [nil_b]
  simp only [ptr, pFieldAddr_ptr, bindP_some, Nat.zero_add, ld1_ptr, cs h1, k0, k1, bEq_str, bs_beq, bs_inj]
  have bad : ∀ w', Sat w0 (Cl p (cEv e).toArray 31 :: L) w' → okE e = false → K (.int .i64 180) w' := by
    intro w' hs ho
    have := hK _ hs.drop
    unfold okE at ho
    rw [ho] at this
    exact this
  by_cases n1 : e.node = []
  · have ho : okE e = false := by simp [okE, n1]
    simp only [cs h1, n1, ld1_ptr, k0, k1, k2, k3, k4, bEq_str, bs_beq, bs_inj, gd_undef, uNot_bool, decide_true, decide_false, Bool.not_true, Bool.not_false, gd_true, gd_false, stepG_true, stepG_false, stepE_true, stepE_false, stepM_true, stepM_false, pPick_true, pPick_false, bindP_some, ifB_true, ifB_false, bLt_int, bGt_int]
    exact bad _ h1 ho
  · by_cases n2 : e.cls = []
    · have ho : okE e = false := by simp [okE, n2]
      simp only [cs h1, n1, n2, ld1_ptr, k0, k1, k2, k3, k4, bEq_str, bs_beq, bs_inj, gd_undef, uNot_bool, decide_true, decide_false, Bool.not_true, Bool.not_false, gd_true, gd_false, stepG_true, stepG_false, stepE_true, stepE_false, stepM_true, stepM_false, pPick_true, pPick_false, bindP_some, ifB_true, ifB_false, bLt_int, bGt_int]
      exact bad _ h1 ho
    · simp only [cs h1, n1, n2, ld1_ptr, k0, k1, k2, k3, k4, bEq_str, bs_beq, bs_inj, gd_undef, uNot_bool, decide_true, decide_false, Bool.not_true, Bool.not_false, gd_true, gd_false, stepG_true, stepG_false, stepE_true, stepE_false, stepM_true, stepM_false, pPick_true, pPick_false, bindP_some, ifB_true, ifB_false, bLt_int, bGt_int]
      refine fplain_spec (most := 64) f1 h1 fun w2 h2 => ?_
      by_cases p1 : plainP e.node 64 = true
      · simp only [p1, cs h2, ld1_ptr, k0, k1, k2, k3, k4, bEq_str, bs_beq, bs_inj, gd_undef, uNot_bool, decide_true, decide_false, Bool.not_true, Bool.not_false, gd_true, gd_false, stepG_true, stepG_false, stepE_true, stepE_false, stepM_true, stepM_false, pPick_true, pPick_false, bindP_some, ifB_true, ifB_false, bLt_int, bGt_int]
        refine fplain_spec (most := 64) f2 h2 fun w3 h3 => ?_
        by_cases p2 : plainP e.cls 64 = true
        · simp only [p2, cs h3, ld1_ptr, k0, k1, k2, k3, k4, bEq_str, bs_beq, bs_inj, gd_undef, uNot_bool, decide_true, decide_false, Bool.not_true, Bool.not_false, gd_true, gd_false, stepG_true, stepG_false, stepE_true, stepE_false, stepM_true, stepM_false, pPick_true, pPick_false, bindP_some, ifB_true, ifB_false, bLt_int, bGt_int]
          refine fplain_spec (most := 128) f3 h3 fun w4 h4 => ?_
          by_cases p3 : plainP e.key 128 = true
          · simp only [p3, cs h4, ld1_ptr, k0, k1, k2, k3, k4, bEq_str, bs_beq, bs_inj, gd_undef, uNot_bool, decide_true, decide_false, Bool.not_true, Bool.not_false, gd_true, gd_false, stepG_true, stepG_false, stepE_true, stepE_false, stepM_true, stepM_false, pPick_true, pPick_false, bindP_some, ifB_true, ifB_false, bLt_int, bGt_int]
            refine fplain_spec (most := 1024) f4 h4 fun w5 h5 => ?_
            by_cases p4 : plainP e.text 1024 = true
            · simp only [p4, cs h5, ld1_ptr, k0, k1, k2, k3, k4, bEq_str, bs_beq, bs_inj, gd_undef, uNot_bool, decide_true, decide_false, Bool.not_true, Bool.not_false, gd_true, gd_false, stepG_true, stepG_false, stepE_true, stepE_false, stepM_true, stepM_false, pPick_true, pPick_false, bindP_some, ifB_true, ifB_false, bLt_int, bGt_int]
              by_cases l1 : e.level < 0
              · have ho : okE e = false := by
                  have : ¬ (0 ≤ e.level) := by omega
                  simp [okE, this]
                simp only [l1, cs h5, ld1_ptr, k0, k1, k2, k3, k4, bEq_str, bs_beq, bs_inj, gd_undef, uNot_bool, decide_true, decide_false, Bool.not_true, Bool.not_false, gd_true, gd_false, stepG_true, stepG_false, stepE_true, stepE_false, stepM_true, stepM_false, pPick_true, pPick_false, bindP_some, ifB_true, ifB_false, bLt_int, bGt_int]
                exact bad _ h5 ho
              · by_cases l2 : e.level > 5
                · have ho : okE e = false := by
                    have : ¬ (e.level ≤ 5) := by omega
                    simp [okE, this]
                  simp only [l1, l2, cs h5, ld1_ptr, k0, k1, k2, k3, k4, bEq_str, bs_beq, bs_inj, gd_undef, uNot_bool, decide_true, decide_false, Bool.not_true, Bool.not_false, gd_true, gd_false, stepG_true, stepG_false, stepE_true, stepE_false, stepM_true, stepM_false, pPick_true, pPick_false, bindP_some, ifB_true, ifB_false, bLt_int, bGt_int]
                  exact bad _ h5 ho
                · have hk := hK _ h5.drop
                  have g1 : 0 ≤ e.level := by omega
                  have g2 : e.level ≤ 5 := by omega
                  simp only [n1, n2, p1, p2, p3, p4, g1, g2, decide_true, decide_false, Bool.not_false, Bool.and_self, if_true] at hk
                  simp only [l1, l2, cs h5, ld1_ptr, k0, k1, k2, k3, k4, bEq_str, bs_beq, bs_inj, gd_undef, uNot_bool, decide_true, decide_false, Bool.not_true, Bool.not_false, gd_true, gd_false, stepG_true, stepG_false, stepE_true, stepE_false, stepM_true, stepM_false, pPick_true, pPick_false, bindP_some, ifB_true, ifB_false, bLt_int, bGt_int]
                  exact hk
            · have p4' : plainP e.text 1024 = false := by simpa using p4
              have ho : okE e = false := by simp [okE, p4']
              simp only [p4', cs h5, ld1_ptr, k0, k1, k2, k3, k4, bEq_str, bs_beq, bs_inj, gd_undef, uNot_bool, decide_true, decide_false, Bool.not_true, Bool.not_false, gd_true, gd_false, stepG_true, stepG_false, stepE_true, stepE_false, stepM_true, stepM_false, pPick_true, pPick_false, bindP_some, ifB_true, ifB_false, bLt_int, bGt_int]
              exact bad _ h5 ho
          · have p3' : plainP e.key 128 = false := by simpa using p3
            have ho : okE e = false := by simp [okE, p3']
            simp only [p3', cs h4, ld1_ptr, k0, k1, k2, k3, k4, bEq_str, bs_beq, bs_inj, gd_undef, uNot_bool, decide_true, decide_false, Bool.not_true, Bool.not_false, gd_true, gd_false, stepG_true, stepG_false, stepE_true, stepE_false, stepM_true, stepM_false, pPick_true, pPick_false, bindP_some, ifB_true, ifB_false, bLt_int, bGt_int]
            exact bad _ h4 ho
        · have p2' : plainP e.cls 64 = false := by simpa using p2
          have ho : okE e = false := by simp [okE, p2']
          simp only [p2', cs h3, ld1_ptr, k0, k1, k2, k3, k4, bEq_str, bs_beq, bs_inj, gd_undef, uNot_bool, decide_true, decide_false, Bool.not_true, Bool.not_false, gd_true, gd_false, stepG_true, stepG_false, stepE_true, stepE_false, stepM_true, stepM_false, pPick_true, pPick_false, bindP_some, ifB_true, ifB_false, bLt_int, bGt_int]
          exact bad _ h3 ho
      · have p1' : plainP e.node 64 = false := by simpa using p1
        have ho : okE e = false := by simp [okE, p1']
        simp only [p1', cs h2, ld1_ptr, k0, k1, k2, k3, k4, bEq_str, bs_beq, bs_inj, gd_undef, uNot_bool, decide_true, decide_false, Bool.not_true, Bool.not_false, gd_true, gd_false, stepG_true, stepG_false, stepE_true, stepE_false, stepM_true, stepM_false, pPick_true, pPick_false, bindP_some, ifB_true, ifB_false, bLt_int, bGt_int]
        exact bad _ h2 ho
end
end Go.Proofs.Gong
