/- A part of the proofs: what stands below it, told in lemmas. No condition. -/
import Derived.Test.YtpbfmiphjcmjjaaP1
set_option linter.all false

/- Heap -/
namespace Go.Proofs.Gong
open Go Go.Sx Go.Proofs
set_option linter.all false
set_option maxRecDepth 100000
-- 26 gong/heap.New
def T26 : List (Nat × FnT) := []
def F26 (x0 : Value) (w : World) (K : Value → World → Prop) : Prop :=
bindP (bLt x0 (.int .i64 1)) fun v1 =>
stepM (gd false v1) x0 fun v2 =>
Sx.stepG (gd false v1) (bGt v2 (.int .i64 65536)) fun v3 =>
bindP (pPick v1 (.bool true) v3) fun v4 =>
ifB v4 (
K (.tuple #[(.pointer none), (.int .i64 1)]) w) (
eMakeMap none w fun v6 w5 =>
bindP (fBuild Try.prog 126 [(0, x0), (2, v6)]) fun v7 =>
eBox 126 v7 w5 fun v9 w8 =>
K (.tuple #[v9, (.int .i64 0)]) w8)

def G26 : FnT := fun args w K => on1 (fun x0 => F26 x0 w K) args
theorem c26 {x0 : Value} {w : World} {K : Value → World → Prop} (h : F26 x0 w K) : callP G26 [x0] w K := callP_intro (on1_mk (p := fun x0 => F26 x0 w K) h)
theorem ok26 : OkF Try.prog 26 G26 := by
  refine okF_of (tab_ok (l := T26) trivial) mixed (n := fuel) Try.func26 Try.call26 fun args w K h => ?_
  obtain ⟨x0, rfl, hh⟩ := of_on1 h
  exact fnD_list (c := bodyOf Try.f26) (by kernel_rfl) (by kernel_rfl) (Eq.mp (by kernel_rfl) hh)

-- 76 (*gong/heap.Heap).put
def T76 : List (Nat × FnT) := []
def F76 (x0 : Value) (x1 : Value) (x2 : Value) (w : World) (K : Value → World → Prop) : Prop :=
eBox 55 x2 w fun v2 w1 =>
bindP (pNil x0) fun v3 =>
bindP (pFieldAddr 1 v3) fun v4 =>
bindP (ld1 v4 w1.drew) fun v5 =>
bindP (ldN 2 v2 w1.drew) fun v6 =>
bindP (pIndexL 2 v5 x1) fun v7 =>
bindW (st 2 v7 v6 w1.drew) fun w8 =>
bindP (pNil x0) fun v10 =>
bindP (pFieldAddr 2 v10) fun v11 =>
bindP (ld1 v11 w8.drew) fun v12 =>
bindP (pFieldAddr 0 v2) fun v13 =>
bindP (ld1 v13 w8.drew) fun v14 =>
eMapSet Try.prog 124 v12 v14 x1 w8.drew fun _ w15 =>
K (.tuple #[]) w15

def G76 : FnT := fun args w K => on3 (fun x0 x1 x2 => F76 x0 x1 x2 w K) args
theorem c76 {x0 x1 x2 : Value} {w : World} {K : Value → World → Prop} (h : F76 x0 x1 x2 w K) : callP G76 [x0, x1, x2] w K := callP_intro (on3_mk (p := fun x0 x1 x2 => F76 x0 x1 x2 w K) h)
theorem ok76 : OkF Try.prog 76 G76 := by
  refine okF_of (tab_ok (l := T76) trivial) mixed (n := fuel) Try.func76 Try.call76 fun args w K h => ?_
  obtain ⟨x0, x1, x2, rfl, hh⟩ := of_on3 h
  exact fnD_list (c := bodyOf Try.f76) (by kernel_rfl) (by kernel_rfl) (Eq.mp (by kernel_rfl) hh)

-- 116 cmp.Or[int]
def T116 : List (Nat × FnT) := []
def F116_3b (s3 : Value) (w : World) (K : Value → World → Prop) : Prop :=
K s3 w

def F116_3 (s3 : Value) (w : World) (K : Value → World → Prop) : Prop := F116_3b s3 w K

theorem ok116_3 {K : Value → World → Prop} {kn kr : Env → World → Prop} {ke : Nat → Env → World → Prop}
    (hn : ∀ e w, (fun e w => K (e 2) w) e w → kn e w) (hr : ∀ e w, endD Try.prog [.tmp 2] K e w → kr e w) (he : ∀ i e w, noE i e w → ke i e w) :
    ∀ e w, F116_3 (e 3) w K → denL Try.prog (tabOf T116) 18 fuel ((flat (bodyOf Try.f116)).drop 4) e w kn kr ke := by
  intro e w h
  unfold F116_3 at h
  have e1 : ∀ (_ : Unit), F116_3b (e 3) w K = denL Try.prog (tabOf T116) 18 fuel ((flat (bodyOf Try.f116)).drop 4) e w (fun e w => K (e 2) w) (endD Try.prog [.tmp 2] K) noE := by intro _; kernel_rfl
  exact seg_end (Eq.mp (e1 ()) h) hn hr he

def F116_2b (s3 : Value) (s6 : Value) (s7 : Value) (s8 : Value) (w : World) (K : Value → World → Prop) (Y0 : Value → Value → Value → Value → World → Prop) (Y1 : Value → World → Prop) : Prop :=
bindP (bLt s8 s7) fun v1 =>
ifB v1 (
bindP (pIndexL 1 s6 s8) fun v2 =>
bindP (ld1 v2 w) fun v3 =>
bindP (bNe Try.prog 3 (.tmp 12) (.tmp 13) v3 s3) fun v4 =>
ifB v4 (
K v3 w) (
bindP (bAdd s8 (.int .i64 1)) fun v5 =>
Y0 s3 s6 s7 v5 w)) (
Y1 s3 w)

def F116_2L : Nat → Value → Value → Value → Value → World → (Value → World → Prop) → Prop
  | 0, _, _, _, _, _, _ => False
  | n + 1, s3, s6, s7, s8, w, K => F116_2b s3 s6 s7 s8 w K (fun a3 a6 a7 a8 w => F116_2L n a3 a6 a7 a8 w K) (fun a3 w => F116_3 a3 w K)

def F116_2 (s3 : Value) (s6 : Value) (s7 : Value) (s8 : Value) (w : World) (K : Value → World → Prop) : Prop := F116_2L fuel s3 s6 s7 s8 w K

theorem ok116_2 {K : Value → World → Prop} {kn kr : Env → World → Prop} {ke : Nat → Env → World → Prop}
    (hn : ∀ e w, (fun e w => K (e 2) w) e w → kn e w) (hr : ∀ e w, endD Try.prog [.tmp 2] K e w → kr e w) (he : ∀ i e w, noE i e w → ke i e w) :
    ∀ e w, F116_2 (e 3) (e 6) (e 7) (e 8) w K → denL Try.prog (tabOf T116) 18 fuel ((flat (bodyOf Try.f116)).drop 3) e w kn kr ke := by
  intro e w h
  unfold F116_2 at h
  refine seg_loop (id := 0) (body := (loopB (blkB (nthC (flat (bodyOf Try.f116)) 3)))) (l2 := (flat (bodyOf Try.f116)).drop 4) (by kernel_rfl) ?_
  refine loop_ok (FL := fun m e w => F116_2L m (e 3) (e 6) (e 7) (e 8) w K) (fr := endD Try.prog [.tmp 2] K) (fe := (blkK 0 (fun e w => F116_3 (e 3) w K) noE)) (fun _ _ h => h) ?_ hr (blkK_mono (fun e w h => ok116_3 hn hr he e w h) he) fuel e w h
  intro m e w h
  have h : F116_2L (m + 1) (e 3) (e 6) (e 7) (e 8) w K := h
  rw [F116_2L] at h
  have e1 : ∀ (Y0 : Value → Value → Value → Value → World → Prop) (Y1 : Value → World → Prop), F116_2b (e 3) (e 6) (e 7) (e 8) w K Y0 Y1 = denL Try.prog (tabOf T116) 18 fuel (flat (loopB (blkB (nthC (flat (bodyOf Try.f116)) 3)))) e w (fun e w => Y0 (e 3) (e 6) (e 7) (e 8) w) (endD Try.prog [.tmp 2] K) (blkK 0 (fun e w => Y1 (e 3) w) noE) := by intro Y0 Y1; kernel_rfl
  exact Eq.mp (e1 (fun a3 a6 a7 a8 w => F116_2L m a3 a6 a7 a8 w K) (fun a3 w => F116_3 a3 w K)) h

def F116_1b (s0 : Value) (w : World) (_K : Value → World → Prop) (Y0 : Value → Value → Value → Value → World → Prop) : Prop :=
bindP (lenL s0) fun v6 =>
Y0 (.int .i64 0) s0 v6 (.int .i64 0) w

def F116_1 (s0 : Value) (w : World) (K : Value → World → Prop) : Prop := F116_1b s0 w K (fun a3 a6 a7 a8 w => F116_2 a3 a6 a7 a8 w K)

theorem ok116_1 {K : Value → World → Prop} {kn kr : Env → World → Prop} {ke : Nat → Env → World → Prop}
    (hn : ∀ e w, (fun e w => K (e 2) w) e w → kn e w) (hr : ∀ e w, endD Try.prog [.tmp 2] K e w → kr e w) (he : ∀ i e w, noE i e w → ke i e w) :
    ∀ e w, F116_1 (e 0) w K → denL Try.prog (tabOf T116) 18 fuel ((flat (bodyOf Try.f116)).drop 0) e w kn kr ke := by
  intro e w h
  unfold F116_1 at h
  have e1 : ∀ (Y0 : Value → Value → Value → Value → World → Prop), F116_1b (e 0) w K Y0 = denL Try.prog (tabOf T116) 18 fuel (((flat (bodyOf Try.f116)).drop 0).take 3) e w (fun e w => Y0 (e 3) (e 6) (e 7) (e 8) w) (endD Try.prog [.tmp 2] K) noE := by intro Y0; kernel_rfl
  exact seg 3 (Eq.mp (e1 (fun a3 a6 a7 a8 w => F116_2 a3 a6 a7 a8 w K)) h) (fun e w h => ok116_2 hn hr he e w h) hr he

def F116 (x0 : Value) (w : World) (K : Value → World → Prop) : Prop := F116_1 x0 w K

def G116 : FnT := fun args w K => on1 (fun x0 => F116 x0 w K) args
theorem c116 {x0 : Value} {w : World} {K : Value → World → Prop} (h : F116 x0 w K) : callP G116 [x0] w K := callP_intro (on1_mk (p := fun x0 => F116 x0 w K) h)
theorem ok116 : OkF Try.prog 116 G116 := by
  refine okF_of (tab_ok (l := T116) trivial) mixed (n := fuel) Try.func116 Try.call116 fun args w K h => ?_
  obtain ⟨x0, rfl, hh⟩ := of_on1 h
  unfold F116 at hh
  exact fnD_list (c := bodyOf Try.f116) (by kernel_rfl) (by kernel_rfl) (ok116_1 (fun _ _ h => h) (fun _ _ h => h) (fun _ _ _ h => h) (initE [x0]) w hh)

-- 139 cmp.isNaN[int]
def T139 : List (Nat × FnT) := []
def F139 (x0 : Value) (w : World) (K : Value → World → Prop) : Prop :=
bindP (bNe Try.prog 3 (.tmp 3) (.tmp 4) x0 x0) fun v1 =>
K v1 w

def G139 : FnT := fun args w K => on1 (fun x0 => F139 x0 w K) args
theorem c139 {x0 : Value} {w : World} {K : Value → World → Prop} (h : F139 x0 w K) : callP G139 [x0] w K := callP_intro (on1_mk (p := fun x0 => F139 x0 w K) h)
theorem ok139 : OkF Try.prog 139 G139 := by
  refine okF_of (tab_ok (l := T139) trivial) mixed (n := fuel) Try.func139 Try.call139 fun args w K h => ?_
  obtain ⟨x0, rfl, hh⟩ := of_on1 h
  exact fnD_list (c := bodyOf Try.f139) (by kernel_rfl) (by kernel_rfl) (Eq.mp (by kernel_rfl) hh)

-- 117 cmp.Compare[int]
def T117 : List (Nat × FnT) := [(139, G139)]
def F117 (x0 : Value) (x1 : Value) (w : World) (K : Value → World → Prop) : Prop :=
callP G139 [x0] w fun v2 w1 =>
callP G139 [x1] w1 fun v4 w3 =>
ifB v2 (
ifB v4 (
K (.int .i64 0) w3) (
K (.int .i64 (-1)) w3)) (
ifB v4 (
K (.int .i64 1) w3) (
bindP (bLt x0 x1) fun v5 =>
ifB v5 (
K (.int .i64 (-1)) w3) (
bindP (bGt x0 x1) fun v6 =>
ifB v6 (
K (.int .i64 1) w3) (
K (.int .i64 0) w3))))

def G117 : FnT := fun args w K => on2 (fun x0 x1 => F117 x0 x1 w K) args
theorem c117 {x0 x1 : Value} {w : World} {K : Value → World → Prop} (h : F117 x0 x1 w K) : callP G117 [x0, x1] w K := callP_intro (on2_mk (p := fun x0 x1 => F117 x0 x1 w K) h)
theorem ok117 : OkF Try.prog 117 G117 := by
  refine okF_of (tab_ok (l := T117) ⟨ok139, trivial⟩) mixed (n := fuel) Try.func117 Try.call117 fun args w K h => ?_
  obtain ⟨x0, x1, rfl, hh⟩ := of_on2 h
  exact fnD_list (c := bodyOf Try.f117) (by kernel_rfl) (by kernel_rfl) (Eq.mp (by kernel_rfl) hh)

-- 81 gong/heap.order
def T81 : List (Nat × FnT) := [(116, G116), (117, G117)]
def F81 (x0 : Value) (x1 : Value) (w : World) (K : Value → World → Prop) : Prop :=
eBox 55 x0 w fun v2 w1 =>
eBox 55 x1 w1 fun v4 w3 =>
bindP (pFieldAddr 1 v2) fun v5 =>
bindP (ld1 v5 w3.drew) fun v6 =>
bindP (pFieldAddr 1 v4) fun v7 =>
bindP (ld1 v7 w3.drew) fun v8 =>
bindP (pFieldAddr 0 v2) fun v9 =>
bindP (ld1 v9 w3.drew) fun v10 =>
bindP (pFieldAddr 0 v4) fun v11 =>
bindP (ld1 v11 w3.drew) fun v12 =>
callP G117 [v6, v8] w3.drew fun v14 w13 =>
(fok true (ld1 v9 w13) v10 ∧ fok true (ld1 v11 w13) v12) ∧ (callP G117 [v10, v12] w13 fun v16 w15 =>
eBuildSl Try.prog 22 2 [(0, v14), (1, v16)] w15 fun v18 w17 =>
callP G116 [v18] w17 fun v20 w19 =>
K v20 w19)

def G81 : FnT := fun args w K => on2 (fun x0 x1 => F81 x0 x1 w K) args
theorem c81 {x0 x1 : Value} {w : World} {K : Value → World → Prop} (h : F81 x0 x1 w K) : callP G81 [x0, x1] w K := callP_intro (on2_mk (p := fun x0 x1 => F81 x0 x1 w K) h)
theorem ok81 : OkF Try.prog 81 G81 := by
  refine okF_of (tab_ok (l := T81) ⟨ok116, ok117, trivial⟩) mixed (n := fuel) Try.func81 Try.call81 fun args w K h => ?_
  obtain ⟨x0, x1, rfl, hh⟩ := of_on2 h
  exact fnD_list (c := bodyOf Try.f81) (by kernel_rfl) (by kernel_rfl) (Eq.mp (by kernel_rfl) hh)

-- 77 (*gong/heap.Heap).up
def T77 : List (Nat × FnT) := [(76, G76), (81, G81)]
def F77_3b (s0 : Value) (s1 : Value) (s4 : Value) (w : World) (K : Value → World → Prop) : Prop :=
bindP (ldN 2 s4 w) fun v1 =>
callP G76 [s0, s1, v1] w fun _ w2 =>
K (.tuple #[]) w2

def F77_3 (s0 : Value) (s1 : Value) (s4 : Value) (w : World) (K : Value → World → Prop) : Prop := F77_3b s0 s1 s4 w K

theorem ok77_3 {K : Value → World → Prop} {kn kr : Env → World → Prop} {ke : Nat → Env → World → Prop}
    (hn : ∀ e w, (fun e w => K (.tuple #[]) w) e w → kn e w) (hr : ∀ e w, endD Try.prog [] K e w → kr e w) (he : ∀ i e w, noE i e w → ke i e w) :
    ∀ e w, F77_3 (e 0) (e 1) (e 4) w K → denL Try.prog (tabOf T77) 43 fuel ((flat (bodyOf Try.f77)).drop 2) e w kn kr ke := by
  intro e w h
  unfold F77_3 at h
  have e1 : ∀ (_ : Unit), F77_3b (e 0) (e 1) (e 4) w K = denL Try.prog (tabOf T77) 43 fuel ((flat (bodyOf Try.f77)).drop 2) e w (fun e w => K (.tuple #[]) w) (endD Try.prog [] K) noE := by intro _; kernel_rfl
  exact seg_end (Eq.mp (e1 ()) h) hn hr he

def F77_2b (s0 : Value) (s1 : Value) (s4 : Value) (w : World) (_K : Value → World → Prop) (Y0 : Value → Value → Value → World → Prop) (Y1 : Value → Value → Value → World → Prop) : Prop :=
bindP (bGt s1 (.int .i64 0)) fun v4 =>
ifB v4 (
bindP (bSub s1 (.int .i64 1)) fun v5 =>
bindP (bQuo v5 (.int .i64 2)) fun v6 =>
bindP (pNil s0) fun v7 =>
bindP (pFieldAddr 1 v7) fun v8 =>
bindP (ld1 v8 w.drew) fun v9 =>
bindP (pIndexL 2 v9 v6) fun v10 =>
bindP (ldN 2 v10 w.drew) fun v11 =>
bindP (ldN 2 s4 w.drew) fun v12 =>
callP G81 [v11, v12] w.drew fun v14 w13 =>
bindP (bLe v14 (.int .i64 0)) fun v15 =>
ifB v15 (
Y0 s0 s1 s4 w13) (
bindP (pNil s0) fun v16 =>
bindP (pFieldAddr 1 v16) fun v17 =>
bindP (ld1 v17 w13) fun v18 =>
bindP (pIndexL 2 v18 v6) fun v19 =>
bindP (ldN 2 v19 w13) fun v20 =>
callP G76 [s0, s1, v20] w13 fun _ w21 =>
Y1 s0 v6 s4 w21)) (
Y0 s0 s1 s4 w)

def F77_2L : Nat → Value → Value → Value → World → (Value → World → Prop) → Prop
  | 0, _, _, _, _, _ => False
  | n + 1, s0, s1, s4, w, K => F77_2b s0 s1 s4 w K (fun a0 a1 a4 w => F77_3 a0 a1 a4 w K) (fun a0 a1 a4 w => F77_2L n a0 a1 a4 w K)

def F77_2 (s0 : Value) (s1 : Value) (s4 : Value) (w : World) (K : Value → World → Prop) : Prop := F77_2L fuel s0 s1 s4 w K

theorem ok77_2 {K : Value → World → Prop} {kn kr : Env → World → Prop} {ke : Nat → Env → World → Prop}
    (hn : ∀ e w, (fun e w => K (.tuple #[]) w) e w → kn e w) (hr : ∀ e w, endD Try.prog [] K e w → kr e w) (he : ∀ i e w, noE i e w → ke i e w) :
    ∀ e w, F77_2 (e 0) (e 1) (e 4) w K → denL Try.prog (tabOf T77) 43 fuel ((flat (bodyOf Try.f77)).drop 1) e w kn kr ke := by
  intro e w h
  unfold F77_2 at h
  refine seg_loop (id := 0) (body := (loopB (blkB (nthC (flat (bodyOf Try.f77)) 1)))) (l2 := (flat (bodyOf Try.f77)).drop 2) (by kernel_rfl) ?_
  refine loop_ok (FL := fun m e w => F77_2L m (e 0) (e 1) (e 4) w K) (fr := endD Try.prog [] K) (fe := (blkK 0 (fun e w => F77_3 (e 0) (e 1) (e 4) w K) noE)) (fun _ _ h => h) ?_ hr (blkK_mono (fun e w h => ok77_3 hn hr he e w h) he) fuel e w h
  intro m e w h
  have h : F77_2L (m + 1) (e 0) (e 1) (e 4) w K := h
  rw [F77_2L] at h
  have e1 : ∀ (Y0 : Value → Value → Value → World → Prop) (Y1 : Value → Value → Value → World → Prop), F77_2b (e 0) (e 1) (e 4) w K Y0 Y1 = denL Try.prog (tabOf T77) 43 fuel (flat (loopB (blkB (nthC (flat (bodyOf Try.f77)) 1)))) e w (fun e w => Y1 (e 0) (e 1) (e 4) w) (endD Try.prog [] K) (blkK 0 (fun e w => Y0 (e 0) (e 1) (e 4) w) noE) := by intro Y0 Y1; kernel_rfl
  exact Eq.mp (e1 (fun a0 a1 a4 w => F77_3 a0 a1 a4 w K) (fun a0 a1 a4 w => F77_2L m a0 a1 a4 w K)) h

def F77_1b (s0 : Value) (s1 : Value) (w : World) (_K : Value → World → Prop) (Y0 : Value → Value → Value → World → Prop) : Prop :=
bindP (pNil s0) fun v23 =>
bindP (pFieldAddr 1 v23) fun v24 =>
bindP (ld1 v24 w) fun v25 =>
bindP (pIndexL 2 v25 s1) fun v26 =>
bindP (ldN 2 v26 w) fun v27 =>
eAlloc Try.prog 55 w fun v29 w28 =>
bindW (st 2 v29 v27 w28) fun w30 =>
Y0 s0 s1 v29 w30

def F77_1 (s0 : Value) (s1 : Value) (w : World) (K : Value → World → Prop) : Prop := F77_1b s0 s1 w K (fun a0 a1 a4 w => F77_2 a0 a1 a4 w K)

theorem ok77_1 {K : Value → World → Prop} {kn kr : Env → World → Prop} {ke : Nat → Env → World → Prop}
    (hn : ∀ e w, (fun e w => K (.tuple #[]) w) e w → kn e w) (hr : ∀ e w, endD Try.prog [] K e w → kr e w) (he : ∀ i e w, noE i e w → ke i e w) :
    ∀ e w, F77_1 (e 0) (e 1) w K → denL Try.prog (tabOf T77) 43 fuel ((flat (bodyOf Try.f77)).drop 0) e w kn kr ke := by
  intro e w h
  unfold F77_1 at h
  have e1 : ∀ (Y0 : Value → Value → Value → World → Prop), F77_1b (e 0) (e 1) w K Y0 = denL Try.prog (tabOf T77) 43 fuel (((flat (bodyOf Try.f77)).drop 0).take 1) e w (fun e w => Y0 (e 0) (e 1) (e 4) w) (endD Try.prog [] K) noE := by intro Y0; kernel_rfl
  exact seg 1 (Eq.mp (e1 (fun a0 a1 a4 w => F77_2 a0 a1 a4 w K)) h) (fun e w h => ok77_2 hn hr he e w h) hr he

def F77 (x0 : Value) (x1 : Value) (w : World) (K : Value → World → Prop) : Prop := F77_1 x0 x1 w K

def G77 : FnT := fun args w K => on2 (fun x0 x1 => F77 x0 x1 w K) args
theorem c77 {x0 x1 : Value} {w : World} {K : Value → World → Prop} (h : F77 x0 x1 w K) : callP G77 [x0, x1] w K := callP_intro (on2_mk (p := fun x0 x1 => F77 x0 x1 w K) h)
theorem ok77 : OkF Try.prog 77 G77 := by
  refine okF_of (tab_ok (l := T77) ⟨ok76, ok81, trivial⟩) mixed (n := fuel) Try.func77 Try.call77 fun args w K h => ?_
  obtain ⟨x0, x1, rfl, hh⟩ := of_on2 h
  unfold F77 at hh
  exact fnD_list (c := bodyOf Try.f77) (by kernel_rfl) (by kernel_rfl) (ok77_1 (fun _ _ h => h) (fun _ _ h => h) (fun _ _ _ h => h) (initE [x0, x1]) w hh)

-- 78 (*gong/heap.Heap).down
def T78 : List (Nat × FnT) := [(76, G76), (81, G81)]
def F78_3b (s0 : Value) (s1 : Value) (s4 : Value) (w : World) (K : Value → World → Prop) : Prop :=
bindP (ldN 2 s4 w) fun v1 =>
callP G76 [s0, s1, v1] w fun _ w2 =>
K (.tuple #[]) w2

def F78_3 (s0 : Value) (s1 : Value) (s4 : Value) (w : World) (K : Value → World → Prop) : Prop := F78_3b s0 s1 s4 w K

theorem ok78_3 {K : Value → World → Prop} {kn kr : Env → World → Prop} {ke : Nat → Env → World → Prop}
    (hn : ∀ e w, (fun e w => K (.tuple #[]) w) e w → kn e w) (hr : ∀ e w, endD Try.prog [] K e w → kr e w) (he : ∀ i e w, noE i e w → ke i e w) :
    ∀ e w, F78_3 (e 0) (e 1) (e 4) w K → denL Try.prog (tabOf T78) 77 fuel ((flat (bodyOf Try.f78)).drop 2) e w kn kr ke := by
  intro e w h
  unfold F78_3 at h
  have e1 : ∀ (_ : Unit), F78_3b (e 0) (e 1) (e 4) w K = denL Try.prog (tabOf T78) 77 fuel ((flat (bodyOf Try.f78)).drop 2) e w (fun e w => K (.tuple #[]) w) (endD Try.prog [] K) noE := by intro _; kernel_rfl
  exact seg_end (Eq.mp (e1 ()) h) hn hr he

def F78_6b (s0 : Value) (s1 : Value) (s4 : Value) (s5 : Value) (w : World) (_K : Value → World → Prop) (R3 : Value → Value → Value → World → Prop) (Y0 : Value → Value → Value → World → Prop) : Prop :=
bindP (ldN 2 s4 w.drew) fun v4 =>
bindP (pNil s0) fun v5 =>
bindP (pFieldAddr 1 v5) fun v6 =>
bindP (ld1 v6 w.drew) fun v7 =>
bindP (pIndexL 2 v7 s5) fun v8 =>
bindP (ldN 2 v8 w.drew) fun v9 =>
callP G81 [v4, v9] w.drew fun v11 w10 =>
bindP (bLe v11 (.int .i64 0)) fun v12 =>
ifB v12 (
Y0 s0 s1 s4 w10) (
bindP (pNil s0) fun v13 =>
bindP (pFieldAddr 1 v13) fun v14 =>
bindP (ld1 v14 w10) fun v15 =>
bindP (pIndexL 2 v15 s5) fun v16 =>
bindP (ldN 2 v16 w10) fun v17 =>
callP G76 [s0, s1, v17] w10 fun _ w18 =>
R3 s0 s5 s4 w18)

def F78_6 (s0 : Value) (s1 : Value) (s4 : Value) (s5 : Value) (w : World) (K : Value → World → Prop) (R3 : Value → Value → Value → World → Prop) : Prop := F78_6b s0 s1 s4 s5 w K R3 (fun a0 a1 a4 w => F78_3 a0 a1 a4 w K)

theorem ok78_6 (R3 : Value → Value → Value → World → Prop) {K : Value → World → Prop} {kn kr : Env → World → Prop} {ke : Nat → Env → World → Prop}
    (hn : ∀ e w, (fun e w => R3 (e 0) (e 1) (e 4) w) e w → kn e w) (hr : ∀ e w, endD Try.prog [] K e w → kr e w) (he : ∀ i e w, (blkK 1 (fun e w => R3 (e 0) (e 1) (e 4) w) (blkK 0 (fun e w => F78_3 (e 0) (e 1) (e 4) w K) noE)) i e w → ke i e w) :
    ∀ e w, F78_6 (e 0) (e 1) (e 4) (e 5) w K R3 → denL Try.prog (tabOf T78) 77 fuel ((flat (blkB (nthC (flat (loopB (blkB (nthC (flat (bodyOf Try.f78)) 1)))) 0))).drop 5) e w kn kr ke := by
  intro e w h
  unfold F78_6 at h
  have e1 : ∀ (Y0 : Value → Value → Value → World → Prop), F78_6b (e 0) (e 1) (e 4) (e 5) w K R3 Y0 = denL Try.prog (tabOf T78) 77 fuel ((flat (blkB (nthC (flat (loopB (blkB (nthC (flat (bodyOf Try.f78)) 1)))) 0))).drop 5) e w (fun e w => R3 (e 0) (e 1) (e 4) w) (endD Try.prog [] K) (blkK 1 (fun e w => R3 (e 0) (e 1) (e 4) w) (blkK 0 (fun e w => Y0 (e 0) (e 1) (e 4) w) noE)) := by intro Y0; kernel_rfl
  exact seg_end (Eq.mp (e1 (fun a0 a1 a4 w => F78_3 a0 a1 a4 w K)) h) hn hr he

def F78_5b (s0 : Value) (s1 : Value) (s4 : Value) (w : World) (_K : Value → World → Prop) (R3 : Value → Value → Value → World → Prop) (Y0 : Value → Value → Value → World → Prop) (Y1 : Value → Value → Value → Value → World → Prop) : Prop :=
bindP (bMul (.int .i64 2) s1) fun v20 =>
bindP (bAdd v20 (.int .i64 1)) fun v21 =>
bindP (pNil s0) fun v22 =>
bindP (pFieldAddr 1 v22) fun v23 =>
bindP (ld1 v23 w) fun v24 =>
bindP (lenL v24) fun v25 =>
bindP (bGe v21 v25) fun v26 =>
ifB v26 (
Y0 s0 s1 s4 w) (
bindP (bAdd v21 (.int .i64 1)) fun v27 =>
bindP (pNil s0) fun v28 =>
bindP (pFieldAddr 1 v28) fun v29 =>
bindP (ld1 v29 w.drew) fun v30 =>
bindP (lenL v30) fun v31 =>
bindP (bLt v27 v31) fun v32 =>
stepM (gd true v32) s0 fun v33 =>
Sx.stepG (gd true v32) (pNil v33) fun v34 =>
Sx.stepG (gd true v32) (pFieldAddr 1 v34) fun v35 =>
Sx.stepG (gd true v32) (ld1 v35 w.drew) fun v36 =>
stepM (gd true v32) v21 fun v37 =>
Sx.stepG (gd true v32) (bAdd v37 (.int .i64 1)) fun v38 =>
Sx.stepG (gd true v32) (pIndexL 2 v36 v38) fun v39 =>
Sx.stepG (gd true v32) (ldN 2 v39 w.drew) fun v40 =>
stepM (gd true v32) s0 fun v41 =>
Sx.stepG (gd true v32) (pNil v41) fun v42 =>
Sx.stepG (gd true v32) (pFieldAddr 1 v42) fun v43 =>
Sx.stepG (gd true v32) (ld1 v43 w.drew) fun v44 =>
stepM (gd true v32) v21 fun v45 =>
Sx.stepG (gd true v32) (pIndexL 2 v44 v45) fun v46 =>
Sx.stepG (gd true v32) (ldN 2 v46 w.drew) fun v47 =>
stepE (gd true v32) (fun k => callP G81 [v40, v47] w.drew k) w.drew fun v49 w48 =>
Sx.stepG (gd true v32) (bLt v49 (.int .i64 0)) fun v50 =>
bindP (pPick v32 v50 (.bool false)) fun v51 =>
ifB v51 (
bindP (bAdd v21 (.int .i64 1)) fun v52 =>
Y1 s0 s1 s4 v52 w48) (
Y1 s0 s1 s4 v21 w48))

def F78_5 (s0 : Value) (s1 : Value) (s4 : Value) (w : World) (K : Value → World → Prop) (R3 : Value → Value → Value → World → Prop) : Prop := F78_5b s0 s1 s4 w K R3 (fun a0 a1 a4 w => F78_3 a0 a1 a4 w K) (fun a0 a1 a4 a5 w => F78_6 a0 a1 a4 a5 w K R3)

theorem ok78_5 (R3 : Value → Value → Value → World → Prop) {K : Value → World → Prop} {kn kr : Env → World → Prop} {ke : Nat → Env → World → Prop}
    (hn : ∀ e w, (fun e w => R3 (e 0) (e 1) (e 4) w) e w → kn e w) (hr : ∀ e w, endD Try.prog [] K e w → kr e w) (he : ∀ i e w, (blkK 1 (fun e w => R3 (e 0) (e 1) (e 4) w) (blkK 0 (fun e w => F78_3 (e 0) (e 1) (e 4) w K) noE)) i e w → ke i e w) :
    ∀ e w, F78_5 (e 0) (e 1) (e 4) w K R3 → denL Try.prog (tabOf T78) 77 fuel ((flat (blkB (nthC (flat (loopB (blkB (nthC (flat (bodyOf Try.f78)) 1)))) 0))).drop 0) e w kn kr ke := by
  intro e w h
  unfold F78_5 at h
  have e1 : ∀ (Y0 : Value → Value → Value → World → Prop) (Y1 : Value → Value → Value → Value → World → Prop), F78_5b (e 0) (e 1) (e 4) w K R3 Y0 Y1 = denL Try.prog (tabOf T78) 77 fuel (((flat (blkB (nthC (flat (loopB (blkB (nthC (flat (bodyOf Try.f78)) 1)))) 0))).drop 0).take 5) e w (fun e w => Y1 (e 0) (e 1) (e 4) (e 5) w) (endD Try.prog [] K) (blkK 1 (fun e w => R3 (e 0) (e 1) (e 4) w) (blkK 0 (fun e w => Y0 (e 0) (e 1) (e 4) w) noE)) := by intro Y0 Y1; kernel_rfl
  exact seg 5 (Eq.mp (e1 (fun a0 a1 a4 w => F78_3 a0 a1 a4 w K) (fun a0 a1 a4 a5 w => F78_6 a0 a1 a4 a5 w K R3)) h) (fun e w h => ok78_6 R3 hn hr he e w h) hr he

def F78_4 (s0 : Value) (s1 : Value) (s4 : Value) (w : World) (K : Value → World → Prop) (R3 : Value → Value → Value → World → Prop) : Prop := F78_5 s0 s1 s4 w K R3

theorem ok78_4 (R3 : Value → Value → Value → World → Prop) {K : Value → World → Prop} {kn kr : Env → World → Prop} {ke : Nat → Env → World → Prop}
    (hn : ∀ e w, (fun e w => R3 (e 0) (e 1) (e 4) w) e w → kn e w) (hr : ∀ e w, endD Try.prog [] K e w → kr e w) (he : ∀ i e w, (blkK 0 (fun e w => F78_3 (e 0) (e 1) (e 4) w K) noE) i e w → ke i e w) :
    ∀ e w, F78_4 (e 0) (e 1) (e 4) w K R3 → denL Try.prog (tabOf T78) 77 fuel ((flat (loopB (blkB (nthC (flat (bodyOf Try.f78)) 1)))).drop 0) e w kn kr ke := by
  intro e w h
  unfold F78_4 at h
  refine seg_block (id := 1) (body := (blkB (nthC (flat (loopB (blkB (nthC (flat (bodyOf Try.f78)) 1)))) 0))) (l2 := (flat (loopB (blkB (nthC (flat (bodyOf Try.f78)) 1)))).drop 1) (by kernel_rfl) ?_
  exact ok78_5 R3 hn hr (blkK_mono hn he) e w h

def F78_2L : Nat → Value → Value → Value → World → (Value → World → Prop) → Prop
  | 0, _, _, _, _, _ => False
  | n + 1, s0, s1, s4, w, K => F78_4 s0 s1 s4 w K (fun a0 a1 a4 w => F78_2L n a0 a1 a4 w K)

def F78_2 (s0 : Value) (s1 : Value) (s4 : Value) (w : World) (K : Value → World → Prop) : Prop := F78_2L fuel s0 s1 s4 w K

theorem ok78_2 {K : Value → World → Prop} {kn kr : Env → World → Prop} {ke : Nat → Env → World → Prop}
    (hn : ∀ e w, (fun e w => K (.tuple #[]) w) e w → kn e w) (hr : ∀ e w, endD Try.prog [] K e w → kr e w) (he : ∀ i e w, noE i e w → ke i e w) :
    ∀ e w, F78_2 (e 0) (e 1) (e 4) w K → denL Try.prog (tabOf T78) 77 fuel ((flat (bodyOf Try.f78)).drop 1) e w kn kr ke := by
  intro e w h
  unfold F78_2 at h
  refine seg_loop (id := 0) (body := (loopB (blkB (nthC (flat (bodyOf Try.f78)) 1)))) (l2 := (flat (bodyOf Try.f78)).drop 2) (by kernel_rfl) ?_
  refine loop_ok (FL := fun m e w => F78_2L m (e 0) (e 1) (e 4) w K) (fr := endD Try.prog [] K) (fe := (blkK 0 (fun e w => F78_3 (e 0) (e 1) (e 4) w K) noE)) (fun _ _ h => h) ?_ hr (blkK_mono (fun e w h => ok78_3 hn hr he e w h) he) fuel e w h
  intro m e w h
  have h : F78_2L (m + 1) (e 0) (e 1) (e 4) w K := h
  rw [F78_2L] at h
  exact ok78_4 (fun a0 a1 a4 w => F78_2L m a0 a1 a4 w K) (fun _ _ h => h) (fun _ _ h => h) (fun _ _ _ h => h) e w h

def F78_1b (s0 : Value) (s1 : Value) (w : World) (_K : Value → World → Prop) (Y0 : Value → Value → Value → World → Prop) : Prop :=
bindP (pNil s0) fun v53 =>
bindP (pFieldAddr 1 v53) fun v54 =>
bindP (ld1 v54 w) fun v55 =>
bindP (pIndexL 2 v55 s1) fun v56 =>
bindP (ldN 2 v56 w) fun v57 =>
eAlloc Try.prog 55 w fun v59 w58 =>
bindW (st 2 v59 v57 w58) fun w60 =>
Y0 s0 s1 v59 w60

def F78_1 (s0 : Value) (s1 : Value) (w : World) (K : Value → World → Prop) : Prop := F78_1b s0 s1 w K (fun a0 a1 a4 w => F78_2 a0 a1 a4 w K)

theorem ok78_1 {K : Value → World → Prop} {kn kr : Env → World → Prop} {ke : Nat → Env → World → Prop}
    (hn : ∀ e w, (fun e w => K (.tuple #[]) w) e w → kn e w) (hr : ∀ e w, endD Try.prog [] K e w → kr e w) (he : ∀ i e w, noE i e w → ke i e w) :
    ∀ e w, F78_1 (e 0) (e 1) w K → denL Try.prog (tabOf T78) 77 fuel ((flat (bodyOf Try.f78)).drop 0) e w kn kr ke := by
  intro e w h
  unfold F78_1 at h
  have e1 : ∀ (Y0 : Value → Value → Value → World → Prop), F78_1b (e 0) (e 1) w K Y0 = denL Try.prog (tabOf T78) 77 fuel (((flat (bodyOf Try.f78)).drop 0).take 1) e w (fun e w => Y0 (e 0) (e 1) (e 4) w) (endD Try.prog [] K) noE := by intro Y0; kernel_rfl
  exact seg 1 (Eq.mp (e1 (fun a0 a1 a4 w => F78_2 a0 a1 a4 w K)) h) (fun e w h => ok78_2 hn hr he e w h) hr he

def F78 (x0 : Value) (x1 : Value) (w : World) (K : Value → World → Prop) : Prop := F78_1 x0 x1 w K

def G78 : FnT := fun args w K => on2 (fun x0 x1 => F78 x0 x1 w K) args
theorem c78 {x0 x1 : Value} {w : World} {K : Value → World → Prop} (h : F78 x0 x1 w K) : callP G78 [x0, x1] w K := callP_intro (on2_mk (p := fun x0 x1 => F78 x0 x1 w K) h)
theorem ok78 : OkF Try.prog 78 G78 := by
  refine okF_of (tab_ok (l := T78) ⟨ok76, ok81, trivial⟩) mixed (n := fuel) Try.func78 Try.call78 fun args w K h => ?_
  obtain ⟨x0, x1, rfl, hh⟩ := of_on2 h
  unfold F78 at hh
  exact fnD_list (c := bodyOf Try.f78) (by kernel_rfl) (by kernel_rfl) (ok78_1 (fun _ _ h => h) (fun _ _ h => h) (fun _ _ _ h => h) (initE [x0, x1]) w hh)

-- 28 (*gong/heap.Heap).Set
def T28 : List (Nat × FnT) := [(76, G76), (77, G77), (78, G78)]
def F28_2b (s0 : Value) (s1 : Value) (s2 : Value) (s7 : Value) (w : World) (K : Value → World → Prop) : Prop :=
bindP (fBuild Try.prog 55 [(0, s1), (1, s2)]) fun v1 =>
callP G76 [s0, s7, v1] w fun _ w2 =>
callP G77 [s0, s7] w2 fun _ w4 =>
bindP (pNil s0) fun v6 =>
bindP (pFieldAddr 2 v6) fun v7 =>
bindP (ld1 v7 w4) fun v8 =>
bindP (fLook Try.prog 124 v8 s1 false w4) fun v9 =>
callP G78 [s0, v9] w4 fun _ w10 =>
K (.int .i64 0) w10

def F28_2 (s0 : Value) (s1 : Value) (s2 : Value) (s7 : Value) (w : World) (K : Value → World → Prop) : Prop := F28_2b s0 s1 s2 s7 w K

theorem ok28_2 {K : Value → World → Prop} {kn kr : Env → World → Prop} {ke : Nat → Env → World → Prop}
    (hn : ∀ e w, (fun e w => K (e 6) w) e w → kn e w) (hr : ∀ e w, endD Try.prog [.tmp 6] K e w → kr e w) (he : ∀ i e w, noE i e w → ke i e w) :
    ∀ e w, F28_2 (e 0) (e 1) (e 2) (e 7) w K → denL Try.prog (tabOf T28) 68 fuel ((flat (bodyOf Try.f28)).drop 6) e w kn kr ke := by
  intro e w h
  unfold F28_2 at h
  have e1 : ∀ (_ : Unit), F28_2b (e 0) (e 1) (e 2) (e 7) w K = denL Try.prog (tabOf T28) 68 fuel ((flat (bodyOf Try.f28)).drop 6) e w (fun e w => K (e 6) w) (endD Try.prog [.tmp 6] K) noE := by intro _; kernel_rfl
  exact seg_end (Eq.mp (e1 ()) h) hn hr he

def F28_1b (s0 : Value) (s1 : Value) (s2 : Value) (w : World) (K : Value → World → Prop) (Y0 : Value → Value → Value → Value → World → Prop) : Prop :=
bindP (bLt s2 (.int .i64 0)) fun v12 =>
stepM (gd false v12) s2 fun v13 =>
Sx.stepG (gd false v12) (bGt v13 (.int .i64 2305843009213693952)) fun v14 =>
bindP (pPick v12 (.bool true) v14) fun v15 =>
ifB v15 (
K (.int .i64 1) w) (
bindP (pNil s0) fun v16 =>
bindP (pFieldAddr 2 v16) fun v17 =>
bindP (ld1 v17 w) fun v18 =>
bindP (fLook Try.prog 124 v18 s1 true w) fun v19 =>
bindP (pTuple v19 0) fun v20 =>
bindP (pTuple v19 1) fun v21 =>
bindP (uNot v21) fun v22 =>
ifB v22 (
bindP (pNil s0) fun v23 =>
bindP (pFieldAddr 1 v23) fun v24 =>
bindP (ld1 v24 w.drew) fun v25 =>
bindP (lenL v25) fun v26 =>
bindP (pNil s0) fun v27 =>
bindP (pFieldAddr 0 v27) fun v28 =>
bindP (ld1 v28 w.drew) fun v29 =>
bindP (bGe v26 v29) fun v30 =>
ifB v30 (
K (.int .i64 200) w.drew) (
bindP (pNil s0) fun v31 =>
bindP (pFieldAddr 1 v31) fun v32 =>
bindP (ld1 v32 w.drew) fun v33 =>
bindP (lenL v33) fun v34 =>
bindP (pNil s0) fun v35 =>
bindP (pFieldAddr 1 v35) fun v36 =>
bindP (ld1 v36 w.drew) fun v37 =>
bindP (fBuild Try.prog 55 []) fun v38 =>
eBuildSl Try.prog 52 1 [(0, v38)] w.drew fun v40 w39 =>
eAppend Try.prog 52 52 v37 v40 w39 fun v42 w41 =>
bindP (pNil s0) fun v43 =>
bindP (pFieldAddr 1 v43) fun v44 =>
bindW (st 1 v44 v42 w41) fun w45 =>
Y0 s0 s1 s2 v34 w45)) (
Y0 s0 s1 s2 v20 w))

def F28_1 (s0 : Value) (s1 : Value) (s2 : Value) (w : World) (K : Value → World → Prop) : Prop := F28_1b s0 s1 s2 w K (fun a0 a1 a2 a7 w => F28_2 a0 a1 a2 a7 w K)

theorem ok28_1 {K : Value → World → Prop} {kn kr : Env → World → Prop} {ke : Nat → Env → World → Prop}
    (hn : ∀ e w, (fun e w => K (e 6) w) e w → kn e w) (hr : ∀ e w, endD Try.prog [.tmp 6] K e w → kr e w) (he : ∀ i e w, noE i e w → ke i e w) :
    ∀ e w, F28_1 (e 0) (e 1) (e 2) w K → denL Try.prog (tabOf T28) 68 fuel ((flat (bodyOf Try.f28)).drop 0) e w kn kr ke := by
  intro e w h
  unfold F28_1 at h
  have e1 : ∀ (Y0 : Value → Value → Value → Value → World → Prop), F28_1b (e 0) (e 1) (e 2) w K Y0 = denL Try.prog (tabOf T28) 68 fuel (((flat (bodyOf Try.f28)).drop 0).take 6) e w (fun e w => Y0 (e 0) (e 1) (e 2) (e 7) w) (endD Try.prog [.tmp 6] K) noE := by intro Y0; kernel_rfl
  exact seg 6 (Eq.mp (e1 (fun a0 a1 a2 a7 w => F28_2 a0 a1 a2 a7 w K)) h) (fun e w h => ok28_2 hn hr he e w h) hr he

def F28 (x0 : Value) (x1 : Value) (x2 : Value) (w : World) (K : Value → World → Prop) : Prop := F28_1 x0 x1 x2 w K

def G28 : FnT := fun args w K => on3 (fun x0 x1 x2 => F28 x0 x1 x2 w K) args
theorem c28 {x0 x1 x2 : Value} {w : World} {K : Value → World → Prop} (h : F28 x0 x1 x2 w K) : callP G28 [x0, x1, x2] w K := callP_intro (on3_mk (p := fun x0 x1 x2 => F28 x0 x1 x2 w K) h)
theorem ok28 : OkF Try.prog 28 G28 := by
  refine okF_of (tab_ok (l := T28) ⟨ok76, ok77, ok78, trivial⟩) mixed (n := fuel) Try.func28 Try.call28 fun args w K h => ?_
  obtain ⟨x0, x1, x2, rfl, hh⟩ := of_on3 h
  unfold F28 at hh
  exact fnD_list (c := bodyOf Try.f28) (by kernel_rfl) (by kernel_rfl) (ok28_1 (fun _ _ h => h) (fun _ _ h => h) (fun _ _ _ h => h) (initE [x0, x1, x2]) w hh)

-- 29 (*gong/heap.Heap).Drop
def T29 : List (Nat × FnT) := [(76, G76), (77, G77), (78, G78)]
def F29_2b (w : World) (K : Value → World → Prop) : Prop :=
K (.bool true) w

def F29_2 (w : World) (K : Value → World → Prop) : Prop := F29_2b w K

theorem ok29_2 {K : Value → World → Prop} {kn kr : Env → World → Prop} {ke : Nat → Env → World → Prop}
    (hn : ∀ e w, (fun e w => K (e 4) w) e w → kn e w) (hr : ∀ e w, endD Try.prog [.tmp 4] K e w → kr e w) (he : ∀ i e w, noE i e w → ke i e w) :
    ∀ e w, F29_2 w K → denL Try.prog (tabOf T29) 66 fuel ((flat (bodyOf Try.f29)).drop 10) e w kn kr ke := by
  intro e w h
  unfold F29_2 at h
  have e1 : ∀ (_ : Unit), F29_2b w K = denL Try.prog (tabOf T29) 66 fuel ((flat (bodyOf Try.f29)).drop 10) e w (fun e w => K (e 4) w) (endD Try.prog [.tmp 4] K) noE := by intro _; kernel_rfl
  exact seg_end (Eq.mp (e1 ()) h) hn hr he

def F29_1b (s0 : Value) (s1 : Value) (w : World) (K : Value → World → Prop) (Y0 : World → Prop) : Prop :=
bindP (pNil s0) fun v1 =>
bindP (pFieldAddr 2 v1) fun v2 =>
bindP (ld1 v2 w) fun v3 =>
bindP (fLook Try.prog 124 v3 s1 true w) fun v4 =>
bindP (pTuple v4 0) fun v5 =>
bindP (pTuple v4 1) fun v6 =>
bindP (uNot v6) fun v7 =>
ifB v7 (
K (.bool false) w) (
bindP (pNil s0) fun v8 =>
bindP (pFieldAddr 1 v8) fun v9 =>
bindP (ld1 v9 w) fun v10 =>
bindP (lenL v10) fun v11 =>
bindP (bSub v11 (.int .i64 1)) fun v12 =>
bindP (pNil s0) fun v13 =>
bindP (pFieldAddr 1 v13) fun v14 =>
bindP (ld1 v14 w) fun v15 =>
bindP (pIndexL 2 v15 v12) fun v16 =>
bindP (ldN 2 v16 w) fun v17 =>
eAlloc Try.prog 55 w fun v19 w18 =>
bindW (st 2 v19 v17 w18) fun w20 =>
bindP (pNil s0) fun v22 =>
bindP (pFieldAddr 1 v22) fun v23 =>
bindP (ld1 v23 w20) fun v24 =>
bindP (pSliceL 2 v24 none (some v12) none) fun v25 =>
bindP (pNil s0) fun v26 =>
bindP (pFieldAddr 1 v26) fun v27 =>
bindW (st 1 v27 v25 w20) fun w28 =>
bindP (pNil s0) fun v30 =>
bindP (pFieldAddr 2 v30) fun v31 =>
bindP (ld1 v31 w28) fun v32 =>
eDelete Try.prog 124 v32 s1 w28 fun _ w33 =>
bindP (bLt v5 v12) fun v35 =>
ifB v35 (
bindP (ldN 2 v19 w33) fun v36 =>
callP G76 [s0, v5, v36] w33 fun _ w37 =>
callP G77 [s0, v5] w37 fun _ w39 =>
bindP (pNil s0) fun v41 =>
bindP (pFieldAddr 2 v41) fun v42 =>
bindP (ld1 v42 w39.drew) fun v43 =>
bindP (pFieldAddr 0 v19) fun v44 =>
bindP (ld1 v44 w39.drew) fun v45 =>
bindP (fLook Try.prog 124 v43 v45 false w39.drew) fun v46 =>
callP G78 [s0, v46] w39.drew fun _ w47 =>
Y0 w47) (
Y0 w33))

def F29_1 (s0 : Value) (s1 : Value) (w : World) (K : Value → World → Prop) : Prop := F29_1b s0 s1 w K (fun w => F29_2 w K)

theorem ok29_1 {K : Value → World → Prop} {kn kr : Env → World → Prop} {ke : Nat → Env → World → Prop}
    (hn : ∀ e w, (fun e w => K (e 4) w) e w → kn e w) (hr : ∀ e w, endD Try.prog [.tmp 4] K e w → kr e w) (he : ∀ i e w, noE i e w → ke i e w) :
    ∀ e w, F29_1 (e 0) (e 1) w K → denL Try.prog (tabOf T29) 66 fuel ((flat (bodyOf Try.f29)).drop 0) e w kn kr ke := by
  intro e w h
  unfold F29_1 at h
  have e1 : ∀ (Y0 : World → Prop), F29_1b (e 0) (e 1) w K Y0 = denL Try.prog (tabOf T29) 66 fuel (((flat (bodyOf Try.f29)).drop 0).take 10) e w (fun e w => Y0 w) (endD Try.prog [.tmp 4] K) noE := by intro Y0; kernel_rfl
  exact seg 10 (Eq.mp (e1 (fun w => F29_2 w K)) h) (fun e w h => ok29_2 hn hr he e w h) hr he

def F29 (x0 : Value) (x1 : Value) (w : World) (K : Value → World → Prop) : Prop := F29_1 x0 x1 w K

def G29 : FnT := fun args w K => on2 (fun x0 x1 => F29 x0 x1 w K) args
theorem c29 {x0 x1 : Value} {w : World} {K : Value → World → Prop} (h : F29 x0 x1 w K) : callP G29 [x0, x1] w K := callP_intro (on2_mk (p := fun x0 x1 => F29 x0 x1 w K) h)
theorem ok29 : OkF Try.prog 29 G29 := by
  refine okF_of (tab_ok (l := T29) ⟨ok76, ok77, ok78, trivial⟩) mixed (n := fuel) Try.func29 Try.call29 fun args w K h => ?_
  obtain ⟨x0, x1, rfl, hh⟩ := of_on2 h
  unfold F29 at hh
  exact fnD_list (c := bodyOf Try.f29) (by kernel_rfl) (by kernel_rfl) (ok29_1 (fun _ _ h => h) (fun _ _ h => h) (fun _ _ _ h => h) (initE [x0, x1]) w hh)

-- 83 (*gong/heap.Heap).First
def T83 : List (Nat × FnT) := []
def F83 (x0 : Value) (w : World) (K : Value → World → Prop) : Prop :=
eAlloc Try.prog 55 w fun v2 w1 =>
bindP (pNil x0) fun v3 =>
bindP (pFieldAddr 1 v3) fun v4 =>
bindP (ld1 v4 w1) fun v5 =>
bindP (lenL v5) fun v6 =>
bindP (bEq Try.prog 3 (.tmp 8) (.const (.int .i64 0)) v6 (.int .i64 0)) fun v7 =>
ifB v7 (
bindP (fBuild Try.prog 55 []) fun v8 =>
bindW (st 2 v2 v8 w1) fun w9 =>
bindP (ldN 2 v2 w9) fun v11 =>
K (.tuple #[v11, (.bool false)]) w9) (
bindP (pNil x0) fun v12 =>
bindP (pFieldAddr 1 v12) fun v13 =>
bindP (ld1 v13 w1) fun v14 =>
bindP (pIndexL 2 v14 (.int .i64 0)) fun v15 =>
bindP (ldN 2 v15 w1) fun v16 =>
bindW (st 2 v2 v16 w1) fun w17 =>
bindP (ldN 2 v2 w17) fun v19 =>
K (.tuple #[v19, (.bool true)]) w17)

def G83 : FnT := fun args w K => on1 (fun x0 => F83 x0 w K) args
theorem c83 {x0 : Value} {w : World} {K : Value → World → Prop} (h : F83 x0 w K) : callP G83 [x0] w K := callP_intro (on1_mk (p := fun x0 => F83 x0 w K) h)
theorem ok83 : OkF Try.prog 83 G83 := by
  refine okF_of (tab_ok (l := T83) trivial) mixed (n := fuel) Try.func83 Try.call83 fun args w K h => ?_
  obtain ⟨x0, rfl, hh⟩ := of_on1 h
  exact fnD_list (c := bodyOf Try.f83) (by kernel_rfl) (by kernel_rfl) (Eq.mp (by kernel_rfl) hh)

-- 35 (*gong/heap.Heap).Due
def T35 : List (Nat × FnT) := [(29, G29), (83, G83)]
def F35_3b (s5 : Value) (w : World) (K : Value → World → Prop) : Prop :=
K s5 w

def F35_3 (s5 : Value) (w : World) (K : Value → World → Prop) : Prop := F35_3b s5 w K

theorem ok35_3 {K : Value → World → Prop} {kn kr : Env → World → Prop} {ke : Nat → Env → World → Prop}
    (hn : ∀ e w, (fun e w => K (e 4) w) e w → kn e w) (hr : ∀ e w, endD Try.prog [.tmp 4] K e w → kr e w) (he : ∀ i e w, noE i e w → ke i e w) :
    ∀ e w, F35_3 (e 5) w K → denL Try.prog (tabOf T35) 35 fuel ((flat (bodyOf Try.f35)).drop 4) e w kn kr ke := by
  intro e w h
  unfold F35_3 at h
  have e1 : ∀ (_ : Unit), F35_3b (e 5) w K = denL Try.prog (tabOf T35) 35 fuel ((flat (bodyOf Try.f35)).drop 4) e w (fun e w => K (e 4) w) (endD Try.prog [.tmp 4] K) noE := by intro _; kernel_rfl
  exact seg_end (Eq.mp (e1 ()) h) hn hr he

def F35_2b (s0 : Value) (s1 : Value) (s5 : Value) (s6 : Value) (s7 : Value) (w : World) (_K : Value → World → Prop) (Y0 : Value → Value → Value → Value → Value → World → Prop) (Y1 : Value → World → Prop) : Prop :=
Sx.stepG (gd true s7) (pFieldAddr 1 s6) fun v1 =>
Sx.stepG (gd true s7) (ld1 v1 w) fun v2 =>
stepM (gd true s7) s1 fun v3 =>
Sx.stepG (gd true s7) (bLe v2 v3) fun v4 =>
bindP (pPick s7 v4 (.bool false)) fun v5 =>
ifB v5 (
bindP (pFieldAddr 0 s6) fun v6 =>
bindP (ld1 v6 w) fun v7 =>
callP G29 [s0, v7] w fun _ w8 =>
bindP (ldN 2 s6 w8) fun v10 =>
eBuildSl Try.prog 52 1 [(0, v10)] w8 fun v12 w11 =>
eAppend Try.prog 52 52 s5 v12 w11 fun v14 w13 =>
bindP (ldN 2 s6 w13) fun v15 =>
eAlloc Try.prog 55 w13 fun v17 w16 =>
bindW (st 2 v17 v15 w16) fun w18 =>
callP G83 [s0] w18 fun v21 w20 =>
bindP (pTuple v21 0) fun v22 =>
bindP (pTuple v21 1) fun v23 =>
bindW (st 2 v17 v22 w20) fun w24 =>
Y0 s0 s1 v14 v17 v23 w24) (
Y1 s5 w)

def F35_2L : Nat → Value → Value → Value → Value → Value → World → (Value → World → Prop) → Prop
  | 0, _, _, _, _, _, _, _ => False
  | n + 1, s0, s1, s5, s6, s7, w, K => F35_2b s0 s1 s5 s6 s7 w K (fun a0 a1 a5 a6 a7 w => F35_2L n a0 a1 a5 a6 a7 w K) (fun a5 w => F35_3 a5 w K)

def F35_2 (s0 : Value) (s1 : Value) (s5 : Value) (s6 : Value) (s7 : Value) (w : World) (K : Value → World → Prop) : Prop := F35_2L fuel s0 s1 s5 s6 s7 w K

theorem ok35_2 {K : Value → World → Prop} {kn kr : Env → World → Prop} {ke : Nat → Env → World → Prop}
    (hn : ∀ e w, (fun e w => K (e 4) w) e w → kn e w) (hr : ∀ e w, endD Try.prog [.tmp 4] K e w → kr e w) (he : ∀ i e w, noE i e w → ke i e w) :
    ∀ e w, F35_2 (e 0) (e 1) (e 5) (e 6) (e 7) w K → denL Try.prog (tabOf T35) 35 fuel ((flat (bodyOf Try.f35)).drop 3) e w kn kr ke := by
  intro e w h
  unfold F35_2 at h
  refine seg_loop (id := 0) (body := (loopB (blkB (nthC (flat (bodyOf Try.f35)) 3)))) (l2 := (flat (bodyOf Try.f35)).drop 4) (by kernel_rfl) ?_
  refine loop_ok (FL := fun m e w => F35_2L m (e 0) (e 1) (e 5) (e 6) (e 7) w K) (fr := endD Try.prog [.tmp 4] K) (fe := (blkK 0 (fun e w => F35_3 (e 5) w K) noE)) (fun _ _ h => h) ?_ hr (blkK_mono (fun e w h => ok35_3 hn hr he e w h) he) fuel e w h
  intro m e w h
  have h : F35_2L (m + 1) (e 0) (e 1) (e 5) (e 6) (e 7) w K := h
  rw [F35_2L] at h
  have e1 : ∀ (Y0 : Value → Value → Value → Value → Value → World → Prop) (Y1 : Value → World → Prop), F35_2b (e 0) (e 1) (e 5) (e 6) (e 7) w K Y0 Y1 = denL Try.prog (tabOf T35) 35 fuel (flat (loopB (blkB (nthC (flat (bodyOf Try.f35)) 3)))) e w (fun e w => Y0 (e 0) (e 1) (e 5) (e 6) (e 7) w) (endD Try.prog [.tmp 4] K) (blkK 0 (fun e w => Y1 (e 5) w) noE) := by intro Y0 Y1; kernel_rfl
  exact Eq.mp (e1 (fun a0 a1 a5 a6 a7 w => F35_2L m a0 a1 a5 a6 a7 w K) (fun a5 w => F35_3 a5 w K)) h

def F35_1b (s0 : Value) (s1 : Value) (w : World) (_K : Value → World → Prop) (Y0 : Value → Value → Value → Value → Value → World → Prop) : Prop :=
callP G83 [s0] w fun v27 w26 =>
bindP (pTuple v27 0) fun v28 =>
bindP (pTuple v27 1) fun v29 =>
eAlloc Try.prog 55 w26 fun v31 w30 =>
bindW (st 2 v31 v28 w30) fun w32 =>
Y0 s0 s1 (.slice none 0 0) v31 v29 w32

def F35_1 (s0 : Value) (s1 : Value) (w : World) (K : Value → World → Prop) : Prop := F35_1b s0 s1 w K (fun a0 a1 a5 a6 a7 w => F35_2 a0 a1 a5 a6 a7 w K)

theorem ok35_1 {K : Value → World → Prop} {kn kr : Env → World → Prop} {ke : Nat → Env → World → Prop}
    (hn : ∀ e w, (fun e w => K (e 4) w) e w → kn e w) (hr : ∀ e w, endD Try.prog [.tmp 4] K e w → kr e w) (he : ∀ i e w, noE i e w → ke i e w) :
    ∀ e w, F35_1 (e 0) (e 1) w K → denL Try.prog (tabOf T35) 35 fuel ((flat (bodyOf Try.f35)).drop 0) e w kn kr ke := by
  intro e w h
  unfold F35_1 at h
  have e1 : ∀ (Y0 : Value → Value → Value → Value → Value → World → Prop), F35_1b (e 0) (e 1) w K Y0 = denL Try.prog (tabOf T35) 35 fuel (((flat (bodyOf Try.f35)).drop 0).take 3) e w (fun e w => Y0 (e 0) (e 1) (e 5) (e 6) (e 7) w) (endD Try.prog [.tmp 4] K) noE := by intro Y0; kernel_rfl
  exact seg 3 (Eq.mp (e1 (fun a0 a1 a5 a6 a7 w => F35_2 a0 a1 a5 a6 a7 w K)) h) (fun e w h => ok35_2 hn hr he e w h) hr he

def F35 (x0 : Value) (x1 : Value) (w : World) (K : Value → World → Prop) : Prop := F35_1 x0 x1 w K

def G35 : FnT := fun args w K => on2 (fun x0 x1 => F35 x0 x1 w K) args
theorem c35 {x0 x1 : Value} {w : World} {K : Value → World → Prop} (h : F35 x0 x1 w K) : callP G35 [x0, x1] w K := callP_intro (on2_mk (p := fun x0 x1 => F35 x0 x1 w K) h)
theorem ok35 : OkF Try.prog 35 G35 := by
  refine okF_of (tab_ok (l := T35) ⟨ok29, ok83, trivial⟩) mixed (n := fuel) Try.func35 Try.call35 fun args w K h => ?_
  obtain ⟨x0, x1, rfl, hh⟩ := of_on2 h
  unfold F35 at hh
  exact fnD_list (c := bodyOf Try.f35) (by kernel_rfl) (by kernel_rfl) (ok35_1 (fun _ _ h => h) (fun _ _ h => h) (fun _ _ _ h => h) (initE [x0, x1]) w hh)

-- 75 (*gong/heap.Heap).Len
def T75 : List (Nat × FnT) := []
def F75 (x0 : Value) (w : World) (K : Value → World → Prop) : Prop :=
bindP (pNil x0) fun v1 =>
bindP (pFieldAddr 1 v1) fun v2 =>
bindP (ld1 v2 w) fun v3 =>
bindP (lenL v3) fun v4 =>
K v4 w

def G75 : FnT := fun args w K => on1 (fun x0 => F75 x0 w K) args
theorem c75 {x0 : Value} {w : World} {K : Value → World → Prop} (h : F75 x0 w K) : callP G75 [x0] w K := callP_intro (on1_mk (p := fun x0 => F75 x0 w K) h)
theorem ok75 : OkF Try.prog 75 G75 := by
  refine okF_of (tab_ok (l := T75) trivial) mixed (n := fuel) Try.func75 Try.call75 fun args w K h => ?_
  obtain ⟨x0, rfl, hh⟩ := of_on1 h
  exact fnD_list (c := bodyOf Try.f75) (by kernel_rfl) (by kernel_rfl) (Eq.mp (by kernel_rfl) hh)

-- 27 gong/gonglaw19.works
def T27 : List (Nat × FnT) := [(26, G26), (28, G28), (35, G35), (75, G75)]
def F27 (w : World) (K : Value → World → Prop) : Prop :=
callP G26 [(.int .i64 9)] w fun v2 w1 =>
bindP (pTuple v2 0) fun v3 =>
bindP (pTuple v2 1) fun v4 =>
bindP (bEq Try.prog 46 (.tmp 8) (.const (.pointer none)) v3 (.pointer none)) fun v5 =>
stepM (gd false v5) v4 fun v6 =>
Sx.stepG (gd false v5) (bNe Try.prog 24 (.tmp 11) (.const (.int .i64 0)) v6 (.int .i64 0)) fun v7 =>
bindP (pPick v5 (.bool true) v7) fun v8 =>
stepM (gd false v8) v3 fun v9 =>
stepE (gd false v8) (fun k => callP G28 [v9, (.int .i64 7), (.int .i64 20)] w1 k) w1 fun v11 w10 =>
Sx.stepG (gd false v8) (bNe Try.prog 24 (.tmp 16) (.const (.int .i64 0)) v11 (.int .i64 0)) fun v12 =>
bindP (pPick v8 (.bool true) v12) fun v13 =>
stepM (gd false v13) v3 fun v14 =>
stepE (gd false v13) (fun k => callP G28 [v14, (.int .i64 3), (.int .i64 10)] w10 k) w10 fun v16 w15 =>
Sx.stepG (gd false v13) (bNe Try.prog 24 (.tmp 21) (.const (.int .i64 0)) v16 (.int .i64 0)) fun v17 =>
bindP (pPick v13 (.bool true) v17) fun v18 =>
stepM (gd false v18) v3 fun v19 =>
stepE (gd false v18) (fun k => callP G28 [v19, (.int .i64 9), (.int .i64 20)] w15 k) w15 fun v21 w20 =>
Sx.stepG (gd false v18) (bNe Try.prog 24 (.tmp 26) (.const (.int .i64 0)) v21 (.int .i64 0)) fun v22 =>
bindP (pPick v18 (.bool true) v22) fun v23 =>
ifB v23 (
K (.bool false) w20) (
callP G35 [v3, (.int .i64 20)] w20 fun v25 w24 =>
bindP (lenL v25) fun v26 =>
bindP (bEq Try.prog 3 (.tmp 32) (.const (.int .i64 3)) v26 (.int .i64 3)) fun v27 =>
stepM (gd true v27) v25 fun v28 =>
Sx.stepG (gd true v27) (pIndexL 2 v28 (.int .i64 0)) fun v29 =>
Sx.stepG (gd true v27) (pFieldAddr 0 v29) fun v30 =>
Sx.stepG (gd true v27) (ld1 v30 w24) fun v31 =>
Sx.stepG (gd true v27) (bEq Try.prog 3 (.tmp 38) (.const (.int .i64 3)) v31 (.int .i64 3)) fun v32 =>
bindP (pPick v27 v32 (.bool false)) fun v33 =>
stepM (gd true v33) v25 fun v34 =>
Sx.stepG (gd true v33) (pIndexL 2 v34 (.int .i64 1)) fun v35 =>
Sx.stepG (gd true v33) (pFieldAddr 0 v35) fun v36 =>
Sx.stepG (gd true v33) (ld1 v36 w24) fun v37 =>
Sx.stepG (gd true v33) (bEq Try.prog 3 (.tmp 45) (.const (.int .i64 7)) v37 (.int .i64 7)) fun v38 =>
bindP (pPick v33 v38 (.bool false)) fun v39 =>
stepM (gd true v39) v25 fun v40 =>
Sx.stepG (gd true v39) (pIndexL 2 v40 (.int .i64 2)) fun v41 =>
Sx.stepG (gd true v39) (pFieldAddr 0 v41) fun v42 =>
Sx.stepG (gd true v39) (ld1 v42 w24) fun v43 =>
Sx.stepG (gd true v39) (bEq Try.prog 3 (.tmp 52) (.const (.int .i64 9)) v43 (.int .i64 9)) fun v44 =>
bindP (pPick v39 v44 (.bool false)) fun v45 =>
stepM (gd true v45) v3 fun v46 =>
stepE (gd true v45) (fun k => callP G75 [v46] w24 k) w24 fun v48 w47 =>
Sx.stepG (gd true v45) (bEq Try.prog 3 (.tmp 57) (.const (.int .i64 0)) v48 (.int .i64 0)) fun v49 =>
bindP (pPick v45 v49 (.bool false)) fun v50 =>
K v50 w47)

def G27 : FnT := fun args w K => on0 (F27 w K) args
theorem c27 {w : World} {K : Value → World → Prop} (h : F27 w K) : callP G27 [] w K := callP_intro (on0_mk (p := F27 w K) h)
theorem ok27 : OkF Try.prog 27 G27 := by
  refine okF_of (tab_ok (l := T27) ⟨ok26, ok28, ok35, ok75, trivial⟩) mixed (n := fuel) Try.func27 Try.call27 fun args w K h => ?_
  obtain ⟨rfl, hh⟩ := of_on0 h
  exact fnD_list (c := bodyOf Try.f27) (by kernel_rfl) (by kernel_rfl) (Eq.mp (by kernel_rfl) hh)

-- 79 slices.Clone[[]gong/heap.Item,gong/heap.Item]
def T79 : List (Nat × FnT) := []
def F79 (x0 : Value) (w : World) (K : Value → World → Prop) : Prop :=
bindP (bEq Try.prog 52 (.tmp 3) (.const (.slice none 0 0)) x0 (.slice none 0 0)) fun v1 =>
ifB v1 (
K (.slice none 0 0) w) (
eBuildSl Try.prog 52 0 [] w fun v3 w2 =>
eAppend Try.prog 52 52 v3 x0 w2 fun v5 w4 =>
K v5 w4)

def G79 : FnT := fun args w K => on1 (fun x0 => F79 x0 w K) args
theorem c79 {x0 : Value} {w : World} {K : Value → World → Prop} (h : F79 x0 w K) : callP G79 [x0] w K := callP_intro (on1_mk (p := fun x0 => F79 x0 w K) h)
theorem ok79 : OkF Try.prog 79 G79 := by
  refine okF_of (tab_ok (l := T79) trivial) mixed (n := fuel) Try.func79 Try.call79 fun args w K h => ?_
  obtain ⟨x0, rfl, hh⟩ := of_on1 h
  exact fnD_list (c := bodyOf Try.f79) (by kernel_rfl) (by kernel_rfl) (Eq.mp (by kernel_rfl) hh)

-- 80 slices.SortFunc[[]gong/heap.Item,gong/heap.Item]
def Lay80_ren : Go.Shelf.Ren := ⟨fun | 6 => 80 | 15 => 115 | 14 => 114 | 28 => 148 | 29 => 149 | 20 => 140 | 21 => 141 | 22 => 142 | 23 => 143 | 24 => 144 | 25 => 145 | 26 => 146 | 27 => 147 | 46 => 164 | 47 => 165 | 48 => 166 | 49 => 167 | 50 => 168 | 57 => 186 | n => n, fun | 22 => 52 | 24 => 55 | 25 => 131 | 3 => 3 | 39 => 171 | 0 => 0 | 53 => 197 | 55 => 199 | 4 => 4 | 46 => 191 | 45 => 190 | 50 => 112 | 5 => 5 | 9 => 9 | 66 => 211 | 70 => 215 | 76 => 228 | 77 => 224 | n => n, fun | n => n⟩
theorem Lay80 : Go.Proofs.SlLaysF0.n6 Try.prog Lay80_ren := {
  mixed := by kernel_rfl
  f6 := ⟨Try.f80.name, by decide, Try.func80.trans (congrArg some (by kernel_rfl))⟩
  f14 := ⟨Try.f114.name, by decide, Try.func114.trans (congrArg some (by kernel_rfl))⟩
  f15 := Try.func115.trans (congrArg some (by kernel_rfl))
  f20 := ⟨Try.f140.name, by decide, Try.func140.trans (congrArg some (by kernel_rfl))⟩
  f21 := ⟨Try.f141.name, by decide, Try.func141.trans (congrArg some (by kernel_rfl))⟩
  f22 := ⟨Try.f142.name, by decide, Try.func142.trans (congrArg some (by kernel_rfl))⟩
  f23 := ⟨Try.f143.name, by decide, Try.func143.trans (congrArg some (by kernel_rfl))⟩
  f24 := ⟨Try.f144.name, by decide, Try.func144.trans (congrArg some (by kernel_rfl))⟩
  f25 := ⟨Try.f145.name, by decide, Try.func145.trans (congrArg some (by kernel_rfl))⟩
  f26 := ⟨Try.f146.name, by decide, Try.func146.trans (congrArg some (by kernel_rfl))⟩
  f27 := ⟨Try.f147.name, by decide, Try.func147.trans (congrArg some (by kernel_rfl))⟩
  f28 := Try.func148.trans (congrArg some (by kernel_rfl))
  f29 := Try.func149.trans (congrArg some (by kernel_rfl))
  f46 := ⟨Try.f164.name, by decide, Try.func164.trans (congrArg some (by kernel_rfl))⟩
  f47 := Try.func165.trans (congrArg some (by kernel_rfl))
  f48 := Try.func166.trans (congrArg some (by kernel_rfl))
  f49 := ⟨Try.f167.name, by decide, Try.func167.trans (congrArg some (by kernel_rfl))⟩
  f50 := ⟨Try.f168.name, by decide, Try.func168.trans (congrArg some (by kernel_rfl))⟩
  f57 := ⟨Try.f186.name, by decide, Try.func186.trans (congrArg some (by kernel_rfl))⟩
  t0 := Try.underlying0
  a0 := Try.isAgg0
  z0 := Try.sizeOf0
  v0 := Try.zeroValue0
  t3 := Try.underlying3
  a3 := Try.isAgg3
  z3 := Try.sizeOf3
  v3 := Try.zeroValue3
  t4 := Try.underlying4
  a4 := Try.isAgg4
  z4 := Try.sizeOf4
  v4 := Try.zeroValue4
  t5 := Try.underlying5
  a5 := Try.isAgg5
  z5 := Try.sizeOf5
  v5 := Try.zeroValue5
  t9 := Try.underlying9
  a9 := Try.isAgg9
  z9 := Try.sizeOf9
  v9 := Try.zeroValue9
  t22 := Try.underlying52
  a22 := Try.isAgg52
  z22 := Try.sizeOf52
  v22 := Try.zeroValue52
  t25 := Try.underlying131
  a25 := Try.isAgg131
  z25 := Try.sizeOf131
  v25 := Try.zeroValue131
  t39 := Try.underlying171
  a39 := Try.isAgg171
  z39 := Try.sizeOf171
  v39 := Try.zeroValue171
  t45 := Try.underlying190
  a45 := Try.isAgg190
  z45 := Try.sizeOf190
  v45 := Try.zeroValue190
  t46 := Try.underlying191
  a46 := Try.isAgg191
  z46 := Try.sizeOf191
  v46 := Try.zeroValue191
  t50 := Try.underlying112
  a50 := Try.isAgg112
  z50 := Try.sizeOf112
  v50 := Try.zeroValue112
  t53 := Try.underlying197
  a53 := Try.isAgg197
  z53 := Try.sizeOf197
  v53 := Try.zeroValue197
  t55 := Try.underlying199
  a55 := Try.isAgg199
  z55 := Try.sizeOf199
  v55 := Try.zeroValue199
  t66 := Try.underlying211
  a66 := Try.isAgg211
  z66 := Try.sizeOf211
  v66 := Try.zeroValue211
  t70 := Try.underlying215
  a70 := Try.isAgg215
  z70 := Try.sizeOf215
  v70 := Try.zeroValue215
  t76 := Try.underlying228
  a76 := Try.isAgg228
  z76 := Try.sizeOf228
  v76 := Try.zeroValue228
  t77 := Try.underlying224
  a77 := Try.isAgg224
  z77 := Try.sizeOf224
  v77 := Try.zeroValue224 }
def G80 : FnT := gSortF Try.prog 2 55
theorem ok80 : OkF Try.prog 80 G80 := okSortF Lay80 (fun w => by kernel_rfl) (fun w => by kernel_rfl) Try.call80

-- 30 (*gong/heap.Heap).All
def T30 : List (Nat × FnT) := [(79, G79), (80, G80)]
def F30 (x0 : Value) (w : World) (K : Value → World → Prop) : Prop :=
bindP (pNil x0) fun v1 =>
bindP (pFieldAddr 1 v1) fun v2 =>
bindP (ld1 v2 w) fun v3 =>
callP G79 [v3] w fun v5 w4 =>
callP G80 [v5, (.func (.func 81) #[] #[])] w4 fun _ w6 =>
K v5 w6

def G30 : FnT := fun args w K => on1 (fun x0 => F30 x0 w K) args
theorem c30 {x0 : Value} {w : World} {K : Value → World → Prop} (h : F30 x0 w K) : callP G30 [x0] w K := callP_intro (on1_mk (p := fun x0 => F30 x0 w K) h)
theorem ok30 : OkF Try.prog 30 G30 := by
  refine okF_of (tab_ok (l := T30) ⟨ok79, ok80, trivial⟩) mixed (n := fuel) Try.func30 Try.call30 fun args w K h => ?_
  obtain ⟨x0, rfl, hh⟩ := of_on1 h
  exact fnD_list (c := bodyOf Try.f30) (by kernel_rfl) (by kernel_rfl) (Eq.mp (by kernel_rfl) hh)

-- 6 gong/gonglaw19.HeapSame
def T6 : List (Nat × FnT) := [(15, G15), (26, G26), (27, G27), (28, G28), (29, G29), (30, G30)]
def F6_5b (w : World) (K : Value → World → Prop) : Prop :=
K (.bool true) w

def F6_5 (w : World) (K : Value → World → Prop) : Prop := F6_5b w K

theorem ok6_5 {K : Value → World → Prop} {kn kr : Env → World → Prop} {ke : Nat → Env → World → Prop}
    (hn : ∀ e w, (fun e w => K (e 4) w) e w → kn e w) (hr : ∀ e w, endD Try.prog [.tmp 4] K e w → kr e w) (he : ∀ i e w, noE i e w → ke i e w) :
    ∀ e w, F6_5 w K → denL Try.prog (tabOf T6) 143 fuel ((flat (bodyOf Try.f6)).drop 13) e w kn kr ke := by
  intro e w h
  unfold F6_5 at h
  have e1 : ∀ (_ : Unit), F6_5b w K = denL Try.prog (tabOf T6) 143 fuel ((flat (bodyOf Try.f6)).drop 13) e w (fun e w => K (e 4) w) (endD Try.prog [.tmp 4] K) noE := by intro _; kernel_rfl
  exact seg_end (Eq.mp (e1 ()) h) hn hr he

def F6_4b (s13 : Value) (s14 : Value) (s129 : Value) (s130 : Value) (w : World) (K : Value → World → Prop) (Y0 : Value → Value → Value → Value → World → Prop) (Y1 : World → Prop) : Prop :=
bindP (bLt s130 s129) fun v1 =>
ifB v1 (
bindP (pIndexL 2 s13 s130) fun v2 =>
bindP (ldN 2 v2 w.drew) fun v3 =>
bindP (pIndexL 2 s14 s130) fun v4 =>
bindP (ldN 2 v4 w.drew) fun v5 =>
bindP (bNe Try.prog 55 (.tmp 136) (.tmp 140) v3 v5) fun v6 =>
ifB v6 (
K (.bool false) w.drew) (
bindP (bAdd s130 (.int .i64 1)) fun v7 =>
Y0 s13 s14 s129 v7 w.drew)) (
Y1 w)

def F6_4L : Nat → Value → Value → Value → Value → World → (Value → World → Prop) → Prop
  | 0, _, _, _, _, _, _ => False
  | n + 1, s13, s14, s129, s130, w, K => F6_4b s13 s14 s129 s130 w K (fun a13 a14 a129 a130 w => F6_4L n a13 a14 a129 a130 w K) (fun w => F6_5 w K)

def F6_4 (s13 : Value) (s14 : Value) (s129 : Value) (s130 : Value) (w : World) (K : Value → World → Prop) : Prop := F6_4L fuel s13 s14 s129 s130 w K

theorem ok6_4 {K : Value → World → Prop} {kn kr : Env → World → Prop} {ke : Nat → Env → World → Prop}
    (hn : ∀ e w, (fun e w => K (e 4) w) e w → kn e w) (hr : ∀ e w, endD Try.prog [.tmp 4] K e w → kr e w) (he : ∀ i e w, noE i e w → ke i e w) :
    ∀ e w, F6_4 (e 13) (e 14) (e 129) (e 130) w K → denL Try.prog (tabOf T6) 143 fuel ((flat (bodyOf Try.f6)).drop 12) e w kn kr ke := by
  intro e w h
  unfold F6_4 at h
  refine seg_loop (id := 2) (body := (loopB (blkB (nthC (flat (bodyOf Try.f6)) 12)))) (l2 := (flat (bodyOf Try.f6)).drop 13) (by kernel_rfl) ?_
  refine loop_ok (FL := fun m e w => F6_4L m (e 13) (e 14) (e 129) (e 130) w K) (fr := endD Try.prog [.tmp 4] K) (fe := (blkK 2 (fun e w => F6_5 w K) noE)) (fun _ _ h => h) ?_ hr (blkK_mono (fun e w h => ok6_5 hn hr he e w h) he) fuel e w h
  intro m e w h
  have h : F6_4L (m + 1) (e 13) (e 14) (e 129) (e 130) w K := h
  rw [F6_4L] at h
  have e1 : ∀ (Y0 : Value → Value → Value → Value → World → Prop) (Y1 : World → Prop), F6_4b (e 13) (e 14) (e 129) (e 130) w K Y0 Y1 = denL Try.prog (tabOf T6) 143 fuel (flat (loopB (blkB (nthC (flat (bodyOf Try.f6)) 12)))) e w (fun e w => Y0 (e 13) (e 14) (e 129) (e 130) w) (endD Try.prog [.tmp 4] K) (blkK 2 (fun e w => Y1 w) noE) := by intro Y0 Y1; kernel_rfl
  exact Eq.mp (e1 (fun a13 a14 a129 a130 w => F6_4L m a13 a14 a129 a130 w K) (fun w => F6_5 w K)) h

def F6_3b (s0 : Value) (s5 : Value) (s7 : Value) (w : World) (K : Value → World → Prop) (Y0 : Value → Value → Value → Value → World → Prop) : Prop :=
callP G30 [s5] w fun v9 w8 =>
callP G30 [s7] w8 fun v11 w10 =>
bindP (lenL v9) fun v12 =>
bindP (lenL v11) fun v13 =>
bindP (bNe Try.prog 3 (.tmp 117) (.tmp 119) v12 v13) fun v14 =>
stepM (gd false v14) v9 fun v15 =>
Sx.stepG (gd false v14) (lenL v15) fun v16 =>
stepM (gd false v14) s0 fun v17 =>
Sx.stepG (gd false v14) (lenL v17) fun v18 =>
Sx.stepG (gd false v14) (bNe Try.prog 3 (.tmp 123) (.tmp 125) v16 v18) fun v19 =>
bindP (pPick v14 (.bool true) v19) fun v20 =>
ifB v20 (
K (.bool false) w10) (
bindP (lenL v9) fun v21 =>
Y0 v9 v11 v21 (.int .i64 0) w10)

def F6_3 (s0 : Value) (s5 : Value) (s7 : Value) (w : World) (K : Value → World → Prop) : Prop := F6_3b s0 s5 s7 w K (fun a13 a14 a129 a130 w => F6_4 a13 a14 a129 a130 w K)

theorem ok6_3 {K : Value → World → Prop} {kn kr : Env → World → Prop} {ke : Nat → Env → World → Prop}
    (hn : ∀ e w, (fun e w => K (e 4) w) e w → kn e w) (hr : ∀ e w, endD Try.prog [.tmp 4] K e w → kr e w) (he : ∀ i e w, noE i e w → ke i e w) :
    ∀ e w, F6_3 (e 0) (e 5) (e 7) w K → denL Try.prog (tabOf T6) 143 fuel ((flat (bodyOf Try.f6)).drop 8) e w kn kr ke := by
  intro e w h
  unfold F6_3 at h
  have e1 : ∀ (Y0 : Value → Value → Value → Value → World → Prop), F6_3b (e 0) (e 5) (e 7) w K Y0 = denL Try.prog (tabOf T6) 143 fuel (((flat (bodyOf Try.f6)).drop 8).take 4) e w (fun e w => Y0 (e 13) (e 14) (e 129) (e 130) w) (endD Try.prog [.tmp 4] K) noE := by intro Y0; kernel_rfl
  exact seg 4 (Eq.mp (e1 (fun a13 a14 a129 a130 w => F6_4 a13 a14 a129 a130 w K)) h) (fun e w h => ok6_4 hn hr he e w h) hr he

def F6_7b (s0 : Value) (s1 : Value) (s5 : Value) (s7 : Value) (s48 : Value) (s49 : Value) (w : World) (_K : Value → World → Prop) (R5 : Value → Value → Value → Value → Value → Value → World → Prop) : Prop :=
bindP (bAdd s49 (.int .i64 1)) fun v22 =>
R5 s0 s1 s5 s7 s48 v22 w

def F6_7 (s0 : Value) (s1 : Value) (s5 : Value) (s7 : Value) (s48 : Value) (s49 : Value) (w : World) (K : Value → World → Prop) (R5 : Value → Value → Value → Value → Value → Value → World → Prop) : Prop := F6_7b s0 s1 s5 s7 s48 s49 w K R5

theorem ok6_7 (R5 : Value → Value → Value → Value → Value → Value → World → Prop) {K : Value → World → Prop} {kn kr : Env → World → Prop} {ke : Nat → Env → World → Prop}
    (hn : ∀ e w, (fun e w => R5 (e 0) (e 1) (e 5) (e 7) (e 48) (e 49) w) e w → kn e w) (hr : ∀ e w, endD Try.prog [.tmp 4] K e w → kr e w) (he : ∀ i e w, (blkK 0 (fun e w => F6_3 (e 0) (e 5) (e 7) w K) noE) i e w → ke i e w) :
    ∀ e w, F6_7 (e 0) (e 1) (e 5) (e 7) (e 48) (e 49) w K R5 → denL Try.prog (tabOf T6) 143 fuel ((flat (loopB (blkB (nthC (flat (bodyOf Try.f6)) 7)))).drop 3) e w kn kr ke := by
  intro e w h
  unfold F6_7 at h
  have e1 : ∀ (_ : Unit), F6_7b (e 0) (e 1) (e 5) (e 7) (e 48) (e 49) w K R5 = denL Try.prog (tabOf T6) 143 fuel ((flat (loopB (blkB (nthC (flat (bodyOf Try.f6)) 7)))).drop 3) e w (fun e w => R5 (e 0) (e 1) (e 5) (e 7) (e 48) (e 49) w) (endD Try.prog [.tmp 4] K) (blkK 0 (fun e w => F6_3 (e 0) (e 5) (e 7) w K) noE) := by intro _; kernel_rfl
  exact seg_end (Eq.mp (e1 ()) h) hn hr he

def F6_6b (s0 : Value) (s1 : Value) (s5 : Value) (s7 : Value) (s48 : Value) (s49 : Value) (w : World) (K : Value → World → Prop) (R5 : Value → Value → Value → Value → Value → Value → World → Prop) (Y0 : Value → Value → Value → Value → Value → Value → World → Prop) (Y1 : Value → Value → Value → World → Prop) : Prop :=
bindP (bLt s49 s48) fun v23 =>
ifB v23 (
bindP (pIndexL 2 s0 s49) fun v24 =>
bindP (ldN 2 v24 w.drew) fun v25 =>
bindP (lenL s0) fun v26 =>
bindP (bSub v26 (.int .i64 1)) fun v27 =>
bindP (bSub v27 s49) fun v28 =>
bindP (pIndexL 2 s0 v28) fun v29 =>
bindP (ldN 2 v29 w.drew) fun v30 =>
(eAlloc Try.prog 49 w.drew fun v32 w31 =>
(fok true (ldN 2 v24 w31) v25 ∧ fok true (lenL s0) v26 ∧ fok true (ldN 2 v29 w31) v30) ∧ (eAlloc Try.prog 49 w31 fun v34 w33 =>
(fok true (ldN 2 v24 w33) v25 ∧ fok true (lenL s0) v26 ∧ fok true (ldN 2 v29 w33) v30) ∧ (bindW (st 2 v32 v25 w33) fun w35 =>
(fok true (lenL s0) v26 ∧ fok true (ldN 2 v29 w35) v30) ∧ (bindW (st 2 v34 v30 w35) fun w37 =>
bindP (pIndexP 2 1 v32 (.int .i64 1)) fun v39 =>
bindP (ld1 v39 w37) fun v40 =>
callP G15 [v40, (.int .i64 100)] w37 fun v42 w41 =>
callP G28 [s5, s49, v42] w41 fun v44 w43 =>
bindP (bNe Try.prog 24 (.tmp 69) (.const (.int .i64 0)) v44 (.int .i64 0)) fun v45 =>
stepM (gd false v45) s7 fun v46 =>
stepM (gd false v45) s0 fun v47 =>
Sx.stepG (gd false v45) (lenL v47) fun v48 =>
Sx.stepG (gd false v45) (bSub v48 (.int .i64 1)) fun v49 =>
stepM (gd false v45) s49 fun v50 =>
Sx.stepG (gd false v45) (bSub v49 v50) fun v51 =>
Sx.stepG (gd false v45) (pIndexP 2 1 v34 (.int .i64 1)) fun v52 =>
Sx.stepG (gd false v45) (ld1 v52 w43) fun v53 =>
stepE (gd false v45) (fun k => callP G15 [v53, (.int .i64 100)] w43 k) w43 fun v55 w54 =>
stepE (gd false v45) (fun k => callP G28 [v46, v51, v55] w54 k) w54 fun v57 w56 =>
Sx.stepG (gd false v45) (bNe Try.prog 24 (.tmp 81) (.const (.int .i64 0)) v57 (.int .i64 0)) fun v58 =>
bindP (pPick v45 (.bool true) v58) fun v59 =>
ifB v59 (
K (.bool false) w56) (
bindP (lenL s1) fun v60 =>
bindP (bLt s49 v60) fun v61 =>
ifB v61 (
bindP (pIndexL 1 s1 s49) fun v62 =>
bindP (ld1 v62 w56) fun v63 =>
callP G15 [v63, (.int .i64 50)] w56 fun v65 w64 =>
bindP (bAdd (.int .i64 1000) v65) fun v66 =>
bindP (pIndexL 1 s1 s49) fun v67 =>
bindP (ld1 v67 w64) fun v68 =>
callP G15 [v68, (.int .i64 100)] w64 fun v70 w69 =>
callP G28 [s7, v66, v70] w69 fun _ w71 =>
callP G29 [s7, v66] w71 fun v74 w73 =>
bindP (uNot v74) fun v75 =>
stepM (gd false v75) s7 fun v76 =>
stepM (gd false v75) v66 fun v77 =>
stepE (gd false v75) (fun k => callP G29 [v76, v77] w73 k) w73 fun v79 w78 =>
bindP (pPick v75 (.bool true) v79) fun v80 =>
ifB v80 (
K (.bool false) w78) (
Y0 s0 s1 s5 s7 s48 s49 w78)) (
Y0 s0 s1 s5 s7 s48 s49 w56)))))) ∧ (eAlloc Try.prog 49 w.drew fun v82 w81 =>
(fok true (ldN 2 v24 w81) v25 ∧ fok true (lenL s0) v26 ∧ fok true (ldN 2 v29 w81) v30) ∧ (eAlloc Try.prog 49 w81 fun v84 w83 =>
(fok true (ldN 2 v24 w83) v25 ∧ fok true (lenL s0) v26 ∧ fok true (ldN 2 v29 w83) v30) ∧ (bindW (st 2 v84 v25 w83) fun w85 =>
(fok true (lenL s0) v26 ∧ fok true (ldN 2 v29 w85) v30) ∧ (bindW (st 2 v82 v30 w85) fun w87 =>
bindP (pIndexP 2 1 v84 (.int .i64 1)) fun v89 =>
bindP (ld1 v89 w87) fun v90 =>
callP G15 [v90, (.int .i64 100)] w87 fun v92 w91 =>
callP G28 [s5, s49, v92] w91 fun v94 w93 =>
bindP (bNe Try.prog 24 (.tmp 69) (.const (.int .i64 0)) v94 (.int .i64 0)) fun v95 =>
stepM (gd false v95) s7 fun v96 =>
stepM (gd false v95) s0 fun v97 =>
Sx.stepG (gd false v95) (lenL v97) fun v98 =>
Sx.stepG (gd false v95) (bSub v98 (.int .i64 1)) fun v99 =>
stepM (gd false v95) s49 fun v100 =>
Sx.stepG (gd false v95) (bSub v99 v100) fun v101 =>
Sx.stepG (gd false v95) (pIndexP 2 1 v82 (.int .i64 1)) fun v102 =>
Sx.stepG (gd false v95) (ld1 v102 w93) fun v103 =>
stepE (gd false v95) (fun k => callP G15 [v103, (.int .i64 100)] w93 k) w93 fun v105 w104 =>
stepE (gd false v95) (fun k => callP G28 [v96, v101, v105] w104 k) w104 fun v107 w106 =>
Sx.stepG (gd false v95) (bNe Try.prog 24 (.tmp 81) (.const (.int .i64 0)) v107 (.int .i64 0)) fun v108 =>
bindP (pPick v95 (.bool true) v108) fun v109 =>
ifB v109 (
K (.bool false) w106) (
bindP (lenL s1) fun v110 =>
bindP (bLt s49 v110) fun v111 =>
ifB v111 (
bindP (pIndexL 1 s1 s49) fun v112 =>
bindP (ld1 v112 w106) fun v113 =>
callP G15 [v113, (.int .i64 50)] w106 fun v115 w114 =>
bindP (bAdd (.int .i64 1000) v115) fun v116 =>
bindP (pIndexL 1 s1 s49) fun v117 =>
bindP (ld1 v117 w114) fun v118 =>
callP G15 [v118, (.int .i64 100)] w114 fun v120 w119 =>
callP G28 [s7, v116, v120] w119 fun _ w121 =>
callP G29 [s7, v116] w121 fun v124 w123 =>
bindP (uNot v124) fun v125 =>
stepM (gd false v125) s7 fun v126 =>
stepM (gd false v125) v116 fun v127 =>
stepE (gd false v125) (fun k => callP G29 [v126, v127] w123 k) w123 fun v129 w128 =>
bindP (pPick v125 (.bool true) v129) fun v130 =>
ifB v130 (
K (.bool false) w128) (
Y0 s0 s1 s5 s7 s48 s49 w128)) (
Y0 s0 s1 s5 s7 s48 s49 w106))))))) (
Y1 s0 s5 s7 w)

def F6_6 (s0 : Value) (s1 : Value) (s5 : Value) (s7 : Value) (s48 : Value) (s49 : Value) (w : World) (K : Value → World → Prop) (R5 : Value → Value → Value → Value → Value → Value → World → Prop) : Prop := F6_6b s0 s1 s5 s7 s48 s49 w K R5 (fun a0 a1 a5 a7 a48 a49 w => F6_7 a0 a1 a5 a7 a48 a49 w K R5) (fun a0 a5 a7 w => F6_3 a0 a5 a7 w K)

theorem ok6_6 (R5 : Value → Value → Value → Value → Value → Value → World → Prop) {K : Value → World → Prop} {kn kr : Env → World → Prop} {ke : Nat → Env → World → Prop}
    (hn : ∀ e w, (fun e w => R5 (e 0) (e 1) (e 5) (e 7) (e 48) (e 49) w) e w → kn e w) (hr : ∀ e w, endD Try.prog [.tmp 4] K e w → kr e w) (he : ∀ i e w, (blkK 0 (fun e w => F6_3 (e 0) (e 5) (e 7) w K) noE) i e w → ke i e w) :
    ∀ e w, F6_6 (e 0) (e 1) (e 5) (e 7) (e 48) (e 49) w K R5 → denL Try.prog (tabOf T6) 143 fuel ((flat (loopB (blkB (nthC (flat (bodyOf Try.f6)) 7)))).drop 0) e w kn kr ke := by
  intro e w h
  unfold F6_6 at h
  have e1 : ∀ (Y0 : Value → Value → Value → Value → Value → Value → World → Prop) (Y1 : Value → Value → Value → World → Prop), F6_6b (e 0) (e 1) (e 5) (e 7) (e 48) (e 49) w K R5 Y0 Y1 = denL Try.prog (tabOf T6) 143 fuel (((flat (loopB (blkB (nthC (flat (bodyOf Try.f6)) 7)))).drop 0).take 3) e w (fun e w => Y0 (e 0) (e 1) (e 5) (e 7) (e 48) (e 49) w) (endD Try.prog [.tmp 4] K) (blkK 0 (fun e w => Y1 (e 0) (e 5) (e 7) w) noE) := by intro Y0 Y1; kernel_rfl
  exact seg 3 (Eq.mp (e1 (fun a0 a1 a5 a7 a48 a49 w => F6_7 a0 a1 a5 a7 a48 a49 w K R5) (fun a0 a5 a7 w => F6_3 a0 a5 a7 w K)) h) (fun e w h => ok6_7 R5 hn hr he e w h) hr he

def F6_2L : Nat → Value → Value → Value → Value → Value → Value → World → (Value → World → Prop) → Prop
  | 0, _, _, _, _, _, _, _, _ => False
  | n + 1, s0, s1, s5, s7, s48, s49, w, K => F6_6 s0 s1 s5 s7 s48 s49 w K (fun a0 a1 a5 a7 a48 a49 w => F6_2L n a0 a1 a5 a7 a48 a49 w K)

def F6_2 (s0 : Value) (s1 : Value) (s5 : Value) (s7 : Value) (s48 : Value) (s49 : Value) (w : World) (K : Value → World → Prop) : Prop := F6_2L fuel s0 s1 s5 s7 s48 s49 w K

theorem ok6_2 {K : Value → World → Prop} {kn kr : Env → World → Prop} {ke : Nat → Env → World → Prop}
    (hn : ∀ e w, (fun e w => K (e 4) w) e w → kn e w) (hr : ∀ e w, endD Try.prog [.tmp 4] K e w → kr e w) (he : ∀ i e w, noE i e w → ke i e w) :
    ∀ e w, F6_2 (e 0) (e 1) (e 5) (e 7) (e 48) (e 49) w K → denL Try.prog (tabOf T6) 143 fuel ((flat (bodyOf Try.f6)).drop 7) e w kn kr ke := by
  intro e w h
  unfold F6_2 at h
  refine seg_loop (id := 0) (body := (loopB (blkB (nthC (flat (bodyOf Try.f6)) 7)))) (l2 := (flat (bodyOf Try.f6)).drop 8) (by kernel_rfl) ?_
  refine loop_ok (FL := fun m e w => F6_2L m (e 0) (e 1) (e 5) (e 7) (e 48) (e 49) w K) (fr := endD Try.prog [.tmp 4] K) (fe := (blkK 0 (fun e w => F6_3 (e 0) (e 5) (e 7) w K) noE)) (fun _ _ h => h) ?_ hr (blkK_mono (fun e w h => ok6_3 hn hr he e w h) he) fuel e w h
  intro m e w h
  have h : F6_2L (m + 1) (e 0) (e 1) (e 5) (e 7) (e 48) (e 49) w K := h
  rw [F6_2L] at h
  exact ok6_6 (fun a0 a1 a5 a7 a48 a49 w => F6_2L m a0 a1 a5 a7 a48 a49 w K) (fun _ _ h => h) (fun _ _ h => h) (fun _ _ _ h => h) e w h

def F6_1b (s0 : Value) (s1 : Value) (w : World) (K : Value → World → Prop) (Y0 : Value → Value → Value → Value → Value → Value → World → Prop) : Prop :=
callP G26 [(.int .i64 200)] w fun v132 w131 =>
bindP (pTuple v132 0) fun v133 =>
bindP (pTuple v132 1) fun v134 =>
callP G26 [(.int .i64 200)] w131 fun v136 w135 =>
bindP (pTuple v136 0) fun v137 =>
bindP (pTuple v136 1) fun v138 =>
bindP (bEq Try.prog 46 (.tmp 24) (.const (.pointer none)) v133 (.pointer none)) fun v139 =>
stepM (gd false v139) v137 fun v140 =>
Sx.stepG (gd false v139) (bEq Try.prog 46 (.tmp 27) (.const (.pointer none)) v140 (.pointer none)) fun v141 =>
bindP (pPick v139 (.bool true) v141) fun v142 =>
stepM (gd false v142) v134 fun v143 =>
Sx.stepG (gd false v142) (bNe Try.prog 24 (.tmp 31) (.const (.int .i64 0)) v143 (.int .i64 0)) fun v144 =>
bindP (pPick v142 (.bool true) v144) fun v145 =>
stepM (gd false v145) v138 fun v146 =>
Sx.stepG (gd false v145) (bNe Try.prog 24 (.tmp 35) (.const (.int .i64 0)) v146 (.int .i64 0)) fun v147 =>
bindP (pPick v145 (.bool true) v147) fun v148 =>
stepE (gd false v148) (fun k => callP G27 [] w135 k) w135 fun v150 w149 =>
Sx.stepG (gd false v148) (uNot v150) fun v151 =>
bindP (pPick v148 (.bool true) v151) fun v152 =>
ifB v152 (
K (.bool false) w149) (
bindP (lenL s0) fun v153 =>
bindP (pMin v153 (.int .i64 60)) fun v154 =>
bindP (pSliceL 2 s0 none (some v154) none) fun v155 =>
bindP (lenL v155) fun v156 =>
Y0 v155 s1 v133 v137 v156 (.int .i64 0) w149)

def F6_1 (s0 : Value) (s1 : Value) (w : World) (K : Value → World → Prop) : Prop := F6_1b s0 s1 w K (fun a0 a1 a5 a7 a48 a49 w => F6_2 a0 a1 a5 a7 a48 a49 w K)

theorem ok6_1 {K : Value → World → Prop} {kn kr : Env → World → Prop} {ke : Nat → Env → World → Prop}
    (hn : ∀ e w, (fun e w => K (e 4) w) e w → kn e w) (hr : ∀ e w, endD Try.prog [.tmp 4] K e w → kr e w) (he : ∀ i e w, noE i e w → ke i e w) :
    ∀ e w, F6_1 (e 0) (e 1) w K → denL Try.prog (tabOf T6) 143 fuel ((flat (bodyOf Try.f6)).drop 0) e w kn kr ke := by
  intro e w h
  unfold F6_1 at h
  have e1 : ∀ (Y0 : Value → Value → Value → Value → Value → Value → World → Prop), F6_1b (e 0) (e 1) w K Y0 = denL Try.prog (tabOf T6) 143 fuel (((flat (bodyOf Try.f6)).drop 0).take 7) e w (fun e w => Y0 (e 0) (e 1) (e 5) (e 7) (e 48) (e 49) w) (endD Try.prog [.tmp 4] K) noE := by intro Y0; kernel_rfl
  exact seg 7 (Eq.mp (e1 (fun a0 a1 a5 a7 a48 a49 w => F6_2 a0 a1 a5 a7 a48 a49 w K)) h) (fun e w h => ok6_2 hn hr he e w h) hr he

def F6 (x0 : Value) (x1 : Value) (w : World) (K : Value → World → Prop) : Prop := F6_1 x0 x1 w K

def G6 : FnT := fun args w K => on2 (fun x0 x1 => F6 x0 x1 w K) args
theorem c6 {x0 x1 : Value} {w : World} {K : Value → World → Prop} (h : F6 x0 x1 w K) : callP G6 [x0, x1] w K := callP_intro (on2_mk (p := fun x0 x1 => F6 x0 x1 w K) h)
theorem ok6 : OkF Try.prog 6 G6 := by
  refine okF_of (tab_ok (l := T6) ⟨ok15, ok26, ok27, ok28, ok29, ok30, trivial⟩) mixed (n := fuel) Try.func6 Try.call6 fun args w K h => ?_
  obtain ⟨x0, x1, rfl, hh⟩ := of_on2 h
  unfold F6 at hh
  exact fnD_list (c := bodyOf Try.f6) (by kernel_rfl) (by kernel_rfl) (ok6_1 (fun _ _ h => h) (fun _ _ h => h) (fun _ _ _ h => h) (initE [x0, x1]) w hh)

-- 31 gong/gongref19.New
def T31 : List (Nat × FnT) := []
def F31 (x0 : Value) (w : World) (K : Value → World → Prop) : Prop :=
bindP (bLt x0 (.int .i64 1)) fun v1 =>
stepM (gd false v1) x0 fun v2 =>
Sx.stepG (gd false v1) (bGt v2 (.int .i64 65536)) fun v3 =>
bindP (pPick v1 (.bool true) v3) fun v4 =>
ifB v4 (
K (.tuple #[(.pointer none), (.int .i64 1)]) w) (
bindP (fBuild Try.prog 133 [(0, x0)]) fun v5 =>
eBox 133 v5 w fun v7 w6 =>
K (.tuple #[v7, (.int .i64 0)]) w6)

def G31 : FnT := fun args w K => on1 (fun x0 => F31 x0 w K) args
theorem c31 {x0 : Value} {w : World} {K : Value → World → Prop} (h : F31 x0 w K) : callP G31 [x0] w K := callP_intro (on1_mk (p := fun x0 => F31 x0 w K) h)
theorem ok31 : OkF Try.prog 31 G31 := by
  refine okF_of (tab_ok (l := T31) trivial) mixed (n := fuel) Try.func31 Try.call31 fun args w K h => ?_
  obtain ⟨x0, rfl, hh⟩ := of_on1 h
  exact fnD_list (c := bodyOf Try.f31) (by kernel_rfl) (by kernel_rfl) (Eq.mp (by kernel_rfl) hh)

-- 33 (*gong/gongref19.Heap).Drop
def T33 : List (Nat × FnT) := []
def F33_3b (s0 : Value) (s5 : Value) (w : World) (K : Value → World → Prop) : Prop :=
bindP (lenL s5) fun v1 =>
bindP (pNil s0) fun v2 =>
bindP (pFieldAddr 1 v2) fun v3 =>
bindP (ld1 v3 w) fun v4 =>
bindP (lenL v4) fun v5 =>
bindP (bLt v1 v5) fun v6 =>
bindP (pNil s0) fun v7 =>
bindP (pFieldAddr 1 v7) fun v8 =>
bindW (st 1 v8 s5 w) fun w9 =>
K v6 w9

def F33_3 (s0 : Value) (s5 : Value) (w : World) (K : Value → World → Prop) : Prop := F33_3b s0 s5 w K

theorem ok33_3 {K : Value → World → Prop} {kn kr : Env → World → Prop} {ke : Nat → Env → World → Prop}
    (hn : ∀ e w, (fun e w => K (e 4) w) e w → kn e w) (hr : ∀ e w, endD Try.prog [.tmp 4] K e w → kr e w) (he : ∀ i e w, noE i e w → ke i e w) :
    ∀ e w, F33_3 (e 0) (e 5) w K → denL Try.prog (tabOf T33) 50 fuel ((flat (bodyOf Try.f33)).drop 4) e w kn kr ke := by
  intro e w h
  unfold F33_3 at h
  have e1 : ∀ (_ : Unit), F33_3b (e 0) (e 5) w K = denL Try.prog (tabOf T33) 50 fuel ((flat (bodyOf Try.f33)).drop 4) e w (fun e w => K (e 4) w) (endD Try.prog [.tmp 4] K) noE := by intro _; kernel_rfl
  exact seg_end (Eq.mp (e1 ()) h) hn hr he

def F33_5b (s0 : Value) (s1 : Value) (s5 : Value) (s6 : Value) (w : World) (_K : Value → World → Prop) (R3 : Value → Value → Value → Value → World → Prop) : Prop :=
bindP (bAdd s6 (.int .i64 1)) fun v11 =>
R3 s0 s1 s5 v11 w

def F33_5 (s0 : Value) (s1 : Value) (s5 : Value) (s6 : Value) (w : World) (K : Value → World → Prop) (R3 : Value → Value → Value → Value → World → Prop) : Prop := F33_5b s0 s1 s5 s6 w K R3

theorem ok33_5 (R3 : Value → Value → Value → Value → World → Prop) {K : Value → World → Prop} {kn kr : Env → World → Prop} {ke : Nat → Env → World → Prop}
    (hn : ∀ e w, (fun e w => R3 (e 0) (e 1) (e 5) (e 6) w) e w → kn e w) (hr : ∀ e w, endD Try.prog [.tmp 4] K e w → kr e w) (he : ∀ i e w, (blkK 0 (fun e w => F33_3 (e 0) (e 5) w K) noE) i e w → ke i e w) :
    ∀ e w, F33_5 (e 0) (e 1) (e 5) (e 6) w K R3 → denL Try.prog (tabOf T33) 50 fuel ((flat (loopB (blkB (nthC (flat (bodyOf Try.f33)) 3)))).drop 3) e w kn kr ke := by
  intro e w h
  unfold F33_5 at h
  have e1 : ∀ (_ : Unit), F33_5b (e 0) (e 1) (e 5) (e 6) w K R3 = denL Try.prog (tabOf T33) 50 fuel ((flat (loopB (blkB (nthC (flat (bodyOf Try.f33)) 3)))).drop 3) e w (fun e w => R3 (e 0) (e 1) (e 5) (e 6) w) (endD Try.prog [.tmp 4] K) (blkK 0 (fun e w => F33_3 (e 0) (e 5) w K) noE) := by intro _; kernel_rfl
  exact seg_end (Eq.mp (e1 ()) h) hn hr he

def F33_4b (s0 : Value) (s1 : Value) (s5 : Value) (s6 : Value) (w : World) (_K : Value → World → Prop) (R3 : Value → Value → Value → Value → World → Prop) (Y0 : Value → Value → Value → Value → World → Prop) (Y1 : Value → Value → World → Prop) : Prop :=
bindP (pNil s0) fun v12 =>
bindP (pFieldAddr 1 v12) fun v13 =>
bindP (ld1 v13 w) fun v14 =>
bindP (lenL v14) fun v15 =>
bindP (bLt s6 v15) fun v16 =>
ifB v16 (
bindP (pNil s0) fun v17 =>
bindP (pFieldAddr 1 v17) fun v18 =>
bindP (ld1 v18 w) fun v19 =>
bindP (pIndexL 2 v19 s6) fun v20 =>
bindP (pFieldAddr 0 v20) fun v21 =>
bindP (ld1 v21 w) fun v22 =>
bindP (bNe Try.prog 3 (.tmp 24) (.tmp 25) v22 s1) fun v23 =>
ifB v23 (
bindP (pNil s0) fun v24 =>
bindP (pFieldAddr 1 v24) fun v25 =>
bindP (ld1 v25 w) fun v26 =>
bindP (pIndexL 2 v26 s6) fun v27 =>
bindP (ldN 2 v27 w) fun v28 =>
eBuildSl Try.prog 65 1 [(0, v28)] w fun v30 w29 =>
eAppend Try.prog 65 65 s5 v30 w29 fun v32 w31 =>
Y0 s0 s1 v32 s6 w31) (
Y0 s0 s1 s5 s6 w)) (
Y1 s0 s5 w)

def F33_4 (s0 : Value) (s1 : Value) (s5 : Value) (s6 : Value) (w : World) (K : Value → World → Prop) (R3 : Value → Value → Value → Value → World → Prop) : Prop := F33_4b s0 s1 s5 s6 w K R3 (fun a0 a1 a5 a6 w => F33_5 a0 a1 a5 a6 w K R3) (fun a0 a5 w => F33_3 a0 a5 w K)

theorem ok33_4 (R3 : Value → Value → Value → Value → World → Prop) {K : Value → World → Prop} {kn kr : Env → World → Prop} {ke : Nat → Env → World → Prop}
    (hn : ∀ e w, (fun e w => R3 (e 0) (e 1) (e 5) (e 6) w) e w → kn e w) (hr : ∀ e w, endD Try.prog [.tmp 4] K e w → kr e w) (he : ∀ i e w, (blkK 0 (fun e w => F33_3 (e 0) (e 5) w K) noE) i e w → ke i e w) :
    ∀ e w, F33_4 (e 0) (e 1) (e 5) (e 6) w K R3 → denL Try.prog (tabOf T33) 50 fuel ((flat (loopB (blkB (nthC (flat (bodyOf Try.f33)) 3)))).drop 0) e w kn kr ke := by
  intro e w h
  unfold F33_4 at h
  have e1 : ∀ (Y0 : Value → Value → Value → Value → World → Prop) (Y1 : Value → Value → World → Prop), F33_4b (e 0) (e 1) (e 5) (e 6) w K R3 Y0 Y1 = denL Try.prog (tabOf T33) 50 fuel (((flat (loopB (blkB (nthC (flat (bodyOf Try.f33)) 3)))).drop 0).take 3) e w (fun e w => Y0 (e 0) (e 1) (e 5) (e 6) w) (endD Try.prog [.tmp 4] K) (blkK 0 (fun e w => Y1 (e 0) (e 5) w) noE) := by intro Y0 Y1; kernel_rfl
  exact seg 3 (Eq.mp (e1 (fun a0 a1 a5 a6 w => F33_5 a0 a1 a5 a6 w K R3) (fun a0 a5 w => F33_3 a0 a5 w K)) h) (fun e w h => ok33_5 R3 hn hr he e w h) hr he

def F33_2L : Nat → Value → Value → Value → Value → World → (Value → World → Prop) → Prop
  | 0, _, _, _, _, _, _ => False
  | n + 1, s0, s1, s5, s6, w, K => F33_4 s0 s1 s5 s6 w K (fun a0 a1 a5 a6 w => F33_2L n a0 a1 a5 a6 w K)

def F33_2 (s0 : Value) (s1 : Value) (s5 : Value) (s6 : Value) (w : World) (K : Value → World → Prop) : Prop := F33_2L fuel s0 s1 s5 s6 w K

theorem ok33_2 {K : Value → World → Prop} {kn kr : Env → World → Prop} {ke : Nat → Env → World → Prop}
    (hn : ∀ e w, (fun e w => K (e 4) w) e w → kn e w) (hr : ∀ e w, endD Try.prog [.tmp 4] K e w → kr e w) (he : ∀ i e w, noE i e w → ke i e w) :
    ∀ e w, F33_2 (e 0) (e 1) (e 5) (e 6) w K → denL Try.prog (tabOf T33) 50 fuel ((flat (bodyOf Try.f33)).drop 3) e w kn kr ke := by
  intro e w h
  unfold F33_2 at h
  refine seg_loop (id := 0) (body := (loopB (blkB (nthC (flat (bodyOf Try.f33)) 3)))) (l2 := (flat (bodyOf Try.f33)).drop 4) (by kernel_rfl) ?_
  refine loop_ok (FL := fun m e w => F33_2L m (e 0) (e 1) (e 5) (e 6) w K) (fr := endD Try.prog [.tmp 4] K) (fe := (blkK 0 (fun e w => F33_3 (e 0) (e 5) w K) noE)) (fun _ _ h => h) ?_ hr (blkK_mono (fun e w h => ok33_3 hn hr he e w h) he) fuel e w h
  intro m e w h
  have h : F33_2L (m + 1) (e 0) (e 1) (e 5) (e 6) w K := h
  rw [F33_2L] at h
  exact ok33_4 (fun a0 a1 a5 a6 w => F33_2L m a0 a1 a5 a6 w K) (fun _ _ h => h) (fun _ _ h => h) (fun _ _ _ h => h) e w h

def F33_1b (s0 : Value) (s1 : Value) (w : World) (_K : Value → World → Prop) (Y0 : Value → Value → Value → Value → World → Prop) : Prop :=
Y0 s0 s1 (.slice none 0 0) (.int .i64 0) w

def F33_1 (s0 : Value) (s1 : Value) (w : World) (K : Value → World → Prop) : Prop := F33_1b s0 s1 w K (fun a0 a1 a5 a6 w => F33_2 a0 a1 a5 a6 w K)

theorem ok33_1 {K : Value → World → Prop} {kn kr : Env → World → Prop} {ke : Nat → Env → World → Prop}
    (hn : ∀ e w, (fun e w => K (e 4) w) e w → kn e w) (hr : ∀ e w, endD Try.prog [.tmp 4] K e w → kr e w) (he : ∀ i e w, noE i e w → ke i e w) :
    ∀ e w, F33_1 (e 0) (e 1) w K → denL Try.prog (tabOf T33) 50 fuel ((flat (bodyOf Try.f33)).drop 0) e w kn kr ke := by
  intro e w h
  unfold F33_1 at h
  have e1 : ∀ (Y0 : Value → Value → Value → Value → World → Prop), F33_1b (e 0) (e 1) w K Y0 = denL Try.prog (tabOf T33) 50 fuel (((flat (bodyOf Try.f33)).drop 0).take 3) e w (fun e w => Y0 (e 0) (e 1) (e 5) (e 6) w) (endD Try.prog [.tmp 4] K) noE := by intro Y0; kernel_rfl
  exact seg 3 (Eq.mp (e1 (fun a0 a1 a5 a6 w => F33_2 a0 a1 a5 a6 w K)) h) (fun e w h => ok33_2 hn hr he e w h) hr he

def F33 (x0 : Value) (x1 : Value) (w : World) (K : Value → World → Prop) : Prop := F33_1 x0 x1 w K

def G33 : FnT := fun args w K => on2 (fun x0 x1 => F33 x0 x1 w K) args
theorem c33 {x0 x1 : Value} {w : World} {K : Value → World → Prop} (h : F33 x0 x1 w K) : callP G33 [x0, x1] w K := callP_intro (on2_mk (p := fun x0 x1 => F33 x0 x1 w K) h)
theorem ok33 : OkF Try.prog 33 G33 := by
  refine okF_of (tab_ok (l := T33) trivial) mixed (n := fuel) Try.func33 Try.call33 fun args w K h => ?_
  obtain ⟨x0, x1, rfl, hh⟩ := of_on2 h
  unfold F33 at hh
  exact fnD_list (c := bodyOf Try.f33) (by kernel_rfl) (by kernel_rfl) (ok33_1 (fun _ _ h => h) (fun _ _ h => h) (fun _ _ _ h => h) (initE [x0, x1]) w hh)

-- 82 (*gong/gongref19.Heap).Get
def T82 : List (Nat × FnT) := []
def F82_3b (w : World) (K : Value → World → Prop) : Prop :=
K (.tuple #[(.int .i64 0), (.bool false)]) w

def F82_3 (w : World) (K : Value → World → Prop) : Prop := F82_3b w K

theorem ok82_3 {K : Value → World → Prop} {kn kr : Env → World → Prop} {ke : Nat → Env → World → Prop}
    (hn : ∀ e w, (fun e w => K (.tuple #[(e 4), (e 5)]) w) e w → kn e w) (hr : ∀ e w, endD Try.prog [.tmp 4, .tmp 5] K e w → kr e w) (he : ∀ i e w, noE i e w → ke i e w) :
    ∀ e w, F82_3 w K → denL Try.prog (tabOf T82) 34 fuel ((flat (bodyOf Try.f82)).drop 3) e w kn kr ke := by
  intro e w h
  unfold F82_3 at h
  have e1 : ∀ (_ : Unit), F82_3b w K = denL Try.prog (tabOf T82) 34 fuel ((flat (bodyOf Try.f82)).drop 3) e w (fun e w => K (.tuple #[(e 4), (e 5)]) w) (endD Try.prog [.tmp 4, .tmp 5] K) noE := by intro _; kernel_rfl
  exact seg_end (Eq.mp (e1 ()) h) hn hr he

def F82_2b (s0 : Value) (s1 : Value) (s6 : Value) (w : World) (K : Value → World → Prop) (Y0 : Value → Value → Value → World → Prop) (Y1 : World → Prop) : Prop :=
bindP (pNil s0) fun v1 =>
bindP (pFieldAddr 1 v1) fun v2 =>
bindP (ld1 v2 w) fun v3 =>
bindP (lenL v3) fun v4 =>
bindP (bLt s6 v4) fun v5 =>
ifB v5 (
bindP (pNil s0) fun v6 =>
bindP (pFieldAddr 1 v6) fun v7 =>
bindP (ld1 v7 w) fun v8 =>
bindP (pIndexL 2 v8 s6) fun v9 =>
bindP (pFieldAddr 0 v9) fun v10 =>
bindP (ld1 v10 w) fun v11 =>
bindP (bEq Try.prog 3 (.tmp 23) (.tmp 24) v11 s1) fun v12 =>
ifB v12 (
bindP (pNil s0) fun v13 =>
bindP (pFieldAddr 1 v13) fun v14 =>
bindP (ld1 v14 w) fun v15 =>
bindP (pIndexL 2 v15 s6) fun v16 =>
bindP (pFieldAddr 1 v16) fun v17 =>
bindP (ld1 v17 w) fun v18 =>
K (.tuple #[v18, (.bool true)]) w) (
bindP (bAdd s6 (.int .i64 1)) fun v19 =>
Y0 s0 s1 v19 w)) (
Y1 w)

def F82_2L : Nat → Value → Value → Value → World → (Value → World → Prop) → Prop
  | 0, _, _, _, _, _ => False
  | n + 1, s0, s1, s6, w, K => F82_2b s0 s1 s6 w K (fun a0 a1 a6 w => F82_2L n a0 a1 a6 w K) (fun w => F82_3 w K)

def F82_2 (s0 : Value) (s1 : Value) (s6 : Value) (w : World) (K : Value → World → Prop) : Prop := F82_2L fuel s0 s1 s6 w K

theorem ok82_2 {K : Value → World → Prop} {kn kr : Env → World → Prop} {ke : Nat → Env → World → Prop}
    (hn : ∀ e w, (fun e w => K (.tuple #[(e 4), (e 5)]) w) e w → kn e w) (hr : ∀ e w, endD Try.prog [.tmp 4, .tmp 5] K e w → kr e w) (he : ∀ i e w, noE i e w → ke i e w) :
    ∀ e w, F82_2 (e 0) (e 1) (e 6) w K → denL Try.prog (tabOf T82) 34 fuel ((flat (bodyOf Try.f82)).drop 2) e w kn kr ke := by
  intro e w h
  unfold F82_2 at h
  refine seg_loop (id := 0) (body := (loopB (blkB (nthC (flat (bodyOf Try.f82)) 2)))) (l2 := (flat (bodyOf Try.f82)).drop 3) (by kernel_rfl) ?_
  refine loop_ok (FL := fun m e w => F82_2L m (e 0) (e 1) (e 6) w K) (fr := endD Try.prog [.tmp 4, .tmp 5] K) (fe := (blkK 0 (fun e w => F82_3 w K) noE)) (fun _ _ h => h) ?_ hr (blkK_mono (fun e w h => ok82_3 hn hr he e w h) he) fuel e w h
  intro m e w h
  have h : F82_2L (m + 1) (e 0) (e 1) (e 6) w K := h
  rw [F82_2L] at h
  have e1 : ∀ (Y0 : Value → Value → Value → World → Prop) (Y1 : World → Prop), F82_2b (e 0) (e 1) (e 6) w K Y0 Y1 = denL Try.prog (tabOf T82) 34 fuel (flat (loopB (blkB (nthC (flat (bodyOf Try.f82)) 2)))) e w (fun e w => Y0 (e 0) (e 1) (e 6) w) (endD Try.prog [.tmp 4, .tmp 5] K) (blkK 0 (fun e w => Y1 w) noE) := by intro Y0 Y1; kernel_rfl
  exact Eq.mp (e1 (fun a0 a1 a6 w => F82_2L m a0 a1 a6 w K) (fun w => F82_3 w K)) h

def F82_1b (s0 : Value) (s1 : Value) (w : World) (_K : Value → World → Prop) (Y0 : Value → Value → Value → World → Prop) : Prop :=
Y0 s0 s1 (.int .i64 0) w

def F82_1 (s0 : Value) (s1 : Value) (w : World) (K : Value → World → Prop) : Prop := F82_1b s0 s1 w K (fun a0 a1 a6 w => F82_2 a0 a1 a6 w K)

theorem ok82_1 {K : Value → World → Prop} {kn kr : Env → World → Prop} {ke : Nat → Env → World → Prop}
    (hn : ∀ e w, (fun e w => K (.tuple #[(e 4), (e 5)]) w) e w → kn e w) (hr : ∀ e w, endD Try.prog [.tmp 4, .tmp 5] K e w → kr e w) (he : ∀ i e w, noE i e w → ke i e w) :
    ∀ e w, F82_1 (e 0) (e 1) w K → denL Try.prog (tabOf T82) 34 fuel ((flat (bodyOf Try.f82)).drop 0) e w kn kr ke := by
  intro e w h
  unfold F82_1 at h
  have e1 : ∀ (Y0 : Value → Value → Value → World → Prop), F82_1b (e 0) (e 1) w K Y0 = denL Try.prog (tabOf T82) 34 fuel (((flat (bodyOf Try.f82)).drop 0).take 2) e w (fun e w => Y0 (e 0) (e 1) (e 6) w) (endD Try.prog [.tmp 4, .tmp 5] K) noE := by intro Y0; kernel_rfl
  exact seg 2 (Eq.mp (e1 (fun a0 a1 a6 w => F82_2 a0 a1 a6 w K)) h) (fun e w h => ok82_2 hn hr he e w h) hr he

def F82 (x0 : Value) (x1 : Value) (w : World) (K : Value → World → Prop) : Prop := F82_1 x0 x1 w K

def G82 : FnT := fun args w K => on2 (fun x0 x1 => F82 x0 x1 w K) args
theorem c82 {x0 x1 : Value} {w : World} {K : Value → World → Prop} (h : F82 x0 x1 w K) : callP G82 [x0, x1] w K := callP_intro (on2_mk (p := fun x0 x1 => F82 x0 x1 w K) h)
theorem ok82 : OkF Try.prog 82 G82 := by
  refine okF_of (tab_ok (l := T82) trivial) mixed (n := fuel) Try.func82 Try.call82 fun args w K h => ?_
  obtain ⟨x0, x1, rfl, hh⟩ := of_on2 h
  unfold F82 at hh
  exact fnD_list (c := bodyOf Try.f82) (by kernel_rfl) (by kernel_rfl) (ok82_1 (fun _ _ h => h) (fun _ _ h => h) (fun _ _ _ h => h) (initE [x0, x1]) w hh)

-- 32 (*gong/gongref19.Heap).Set
def T32 : List (Nat × FnT) := [(33, G33), (82, G82)]
def F32_3b (s0 : Value) (s1 : Value) (s2 : Value) (s9 : Value) (w : World) (K : Value → World → Prop) : Prop :=
bindP (pNil s0) fun v1 =>
bindP (pFieldAddr 1 v1) fun v2 =>
bindP (ld1 v2 w) fun v3 =>
bindP (pSliceL 2 v3 none (some s9) none) fun v4 =>
eAppend Try.prog 65 65 (.slice none 0 0) v4 w fun v6 w5 =>
bindP (fBuild Try.prog 135 [(0, s1), (1, s2)]) fun v7 =>
eBuildSl Try.prog 65 1 [(0, v7)] w5 fun v9 w8 =>
eAppend Try.prog 65 65 v6 v9 w8 fun v11 w10 =>
bindP (pNil s0) fun v12 =>
bindP (pFieldAddr 1 v12) fun v13 =>
bindP (ld1 v13 w10) fun v14 =>
bindP (pSliceL 2 v14 (some s9) none none) fun v15 =>
eAppend Try.prog 65 65 v11 v15 w10 fun v17 w16 =>
bindP (pNil s0) fun v18 =>
bindP (pFieldAddr 1 v18) fun v19 =>
bindW (st 1 v19 v17 w16) fun w20 =>
K (.int .i64 0) w20

def F32_3 (s0 : Value) (s1 : Value) (s2 : Value) (s9 : Value) (w : World) (K : Value → World → Prop) : Prop := F32_3b s0 s1 s2 s9 w K

theorem ok32_3 {K : Value → World → Prop} {kn kr : Env → World → Prop} {ke : Nat → Env → World → Prop}
    (hn : ∀ e w, (fun e w => K (e 6) w) e w → kn e w) (hr : ∀ e w, endD Try.prog [.tmp 6] K e w → kr e w) (he : ∀ i e w, noE i e w → ke i e w) :
    ∀ e w, F32_3 (e 0) (e 1) (e 2) (e 9) w K → denL Try.prog (tabOf T32) 110 fuel ((flat (bodyOf Try.f32)).drop 9) e w kn kr ke := by
  intro e w h
  unfold F32_3 at h
  have e1 : ∀ (_ : Unit), F32_3b (e 0) (e 1) (e 2) (e 9) w K = denL Try.prog (tabOf T32) 110 fuel ((flat (bodyOf Try.f32)).drop 9) e w (fun e w => K (e 6) w) (endD Try.prog [.tmp 6] K) noE := by intro _; kernel_rfl
  exact seg_end (Eq.mp (e1 ()) h) hn hr he

def F32_2b (s0 : Value) (s1 : Value) (s2 : Value) (s9 : Value) (w : World) (_K : Value → World → Prop) (Y0 : Value → Value → Value → Value → World → Prop) (Y1 : Value → Value → Value → Value → World → Prop) : Prop :=
bindP (pNil s0) fun v22 =>
bindP (pFieldAddr 1 v22) fun v23 =>
bindP (ld1 v23 w) fun v24 =>
bindP (lenL v24) fun v25 =>
bindP (bLt s9 v25) fun v26 =>
stepM (gd true v26) s0 fun v27 =>
Sx.stepG (gd true v26) (pNil v27) fun v28 =>
Sx.stepG (gd true v26) (pFieldAddr 1 v28) fun v29 =>
Sx.stepG (gd true v26) (ld1 v29 w) fun v30 =>
stepM (gd true v26) s9 fun v31 =>
Sx.stepG (gd true v26) (pIndexL 2 v30 v31) fun v32 =>
Sx.stepG (gd true v26) (pFieldAddr 1 v32) fun v33 =>
Sx.stepG (gd true v26) (ld1 v33 w) fun v34 =>
stepM (gd true v26) s2 fun v35 =>
Sx.stepG (gd true v26) (bLt v34 v35) fun v36 =>
stepM (gd true v26) v36 fun v37 =>
stepM (gd false v37) s0 fun v38 =>
Sx.stepG (gd false v37) (pNil v38) fun v39 =>
Sx.stepG (gd false v37) (pFieldAddr 1 v39) fun v40 =>
Sx.stepG (gd false v37) (ld1 v40 w) fun v41 =>
stepM (gd false v37) s9 fun v42 =>
Sx.stepG (gd false v37) (pIndexL 2 v41 v42) fun v43 =>
Sx.stepG (gd false v37) (pFieldAddr 1 v43) fun v44 =>
Sx.stepG (gd false v37) (ld1 v44 w) fun v45 =>
stepM (gd false v37) s2 fun v46 =>
Sx.stepG (gd false v37) (bEq Try.prog 3 (.tmp 66) (.tmp 67) v45 v46) fun v47 =>
stepM (gd false v37) v47 fun v48 =>
stepM (gd true v48) s0 fun v49 =>
Sx.stepG (gd true v48) (pNil v49) fun v50 =>
Sx.stepG (gd true v48) (pFieldAddr 1 v50) fun v51 =>
Sx.stepG (gd true v48) (ld1 v51 w) fun v52 =>
stepM (gd true v48) s9 fun v53 =>
Sx.stepG (gd true v48) (pIndexL 2 v52 v53) fun v54 =>
Sx.stepG (gd true v48) (pFieldAddr 0 v54) fun v55 =>
Sx.stepG (gd true v48) (ld1 v55 w) fun v56 =>
stepM (gd true v48) s1 fun v57 =>
Sx.stepG (gd true v48) (bLt v56 v57) fun v58 =>
Sx.stepG (gd false v37) (pPick v48 v58 (.bool false)) fun v59 =>
Sx.stepG (gd true v26) (pPick v37 (.bool true) v59) fun v60 =>
bindP (pPick v26 v60 (.bool false)) fun v61 =>
ifB v61 (
bindP (bAdd s9 (.int .i64 1)) fun v62 =>
Y0 s0 s1 s2 v62 w) (
Y1 s0 s1 s2 s9 w)

def F32_2L : Nat → Value → Value → Value → Value → World → (Value → World → Prop) → Prop
  | 0, _, _, _, _, _, _ => False
  | n + 1, s0, s1, s2, s9, w, K => F32_2b s0 s1 s2 s9 w K (fun a0 a1 a2 a9 w => F32_2L n a0 a1 a2 a9 w K) (fun a0 a1 a2 a9 w => F32_3 a0 a1 a2 a9 w K)

def F32_2 (s0 : Value) (s1 : Value) (s2 : Value) (s9 : Value) (w : World) (K : Value → World → Prop) : Prop := F32_2L fuel s0 s1 s2 s9 w K

theorem ok32_2 {K : Value → World → Prop} {kn kr : Env → World → Prop} {ke : Nat → Env → World → Prop}
    (hn : ∀ e w, (fun e w => K (e 6) w) e w → kn e w) (hr : ∀ e w, endD Try.prog [.tmp 6] K e w → kr e w) (he : ∀ i e w, noE i e w → ke i e w) :
    ∀ e w, F32_2 (e 0) (e 1) (e 2) (e 9) w K → denL Try.prog (tabOf T32) 110 fuel ((flat (bodyOf Try.f32)).drop 8) e w kn kr ke := by
  intro e w h
  unfold F32_2 at h
  refine seg_loop (id := 0) (body := (loopB (blkB (nthC (flat (bodyOf Try.f32)) 8)))) (l2 := (flat (bodyOf Try.f32)).drop 9) (by kernel_rfl) ?_
  refine loop_ok (FL := fun m e w => F32_2L m (e 0) (e 1) (e 2) (e 9) w K) (fr := endD Try.prog [.tmp 6] K) (fe := (blkK 0 (fun e w => F32_3 (e 0) (e 1) (e 2) (e 9) w K) noE)) (fun _ _ h => h) ?_ hr (blkK_mono (fun e w h => ok32_3 hn hr he e w h) he) fuel e w h
  intro m e w h
  have h : F32_2L (m + 1) (e 0) (e 1) (e 2) (e 9) w K := h
  rw [F32_2L] at h
  have e1 : ∀ (Y0 : Value → Value → Value → Value → World → Prop) (Y1 : Value → Value → Value → Value → World → Prop), F32_2b (e 0) (e 1) (e 2) (e 9) w K Y0 Y1 = denL Try.prog (tabOf T32) 110 fuel (flat (loopB (blkB (nthC (flat (bodyOf Try.f32)) 8)))) e w (fun e w => Y0 (e 0) (e 1) (e 2) (e 9) w) (endD Try.prog [.tmp 6] K) (blkK 0 (fun e w => Y1 (e 0) (e 1) (e 2) (e 9) w) noE) := by intro Y0 Y1; kernel_rfl
  exact Eq.mp (e1 (fun a0 a1 a2 a9 w => F32_2L m a0 a1 a2 a9 w K) (fun a0 a1 a2 a9 w => F32_3 a0 a1 a2 a9 w K)) h

def F32_1b (s0 : Value) (s1 : Value) (s2 : Value) (w : World) (K : Value → World → Prop) (Y0 : Value → Value → Value → Value → World → Prop) : Prop :=
bindP (bLt s2 (.int .i64 0)) fun v63 =>
stepM (gd false v63) s2 fun v64 =>
Sx.stepG (gd false v63) (bGt v64 (.int .i64 2305843009213693952)) fun v65 =>
bindP (pPick v63 (.bool true) v65) fun v66 =>
ifB v66 (
K (.int .i64 1) w) (
callP G82 [s0, s1] w fun v68 w67 =>
bindP (pTuple v68 0) fun _ =>
bindP (pTuple v68 1) fun v70 =>
bindP (uNot v70) fun v71 =>
stepM (gd true v71) s0 fun v72 =>
Sx.stepG (gd true v71) (pNil v72) fun v73 =>
Sx.stepG (gd true v71) (pFieldAddr 1 v73) fun v74 =>
Sx.stepG (gd true v71) (ld1 v74 w67.drew) fun v75 =>
Sx.stepG (gd true v71) (lenL v75) fun v76 =>
stepM (gd true v71) s0 fun v77 =>
Sx.stepG (gd true v71) (pNil v77) fun v78 =>
Sx.stepG (gd true v71) (pFieldAddr 0 v78) fun v79 =>
Sx.stepG (gd true v71) (ld1 v79 w67.drew) fun v80 =>
Sx.stepG (gd true v71) (bGe v76 v80) fun v81 =>
bindP (pPick v71 v81 (.bool false)) fun v82 =>
ifB v82 (
K (.int .i64 200) w67.drew) (
callP G33 [s0, s1] w67.drew fun _ w83 =>
Y0 s0 s1 s2 (.int .i64 0) w83))

def F32_1 (s0 : Value) (s1 : Value) (s2 : Value) (w : World) (K : Value → World → Prop) : Prop := F32_1b s0 s1 s2 w K (fun a0 a1 a2 a9 w => F32_2 a0 a1 a2 a9 w K)

theorem ok32_1 {K : Value → World → Prop} {kn kr : Env → World → Prop} {ke : Nat → Env → World → Prop}
    (hn : ∀ e w, (fun e w => K (e 6) w) e w → kn e w) (hr : ∀ e w, endD Try.prog [.tmp 6] K e w → kr e w) (he : ∀ i e w, noE i e w → ke i e w) :
    ∀ e w, F32_1 (e 0) (e 1) (e 2) w K → denL Try.prog (tabOf T32) 110 fuel ((flat (bodyOf Try.f32)).drop 0) e w kn kr ke := by
  intro e w h
  unfold F32_1 at h
  have e1 : ∀ (Y0 : Value → Value → Value → Value → World → Prop), F32_1b (e 0) (e 1) (e 2) w K Y0 = denL Try.prog (tabOf T32) 110 fuel (((flat (bodyOf Try.f32)).drop 0).take 8) e w (fun e w => Y0 (e 0) (e 1) (e 2) (e 9) w) (endD Try.prog [.tmp 6] K) noE := by intro Y0; kernel_rfl
  exact seg 8 (Eq.mp (e1 (fun a0 a1 a2 a9 w => F32_2 a0 a1 a2 a9 w K)) h) (fun e w h => ok32_2 hn hr he e w h) hr he

def F32 (x0 : Value) (x1 : Value) (x2 : Value) (w : World) (K : Value → World → Prop) : Prop := F32_1 x0 x1 x2 w K

def G32 : FnT := fun args w K => on3 (fun x0 x1 x2 => F32 x0 x1 x2 w K) args
theorem c32 {x0 x1 x2 : Value} {w : World} {K : Value → World → Prop} (h : F32 x0 x1 x2 w K) : callP G32 [x0, x1, x2] w K := callP_intro (on3_mk (p := fun x0 x1 x2 => F32 x0 x1 x2 w K) h)
theorem ok32 : OkF Try.prog 32 G32 := by
  refine okF_of (tab_ok (l := T32) ⟨ok33, ok82, trivial⟩) mixed (n := fuel) Try.func32 Try.call32 fun args w K h => ?_
  obtain ⟨x0, x1, x2, rfl, hh⟩ := of_on3 h
  unfold F32 at hh
  exact fnD_list (c := bodyOf Try.f32) (by kernel_rfl) (by kernel_rfl) (ok32_1 (fun _ _ h => h) (fun _ _ h => h) (fun _ _ _ h => h) (initE [x0, x1, x2]) w hh)

-- 34 gong/gonglaw19.items
def T34 : List (Nat × FnT) := []
def F34_3b (w : World) (K : Value → World → Prop) : Prop :=
K (.bool true) w

def F34_3 (w : World) (K : Value → World → Prop) : Prop := F34_3b w K

theorem ok34_3 {K : Value → World → Prop} {kn kr : Env → World → Prop} {ke : Nat → Env → World → Prop}
    (hn : ∀ e w, (fun e w => K (e 4) w) e w → kn e w) (hr : ∀ e w, endD Try.prog [.tmp 4] K e w → kr e w) (he : ∀ i e w, noE i e w → ke i e w) :
    ∀ e w, F34_3 w K → denL Try.prog (tabOf T34) 41 fuel ((flat (bodyOf Try.f34)).drop 5) e w kn kr ke := by
  intro e w h
  unfold F34_3 at h
  have e1 : ∀ (_ : Unit), F34_3b w K = denL Try.prog (tabOf T34) 41 fuel ((flat (bodyOf Try.f34)).drop 5) e w (fun e w => K (e 4) w) (endD Try.prog [.tmp 4] K) noE := by intro _; kernel_rfl
  exact seg_end (Eq.mp (e1 ()) h) hn hr he

def F34_2b (s0 : Value) (s1 : Value) (s5 : Value) (w : World) (K : Value → World → Prop) (Y0 : Value → Value → Value → World → Prop) (Y1 : World → Prop) : Prop :=
bindP (lenL s0) fun v1 =>
bindP (bLt s5 v1) fun v2 =>
ifB v2 (
bindP (pIndexL 2 s0 s5) fun v3 =>
bindP (pFieldAddr 0 v3) fun v4 =>
bindP (ld1 v4 w.drew) fun v5 =>
bindP (pIndexL 2 s1 s5) fun v6 =>
bindP (pFieldAddr 0 v6) fun v7 =>
bindP (ld1 v7 w.drew) fun v8 =>
bindP (bNe Try.prog 3 (.tmp 21) (.tmp 26) v5 v8) fun v9 =>
stepM (gd false v9) s0 fun v10 =>
stepM (gd false v9) s5 fun v11 =>
Sx.stepG (gd false v9) (pIndexL 2 v10 v11) fun v12 =>
Sx.stepG (gd false v9) (pFieldAddr 1 v12) fun v13 =>
Sx.stepG (gd false v9) (ld1 v13 w.drew) fun v14 =>
stepM (gd false v9) s1 fun v15 =>
stepM (gd false v9) s5 fun v16 =>
Sx.stepG (gd false v9) (pIndexL 2 v15 v16) fun v17 =>
Sx.stepG (gd false v9) (pFieldAddr 1 v17) fun v18 =>
Sx.stepG (gd false v9) (ld1 v18 w.drew) fun v19 =>
Sx.stepG (gd false v9) (bNe Try.prog 3 (.tmp 33) (.tmp 38) v14 v19) fun v20 =>
bindP (pPick v9 (.bool true) v20) fun v21 =>
ifB v21 (
K (.bool false) w.drew) (
bindP (bAdd s5 (.int .i64 1)) fun v22 =>
Y0 s0 s1 v22 w.drew)) (
Y1 w)

def F34_2L : Nat → Value → Value → Value → World → (Value → World → Prop) → Prop
  | 0, _, _, _, _, _ => False
  | n + 1, s0, s1, s5, w, K => F34_2b s0 s1 s5 w K (fun a0 a1 a5 w => F34_2L n a0 a1 a5 w K) (fun w => F34_3 w K)

def F34_2 (s0 : Value) (s1 : Value) (s5 : Value) (w : World) (K : Value → World → Prop) : Prop := F34_2L fuel s0 s1 s5 w K

theorem ok34_2 {K : Value → World → Prop} {kn kr : Env → World → Prop} {ke : Nat → Env → World → Prop}
    (hn : ∀ e w, (fun e w => K (e 4) w) e w → kn e w) (hr : ∀ e w, endD Try.prog [.tmp 4] K e w → kr e w) (he : ∀ i e w, noE i e w → ke i e w) :
    ∀ e w, F34_2 (e 0) (e 1) (e 5) w K → denL Try.prog (tabOf T34) 41 fuel ((flat (bodyOf Try.f34)).drop 4) e w kn kr ke := by
  intro e w h
  unfold F34_2 at h
  refine seg_loop (id := 0) (body := (loopB (blkB (nthC (flat (bodyOf Try.f34)) 4)))) (l2 := (flat (bodyOf Try.f34)).drop 5) (by kernel_rfl) ?_
  refine loop_ok (FL := fun m e w => F34_2L m (e 0) (e 1) (e 5) w K) (fr := endD Try.prog [.tmp 4] K) (fe := (blkK 0 (fun e w => F34_3 w K) noE)) (fun _ _ h => h) ?_ hr (blkK_mono (fun e w h => ok34_3 hn hr he e w h) he) fuel e w h
  intro m e w h
  have h : F34_2L (m + 1) (e 0) (e 1) (e 5) w K := h
  rw [F34_2L] at h
  have e1 : ∀ (Y0 : Value → Value → Value → World → Prop) (Y1 : World → Prop), F34_2b (e 0) (e 1) (e 5) w K Y0 Y1 = denL Try.prog (tabOf T34) 41 fuel (flat (loopB (blkB (nthC (flat (bodyOf Try.f34)) 4)))) e w (fun e w => Y0 (e 0) (e 1) (e 5) w) (endD Try.prog [.tmp 4] K) (blkK 0 (fun e w => Y1 w) noE) := by intro Y0 Y1; kernel_rfl
  exact Eq.mp (e1 (fun a0 a1 a5 w => F34_2L m a0 a1 a5 w K) (fun w => F34_3 w K)) h

def F34_1b (s0 : Value) (s1 : Value) (w : World) (K : Value → World → Prop) (Y0 : Value → Value → Value → World → Prop) : Prop :=
bindP (lenL s0) fun v23 =>
bindP (lenL s1) fun v24 =>
bindP (bNe Try.prog 3 (.tmp 7) (.tmp 9) v23 v24) fun v25 =>
ifB v25 (
K (.bool false) w) (
Y0 s0 s1 (.int .i64 0) w)

def F34_1 (s0 : Value) (s1 : Value) (w : World) (K : Value → World → Prop) : Prop := F34_1b s0 s1 w K (fun a0 a1 a5 w => F34_2 a0 a1 a5 w K)

theorem ok34_1 {K : Value → World → Prop} {kn kr : Env → World → Prop} {ke : Nat → Env → World → Prop}
    (hn : ∀ e w, (fun e w => K (e 4) w) e w → kn e w) (hr : ∀ e w, endD Try.prog [.tmp 4] K e w → kr e w) (he : ∀ i e w, noE i e w → ke i e w) :
    ∀ e w, F34_1 (e 0) (e 1) w K → denL Try.prog (tabOf T34) 41 fuel ((flat (bodyOf Try.f34)).drop 0) e w kn kr ke := by
  intro e w h
  unfold F34_1 at h
  have e1 : ∀ (Y0 : Value → Value → Value → World → Prop), F34_1b (e 0) (e 1) w K Y0 = denL Try.prog (tabOf T34) 41 fuel (((flat (bodyOf Try.f34)).drop 0).take 4) e w (fun e w => Y0 (e 0) (e 1) (e 5) w) (endD Try.prog [.tmp 4] K) noE := by intro Y0; kernel_rfl
  exact seg 4 (Eq.mp (e1 (fun a0 a1 a5 w => F34_2 a0 a1 a5 w K)) h) (fun e w h => ok34_2 hn hr he e w h) hr he

def F34 (x0 : Value) (x1 : Value) (w : World) (K : Value → World → Prop) : Prop := F34_1 x0 x1 w K

def G34 : FnT := fun args w K => on2 (fun x0 x1 => F34 x0 x1 w K) args
theorem c34 {x0 x1 : Value} {w : World} {K : Value → World → Prop} (h : F34 x0 x1 w K) : callP G34 [x0, x1] w K := callP_intro (on2_mk (p := fun x0 x1 => F34 x0 x1 w K) h)
theorem ok34 : OkF Try.prog 34 G34 := by
  refine okF_of (tab_ok (l := T34) trivial) mixed (n := fuel) Try.func34 Try.call34 fun args w K h => ?_
  obtain ⟨x0, x1, rfl, hh⟩ := of_on2 h
  unfold F34 at hh
  exact fnD_list (c := bodyOf Try.f34) (by kernel_rfl) (by kernel_rfl) (ok34_1 (fun _ _ h => h) (fun _ _ h => h) (fun _ _ _ h => h) (initE [x0, x1]) w hh)

-- 36 (*gong/gongref19.Heap).Due
def T36 : List (Nat × FnT) := []
def F36_3b (s0 : Value) (s5 : Value) (w : World) (K : Value → World → Prop) : Prop :=
eBuildSl Try.prog 65 0 [] w fun v2 w1 =>
bindP (pNil s0) fun v3 =>
bindP (pFieldAddr 1 v3) fun v4 =>
bindP (ld1 v4 w1) fun v5 =>
bindP (pSliceL 2 v5 none (some s5) none) fun v6 =>
eAppend Try.prog 65 65 v2 v6 w1 fun v8 w7 =>
eBuildSl Try.prog 65 0 [] w7 fun v10 w9 =>
bindP (pNil s0) fun v11 =>
bindP (pFieldAddr 1 v11) fun v12 =>
bindP (ld1 v12 w9) fun v13 =>
bindP (pSliceL 2 v13 (some s5) none none) fun v14 =>
eAppend Try.prog 65 65 v10 v14 w9 fun v16 w15 =>
bindP (pNil s0) fun v17 =>
bindP (pFieldAddr 1 v17) fun v18 =>
bindW (st 1 v18 v16 w15) fun w19 =>
K v8 w19

def F36_3 (s0 : Value) (s5 : Value) (w : World) (K : Value → World → Prop) : Prop := F36_3b s0 s5 w K

theorem ok36_3 {K : Value → World → Prop} {kn kr : Env → World → Prop} {ke : Nat → Env → World → Prop}
    (hn : ∀ e w, (fun e w => K (e 4) w) e w → kn e w) (hr : ∀ e w, endD Try.prog [.tmp 4] K e w → kr e w) (he : ∀ i e w, noE i e w → ke i e w) :
    ∀ e w, F36_3 (e 0) (e 5) w K → denL Try.prog (tabOf T36) 48 fuel ((flat (bodyOf Try.f36)).drop 3) e w kn kr ke := by
  intro e w h
  unfold F36_3 at h
  have e1 : ∀ (_ : Unit), F36_3b (e 0) (e 5) w K = denL Try.prog (tabOf T36) 48 fuel ((flat (bodyOf Try.f36)).drop 3) e w (fun e w => K (e 4) w) (endD Try.prog [.tmp 4] K) noE := by intro _; kernel_rfl
  exact seg_end (Eq.mp (e1 ()) h) hn hr he

def F36_2b (s0 : Value) (s1 : Value) (s5 : Value) (w : World) (_K : Value → World → Prop) (Y0 : Value → Value → Value → World → Prop) (Y1 : Value → Value → World → Prop) : Prop :=
bindP (pNil s0) fun v21 =>
bindP (pFieldAddr 1 v21) fun v22 =>
bindP (ld1 v22 w) fun v23 =>
bindP (lenL v23) fun v24 =>
bindP (bLt s5 v24) fun v25 =>
stepM (gd true v25) s0 fun v26 =>
Sx.stepG (gd true v25) (pNil v26) fun v27 =>
Sx.stepG (gd true v25) (pFieldAddr 1 v27) fun v28 =>
Sx.stepG (gd true v25) (ld1 v28 w) fun v29 =>
stepM (gd true v25) s5 fun v30 =>
Sx.stepG (gd true v25) (pIndexL 2 v29 v30) fun v31 =>
Sx.stepG (gd true v25) (pFieldAddr 1 v31) fun v32 =>
Sx.stepG (gd true v25) (ld1 v32 w) fun v33 =>
stepM (gd true v25) s1 fun v34 =>
Sx.stepG (gd true v25) (bLe v33 v34) fun v35 =>
bindP (pPick v25 v35 (.bool false)) fun v36 =>
ifB v36 (
bindP (bAdd s5 (.int .i64 1)) fun v37 =>
Y0 s0 s1 v37 w) (
Y1 s0 s5 w)

def F36_2L : Nat → Value → Value → Value → World → (Value → World → Prop) → Prop
  | 0, _, _, _, _, _ => False
  | n + 1, s0, s1, s5, w, K => F36_2b s0 s1 s5 w K (fun a0 a1 a5 w => F36_2L n a0 a1 a5 w K) (fun a0 a5 w => F36_3 a0 a5 w K)

def F36_2 (s0 : Value) (s1 : Value) (s5 : Value) (w : World) (K : Value → World → Prop) : Prop := F36_2L fuel s0 s1 s5 w K

theorem ok36_2 {K : Value → World → Prop} {kn kr : Env → World → Prop} {ke : Nat → Env → World → Prop}
    (hn : ∀ e w, (fun e w => K (e 4) w) e w → kn e w) (hr : ∀ e w, endD Try.prog [.tmp 4] K e w → kr e w) (he : ∀ i e w, noE i e w → ke i e w) :
    ∀ e w, F36_2 (e 0) (e 1) (e 5) w K → denL Try.prog (tabOf T36) 48 fuel ((flat (bodyOf Try.f36)).drop 2) e w kn kr ke := by
  intro e w h
  unfold F36_2 at h
  refine seg_loop (id := 0) (body := (loopB (blkB (nthC (flat (bodyOf Try.f36)) 2)))) (l2 := (flat (bodyOf Try.f36)).drop 3) (by kernel_rfl) ?_
  refine loop_ok (FL := fun m e w => F36_2L m (e 0) (e 1) (e 5) w K) (fr := endD Try.prog [.tmp 4] K) (fe := (blkK 0 (fun e w => F36_3 (e 0) (e 5) w K) noE)) (fun _ _ h => h) ?_ hr (blkK_mono (fun e w h => ok36_3 hn hr he e w h) he) fuel e w h
  intro m e w h
  have h : F36_2L (m + 1) (e 0) (e 1) (e 5) w K := h
  rw [F36_2L] at h
  have e1 : ∀ (Y0 : Value → Value → Value → World → Prop) (Y1 : Value → Value → World → Prop), F36_2b (e 0) (e 1) (e 5) w K Y0 Y1 = denL Try.prog (tabOf T36) 48 fuel (flat (loopB (blkB (nthC (flat (bodyOf Try.f36)) 2)))) e w (fun e w => Y0 (e 0) (e 1) (e 5) w) (endD Try.prog [.tmp 4] K) (blkK 0 (fun e w => Y1 (e 0) (e 5) w) noE) := by intro Y0 Y1; kernel_rfl
  exact Eq.mp (e1 (fun a0 a1 a5 w => F36_2L m a0 a1 a5 w K) (fun a0 a5 w => F36_3 a0 a5 w K)) h

def F36_1b (s0 : Value) (s1 : Value) (w : World) (_K : Value → World → Prop) (Y0 : Value → Value → Value → World → Prop) : Prop :=
Y0 s0 s1 (.int .i64 0) w

def F36_1 (s0 : Value) (s1 : Value) (w : World) (K : Value → World → Prop) : Prop := F36_1b s0 s1 w K (fun a0 a1 a5 w => F36_2 a0 a1 a5 w K)

theorem ok36_1 {K : Value → World → Prop} {kn kr : Env → World → Prop} {ke : Nat → Env → World → Prop}
    (hn : ∀ e w, (fun e w => K (e 4) w) e w → kn e w) (hr : ∀ e w, endD Try.prog [.tmp 4] K e w → kr e w) (he : ∀ i e w, noE i e w → ke i e w) :
    ∀ e w, F36_1 (e 0) (e 1) w K → denL Try.prog (tabOf T36) 48 fuel ((flat (bodyOf Try.f36)).drop 0) e w kn kr ke := by
  intro e w h
  unfold F36_1 at h
  have e1 : ∀ (Y0 : Value → Value → Value → World → Prop), F36_1b (e 0) (e 1) w K Y0 = denL Try.prog (tabOf T36) 48 fuel (((flat (bodyOf Try.f36)).drop 0).take 2) e w (fun e w => Y0 (e 0) (e 1) (e 5) w) (endD Try.prog [.tmp 4] K) noE := by intro Y0; kernel_rfl
  exact seg 2 (Eq.mp (e1 (fun a0 a1 a5 w => F36_2 a0 a1 a5 w K)) h) (fun e w h => ok36_2 hn hr he e w h) hr he

def F36 (x0 : Value) (x1 : Value) (w : World) (K : Value → World → Prop) : Prop := F36_1 x0 x1 w K

def G36 : FnT := fun args w K => on2 (fun x0 x1 => F36 x0 x1 w K) args
theorem c36 {x0 x1 : Value} {w : World} {K : Value → World → Prop} (h : F36 x0 x1 w K) : callP G36 [x0, x1] w K := callP_intro (on2_mk (p := fun x0 x1 => F36 x0 x1 w K) h)
theorem ok36 : OkF Try.prog 36 G36 := by
  refine okF_of (tab_ok (l := T36) trivial) mixed (n := fuel) Try.func36 Try.call36 fun args w K h => ?_
  obtain ⟨x0, x1, rfl, hh⟩ := of_on2 h
  unfold F36 at hh
  exact fnD_list (c := bodyOf Try.f36) (by kernel_rfl) (by kernel_rfl) (ok36_1 (fun _ _ h => h) (fun _ _ h => h) (fun _ _ _ h => h) (initE [x0, x1]) w hh)

-- 118 maps.clone
def G118 : FnT := gClone
theorem ok118 : OkF Try.prog 118 G118 := okClone Try.func118 (by kernel_rfl) (by kernel_rfl) (by kernel_rfl) (by kernel_rfl)

-- 84 maps.Clone[map[int]int,int,int]
def T84 : List (Nat × FnT) := [(118, G118)]
def F84 (x0 : Value) (w : World) (K : Value → World → Prop) : Prop :=
bindP (bEq Try.prog 124 (.tmp 3) (.const (.map none)) x0 (.map none)) fun v1 =>
ifB v1 (
K (.map none) w) (
bindP (fMkI Try.prog 124 x0) fun v2 =>
callP G118 [v2] w fun v4 w3 =>
bindP (fAssert Try.prog v4 124 false) fun v5 =>
K v5 w3)

def G84 : FnT := fun args w K => on1 (fun x0 => F84 x0 w K) args
theorem c84 {x0 : Value} {w : World} {K : Value → World → Prop} (h : F84 x0 w K) : callP G84 [x0] w K := callP_intro (on1_mk (p := fun x0 => F84 x0 w K) h)
theorem ok84 : OkF Try.prog 84 G84 := by
  refine okF_of (tab_ok (l := T84) ⟨ok118, trivial⟩) mixed (n := fuel) Try.func84 Try.call84 fun args w K h => ?_
  obtain ⟨x0, rfl, hh⟩ := of_on1 h
  exact fnD_list (c := bodyOf Try.f84) (by kernel_rfl) (by kernel_rfl) (Eq.mp (by kernel_rfl) hh)

-- 37 (*gong/heap.Heap).Fork
def T37 : List (Nat × FnT) := [(79, G79), (84, G84)]
def F37 (x0 : Value) (w : World) (K : Value → World → Prop) : Prop :=
bindP (pNil x0) fun v1 =>
bindP (pFieldAddr 0 v1) fun v2 =>
bindP (ld1 v2 w.drew) fun v3 =>
bindP (pNil x0) fun v4 =>
bindP (pFieldAddr 1 v4) fun v5 =>
bindP (ld1 v5 w.drew) fun v6 =>
bindP (pNil x0) fun v7 =>
bindP (pFieldAddr 2 v7) fun v8 =>
bindP (ld1 v8 w.drew) fun v9 =>
callP G79 [v6] w.drew fun v11 w10 =>
(fok true (ld1 v2 w10) v3 ∧ fok true (ld1 v8 w10) v9) ∧ (callP G84 [v9] w10 fun v13 w12 =>
fok true (ld1 v2 w12) v3 ∧ (bindP (fBuild Try.prog 126 [(0, v3), (1, v11), (2, v13)]) fun v14 =>
eBox 126 v14 w12 fun v16 w15 =>
K v16 w15))

def G37 : FnT := fun args w K => on1 (fun x0 => F37 x0 w K) args
theorem c37 {x0 : Value} {w : World} {K : Value → World → Prop} (h : F37 x0 w K) : callP G37 [x0] w K := callP_intro (on1_mk (p := fun x0 => F37 x0 w K) h)
theorem ok37 : OkF Try.prog 37 G37 := by
  refine okF_of (tab_ok (l := T37) ⟨ok79, ok84, trivial⟩) mixed (n := fuel) Try.func37 Try.call37 fun args w K h => ?_
  obtain ⟨x0, rfl, hh⟩ := of_on1 h
  exact fnD_list (c := bodyOf Try.f37) (by kernel_rfl) (by kernel_rfl) (Eq.mp (by kernel_rfl) hh)

-- 85 (*gong/heap.Heap).Get
def T85 : List (Nat × FnT) := []
def F85 (x0 : Value) (x1 : Value) (w : World) (K : Value → World → Prop) : Prop :=
bindP (pNil x0) fun v1 =>
bindP (pFieldAddr 2 v1) fun v2 =>
bindP (ld1 v2 w) fun v3 =>
bindP (fLook Try.prog 124 v3 x1 true w) fun v4 =>
bindP (pTuple v4 0) fun v5 =>
bindP (pTuple v4 1) fun v6 =>
bindP (uNot v6) fun v7 =>
ifB v7 (
K (.tuple #[(.int .i64 0), (.bool false)]) w) (
bindP (pNil x0) fun v8 =>
bindP (pFieldAddr 1 v8) fun v9 =>
bindP (ld1 v9 w) fun v10 =>
bindP (pIndexL 2 v10 v5) fun v11 =>
bindP (pFieldAddr 1 v11) fun v12 =>
bindP (ld1 v12 w) fun v13 =>
K (.tuple #[v13, (.bool true)]) w)

def G85 : FnT := fun args w K => on2 (fun x0 x1 => F85 x0 x1 w K) args
theorem c85 {x0 x1 : Value} {w : World} {K : Value → World → Prop} (h : F85 x0 x1 w K) : callP G85 [x0, x1] w K := callP_intro (on2_mk (p := fun x0 x1 => F85 x0 x1 w K) h)
theorem ok85 : OkF Try.prog 85 G85 := by
  refine okF_of (tab_ok (l := T85) trivial) mixed (n := fuel) Try.func85 Try.call85 fun args w K h => ?_
  obtain ⟨x0, x1, rfl, hh⟩ := of_on2 h
  exact fnD_list (c := bodyOf Try.f85) (by kernel_rfl) (by kernel_rfl) (Eq.mp (by kernel_rfl) hh)

-- 86 (*gong/gongref19.Heap).First
def T86 : List (Nat × FnT) := []
def F86 (x0 : Value) (w : World) (K : Value → World → Prop) : Prop :=
eAlloc Try.prog 135 w fun v2 w1 =>
bindP (pNil x0) fun v3 =>
bindP (pFieldAddr 1 v3) fun v4 =>
bindP (ld1 v4 w1) fun v5 =>
bindP (lenL v5) fun v6 =>
bindP (bEq Try.prog 3 (.tmp 8) (.const (.int .i64 0)) v6 (.int .i64 0)) fun v7 =>
ifB v7 (
bindP (fBuild Try.prog 135 []) fun v8 =>
bindW (st 2 v2 v8 w1) fun w9 =>
bindP (ldN 2 v2 w9) fun v11 =>
K (.tuple #[v11, (.bool false)]) w9) (
bindP (pNil x0) fun v12 =>
bindP (pFieldAddr 1 v12) fun v13 =>
bindP (ld1 v13 w1) fun v14 =>
bindP (pIndexL 2 v14 (.int .i64 0)) fun v15 =>
bindP (ldN 2 v15 w1) fun v16 =>
bindW (st 2 v2 v16 w1) fun w17 =>
bindP (ldN 2 v2 w17) fun v19 =>
K (.tuple #[v19, (.bool true)]) w17)

def G86 : FnT := fun args w K => on1 (fun x0 => F86 x0 w K) args
theorem c86 {x0 : Value} {w : World} {K : Value → World → Prop} (h : F86 x0 w K) : callP G86 [x0] w K := callP_intro (on1_mk (p := fun x0 => F86 x0 w K) h)
theorem ok86 : OkF Try.prog 86 G86 := by
  refine okF_of (tab_ok (l := T86) trivial) mixed (n := fuel) Try.func86 Try.call86 fun args w K h => ?_
  obtain ⟨x0, rfl, hh⟩ := of_on1 h
  exact fnD_list (c := bodyOf Try.f86) (by kernel_rfl) (by kernel_rfl) (Eq.mp (by kernel_rfl) hh)

-- 38 gong/gonglaw19.stands
def T38 : List (Nat × FnT) := [(30, G30), (34, G34), (75, G75), (82, G82), (83, G83), (85, G85), (86, G86)]
def F38_3b (s0 : Value) (s1 : Value) (s7 : Value) (s8 : Value) (s9 : Value) (s10 : Value) (s11 : Value) (s12 : Value) (s13 : Value) (s14 : Value) (s16 : Value) (w : World) (K : Value → World → Prop) : Prop :=
stepM (gd true s16) s7 fun v1 =>
stepM (gd true s16) s9 fun v2 =>
Sx.stepG (gd true s16) (bEq Try.prog 3 (.tmp 60) (.tmp 61) v1 v2) fun v3 =>
bindP (pPick s16 v3 (.bool false)) fun v4 =>
stepM (gd true v4) s8 fun v5 =>
stepM (gd true v4) s10 fun v6 =>
Sx.stepG (gd true v4) (bEq Try.prog 4 (.tmp 65) (.tmp 66) v5 v6) fun v7 =>
bindP (pPick v4 v7 (.bool false)) fun v8 =>
Sx.stepG (gd true v8) (pFieldAddr 0 s11) fun v9 =>
Sx.stepG (gd true v8) (ld1 v9 w.drew) fun v10 =>
Sx.stepG (gd true v8) (pFieldAddr 0 s13) fun v11 =>
Sx.stepG (gd true v8) (ld1 v11 w.drew) fun v12 =>
Sx.stepG (gd true v8) (bEq Try.prog 3 (.tmp 71) (.tmp 73) v10 v12) fun v13 =>
bindP (pPick v8 v13 (.bool false)) fun v14 =>
Sx.stepG (gd true v14) (pFieldAddr 1 s11) fun v15 =>
Sx.stepG (gd true v14) (ld1 v15 w.drew) fun v16 =>
Sx.stepG (gd true v14) (pFieldAddr 1 s13) fun v17 =>
Sx.stepG (gd true v14) (ld1 v17 w.drew) fun v18 =>
Sx.stepG (gd true v14) (bEq Try.prog 3 (.tmp 78) (.tmp 80) v16 v18) fun v19 =>
bindP (pPick v14 v19 (.bool false)) fun v20 =>
stepM (gd true v20) s12 fun v21 =>
stepM (gd true v20) s14 fun v22 =>
Sx.stepG (gd true v20) (bEq Try.prog 4 (.tmp 84) (.tmp 85) v21 v22) fun v23 =>
bindP (pPick v20 v23 (.bool false)) fun v24 =>
stepM (gd true v24) s0 fun v25 =>
stepM (gd true v24) s1 fun v26 =>
Sx.stepG (gd true v24) (pNil v26) fun v27 =>
Sx.stepG (gd true v24) (pFieldAddr 1 v27) fun v28 =>
Sx.stepG (gd true v24) (ld1 v28 w.drew) fun v29 =>
Sx.stepG (gd true v24) (lenL v29) fun v30 =>
stepE (gd true v24) (fun k => callP G75 [v25] w.drew k) w.drew fun v32 w31 =>
(fok (gd true v24) (ld1 v28 w31) v29 ∧ fok (gd true v24) (lenL v29) v30) ∧ (Sx.stepG (gd true v24) (bEq Try.prog 3 (.tmp 90) (.tmp 95) v32 v30) fun v33 =>
bindP (pPick v24 v33 (.bool false)) fun v34 =>
stepM (gd true v34) s0 fun v35 =>
stepM (gd true v34) s1 fun v36 =>
Sx.stepG (gd true v34) (pNil v36) fun v37 =>
Sx.stepG (gd true v34) (pFieldAddr 1 v37) fun v38 =>
Sx.stepG (gd true v34) (ld1 v38 w31) fun v39 =>
stepE (gd true v34) (fun k => callP G30 [v35] w31 k) w31 fun v41 w40 =>
fok (gd true v34) (ld1 v38 w40) v39 ∧ (stepE (gd true v34) (fun k => callP G34 [v41, v39] w40 k) w40 fun v43 w42 =>
bindP (pPick v34 v43 (.bool false)) fun v44 =>
K v44 w42))

def F38_3 (s0 : Value) (s1 : Value) (s7 : Value) (s8 : Value) (s9 : Value) (s10 : Value) (s11 : Value) (s12 : Value) (s13 : Value) (s14 : Value) (s16 : Value) (w : World) (K : Value → World → Prop) : Prop := F38_3b s0 s1 s7 s8 s9 s10 s11 s12 s13 s14 s16 w K

theorem ok38_3 {K : Value → World → Prop} {kn kr : Env → World → Prop} {ke : Nat → Env → World → Prop}
    (hn : ∀ e w, (fun e w => K (e 6) w) e w → kn e w) (hr : ∀ e w, endD Try.prog [.tmp 6] K e w → kr e w) (he : ∀ i e w, noE i e w → ke i e w) :
    ∀ e w, F38_3 (e 0) (e 1) (e 7) (e 8) (e 9) (e 10) (e 11) (e 12) (e 13) (e 14) (e 16) w K → denL Try.prog (tabOf T38) 107 fuel ((flat (bodyOf Try.f38)).drop 9) e w kn kr ke := by
  intro e w h
  unfold F38_3 at h
  have e1 : ∀ (_ : Unit), F38_3b (e 0) (e 1) (e 7) (e 8) (e 9) (e 10) (e 11) (e 12) (e 13) (e 14) (e 16) w K = denL Try.prog (tabOf T38) 107 fuel ((flat (bodyOf Try.f38)).drop 9) e w (fun e w => K (e 6) w) (endD Try.prog [.tmp 6] K) noE := by intro _; kernel_rfl
  exact seg_end (Eq.mp (e1 ()) h) hn hr he

def F38_2b (s0 : Value) (s1 : Value) (s7 : Value) (s8 : Value) (s9 : Value) (s10 : Value) (s11 : Value) (s12 : Value) (s13 : Value) (s14 : Value) (s15 : Value) (s16 : Value) (s17 : Value) (w : World) (_K : Value → World → Prop) (Y0 : Value → Value → Value → Value → Value → Value → Value → Value → Value → Value → Value → Value → Value → World → Prop) (Y1 : Value → Value → Value → Value → Value → Value → Value → Value → Value → Value → Value → World → Prop) : Prop :=
bindP (lenL s15) fun v45 =>
bindP (bLt s17 v45) fun v46 =>
ifB v46 (
bindP (pIndexL 2 s15 s17) fun v47 =>
bindP (pFieldAddr 1 v47) fun v48 =>
bindW (st 1 v48 (.int .i64 (-7)) w) fun w49 =>
bindP (bAdd s17 (.int .i64 1)) fun v51 =>
Y0 s0 s1 s7 s8 s9 s10 s11 s12 s13 s14 s15 s16 v51 w49) (
Y1 s0 s1 s7 s8 s9 s10 s11 s12 s13 s14 s16 w)

def F38_2L : Nat → Value → Value → Value → Value → Value → Value → Value → Value → Value → Value → Value → Value → Value → World → (Value → World → Prop) → Prop
  | 0, _, _, _, _, _, _, _, _, _, _, _, _, _, _, _ => False
  | n + 1, s0, s1, s7, s8, s9, s10, s11, s12, s13, s14, s15, s16, s17, w, K => F38_2b s0 s1 s7 s8 s9 s10 s11 s12 s13 s14 s15 s16 s17 w K (fun a0 a1 a7 a8 a9 a10 a11 a12 a13 a14 a15 a16 a17 w => F38_2L n a0 a1 a7 a8 a9 a10 a11 a12 a13 a14 a15 a16 a17 w K) (fun a0 a1 a7 a8 a9 a10 a11 a12 a13 a14 a16 w => F38_3 a0 a1 a7 a8 a9 a10 a11 a12 a13 a14 a16 w K)

def F38_2 (s0 : Value) (s1 : Value) (s7 : Value) (s8 : Value) (s9 : Value) (s10 : Value) (s11 : Value) (s12 : Value) (s13 : Value) (s14 : Value) (s15 : Value) (s16 : Value) (s17 : Value) (w : World) (K : Value → World → Prop) : Prop := F38_2L fuel s0 s1 s7 s8 s9 s10 s11 s12 s13 s14 s15 s16 s17 w K

theorem ok38_2 {K : Value → World → Prop} {kn kr : Env → World → Prop} {ke : Nat → Env → World → Prop}
    (hn : ∀ e w, (fun e w => K (e 6) w) e w → kn e w) (hr : ∀ e w, endD Try.prog [.tmp 6] K e w → kr e w) (he : ∀ i e w, noE i e w → ke i e w) :
    ∀ e w, F38_2 (e 0) (e 1) (e 7) (e 8) (e 9) (e 10) (e 11) (e 12) (e 13) (e 14) (e 15) (e 16) (e 17) w K → denL Try.prog (tabOf T38) 107 fuel ((flat (bodyOf Try.f38)).drop 8) e w kn kr ke := by
  intro e w h
  unfold F38_2 at h
  refine seg_loop (id := 0) (body := (loopB (blkB (nthC (flat (bodyOf Try.f38)) 8)))) (l2 := (flat (bodyOf Try.f38)).drop 9) (by kernel_rfl) ?_
  refine loop_ok (FL := fun m e w => F38_2L m (e 0) (e 1) (e 7) (e 8) (e 9) (e 10) (e 11) (e 12) (e 13) (e 14) (e 15) (e 16) (e 17) w K) (fr := endD Try.prog [.tmp 6] K) (fe := (blkK 0 (fun e w => F38_3 (e 0) (e 1) (e 7) (e 8) (e 9) (e 10) (e 11) (e 12) (e 13) (e 14) (e 16) w K) noE)) (fun _ _ h => h) ?_ hr (blkK_mono (fun e w h => ok38_3 hn hr he e w h) he) fuel e w h
  intro m e w h
  have h : F38_2L (m + 1) (e 0) (e 1) (e 7) (e 8) (e 9) (e 10) (e 11) (e 12) (e 13) (e 14) (e 15) (e 16) (e 17) w K := h
  rw [F38_2L] at h
  have e1 : ∀ (Y0 : Value → Value → Value → Value → Value → Value → Value → Value → Value → Value → Value → Value → Value → World → Prop) (Y1 : Value → Value → Value → Value → Value → Value → Value → Value → Value → Value → Value → World → Prop), F38_2b (e 0) (e 1) (e 7) (e 8) (e 9) (e 10) (e 11) (e 12) (e 13) (e 14) (e 15) (e 16) (e 17) w K Y0 Y1 = denL Try.prog (tabOf T38) 107 fuel (flat (loopB (blkB (nthC (flat (bodyOf Try.f38)) 8)))) e w (fun e w => Y0 (e 0) (e 1) (e 7) (e 8) (e 9) (e 10) (e 11) (e 12) (e 13) (e 14) (e 15) (e 16) (e 17) w) (endD Try.prog [.tmp 6] K) (blkK 0 (fun e w => Y1 (e 0) (e 1) (e 7) (e 8) (e 9) (e 10) (e 11) (e 12) (e 13) (e 14) (e 16) w) noE) := by intro Y0 Y1; kernel_rfl
  exact Eq.mp (e1 (fun a0 a1 a7 a8 a9 a10 a11 a12 a13 a14 a15 a16 a17 w => F38_2L m a0 a1 a7 a8 a9 a10 a11 a12 a13 a14 a15 a16 a17 w K) (fun a0 a1 a7 a8 a9 a10 a11 a12 a13 a14 a16 w => F38_3 a0 a1 a7 a8 a9 a10 a11 a12 a13 a14 a16 w K)) h

def F38_1b (s0 : Value) (s1 : Value) (s2 : Value) (w : World) (_K : Value → World → Prop) (Y0 : Value → Value → Value → Value → Value → Value → Value → Value → Value → Value → Value → Value → Value → World → Prop) : Prop :=
callP G85 [s0, s2] w fun v53 w52 =>
bindP (pTuple v53 0) fun v54 =>
bindP (pTuple v53 1) fun v55 =>
callP G82 [s1, s2] w52 fun v57 w56 =>
bindP (pTuple v57 0) fun v58 =>
bindP (pTuple v57 1) fun v59 =>
callP G83 [s0] w56 fun v61 w60 =>
bindP (pTuple v61 0) fun v62 =>
bindP (pTuple v61 1) fun v63 =>
eAlloc Try.prog 55 w60 fun v65 w64 =>
bindW (st 2 v65 v62 w64) fun w66 =>
callP G86 [s1] w66 fun v69 w68 =>
bindP (pTuple v69 0) fun v70 =>
bindP (pTuple v69 1) fun v71 =>
eAlloc Try.prog 135 w68 fun v73 w72 =>
bindW (st 2 v73 v70 w72) fun w74 =>
callP G30 [s0] w74 fun v77 w76 =>
bindP (pNil s1) fun v78 =>
bindP (pFieldAddr 1 v78) fun v79 =>
bindP (ld1 v79 w76) fun v80 =>
callP G34 [v77, v80] w76 fun v82 w81 =>
Y0 s0 s1 v54 v55 v58 v59 v65 v63 v73 v71 v77 v82 (.int .i64 0) w81

def F38_1 (s0 : Value) (s1 : Value) (s2 : Value) (w : World) (K : Value → World → Prop) : Prop := F38_1b s0 s1 s2 w K (fun a0 a1 a7 a8 a9 a10 a11 a12 a13 a14 a15 a16 a17 w => F38_2 a0 a1 a7 a8 a9 a10 a11 a12 a13 a14 a15 a16 a17 w K)

theorem ok38_1 {K : Value → World → Prop} {kn kr : Env → World → Prop} {ke : Nat → Env → World → Prop}
    (hn : ∀ e w, (fun e w => K (e 6) w) e w → kn e w) (hr : ∀ e w, endD Try.prog [.tmp 6] K e w → kr e w) (he : ∀ i e w, noE i e w → ke i e w) :
    ∀ e w, F38_1 (e 0) (e 1) (e 2) w K → denL Try.prog (tabOf T38) 107 fuel ((flat (bodyOf Try.f38)).drop 0) e w kn kr ke := by
  intro e w h
  unfold F38_1 at h
  have e1 : ∀ (Y0 : Value → Value → Value → Value → Value → Value → Value → Value → Value → Value → Value → Value → Value → World → Prop), F38_1b (e 0) (e 1) (e 2) w K Y0 = denL Try.prog (tabOf T38) 107 fuel (((flat (bodyOf Try.f38)).drop 0).take 8) e w (fun e w => Y0 (e 0) (e 1) (e 7) (e 8) (e 9) (e 10) (e 11) (e 12) (e 13) (e 14) (e 15) (e 16) (e 17) w) (endD Try.prog [.tmp 6] K) noE := by intro Y0; kernel_rfl
  exact seg 8 (Eq.mp (e1 (fun a0 a1 a7 a8 a9 a10 a11 a12 a13 a14 a15 a16 a17 w => F38_2 a0 a1 a7 a8 a9 a10 a11 a12 a13 a14 a15 a16 a17 w K)) h) (fun e w h => ok38_2 hn hr he e w h) hr he

def F38 (x0 : Value) (x1 : Value) (x2 : Value) (w : World) (K : Value → World → Prop) : Prop := F38_1 x0 x1 x2 w K

def G38 : FnT := fun args w K => on3 (fun x0 x1 x2 => F38 x0 x1 x2 w K) args
theorem c38 {x0 x1 x2 : Value} {w : World} {K : Value → World → Prop} (h : F38 x0 x1 x2 w K) : callP G38 [x0, x1, x2] w K := callP_intro (on3_mk (p := fun x0 x1 x2 => F38 x0 x1 x2 w K) h)
theorem ok38 : OkF Try.prog 38 G38 := by
  refine okF_of (tab_ok (l := T38) ⟨ok30, ok34, ok75, ok82, ok83, ok85, ok86, trivial⟩) mixed (n := fuel) Try.func38 Try.call38 fun args w K h => ?_
  obtain ⟨x0, x1, x2, rfl, hh⟩ := of_on3 h
  unfold F38 at hh
  exact fnD_list (c := bodyOf Try.f38) (by kernel_rfl) (by kernel_rfl) (ok38_1 (fun _ _ h => h) (fun _ _ h => h) (fun _ _ _ h => h) (initE [x0, x1, x2]) w hh)

-- 7 gong/gonglaw19.HeapPlays
def T7 : List (Nat × FnT) := [(15, G15), (26, G26), (27, G27), (28, G28), (29, G29), (31, G31), (32, G32), (33, G33), (34, G34), (35, G35), (36, G36), (37, G37), (38, G38)]
def F7_3b (w : World) (K : Value → World → Prop) : Prop :=
K (.bool true) w

def F7_3 (w : World) (K : Value → World → Prop) : Prop := F7_3b w K

theorem ok7_3 {K : Value → World → Prop} {kn kr : Env → World → Prop} {ke : Nat → Env → World → Prop}
    (hn : ∀ e w, (fun e w => K (e 4) w) e w → kn e w) (hr : ∀ e w, endD Try.prog [.tmp 4] K e w → kr e w) (he : ∀ i e w, noE i e w → ke i e w) :
    ∀ e w, F7_3 w K → denL Try.prog (tabOf T7) 123 fuel ((flat (bodyOf Try.f7)).drop 7) e w kn kr ke := by
  intro e w h
  unfold F7_3 at h
  have e1 : ∀ (_ : Unit), F7_3b w K = denL Try.prog (tabOf T7) 123 fuel ((flat (bodyOf Try.f7)).drop 7) e w (fun e w => K (e 4) w) (endD Try.prog [.tmp 4] K) noE := by intro _; kernel_rfl
  exact seg_end (Eq.mp (e1 ()) h) hn hr he

def F7_6b (s1 : Value) (s5 : Value) (s7 : Value) (s9 : Value) (w : World) (_K : Value → World → Prop) (R3 : Value → Value → Value → Value → World → Prop) : Prop :=
bindP (bAdd s9 (.int .i64 1)) fun v1 =>
R3 s1 s5 s7 v1 w

def F7_6 (s1 : Value) (s5 : Value) (s7 : Value) (s9 : Value) (w : World) (K : Value → World → Prop) (R3 : Value → Value → Value → Value → World → Prop) : Prop := F7_6b s1 s5 s7 s9 w K R3

theorem ok7_6 (R3 : Value → Value → Value → Value → World → Prop) {K : Value → World → Prop} {kn kr : Env → World → Prop} {ke : Nat → Env → World → Prop}
    (hn : ∀ e w, (fun e w => R3 (e 1) (e 5) (e 7) (e 9) w) e w → kn e w) (hr : ∀ e w, endD Try.prog [.tmp 4] K e w → kr e w) (he : ∀ i e w, (blkK 0 (fun e w => F7_3 w K) noE) i e w → ke i e w) :
    ∀ e w, F7_6 (e 1) (e 5) (e 7) (e 9) w K R3 → denL Try.prog (tabOf T7) 123 fuel ((flat (loopB (blkB (nthC (flat (bodyOf Try.f7)) 6)))).drop 3) e w kn kr ke := by
  intro e w h
  unfold F7_6 at h
  have e1 : ∀ (_ : Unit), F7_6b (e 1) (e 5) (e 7) (e 9) w K R3 = denL Try.prog (tabOf T7) 123 fuel ((flat (loopB (blkB (nthC (flat (bodyOf Try.f7)) 6)))).drop 3) e w (fun e w => R3 (e 1) (e 5) (e 7) (e 9) w) (endD Try.prog [.tmp 4] K) (blkK 0 (fun e w => F7_3 w K) noE) := by intro _; kernel_rfl
  exact seg_end (Eq.mp (e1 ()) h) hn hr he

def F7_8b (s1 : Value) (s5 : Value) (s7 : Value) (s9 : Value) (s10 : Value) (w : World) (K : Value → World → Prop) (R3 : Value → Value → Value → Value → World → Prop) (Y0 : Value → Value → Value → Value → World → Prop) : Prop :=
bindP (pFieldAddr 1 s10) fun v2 =>
bindP (ld1 v2 w) fun v3 =>
callP G38 [s5, s7, v3] w fun v5 w4 =>
bindP (uNot v5) fun v6 =>
ifB v6 (
K (.bool false) w4) (
Y0 s1 s5 s7 s9 w4)

def F7_8 (s1 : Value) (s5 : Value) (s7 : Value) (s9 : Value) (s10 : Value) (w : World) (K : Value → World → Prop) (R3 : Value → Value → Value → Value → World → Prop) : Prop := F7_8b s1 s5 s7 s9 s10 w K R3 (fun a1 a5 a7 a9 w => F7_6 a1 a5 a7 a9 w K R3)

theorem ok7_8 (R3 : Value → Value → Value → Value → World → Prop) {K : Value → World → Prop} {kn kr : Env → World → Prop} {ke : Nat → Env → World → Prop}
    (hn : ∀ e w, (fun e w => F7_6 (e 1) (e 5) (e 7) (e 9) w K R3) e w → kn e w) (hr : ∀ e w, endD Try.prog [.tmp 4] K e w → kr e w) (he : ∀ i e w, (blkK 1 (fun e w => F7_6 (e 1) (e 5) (e 7) (e 9) w K R3) (blkK 0 (fun e w => F7_3 w K) noE)) i e w → ke i e w) :
    ∀ e w, F7_8 (e 1) (e 5) (e 7) (e 9) (e 10) w K R3 → denL Try.prog (tabOf T7) 123 fuel ((flat (blkB (nthC (flat (loopB (blkB (nthC (flat (bodyOf Try.f7)) 6)))) 2))).drop 3) e w kn kr ke := by
  intro e w h
  unfold F7_8 at h
  have e1 : ∀ (Y0 : Value → Value → Value → Value → World → Prop), F7_8b (e 1) (e 5) (e 7) (e 9) (e 10) w K R3 Y0 = denL Try.prog (tabOf T7) 123 fuel ((flat (blkB (nthC (flat (loopB (blkB (nthC (flat (bodyOf Try.f7)) 6)))) 2))).drop 3) e w (fun e w => Y0 (e 1) (e 5) (e 7) (e 9) w) (endD Try.prog [.tmp 4] K) (blkK 1 (fun e w => Y0 (e 1) (e 5) (e 7) (e 9) w) (blkK 0 (fun e w => F7_3 w K) noE)) := by intro Y0; kernel_rfl
  exact seg_end (Eq.mp (e1 (fun a1 a5 a7 a9 w => F7_6 a1 a5 a7 a9 w K R3)) h) hn hr he

def F7_7b (s1 : Value) (s5 : Value) (s7 : Value) (s9 : Value) (w : World) (K : Value → World → Prop) (R3 : Value → Value → Value → Value → World → Prop) (Y0 : Value → Value → Value → Value → Value → World → Prop) : Prop :=
bindP (pIndexL 3 s1 s9) fun v7 =>
bindP (ldN 3 v7 w) fun v8 =>
eAlloc Try.prog 62 w fun v10 w9 =>
bindW (st 3 v10 v8 w9) fun w11 =>
bindP (pFieldAddr 0 v10) fun v13 =>
bindP (ld1 v13 w11) fun v14 =>
callP G15 [v14, (.int .i64 4)] w11 fun v16 w15 =>
bindP (bEq Try.prog 3 (.tmp 58) (.const (.int .i64 0)) v16 (.int .i64 0)) fun v17 =>
ifB v17 (
bindP (pFieldAddr 1 v10) fun v18 =>
bindP (ld1 v18 w15.drew) fun v19 =>
bindP (pFieldAddr 2 v10) fun v20 =>
bindP (ld1 v20 w15.drew) fun v21 =>
bindP (pFieldAddr 1 v10) fun v22 =>
bindP (ld1 v22 w15.drew) fun v23 =>
bindP (pFieldAddr 2 v10) fun v24 =>
bindP (ld1 v24 w15.drew) fun v25 =>
callP G28 [s5, v19, v21] w15.drew fun v27 w26 =>
(fok true (ld1 v22 w26) v23 ∧ fok true (ld1 v24 w26) v25) ∧ (callP G32 [s7, v23, v25] w26 fun v29 w28 =>
bindP (bNe Try.prog 24 (.tmp 86) (.tmp 92) v27 v29) fun v30 =>
ifB v30 (
K (.bool false) w28) (
Y0 s1 s5 s7 s9 v10 w28))) (
bindP (bEq Try.prog 3 (.tmp 58) (.const (.int .i64 1)) v16 (.int .i64 1)) fun v31 =>
ifB v31 (
bindP (pFieldAddr 1 v10) fun v32 =>
bindP (ld1 v32 w15.drew) fun v33 =>
bindP (pFieldAddr 1 v10) fun v34 =>
bindP (ld1 v34 w15.drew) fun v35 =>
callP G29 [s5, v33] w15.drew fun v37 w36 =>
fok true (ld1 v34 w36) v35 ∧ (callP G33 [s7, v35] w36 fun v39 w38 =>
bindP (bNe Try.prog 4 (.tmp 99) (.tmp 103) v37 v39) fun v40 =>
ifB v40 (
K (.bool false) w38) (
Y0 s1 s5 s7 s9 v10 w38))) (
bindP (bEq Try.prog 3 (.tmp 58) (.const (.int .i64 2)) v16 (.int .i64 2)) fun v41 =>
ifB v41 (
bindP (pFieldAddr 2 v10) fun v42 =>
bindP (ld1 v42 w15.drew) fun v43 =>
bindP (pFieldAddr 2 v10) fun v44 =>
bindP (ld1 v44 w15.drew) fun v45 =>
callP G35 [s5, v43] w15.drew fun v47 w46 =>
fok true (ld1 v44 w46) v45 ∧ (callP G36 [s7, v45] w46 fun v49 w48 =>
callP G34 [v47, v49] w48 fun v51 w50 =>
bindP (uNot v51) fun v52 =>
ifB v52 (
K (.bool false) w50) (
Y0 s1 s5 s7 s9 v10 w50))) (
callP G37 [s5] w15 fun v54 w53 =>
bindP (bEq Try.prog 46 (.tmp 61) (.const (.pointer none)) v54 (.pointer none)) fun v55 =>
stepM (gd false v55) v54 fun v56 =>
stepM (gd false v55) s7 fun v57 =>
Sx.stepG (gd false v55) (pFieldAddr 1 v10) fun v58 =>
Sx.stepG (gd false v55) (ld1 v58 w53) fun v59 =>
stepE (gd false v55) (fun k => callP G38 [v56, v57, v59] w53 k) w53 fun v61 w60 =>
Sx.stepG (gd false v55) (uNot v61) fun v62 =>
bindP (pPick v55 (.bool true) v62) fun v63 =>
ifB v63 (
K (.bool false) w60) (
bindP (pFieldAddr 1 v10) fun v64 =>
bindP (ld1 v64 w60) fun v65 =>
callP G28 [v54, v65, (.int .i64 5)] w60 fun _ w66 =>
bindP (pFieldAddr 2 v10) fun v68 =>
bindP (ld1 v68 w66) fun v69 =>
callP G35 [v54, v69] w66 fun _ w70 =>
Y0 s1 s5 s7 s9 v10 w70))))

def F7_7 (s1 : Value) (s5 : Value) (s7 : Value) (s9 : Value) (w : World) (K : Value → World → Prop) (R3 : Value → Value → Value → Value → World → Prop) : Prop := F7_7b s1 s5 s7 s9 w K R3 (fun a1 a5 a7 a9 a10 w => F7_8 a1 a5 a7 a9 a10 w K R3)

theorem ok7_7 (R3 : Value → Value → Value → Value → World → Prop) {K : Value → World → Prop} {kn kr : Env → World → Prop} {ke : Nat → Env → World → Prop}
    (hn : ∀ e w, (fun e w => F7_6 (e 1) (e 5) (e 7) (e 9) w K R3) e w → kn e w) (hr : ∀ e w, endD Try.prog [.tmp 4] K e w → kr e w) (he : ∀ i e w, (blkK 1 (fun e w => F7_6 (e 1) (e 5) (e 7) (e 9) w K R3) (blkK 0 (fun e w => F7_3 w K) noE)) i e w → ke i e w) :
    ∀ e w, F7_7 (e 1) (e 5) (e 7) (e 9) w K R3 → denL Try.prog (tabOf T7) 123 fuel ((flat (blkB (nthC (flat (loopB (blkB (nthC (flat (bodyOf Try.f7)) 6)))) 2))).drop 0) e w kn kr ke := by
  intro e w h
  unfold F7_7 at h
  have e1 : ∀ (Y0 : Value → Value → Value → Value → Value → World → Prop), F7_7b (e 1) (e 5) (e 7) (e 9) w K R3 Y0 = denL Try.prog (tabOf T7) 123 fuel (((flat (blkB (nthC (flat (loopB (blkB (nthC (flat (bodyOf Try.f7)) 6)))) 2))).drop 0).take 3) e w (fun e w => Y0 (e 1) (e 5) (e 7) (e 9) (e 10) w) (endD Try.prog [.tmp 4] K) (blkK 1 (fun e w => F7_6 (e 1) (e 5) (e 7) (e 9) w K R3) (blkK 0 (fun e w => F7_3 w K) noE)) := by intro Y0; kernel_rfl
  exact seg 3 (Eq.mp (e1 (fun a1 a5 a7 a9 a10 w => F7_8 a1 a5 a7 a9 a10 w K R3)) h) (fun e w h => ok7_8 R3 hn hr he e w h) hr he

def F7_5 (s1 : Value) (s5 : Value) (s7 : Value) (s9 : Value) (w : World) (K : Value → World → Prop) (R3 : Value → Value → Value → Value → World → Prop) : Prop := F7_7 s1 s5 s7 s9 w K R3

theorem ok7_5 (R3 : Value → Value → Value → Value → World → Prop) {K : Value → World → Prop} {kn kr : Env → World → Prop} {ke : Nat → Env → World → Prop}
    (hn : ∀ e w, (fun e w => R3 (e 1) (e 5) (e 7) (e 9) w) e w → kn e w) (hr : ∀ e w, endD Try.prog [.tmp 4] K e w → kr e w) (he : ∀ i e w, (blkK 0 (fun e w => F7_3 w K) noE) i e w → ke i e w) :
    ∀ e w, F7_5 (e 1) (e 5) (e 7) (e 9) w K R3 → denL Try.prog (tabOf T7) 123 fuel ((flat (loopB (blkB (nthC (flat (bodyOf Try.f7)) 6)))).drop 2) e w kn kr ke := by
  intro e w h
  unfold F7_5 at h
  refine seg_block (id := 1) (body := (blkB (nthC (flat (loopB (blkB (nthC (flat (bodyOf Try.f7)) 6)))) 2))) (l2 := (flat (loopB (blkB (nthC (flat (bodyOf Try.f7)) 6)))).drop 3) (by kernel_rfl) ?_
  exact ok7_7 R3 (fun e w h => ok7_6 R3 hn hr he e w h) hr (blkK_mono (fun e w h => ok7_6 R3 hn hr he e w h) he) e w h

def F7_4b (s1 : Value) (s5 : Value) (s7 : Value) (s9 : Value) (w : World) (_K : Value → World → Prop) (R3 : Value → Value → Value → Value → World → Prop) (Y0 : Value → Value → Value → Value → World → Prop) (Y1 : World → Prop) : Prop :=
bindP (bNe Try.prog 58 (.tmp 38) (.const (.pointer none)) s7 (.pointer none)) fun v72 =>
stepM (gd true v72) s9 fun v73 =>
stepM (gd true v72) s1 fun v74 =>
Sx.stepG (gd true v72) (lenL v74) fun v75 =>
Sx.stepG (gd true v72) (bLt v73 v75) fun v76 =>
bindP (pPick v72 v76 (.bool false)) fun v77 =>
stepM (gd true v77) s9 fun v78 =>
Sx.stepG (gd true v77) (bLt v78 (.int .i64 80)) fun v79 =>
bindP (pPick v77 v79 (.bool false)) fun v80 =>
ifB v80 (
Y0 s1 s5 s7 s9 w) (
Y1 w)

def F7_4 (s1 : Value) (s5 : Value) (s7 : Value) (s9 : Value) (w : World) (K : Value → World → Prop) (R3 : Value → Value → Value → Value → World → Prop) : Prop := F7_4b s1 s5 s7 s9 w K R3 (fun a1 a5 a7 a9 w => F7_5 a1 a5 a7 a9 w K R3) (fun w => F7_3 w K)

theorem ok7_4 (R3 : Value → Value → Value → Value → World → Prop) {K : Value → World → Prop} {kn kr : Env → World → Prop} {ke : Nat → Env → World → Prop}
    (hn : ∀ e w, (fun e w => R3 (e 1) (e 5) (e 7) (e 9) w) e w → kn e w) (hr : ∀ e w, endD Try.prog [.tmp 4] K e w → kr e w) (he : ∀ i e w, (blkK 0 (fun e w => F7_3 w K) noE) i e w → ke i e w) :
    ∀ e w, F7_4 (e 1) (e 5) (e 7) (e 9) w K R3 → denL Try.prog (tabOf T7) 123 fuel ((flat (loopB (blkB (nthC (flat (bodyOf Try.f7)) 6)))).drop 0) e w kn kr ke := by
  intro e w h
  unfold F7_4 at h
  have e1 : ∀ (Y0 : Value → Value → Value → Value → World → Prop) (Y1 : World → Prop), F7_4b (e 1) (e 5) (e 7) (e 9) w K R3 Y0 Y1 = denL Try.prog (tabOf T7) 123 fuel (((flat (loopB (blkB (nthC (flat (bodyOf Try.f7)) 6)))).drop 0).take 2) e w (fun e w => Y0 (e 1) (e 5) (e 7) (e 9) w) (endD Try.prog [.tmp 4] K) (blkK 0 (fun e w => Y1 w) noE) := by intro Y0 Y1; kernel_rfl
  exact seg 2 (Eq.mp (e1 (fun a1 a5 a7 a9 w => F7_5 a1 a5 a7 a9 w K R3) (fun w => F7_3 w K)) h) (fun e w h => ok7_5 R3 hn hr he e w h) hr he

def F7_2L : Nat → Value → Value → Value → Value → World → (Value → World → Prop) → Prop
  | 0, _, _, _, _, _, _ => False
  | n + 1, s1, s5, s7, s9, w, K => F7_4 s1 s5 s7 s9 w K (fun a1 a5 a7 a9 w => F7_2L n a1 a5 a7 a9 w K)

def F7_2 (s1 : Value) (s5 : Value) (s7 : Value) (s9 : Value) (w : World) (K : Value → World → Prop) : Prop := F7_2L fuel s1 s5 s7 s9 w K

theorem ok7_2 {K : Value → World → Prop} {kn kr : Env → World → Prop} {ke : Nat → Env → World → Prop}
    (hn : ∀ e w, (fun e w => K (e 4) w) e w → kn e w) (hr : ∀ e w, endD Try.prog [.tmp 4] K e w → kr e w) (he : ∀ i e w, noE i e w → ke i e w) :
    ∀ e w, F7_2 (e 1) (e 5) (e 7) (e 9) w K → denL Try.prog (tabOf T7) 123 fuel ((flat (bodyOf Try.f7)).drop 6) e w kn kr ke := by
  intro e w h
  unfold F7_2 at h
  refine seg_loop (id := 0) (body := (loopB (blkB (nthC (flat (bodyOf Try.f7)) 6)))) (l2 := (flat (bodyOf Try.f7)).drop 7) (by kernel_rfl) ?_
  refine loop_ok (FL := fun m e w => F7_2L m (e 1) (e 5) (e 7) (e 9) w K) (fr := endD Try.prog [.tmp 4] K) (fe := (blkK 0 (fun e w => F7_3 w K) noE)) (fun _ _ h => h) ?_ hr (blkK_mono (fun e w h => ok7_3 hn hr he e w h) he) fuel e w h
  intro m e w h
  have h : F7_2L (m + 1) (e 1) (e 5) (e 7) (e 9) w K := h
  rw [F7_2L] at h
  exact ok7_4 (fun a1 a5 a7 a9 w => F7_2L m a1 a5 a7 a9 w K) (fun _ _ h => h) (fun _ _ h => h) (fun _ _ _ h => h) e w h

def F7_1b (s0 : Value) (s1 : Value) (w : World) (K : Value → World → Prop) (Y0 : Value → Value → Value → Value → World → Prop) : Prop :=
callP G26 [s0] w fun v82 w81 =>
bindP (pTuple v82 0) fun v83 =>
bindP (pTuple v82 1) fun v84 =>
callP G31 [s0] w81 fun v86 w85 =>
bindP (pTuple v86 0) fun v87 =>
bindP (pTuple v86 1) fun v88 =>
bindP (bNe Try.prog 24 (.tmp 22) (.tmp 23) v84 v88) fun v89 =>
stepM (gd false v89) v83 fun v90 =>
Sx.stepG (gd false v89) (bEq Try.prog 46 (.tmp 26) (.const (.pointer none)) v90 (.pointer none)) fun v91 =>
stepM (gd false v89) v87 fun v92 =>
Sx.stepG (gd false v89) (bEq Try.prog 58 (.tmp 28) (.const (.pointer none)) v92 (.pointer none)) fun v93 =>
Sx.stepG (gd false v89) (bNe Try.prog 4 (.tmp 27) (.tmp 29) v91 v93) fun v94 =>
bindP (pPick v89 (.bool true) v94) fun v95 =>
bindP (pPick v95 (.bool true) (.bool false)) fun v96 =>
stepE (gd false v96) (fun k => callP G27 [] w85 k) w85 fun v98 w97 =>
Sx.stepG (gd false v96) (uNot v98) fun v99 =>
bindP (pPick v96 (.bool true) v99) fun v100 =>
ifB v100 (
K (.bool false) w97) (
Y0 s1 v83 v87 (.int .i64 0) w97)

def F7_1 (s0 : Value) (s1 : Value) (w : World) (K : Value → World → Prop) : Prop := F7_1b s0 s1 w K (fun a1 a5 a7 a9 w => F7_2 a1 a5 a7 a9 w K)

theorem ok7_1 {K : Value → World → Prop} {kn kr : Env → World → Prop} {ke : Nat → Env → World → Prop}
    (hn : ∀ e w, (fun e w => K (e 4) w) e w → kn e w) (hr : ∀ e w, endD Try.prog [.tmp 4] K e w → kr e w) (he : ∀ i e w, noE i e w → ke i e w) :
    ∀ e w, F7_1 (e 0) (e 1) w K → denL Try.prog (tabOf T7) 123 fuel ((flat (bodyOf Try.f7)).drop 0) e w kn kr ke := by
  intro e w h
  unfold F7_1 at h
  have e1 : ∀ (Y0 : Value → Value → Value → Value → World → Prop), F7_1b (e 0) (e 1) w K Y0 = denL Try.prog (tabOf T7) 123 fuel (((flat (bodyOf Try.f7)).drop 0).take 6) e w (fun e w => Y0 (e 1) (e 5) (e 7) (e 9) w) (endD Try.prog [.tmp 4] K) noE := by intro Y0; kernel_rfl
  exact seg 6 (Eq.mp (e1 (fun a1 a5 a7 a9 w => F7_2 a1 a5 a7 a9 w K)) h) (fun e w h => ok7_2 hn hr he e w h) hr he

def F7 (x0 : Value) (x1 : Value) (w : World) (K : Value → World → Prop) : Prop := F7_1 x0 x1 w K

def G7 : FnT := fun args w K => on2 (fun x0 x1 => F7 x0 x1 w K) args
theorem c7 {x0 x1 : Value} {w : World} {K : Value → World → Prop} (h : F7 x0 x1 w K) : callP G7 [x0, x1] w K := callP_intro (on2_mk (p := fun x0 x1 => F7 x0 x1 w K) h)
theorem ok7 : OkF Try.prog 7 G7 := by
  refine okF_of (tab_ok (l := T7) ⟨ok15, ok26, ok27, ok28, ok29, ok31, ok32, ok33, ok34, ok35, ok36, ok37, ok38, trivial⟩) mixed (n := fuel) Try.func7 Try.call7 fun args w K h => ?_
  obtain ⟨x0, x1, rfl, hh⟩ := of_on2 h
  unfold F7 at hh
  exact fnD_list (c := bodyOf Try.f7) (by kernel_rfl) (by kernel_rfl) (ok7_1 (fun _ _ h => h) (fun _ _ h => h) (fun _ _ _ h => h) (initE [x0, x1]) w hh)

end Go.Proofs.Gong

/- Hp3 -/
namespace Go.Proofs.Gong
open Go Go.Sx Go.Proofs
set_option maxRecDepth 100000
@[reducible] def cIt (x : It) : List Value := [.int .i64 x.1, .int .i64 x.2]
theorem CIt : Cod cIt 2 := ⟨fun _ => rfl, fun _ => rfl, by omega⟩
def ekI (n : Int) : Value := .int .i64 n
def evI (n : Int) : Value := .int .i64 n
theorem Kint : KeyT Try.prog 3 ekI := .int (by kernel_rfl)
def HeapI (v : Value) (n : Int) (l : List It) (m : Pl) : HP := HEx fun p => HEx fun sv => HEx fun mv => HPr (v = ptr p) (HS [Cl p #[.int .i64 n, sv, mv] 126, LsH cIt 2 55 sv l, MapH ekI evI mv m])
section
variable {w0 w : World} {L : List HP} {K : Value → World → Prop} {v : Value} {n : Int} {l : List It} {m : Pl}
theorem heapI_iff : Sat w0 (HeapI v n l m :: L) w ↔ ∃ p sv mv, v = ptr p ∧ Sat w0 (Cl p #[.int .i64 n, sv, mv] 126 :: LsH cIt 2 55 sv l :: MapH ekI evI mv m :: L) w := by
  simp only [HeapI, Sat.ex_iff, Sat.pr_iff, Sat.hs_iff, List.cons_append, List.nil_append]
theorem heapI_mk {p : Nat} {sv mv : Value} (h : Sat w0 (Cl p #[.int .i64 n, sv, mv] 126 :: LsH cIt 2 55 sv l :: MapH ekI evI mv m :: L) w) : Sat w0 (HeapI (ptr p) n l m :: L) w := heapI_iff.2 ⟨p, sv, mv, rfl, h⟩
theorem put_spec {i : Nat} {x : It} (h : Sat w0 (HeapI v n l m :: L) w) (hi : i < l.length) (hK : ∀ w', Sat w0 (HeapI v n (l.set i x) (aSet x.1 i m) :: L) w' → K (.tuple #[]) w') :
    callP G76 [v, .int .i64 i, .agg (cIt x).toArray] w K := by
  refine c76 ?_
  unfold F76
  obtain ⟨p, sv, mv, hv, hs⟩ := heapI_iff.1 h; subst hv
  refine eBox_sat hs fun q w1 h1 => ?_
  have hp := h1.f1.cl
  have hx := h1.drew.cl
  simp [ptr, cell_of hp]
  rw [ldN_of hx (by simp [cIt])]
  have h2 := h1.drew.f2
  have h3 := h1.f2
  simp [ls_ix h2 hi]
  refine ls_st CIt h2 hi x (by simp [cIt, Value.cells]) fun w2 g2 => ?_
  have g3 := g2.f2
  have g1 := g2.f1
  simp [cell_of g3.cl]
  have hq := g1.cl
  simp [cell_of hq, cIt]
  refine eMapSet_sat g2.drew.f3 Kint um124 x.1 (i : Int) fun w3 g4 => ?_
  refine hK _ (heapI_mk (p := p) (sv := sv) (mv := mv) ?_)
  exact g4.pick [3, 1, 0] [2] 4 (by decide) (by simp)
theorem nan_spec {a : Int} (hK : K (.bool false) w) : callP G139 [.int .i64 a] w K := by
  refine c139 ?_
  unfold F139
  simpa using hK
theorem cmp_spec {a b : Int} (hK : K (.int .i64 (if a < b then -1 else if b < a then 1 else 0)) w) : callP G117 [.int .i64 a, .int .i64 b] w K := by
  refine c117 ?_
  unfold F117
  refine nan_spec (nan_spec ?_)
  simp
  by_cases h1 : a < b
  · simp [h1] at hK ⊢; exact hK
  · by_cases h2 : b < a
    · simp [h1, h2] at hK ⊢; exact hK
    · simp [h1, h2] at hK ⊢; exact hK
theorem or_loop {s : Value} {cs : List Int} (hr : Rd w 1 s cs.length (cs.flatMap cI)) (hlen : cs.length < 1000) (hK : K (.int .i64 ((cs.find? (fun c => decide (c ≠ 0))).getD 0)) w) :
    ∀ (d i : Nat), cs.length - i < d → i ≤ cs.length → (∀ c ∈ cs.take i, c = 0) → F116_2L d (.int .i64 0) s (.int .i64 cs.length) (.int .i64 i) w K := by
  intro d
  induction d with
  | zero => intro i hd; omega
  | succ d ih =>
    intro i hd hi h0
    rw [F116_2L]
    unfold F116_2b
    by_cases hlt : i < cs.length
    · have e1 := rd_ld1 (g := fun c => .int .i64 c) hr hlt
      simp [hlt, ix_el hr hlt, e1]
      by_cases hc : cs[i] = 0
      · simp [hc, wrap_id (show -9223372036854775808 ≤ (i : Int) + 1 ∧ (i : Int) + 1 ≤ 9223372036854775807 by omega)]
        refine ih (i + 1) (by omega) (by omega) fun c hc' => ?_
        rw [List.take_succ_eq_append_getElem hlt] at hc'
        rcases List.mem_append.1 hc' with h | h
        · exact h0 c h
        · simp at h; rw [h, hc]
      · simp [hc]
        have : cs.find? (fun c => decide (c ≠ 0)) = some cs[i] := by
          rw [List.find?_eq_some_iff_getElem]
          refine ⟨by simpa using hc, i, hlt, rfl, fun j hj => ?_⟩
          have := h0 cs[j] (by rw [List.mem_take_iff_getElem]; exact ⟨j, by omega, rfl⟩)
          simp [this]
        rw [this] at hK; exact hK
    · have : ¬ ((i : Int) < cs.length) := by omega
      simp [this, F116_3, F116_3b]
      have : cs.find? (fun c => decide (c ≠ 0)) = none := by
        rw [List.find?_eq_none]
        intro c hc
        rw [List.take_of_length_le (by omega)] at h0
        simp [h0 c hc]
      rw [this] at hK; exact hK
theorem or_spec {s : Value} {cs : List Int} (hr : Rd w 1 s cs.length (cs.flatMap cI)) (hlen : cs.length < 1000) (hK : K (.int .i64 ((cs.find? (fun c => decide (c ≠ 0))).getD 0)) w) : callP G116 [s] w K := by
  refine c116 ?_
  unfold F116 F116_1 F116_1b
  simp [hr.len]
  exact or_loop hr hlen hK fuel 0 (by unfold fuel; omega) (by omega) (by simp)
def ordV (x y : It) : Int := if itLt x y then -1 else if itLt y x then 1 else 0
theorem ord_find (x y : It) : (([if x.2 < y.2 then (-1 : Int) else if y.2 < x.2 then 1 else 0, if x.1 < y.1 then (-1 : Int) else if y.1 < x.1 then 1 else 0] : List Int).find? (fun c => decide (c ≠ 0))).getD 0 = ordV x y := by
  unfold ordV itLt
  by_cases a1 : x.2 < y.2
  · simp [a1]
  · by_cases a2 : y.2 < x.2
    · have : ¬ x.2 = y.2 := by omega
      simp [a1, a2, this]
    · have a3 : x.2 = y.2 := by omega
      by_cases b1 : x.1 < y.1
      · simp [a3, b1]
      · by_cases b2 : y.1 < x.1
        · simp [a3, b1, b2]
        · simp [a3, b1, b2]
theorem order_spec {x y : It} (h : Sat w0 L w) (hK : ∀ w', Sat w0 L w' → K (.int .i64 (ordV x y)) w') : callP G81 [.agg (cIt x).toArray, .agg (cIt y).toArray] w K := by
  refine c81 ?_
  unfold F81
  refine eBox_sat h fun p w1 h1 => ?_
  refine eBox_sat h1 fun q w2 h2 => ?_
  have hp := h2.f1.cl
  have hq := h2.cl
  simp only [cIt, cells_agg] at hp hq
  simp [ptr, cell_of hp, cell_of hq]
  refine cmp_spec ?_
  refine ⟨by simp [cell_of hp, cell_of hq], ?_⟩
  refine cmp_spec ?_
  have e := ord_find x y
  generalize (if x.2 < y.2 then (-1 : Int) else if y.2 < x.2 then 1 else 0) = a at *
  generalize (if x.1 < y.1 then (-1 : Int) else if y.1 < x.1 then 1 else 0) = b at *
  refine ls_lit (f := cI) (es := 1) (m := [a, b]) (c := #[.int .i64 a, .int .i64 b]) CI h2.drew u22 (by kernel_rfl) rfl fun s w3 h3 => ?_
  refine or_spec (ls_rd h3) (by simp) ?_
  rw [e]
  exact hK _ h3.drop.drop.drop
theorem ordV_neg (x y : It) : ordV x y < 0 ↔ itLt x y = true := by unfold ordV; split <;> (try split) <;> simp_all
theorem ordV_pos (x y : It) : ordV x y ≤ 0 ↔ itLt y x = false := by
  unfold ordV
  split
  · rename_i h; have := itSWO.asym _ _ h; simp [this]
  · split <;> simp_all
end
end Go.Proofs.Gong

/- Hp4 -/
namespace Go.Proofs.Gong
open Go Go.Sx Go.Proofs
set_option maxRecDepth 100000
section
variable {w0 w : World} {L : List HP} {K : Value → World → Prop} {v : Value} {n : Int} {l : List It} {m : Pl}
theorem half_nat {i : Nat} (h : 0 < i) (hb : i < 2 ^ 62) : IntKind.i64.wrap ((i : Int) - 1) = ((i - 1 : Nat) : Int) ∧ IntKind.i64.wrap (((i - 1 : Nat) : Int).tdiv 2) = (((i - 1) / 2 : Nat) : Int) := by
  constructor
  · rw [wrap_id (by omega)]; omega
  · have : ((i - 1 : Nat) : Int).tdiv 2 = (((i - 1) / 2 : Nat) : Int) := rfl
    rw [this, wrap_id (by omega)]
theorem ldx {q : Nat} {x : It} {ty : TypeId} (h : w.heap[q]? = some (.cells (cIt x).toArray ty (0, 0))) : ldN 2 (.pointer (some ⟨q, 0, none⟩)) w = some (.agg (cIt x).toArray) := by
  rw [ldN_of h (by simp [cIt])]; simp [cIt]
theorem up_loop {p q : Nat} {x : It} : ∀ (i : Nat) (d : Nat) (w : World) (l : List It) (m : Pl), i < d → i < l.length → l.length < 2 ^ 62 → Sat w0 (HeapI (ptr p) n l m :: Cl q (cIt x).toArray 55 :: L) w →
    (∀ w', Sat w0 (HeapI (ptr p) n (upL x l m i).1 (upL x l m i).2 :: L) w' → K (.tuple #[]) w') → F77_2L d (ptr p) (.int .i64 i) (ptr q) w K := by
  intro i
  induction i using Nat.strongRecOn with
  | ind i ih =>
    intro d w l m hd hi hlen h hK
    obtain ⟨d, rfl⟩ : ∃ d', d = d' + 1 := ⟨d - 1, by omega⟩
    rw [F77_2L]
    unfold F77_2b
    rw [upL] at hK
    have stop : ∀ (w : World), Sat w0 (HeapI (ptr p) n l m :: Cl q (cIt x).toArray 55 :: L) w → (∀ w', Sat w0 (HeapI (ptr p) n (l.set i x) (aSet x.1 i m) :: L) w' → K (.tuple #[]) w') → F77_3 (ptr p) (.int .i64 i) (ptr q) w K := by
      intro w h hK
      unfold F77_3 F77_3b
      have hq := h.f1.cl
      simp only [ptr]
      rw [ldx hq]
      simp only [bindP_some]
      exact put_spec h hi fun w' h' => hK w' h'.f1.drop
    by_cases h0 : 0 < i
    · simp only [h0, dif_pos] at hK
      obtain ⟨e1, e2⟩ := half_nat h0 (by omega)
      have e2' : IntKind.i64.wrap (((i - 1 : Nat) : Int) / 2) = (((i - 1) / 2 : Nat) : Int) := e2
      have hal : (i - 1) / 2 < l.length := by omega
      have hy : l[(i - 1) / 2]? = some l[(i - 1) / 2] := List.getElem?_eq_getElem hal
      rw [hy] at hK
      simp only at hK
      have hlt' : (i - 1) / 2 < i := by omega
      generalize (i - 1) / 2 = a at *
      obtain ⟨p', sv, mv, he, hs⟩ := heapI_iff.1 h
      obtain rfl : p = p' := by simpa [ptr] using he
      have hp := hs.drew.cl
      have hq := h.drew.f1.cl
      have hl := hs.drew.f1
      simp [h0, ptr, e1, bQuo_int, e2', cell_of hs.cl, ls_ix hl hal, ls_ld CIt hl hal]
      rw [ldx hq]
      simp only [bindP_some]
      refine order_spec h.drew fun w1 h1 => ?_
      by_cases hlt : itLt x l[a] = true
      · rw [if_pos hlt] at hK
        have : ¬ (ordV l[a] x ≤ 0) := fun e => by rw [ordV_pos] at e; rw [hlt] at e; cases e
        simp [this]
        obtain ⟨p', sv, mv, he, hs⟩ := heapI_iff.1 h1
        obtain rfl : p = p' := by simpa [ptr] using he
        have hl := hs.f1
        simp [cell_of hs.cl, ls_ix hl hal, ls_ld CIt hl hal]
        refine put_spec h1 hi fun w2 h2 => ?_
        exact ih a hlt' d w2 _ _ (by omega) (by simpa using hal) (by simpa using hlen) h2 hK
      · rw [if_neg hlt] at hK
        have : ordV l[a] x ≤ 0 := by rw [ordV_pos]; simpa using hlt
        simp [this]
        exact stop _ h1 hK
    · simp only [h0, dif_neg, not_false_eq_true] at hK
      have : i = 0 := by omega
      subst this
      simp
      exact stop _ h hK
theorem up_spec {p i : Nat} {x : It} (h : Sat w0 (HeapI (ptr p) n l m :: L) w) (hx : l[i]? = some x) (hlen : l.length < 2 ^ 62) (hK : ∀ w', Sat w0 (HeapI (ptr p) n (upL x l m i).1 (upL x l m i).2 :: L) w' → K (.tuple #[]) w') :
    callP G77 [ptr p, .int .i64 i] w K := by
  refine c77 ?_
  unfold F77 F77_1 F77_1b
  obtain ⟨hi, hx'⟩ := List.getElem?_eq_some_iff.1 hx
  obtain ⟨p', sv, mv, he, hs⟩ := heapI_iff.1 h
  obtain rfl : p = p' := by simpa [ptr] using he
  have hl := hs.f1
  simp [ptr, cell_of hs.cl, ls_ix hl hi, ls_ld CIt hl hi, hx']
  refine eAlloc_sat h z55 fun q w1 h1 => ?_
  refine bindW_stN h1 (by simp [cIt]) (by simp [cIt]) (by simp) fun w2 h2 => ?_
  have e : wr (Value.agg #[(.int .i64 0), (.int .i64 0)]).cells 0 (Value.agg (cIt x).toArray).cells.toList = (cIt x).toArray := by simp [wr, cIt]
  rw [e] at h2
  exact up_loop i fuel w2 l m (by unfold fuel; omega) hi hlen h2.f1 hK
theorem kid_nat {i : Nat} (hb : i < 2 ^ 61) : IntKind.i64.wrap (2 * (i : Int)) = ((2 * i : Nat) : Int) ∧ IntKind.i64.wrap (((2 * i : Nat) : Int) + 1) = ((2 * i + 1 : Nat) : Int) ∧ IntKind.i64.wrap (((2 * i + 1 : Nat) : Int) + 1) = ((2 * i + 2 : Nat) : Int) := by
  refine ⟨?_, ?_, ?_⟩ <;> rw [wrap_id (by omega)] <;> omega
theorem down_loop {p q : Nat} {x : It} : ∀ (d i : Nat) (w : World) (l : List It) (m : Pl), l.length - i < d → i < l.length → l.length < 2 ^ 60 → Sat w0 (HeapI (ptr p) n l m :: Cl q (cIt x).toArray 55 :: L) w →
    (∀ w', Sat w0 (HeapI (ptr p) n (downL x l m i).1 (downL x l m i).2 :: L) w' → K (.tuple #[]) w') → F78_2L d (ptr p) (.int .i64 i) (ptr q) w K := by
  intro d
  induction d with
  | zero => intro i w l m hd; omega
  | succ d ih =>
    intro i w l m hd hi hlen h hK
    rw [F78_2L]
    unfold F78_4 F78_5 F78_5b
    rw [downL] at hK
    have stop : ∀ (w : World), Sat w0 (HeapI (ptr p) n l m :: Cl q (cIt x).toArray 55 :: L) w → (∀ w', Sat w0 (HeapI (ptr p) n (l.set i x) (aSet x.1 i m) :: L) w' → K (.tuple #[]) w') → F78_3 (ptr p) (.int .i64 i) (ptr q) w K := by
      intro w h hK
      unfold F78_3 F78_3b
      have hq := h.f1.cl
      simp only [ptr]
      rw [ldx hq]
      simp only [bindP_some]
      exact put_spec h hi fun w' h' => hK w' h'.f1.drop
    obtain ⟨e1, e2, e3⟩ := kid_nat (i := i) (by omega)
    obtain ⟨p', sv, mv, he, hs⟩ := heapI_iff.1 h
    obtain rfl : p = p' := by simpa [ptr] using he
    have hl := hs.f1
    by_cases hk : 2 * i + 1 < l.length
    · simp only [hk, dif_pos] at hK
      have hy : l[2 * i + 1]? = some l[2 * i + 1] := List.getElem?_eq_getElem hk
      have nk : ¬ ((l.length : Int) ≤ ((2 * i + 1 : Nat) : Int)) := by omega
      -- what stands behind the choice of the kid
      have go : ∀ (c : Nat) (w : World), kidOf l i = c → c < l.length → Sat w0 (HeapI (ptr p) n l m :: Cl q (cIt x).toArray 55 :: L) w →
          F78_6 (ptr p) (.int .i64 i) (ptr q) (.int .i64 c) w K (fun a0 a1 a4 w => F78_2L d a0 a1 a4 w K) := by
        intro c w hc hcl h
        have hgt := kidOf_gt l i
        rw [hc] at hK hgt
        have hyc : l[c]? = some l[c] := List.getElem?_eq_getElem hcl
        rw [hyc] at hK
        simp only at hK
        unfold F78_6 F78_6b
        obtain ⟨p', sv, mv, he, hs⟩ := heapI_iff.1 h
        obtain rfl : p = p' := by simpa [ptr] using he
        have hq := h.drew.f1.cl
        have hl := hs.drew.f1
        simp only [ptr]
        rw [ldx hq]
        simp [cell_of hs.cl, ls_ix hl hcl, ls_ld CIt hl hcl]
        refine order_spec h.drew fun w1 h1 => ?_
        by_cases hlt : itLt l[c] x = true
        · rw [if_pos hlt] at hK
          have : ¬ (ordV x l[c] ≤ 0) := fun e => by rw [ordV_pos] at e; rw [hlt] at e; cases e
          simp [this]
          obtain ⟨p', sv, mv, he, hs⟩ := heapI_iff.1 h1
          obtain rfl : p = p' := by simpa [ptr] using he
          have hl := hs.f1
          simp [cell_of hs.cl, ls_ix hl hcl, ls_ld CIt hl hcl]
          refine put_spec h1 hi fun w2 h2 => ?_
          exact ih c w2 _ _ (by simp; omega) (by simpa using hcl) (by simpa using hlen) h2 hK
        · rw [if_neg hlt] at hK
          have : ordV x l[c] ≤ 0 := by rw [ordV_pos]; simpa using hlt
          simp [this]
          exact stop _ h1 hK
      by_cases hk2 : 2 * i + 2 < l.length
      · have hz : l[2 * i + 2]? = some l[2 * i + 2] := List.getElem?_eq_getElem hk2
        have nk2 : ((2 * i + 2 : Nat) : Int) < (l.length : Int) := by omega
        have hld := hs.drew.f1
        have ix1 := ls_ix hld hk
        have ix2 := ls_ix hld hk2
        have ld1' := ls_ld CIt hld hk
        have ld2' := ls_ld CIt hld hk2
        simp only [ptr, pNil_ptr, bindP_some, pFieldAddr_ptr, ld1_ptr, bMul_int, bAdd_int, e1, e2, e3, Nat.zero_add, cell_drew, cell_of hs.cl, ls_len hl, bGe_int, bLt_int, stepM_true, stepG_true, stepE_true, gd_true, ge_iff_le, nk, nk2, decide_true, decide_false, ifB_false, ifB_true, ix1, ix2, ld1', ld2',
          List.getElem?_toArray, List.getElem?_cons_succ, List.getElem?_cons_zero]
        refine order_spec h.drew fun w1 h1 => ?_
        have hkid : kidOf l i = if itLt l[2 * i + 2] l[2 * i + 1] then 2 * i + 2 else 2 * i + 1 := by unfold kidOf; rw [hy, hz]
        by_cases hlt : itLt l[2 * i + 2] l[2 * i + 1] = true
        · have : ordV l[2 * i + 2] l[2 * i + 1] < 0 := (ordV_neg _ _).2 hlt
          simp only [bLt_int, this, decide_true, bindP_some, pPick_true, ifB_true, stepG_true, e3, bAdd_int]
          exact go (2 * i + 2) w1 (by rw [hkid, if_pos hlt]) hk2 h1
        · have : ¬ (ordV l[2 * i + 2] l[2 * i + 1] < 0) := fun e => hlt ((ordV_neg _ _).1 e)
          simp only [bLt_int, this, decide_false, bindP_some, pPick_true, ifB_false, stepG_true, e3, bAdd_int]
          exact go (2 * i + 1) w1 (by rw [hkid, if_neg hlt]) hk h1
      · have nk2 : ¬ (((2 * i + 2 : Nat) : Int) < (l.length : Int)) := by omega
        have hkid : kidOf l i = 2 * i + 1 := by unfold kidOf; rw [hy, List.getElem?_eq_none (l := l) (i := 2 * i + 2) (by omega)]
        simp only [ptr, pNil_ptr, bindP_some, pFieldAddr_ptr, ld1_ptr, bMul_int, bAdd_int, e1, e2, e3, Nat.zero_add, cell_drew, cell_of hs.cl, ls_len hl, bGe_int, bLt_int, stepM_false, stepG_false, stepE_false, gd_true, ge_iff_le, nk, nk2, decide_false, ifB_false, pPick_false,
          List.getElem?_toArray, List.getElem?_cons_succ, List.getElem?_cons_zero]
        exact go (2 * i + 1) _ hkid hk h.drew
    · simp only [hk, dif_neg, not_false_eq_true] at hK
      have nk : (l.length : Int) ≤ ((2 * i + 1 : Nat) : Int) := by omega
      simp only [ptr, pNil_ptr, bindP_some, pFieldAddr_ptr, ld1_ptr, bMul_int, bAdd_int, e1, e2, Nat.zero_add, cell_of hs.cl, ls_len hl, bGe_int, ge_iff_le, nk, decide_true, ifB_true,
        List.getElem?_toArray, List.getElem?_cons_succ, List.getElem?_cons_zero]
      exact stop _ h hK
theorem down_spec {p i : Nat} {x : It} (h : Sat w0 (HeapI (ptr p) n l m :: L) w) (hx : l[i]? = some x) (hlen : l.length < 2 ^ 60) (hK : ∀ w', Sat w0 (HeapI (ptr p) n (downL x l m i).1 (downL x l m i).2 :: L) w' → K (.tuple #[]) w') :
    callP G78 [ptr p, .int .i64 i] w K := by
  refine c78 ?_
  unfold F78 F78_1 F78_1b
  obtain ⟨hi, hx'⟩ := List.getElem?_eq_some_iff.1 hx
  obtain ⟨p', sv, mv, he, hs⟩ := heapI_iff.1 h
  obtain rfl : p = p' := by simpa [ptr] using he
  have hl := hs.f1
  simp [ptr, cell_of hs.cl, ls_ix hl hi, ls_ld CIt hl hi, hx']
  refine eAlloc_sat h z55 fun q w1 h1 => ?_
  refine bindW_stN h1 (by simp [cIt]) (by simp [cIt]) (by simp) fun w2 h2 => ?_
  have e : wr (Value.agg #[(.int .i64 0), (.int .i64 0)]).cells 0 (Value.agg (cIt x).toArray).cells.toList = (cIt x).toArray := by simp [wr, cIt]
  rw [e] at h2
  exact down_loop fuel i w2 l m (by unfold fuel; omega) hi hlen h2.f1 hK
end
end Go.Proofs.Gong

/- Hp5 -/
namespace Go.Proofs.Gong
open Go Go.Sx Go.Proofs
set_option maxRecDepth 100000
def HeapH (v : Value) (n : Int) (M : List It) : HP := HEx fun l => HEx fun m => HPr (HRep l m M ∧ (l.length : Int) ≤ n ∧ n ≤ 65536) (HeapI v n l m)
section
variable {w0 w : World} {L : List HP} {K : Value → World → Prop} {v : Value} {n : Int} {l : List It} {m : Pl} {M : List It}
theorem heap_iff : Sat w0 (HeapH v n M :: L) w ↔ ∃ l m, (HRep l m M ∧ (l.length : Int) ≤ n ∧ n ≤ 65536) ∧ Sat w0 (HeapI v n l m :: L) w := by
  simp only [HeapH, Sat.ex_iff, Sat.pr_iff]
theorem heap_mk (R : HRep l m M) (h1 : (l.length : Int) ≤ n) (h2 : n ≤ 65536) (h : Sat w0 (HeapI v n l m :: L) w) : Sat w0 (HeapH v n M :: L) w := heap_iff.2 ⟨l, m, ⟨R, h1, h2⟩, h⟩
theorem heapI_nd (h : Sat w0 (HeapI v n l m :: L) w) : (m.map Prod.fst).Nodup := by
  obtain ⟨p, sv, mv, _, hs⟩ := heapI_iff.1 h
  exact map_nd hs.f2
theorem len_spec (h : Sat w0 (HeapH v n M :: L) w) (hK : K (.int .i64 M.length) w) : callP G75 [v] w K := by
  refine c75 ?_
  unfold F75
  obtain ⟨l, m, ⟨R, _⟩, h⟩ := heap_iff.1 h
  obtain ⟨p, sv, mv, rfl, hs⟩ := heapI_iff.1 h
  simp [ptr, cell_of hs.cl, ls_len hs.f1]
  rw [R.p.length_eq]; exact hK
def getR (id : Int) (M : List It) : Value := .tuple #[.int .i64 ((getM id M).getD 0), .bool (getM id M).isSome]
theorem get_spec {id : Int} (h : Sat w0 (HeapH v n M :: L) w) (hK : K (getR id M) w) : callP G85 [v, .int .i64 id] w K := by
  refine c85 ?_
  unfold F85
  obtain ⟨l, m, ⟨R, _⟩, h⟩ := heap_iff.1 h
  obtain ⟨p, sv, mv, rfl, hs⟩ := heapI_iff.1 h
  have lk := look2 (k := id) hs.f2 Kint um124 z3
  simp only [ekI] at lk
  simp [ptr, cell_of hs.cl, lk]
  rcases R.get id with ⟨k, t, h1, h2, h3⟩ | ⟨h1, h2, _⟩
  · have hk : k < l.length := (List.getElem?_eq_some_iff.1 h2).1
    obtain ⟨b, o, e1, _, e3⟩ := (ls_rd hs.f1).elem CIt.len rfl hk (j := .i64)
    have hlk : l[k] = (id, t) := (List.getElem?_eq_some_iff.1 h2).2
    have c1 : w.cell? ⟨b, o + 1, none⟩ = some (.int .i64 t) := by
      rcases e3 1 with h | h
      · rw [h, hlk]; rfl
      · omega
    simp [h1, evI, e1, c1]
    simp [getR, h3] at hK
    exact hK
  · simp [h1]
    simp [getR, h2] at hK
    exact hK
def firstR (M : List It) : Value := .tuple #[.agg (cIt (M.head?.getD (0, 0))).toArray, .bool M.head?.isSome]
theorem first_spec (h : Sat w0 (HeapH v n M :: L) w) (hK : ∀ w', Sat w0 (HeapH v n M :: L) w' → K (firstR M) w') : callP G83 [v] w K := by
  refine c83 ?_
  unfold F83
  obtain ⟨l, m, ⟨R, hn⟩, h⟩ := heap_iff.1 h
  have hf := R.first
  refine eAlloc_sat h z55 fun q w1 h1 => ?_
  obtain ⟨p, sv, mv, rfl, hs⟩ := heapI_iff.1 h1.f1
  have hl := hs.f1
  simp [ptr, cell_of hs.cl, ls_len hl]
  have fin : ∀ (x : It) (k : World → Prop), (∀ w2, ldN 2 (.pointer (some ⟨q, 0, none⟩)) w2 = some (.agg (cIt x).toArray) → Sat w0 (HeapH (ptr p) n M :: L) w2 → k w2) → bindW (st 2 (.pointer (some ⟨q, 0, none⟩)) (.agg (cIt x).toArray) w1) k := by
    intro x k hk
    refine bindW_stN h1 (by simp [cIt]) (by simp [cIt]) (by simp) fun w2 h2 => ?_
    have e : wr (Value.agg #[(.int .i64 0), (.int .i64 0)]).cells 0 (Value.agg (cIt x).toArray).cells.toList = (cIt x).toArray := by simp [wr, cIt]
    rw [e] at h2
    exact hk w2 (ldx h2.cl) (heap_mk R hn.1 hn.2 h2.drop)
  cases l with
  | nil =>
    have e : fBuild Try.prog 55 [] = some (.agg (cIt (0, 0)).toArray) := by kernel_rfl
    simp at hf
    simp [e]
    refine fin (0, 0) _ fun w2 hw h2 => ?_
    rw [hw]
    simp [firstR, ← hf] at hK
    exact hK _ h2
  | cons x l =>
    have e0 := ls_ix hl (i := 0) (by simp)
    have e1 := ls_ld CIt hl (i := 0) (by simp)
    simp at hf e0 e1
    have : ¬ ((l.length : Int) + 1 = 0) := by omega
    simp [this, e0, e1]
    refine fin x _ fun w2 hw h2 => ?_
    rw [hw]
    simp [firstR, ← hf] at hK
    exact hK _ h2
def setR (n id t : Int) (M : List It) : Int × List It :=
  if t < 0 ∨ 2305843009213693952 < t then (1, M) else if getM id M = none ∧ n ≤ M.length then (200, M) else (0, setM id t M)
theorem set2_spec {p i : Nat} {id t : Int} {l0 : List It} (h : Sat w0 (HeapI (ptr p) n l0 m :: L) w) (hi : i < l0.length) (hU : Up (l0.set i (id, t)) i (id, t)) (hI : Idx (l0.set i (id, t)) (aSet id i m)) (hp : (l0.set i (id, t)).Perm (setM id t M)) (hM : Asc M)
    (hn : (l0.length : Int) ≤ n ∧ n ≤ 65536) (hK : ∀ w', Sat w0 (HeapH (ptr p) n (setM id t M) :: L) w' → K (.int .i64 0) w') : F28_2 (ptr p) (.int .i64 id) (.int .i64 t) (.int .i64 i) w K := by
  unfold F28_2 F28_2b
  have e : fBuild Try.prog 55 [(0, .int .i64 id), (1, .int .i64 t)] = some (.agg (cIt (id, t)).toArray) := by kernel_rfl
  rw [e]
  simp only [bindP_some]
  refine put_spec h hi fun w1 h1 => ?_
  have hx : (l0.set i (id, t))[i]? = some (id, t) := by simp [hi]
  refine up_spec h1 hx (by simp; omega) fun w2 h2 => ?_
  obtain ⟨pp, hpl, hg, hgx, f1, f2, f3⟩ := fix_ok hx hU hI
  obtain ⟨p', sv, mv, he, hs⟩ := heapI_iff.1 h2
  obtain rfl : p = p' := by simpa [ptr] using he
  have lk := look1 (k := id) hs.f2 Kint um124 z3
  simp only at hg
  simp only [ekI, hg] at lk
  simp [ptr, cell_of hs.cl, lk, evI]
  refine down_spec h2 hgx (by rw [upL_len]; simp; omega) fun w3 h3 => ?_
  refine hK _ (heap_mk ⟨f2, f1, f3.trans hp, (hM.drop id).ins _⟩ ?_ hn.2 h3)
  have := f3.length_eq
  simp at this; omega
theorem set_spec {id t : Int} (h : Sat w0 (HeapH v n M :: L) w) (hK : ∀ w', Sat w0 (HeapH v n (setR n id t M).2 :: L) w' → K (.int .i64 (setR n id t M).1) w') : callP G28 [v, .int .i64 id, .int .i64 t] w K := by
  refine c28 ?_
  unfold F28 F28_1 F28_1b
  have h0 := h
  obtain ⟨l, m, ⟨R, hn⟩, h⟩ := heap_iff.1 h
  by_cases hr : t < 0 ∨ 2305843009213693952 < t
  · simp only [setR, hr, if_true] at hK
    rcases hr with hr | hr
    · simp [hr]; exact hK _ h0
    · have : ¬ t < 0 := by omega
      simp [this, hr]; exact hK _ h0
  have r1 : ¬ t < 0 := by omega
  have r2 : ¬ 2305843009213693952 < t := by omega
  simp only [setR, hr, if_false] at hK
  obtain ⟨p, sv, mv, rfl, hs⟩ := heapI_iff.1 h
  have lk := look2 (k := id) hs.f2 Kint um124 z3
  simp only [ekI] at lk
  simp [r1, r2, ptr, cell_of hs.cl, lk]
  have hlen := R.p.length_eq
  rcases R.get id with ⟨k, t', h1, h2, h3⟩ | ⟨h1, h2, h3⟩
  · have hk : k < l.length := (List.getElem?_eq_some_iff.1 h2).1
    obtain ⟨u1, u2, u3⟩ := R.put (t' := t) h2
    simp [h3] at hK
    simp [h1, evI]
    exact set2_spec h hk u1 u2 u3 R.s hn hK
  · obtain ⟨u1, u2, u3⟩ := R.add (t' := t) h1
    simp [h1, h2, ls_len hs.f1] at hK ⊢
    by_cases hfull : n ≤ l.length
    · simp [hfull]
      have : n ≤ M.length := by omega
      simp [this] at hK
      exact hK _ h0.drew
    · have : ¬ n ≤ M.length := by omega
      simp [this] at hK
      simp [hfull]
      have e : fBuild Try.prog 55 [] = some (.agg (cIt (0, 0)).toArray) := by kernel_rfl
      rw [e]
      simp only [bindP_some]
      refine ls_lit (f := cIt) (es := 2) (m := [(0, 0)]) (c := (cIt (0, 0)).toArray) CIt hs.drew u52 (by kernel_rfl) (by simp) fun s1 w1 g1 => ?_
      refine ls_app (m := [(0, 0)]) CIt g1.f2 sl52 ss52 (ls_rd g1) (by simp; omega) fun s2 w2 g2 => ?_
      have := ls_one g2
      refine bindW_st g2.f2 (by simp) fun w3 g3 => ?_
      have g4 := g3.pick [0, 1, 3] [2] 4 (by decide) (by simp)
      have g5 : Sat w0 (HeapI (ptr p) n (l ++ [(0, 0)]) m :: L) w3 := heapI_mk (p := p) (sv := s2) (mv := mv) g4
      have es : (l ++ [((0, 0) : It)]).set l.length (id, t) = l ++ [(id, t)] := by simp
      refine set2_spec (M := M) g5 (by simp) (by rw [es]; exact u1) (by rw [es]; exact u2) (by rw [es]; exact u3) R.s ⟨by simp; omega, hn.2⟩ hK
end
end Go.Proofs.Gong

/- Hp6 -/
namespace Go.Proofs.Gong
open Go Go.Sx Go.Proofs
set_option maxRecDepth 100000
section
variable {w0 w : World} {L : List HP} {K : Value → World → Prop} {v : Value} {n : Int} {l : List It} {m : Pl} {M : List It}
theorem drop_spec {id : Int} (h : Sat w0 (HeapH v n M :: L) w) (hK : ∀ w', Sat w0 (HeapH v n (dropM id M) :: L) w' → K (.bool (getM id M).isSome) w') : callP G29 [v, .int .i64 id] w K := by
  refine c29 ?_
  unfold F29 F29_1 F29_1b
  have h0 := h
  obtain ⟨l, m, ⟨R, hn⟩, h⟩ := heap_iff.1 h
  obtain ⟨p, sv, mv, rfl, hs⟩ := heapI_iff.1 h
  have hnd := map_nd hs.f2
  have lk := look2 (k := id) hs.f2 Kint um124 z3
  simp only [ekI] at lk
  simp [ptr, cell_of hs.cl, lk]
  rcases R.get id with ⟨k, t, h1, h2, h3⟩ | ⟨h1, h2, h3⟩
  · have hk : k < l.length := (List.getElem?_eq_some_iff.1 h2).1
    simp [h3] at hK
    simp only [h1, Option.elim, Option.isSome_some, evI, Bool.not_true, ifB_false]
    have hl := hs.f1
    obtain ⟨last, hlast⟩ : ∃ last, last = l.length - 1 := ⟨_, rfl⟩
    have e1 : IntKind.i64.wrap ((l.length : Int) - 1) = (last : Int) := by rw [wrap_id (by omega)]; omega
    have hll : last < l.length := by omega
    have hx : l[l.length - 1]? = some l[last] := by rw [← hlast]; exact List.getElem?_eq_getElem hll
    simp [ls_len hl, e1, ls_ix hl hll, ls_ld CIt hl hll]
    refine eAlloc_sat hs z55 fun q w1 g1 => ?_
    refine bindW_stN g1 (by simp [cIt]) (by simp [cIt]) (by simp) fun w2 g2 => ?_
    have e : wr (Value.agg #[(.int .i64 0), (.int .i64 0)]).cells 0 (Value.agg (cIt l[last]).toArray).cells.toList = (cIt l[last]).toArray := by simp [wr, cIt]
    rw [e] at g2
    obtain ⟨s', es, g3⟩ := ls_sub (lo := 0) (hi := last) (A := none) (H := some (.int .i64 last)) (M := none) CIt g2.f2 .none (.some _ _) (.none _) (by omega) (by omega)
    simp [ptr, cell_of g2.f1.cl, es]
    have := ls_one g3
    refine bindW_st g3.f2 (by simp) fun w3 g4 => ?_
    simp [cell_of g4.cl]
    refine eDelete_sat g4.f3 Kint um124 id fun w4 g5 => ?_
    have g6 := g5.pick [1, 2, 0, 3] [] 4 (by decide) (by simp)
    have etl : l.take last = l.dropLast := by rw [hlast, List.dropLast_eq_take]
    simp only [List.drop_zero, etl] at g6
    have g6 : Sat w0 (Cl p #[.int .i64 n, s', mv] 126 :: LsH cIt 2 55 s' l.dropLast :: MapH ekI evI mv (aDel id m) :: Cl q (cIt l[last]).toArray 55 :: L) w4 := g6
    have g7 : Sat w0 (HeapI (ptr p) n l.dropLast (aDel id m) :: Cl q (cIt l[last]).toArray 55 :: L) w4 := heapI_mk g6
    by_cases hlt : k < last
    · simp [hlt]
      obtain ⟨u1, u2, u3⟩ := R.dropAt hnd h2 hx (by omega)
      have hkd : k < l.dropLast.length := by simp; omega
      rw [ldx g7.f1.cl]
      simp only [bindP_some]
      refine put_spec g7 hkd fun w5 g8 => ?_
      have hxx : (l.dropLast.set k l[last])[k]? = some l[last] := by rw [get_set _ _ _ _ hkd, if_pos rfl]
      refine up_spec g8 hxx (by simp; omega) fun w6 g9 => ?_
      obtain ⟨pp, hpl, hg, hgx, f1, f2, f3⟩ := fix_ok hxx u1 u2
      obtain ⟨p', sv', mv', he, hs9⟩ := heapI_iff.1 g9.drew
      obtain rfl : p = p' := by simpa [ptr] using he
      have lk := look1 (k := l[last].1) hs9.f2 Kint um124 z3
      simp only [ekI, hg] at lk
      have hq := g9.f1.cl
      simp only [cell_drew, cell_of hs9.cl, cell_of hq]
      simp [cell_of (show w6.heap[p]? = _ from hs9.cl), cell_of hq, cIt, lk, evI]
      refine down_spec g9.drew hgx (by rw [upL_len]; simp; omega) fun w7 g10 => ?_
      unfold F29_2 F29_2b
      refine hK _ (heap_mk ⟨f2, f1, f3.trans u3, R.s.drop id⟩ ?_ hn.2 g10.f1.drop)
      have := f3.length_eq
      simp at this; omega
    · simp [hlt]
      have hkl : k = l.length - 1 := by omega
      unfold F29_2 F29_2b
      exact hK _ (heap_mk (R.dropLast hnd (by rw [← hkl]; exact h2)) (by simp; omega) hn.2 g7.f1.drop)
  · simp [h1]
    simp [h2, drop_absent h3] at hK
    exact hK _ h0
def takeM (now : Int) (M : List It) : List It := M.takeWhile fun x => decide (x.2 ≤ now)
def leaveM (now : Int) (M : List It) : List It := M.dropWhile fun x => decide (x.2 ≤ now)
theorem heap_ids (h : Sat w0 (HeapH v n M :: L) w) : (M.map (·.1)).Nodup := by
  obtain ⟨l, m, ⟨R, hn⟩, h⟩ := heap_iff.1 h
  exact R.ids
theorem heap_asc (h : Sat w0 (HeapH v n M :: L) w) : Asc M := by
  obtain ⟨l, m, ⟨R, hn⟩, h⟩ := heap_iff.1 h
  exact R.s
theorem heap_bd (h : Sat w0 (HeapH v n M :: L) w) : (M.length : Int) ≤ n ∧ n ≤ 65536 := by
  obtain ⟨l, m, ⟨R, hn⟩, h⟩ := heap_iff.1 h
  have := R.p.length_eq
  omega
theorem heap_ptr (h : Sat w0 (HeapH v n M :: L) w) : ∃ p, v = ptr p := by
  obtain ⟨l, m, ⟨R, hn⟩, h⟩ := heap_iff.1 h
  obtain ⟨p, _, _, rfl, _⟩ := heapI_iff.1 h
  exact ⟨p, rfl⟩
theorem due_loop {now : Int} {hv : Value} : ∀ (d : Nat) (M out : List It) (w : World) (q : Nat) (s : Value), M.length < d → M.length + out.length ≤ 65536 →
    Sat w0 (HeapH hv n M :: LsH cIt 2 55 s out :: Cl q (cIt (M.head?.getD (0, 0))).toArray 55 :: L) w →
    (∀ w' s', Sat w0 (HeapH hv n (leaveM now M) :: LsH cIt 2 55 s' (out ++ takeM now M) :: L) w' → K s' w') → F35_2L d hv (.int .i64 now) s (ptr q) (.bool M.head?.isSome) w K := by
  intro d
  induction d with
  | zero => intro M out w q s hd; omega
  | succ d ih =>
    intro M out w q s hd hb h hK
    rw [F35_2L]
    unfold F35_2b
    cases M with
    | nil =>
      simp [F35_3, F35_3b]
      refine hK _ _ ?_
      simp [leaveM, takeM]
      exact h.f2.drop
    | cons x M =>
      have hq := h.f2.cl
      simp only [List.head?_cons, Option.getD_some] at hq h
      have hc1 : w.cell? ⟨q, 1, none⟩ = some (.int .i64 x.2) := by rw [cell_of hq]; rfl
      have hc0 : w.cell? ⟨q, 0, none⟩ = some (.int .i64 x.1) := by rw [cell_of hq]; rfl
      by_cases hx : x.2 ≤ now
      · have hids := heap_ids h
        have hd1 : dropM x.1 (x :: M) = M := by
          simp only [List.map_cons, List.nodup_cons] at hids
          have e : dropM x.1 (x :: M) = dropM x.1 M := by simp [dropM]
          rw [e]
          exact drop_absent fun t ht => hids.1 (List.mem_map_of_mem (f := (·.1)) ht)
        simp [ptr, hc1, hc0, hx]
        refine drop_spec h fun w1 h1 => ?_
        rw [hd1] at h1
        rw [ldx h1.f2.cl]
        simp only [bindP_some]
        refine ls_lit (f := cIt) (es := 2) (m := [x]) (c := (cIt x).toArray) CIt h1 u52 (by kernel_rfl) (by simp) fun s1 w2 h2 => ?_
        simp only [List.length_cons] at hb hd
        refine ls_app (m := [x]) CIt h2.f2 sl52 ss52 (ls_rd h2.f1.f1) (by simp; omega) fun s2 w3 h3 => ?_
        have hq3 := h3.f3.cl
        rw [ldx hq3]
        simp only [bindP_some]
        refine eAlloc_sat h3 z55 fun q2 w4 h4 => ?_
        refine bindW_stN h4 (by simp [cIt]) (by simp [cIt]) (by simp) fun w5 h5 => ?_
        have h6 := h5.pick [3, 1, 0] [2, 4] 5 (by decide) (by simp)
        refine first_spec h6 fun w6 h7 => ?_
        simp only [firstR]
        simp [pTuple]
        refine bindW_stN (o := 0) h7.f2 (by simp [cIt]) (by simp [cIt]) (by simp [wr, cIt]) fun w7 h8 => ?_
        have e2 : wr (wr (Value.agg #[(.int .i64 0), (.int .i64 0)]).cells 0 (Value.agg (cIt x).toArray).cells.toList) 0 (Value.agg (cIt (M.head?.getD (0, 0))).toArray).cells.toList = (cIt (M.head?.getD (0, 0))).toArray := by simp [wr, cIt]
        have h9 := h8
        have key := ih M (out ++ [x]) w7 q2 s2 (by omega) (by simp; omega) (by
          have := h9.pick [1, 2, 0] [] 3 (by decide) (by simp)
          rw [← e2]; exact this) fun w' s' h' => hK w' s' (by
          simp only [leaveM, takeM, List.takeWhile_cons, List.dropWhile_cons, hx, decide_true, if_true]
          simpa [leaveM, takeM] using h')
        simpa [ptr] using key
      · simp [ptr, hc1, hx, F35_3, F35_3b]
        refine hK _ _ ?_
        simp [leaveM, takeM, hx]
        exact h.f2.drop
theorem due_spec {now : Int} (h : Sat w0 (HeapH v n M :: L) w) (hK : ∀ s w', Sat w0 (LsH cIt 2 55 s (takeM now M) :: HeapH v n (leaveM now M) :: L) w' → K s w') : callP G35 [v, .int .i64 now] w K := by
  refine c35 ?_
  unfold F35 F35_1 F35_1b
  have hb := heap_bd h
  refine first_spec h fun w1 h1 => ?_
  simp only [firstR]
  simp [pTuple]
  refine eAlloc_sat h1 z55 fun q w2 h2 => ?_
  refine bindW_stN h2 (by simp [cIt]) (by simp [cIt]) (by simp) fun w3 h3 => ?_
  have e : wr (Value.agg #[(.int .i64 0), (.int .i64 0)]).cells 0 (Value.agg (cIt (M.head?.getD (0, 0))).toArray).cells.toList = (cIt (M.head?.getD (0, 0))).toArray := by simp [wr, cIt]
  rw [e] at h3
  refine due_loop fuel M [] w3 q _ (by unfold fuel; omega) (by simp; omega) (ls_nil h3).f2 fun w' s' h' => ?_
  exact hK _ _ (by simpa using h'.f1)
end
end Go.Proofs.Gong

/- Hp7 -/
namespace Go.Proofs.Gong
open Go Go.Sx Go.Proofs
set_option maxRecDepth 100000
section
variable {w0 w : World} {L : List HP} {K : Value → World → Prop} {v : Value} {n : Int} {l : List It} {m : Pl} {M : List It}
theorem new_spec {n : Int} (h : Sat w0 L w) (hK0 : (n < 1 ∨ 65536 < n) → K (.tuple #[.pointer none, .int .i64 1]) w)
    (hK : ∀ p w', 1 ≤ n → n ≤ 65536 → Sat w0 (HeapH (ptr p) n [] :: L) w' → K (.tuple #[ptr p, .int .i64 0]) w') : callP G26 [.int .i64 n] w K := by
  refine c26 ?_
  unfold F26
  by_cases h1 : n < 1
  · simp [h1]; exact hK0 (.inl h1)
  by_cases h2 : 65536 < n
  · simp [h1, h2]; exact hK0 (.inr h2)
  simp [h1, h2]
  refine eMakeMap_sat ekI evI h fun mv w1 g1 => ?_
  have := map_one g1
  obtain ⟨r, es, c, ⟨rfl, _⟩, _⟩ := map_iff.1 g1
  have e : fBuild Try.prog 126 [(0, .int .i64 n), (2, .map (some r))] = some (.agg #[.int .i64 n, .slice none 0 0, .map (some r)]) := by kernel_rfl
  rw [e]
  simp only [bindP_some]
  refine eBox_sat g1 fun p w2 g2 => ?_
  refine hK p w2 (by omega) (by omega) (heap_mk (l := []) (m := []) ⟨⟨by simp [aGet], by simp⟩, fun k h x y hx => by simp at hx, .refl _, by simp [Asc]⟩ (by simp; omega) (by omega) (heapI_mk (p := p) (sv := .slice none 0 0) (mv := .map (some r)) ?_))
  exact (ls_nil g2).f1
theorem cl_spec {s : Value} (h : Sat w0 (LsH cIt 2 55 s l :: L) w) (hlen : l.length ≤ 65536) (hK : ∀ s' w', Sat w0 (LsH cIt 2 55 s' l :: LsH cIt 2 55 s l :: L) w' → K s' w') : callP G79 [s] w K := by
  refine c79 ?_
  unfold F79
  obtain ⟨a, c, rfl, _⟩ := (ls_rd h).cap
  rw [bEq_nils u52]
  simp only [bindP_some]
  cases a with
  | none =>
    simp
    have : l = [] := by
      have hr := ls_rd h
      generalize hcs : l.flatMap cIt = cs at hr
      generalize hn : l.length = k at hr
      cases hr with
      | emp => exact List.eq_nil_of_length_eq_zero hn
    subst this
    exact hK _ _ (ls_nil h)
  | some a =>
    simp
    refine ls_lit (f := cIt) (es := 2) (m := []) (c := #[]) CIt h u52 (by kernel_rfl) (by simp) fun s1 w1 h1 => ?_
    refine ls_app (m := l) CIt h1 sl52 ss52 (ls_rd h1.f1) (by simp; omega) fun s2 w2 h2 => ?_
    exact hK _ _ (by simpa using h2)
theorem mcl_spec {mv : Value} (h : Sat w0 (MapH ekI evI mv m :: L) w) (hK : ∀ v' w', Sat w0 (MapH ekI evI v' m :: MapH ekI evI mv m :: L) w' → K v' w') : callP G84 [mv] w K := by
  refine c84 ?_
  unfold F84
  obtain ⟨r, es, c, ⟨rfl, _⟩, _⟩ := map_iff.1 h
  rw [bEq_nilm um124, fMkI_of um124 (by intro _ h; cases h)]
  simp
  refine gClone_sat h fun v' w1 h1 => ?_
  rw [fAssert_of um124 (by intro _ h; cases h)]
  exact hK _ _ h1
theorem fork_spec (h : Sat w0 (HeapH v n M :: L) w) (hK : ∀ p w', Sat w0 (HeapH (ptr p) n M :: HeapH v n M :: L) w' → K (ptr p) w') : callP G37 [v] w K := by
  refine c37 ?_
  unfold F37
  obtain ⟨l, m, ⟨R, hn⟩, h⟩ := heap_iff.1 h
  obtain ⟨p, sv, mv, rfl, hs⟩ := heapI_iff.1 h
  simp [ptr, cell_of hs.cl]
  refine cl_spec hs.drew.f1 (by omega) fun s1 w1 h1 => ?_
  refine ⟨by simp [cell_of h1.f2.cl], ?_⟩
  refine mcl_spec h1.f3 fun m1 w2 h2 => ?_
  refine ⟨by simp [cell_of h2.f4.cl], ?_⟩
  have o1 := map_one h2
  obtain ⟨r, es, c, ⟨rfl, _⟩, _⟩ := map_iff.1 h2
  obtain ⟨a, cc, rfl, _⟩ := (ls_rd h2.f2).cap
  have e : fBuild Try.prog 126 [(0, .int .i64 n), (1, .slice a l.length cc), (2, .map (some r))] = some (.agg #[.int .i64 n, .slice a l.length cc, .map (some r)]) := by kernel_rfl
  rw [e]
  simp only [bindP_some]
  refine eBox_sat h2 fun q w3 h3 => ?_
  refine hK q w3 (heap_mk R hn.1 hn.2 (heapI_mk (p := q) (sv := .slice a l.length cc) (mv := .map (some r)) ?_))
  have h4 : Sat w0 (Cl p #[.int .i64 n, sv, mv] 126 :: LsH cIt 2 55 sv l :: MapH ekI evI mv m :: Cl q #[.int .i64 n, .slice a l.length cc, .map (some r)] 126 :: LsH cIt 2 55 (.slice a l.length cc) l :: MapH ekI evI (.map (some r)) m :: L) w3 :=
    h3.pick [5, 4, 2, 0, 3, 1] [] 6 (by decide) (by simp)
  have h5 := heap_mk R hn.1 hn.2 (heapI_mk h4)
  have h6 := h5.f3.f3.f3
  exact h6
theorem below_spec {x n : Int} (hn : 0 < n) (hn2 : n < 1000000) (hK : ∀ r : Int, 0 ≤ r → r < n → r = (x.tmod n + n).tmod n → K (.int .i64 r) w) : callP G15 [.int .i64 x, .int .i64 n] w K := by
  refine c15 ?_
  unfold F15
  have h1 := Int.tmod_lt_of_pos x hn
  have h2 : -n < x.tmod n := by
    have := Int.lt_tmod_of_pos x hn
    omega
  have h3 := Int.tmod_nonneg n (show (0 : Int) ≤ x.tmod n + n by omega)
  have h4 := Int.tmod_lt_of_pos (x.tmod n + n) hn
  simp [bRem_int _ _ _ (show n ≠ 0 by omega), wrap_id (show -9223372036854775808 ≤ x.tmod n + n ∧ x.tmod n + n ≤ 9223372036854775807 by omega)]
  exact hK _ h3 h4 rfl
theorem works_spec (h : Sat w0 L w) (hK : ∀ w', Sat w0 L w' → K (.bool true) w') : callP G27 [] w K := by
  refine c27 ?_
  unfold F27
  refine new_spec h (fun h => by omega) fun p w1 _ _ h1 => ?_
  simp [bEq_nilp up46, ptr] at h1 ⊢
  refine set_spec h1 fun w2 h2 => ?_
  have e1 : setR 9 7 20 [] = (0, [(7, 20)]) := by decide
  rw [e1] at h2 ⊢
  simp
  refine set_spec h2 fun w3 h3 => ?_
  have e2 : setR 9 3 10 [(7, 20)] = (0, [(3, 10), (7, 20)]) := by decide
  rw [e2] at h3 ⊢
  simp
  refine set_spec h3 fun w4 h4 => ?_
  have e3 : setR 9 9 20 [(3, 10), (7, 20)] = (0, [(3, 10), (7, 20), (9, 20)]) := by decide
  rw [e3] at h4 ⊢
  simp
  refine due_spec h4 fun s w5 h5 => ?_
  have e4 : takeM 20 [(3, 10), (7, 20), (9, 20)] = [(3, 10), (7, 20), (9, 20)] := by decide
  have e5 : leaveM 20 [(3, 10), (7, 20), (9, 20)] = [] := by decide
  rw [e4, e5] at h5
  have f : ∀ i : Nat, i < 3 → ∃ a, pIndexL 2 s (.int .i64 i) = some (.pointer (some a)) ∧ pFieldAddr 0 (.pointer (some a)) = some (.pointer (some a)) ∧ w5.cell? a = some (.int .i64 ([3, 7, 9].getD i 0)) := by
    intro i hi
    obtain ⟨b, o, e1, _, e3⟩ := (ls_rd h5).elem CIt.len rfl (i := i) (by simpa using hi) (j := .i64)
    refine ⟨⟨b, o, none⟩, e1, by simp, ?_⟩
    rcases e3 0 with h | h
    · rw [Nat.add_zero] at h; rw [h]
      have : i = 0 ∨ i = 1 ∨ i = 2 := by omega
      rcases this with rfl | rfl | rfl <;> rfl
    · omega
  obtain ⟨a0, b0, c0, d0⟩ := f 0 (by omega)
  obtain ⟨a1, b1, c1, d1⟩ := f 1 (by omega)
  obtain ⟨a2, b2, c2, d2⟩ := f 2 (by omega)
  simp at b0 b1 b2 d0 d1 d2
  simp [ls_len h5, b0, c0, d0, b1, c1, d1, b2, c2, d2]
  refine len_spec h5.f1 ?_
  simp
  exact hK _ h5.drop.drop
end
end Go.Proofs.Gong

/- Bk0 -/
namespace Go.Proofs.Gong
open Go Go.Sx Go.Proofs
/-- gongbook.Below -/
def bel (x n : Int) : Int := (x.tmod n + n).tmod n
section
variable {w : World} {K : Value → World → Prop}
theorem Below_spec {x n : Int} (hn : 0 < n) (hn2 : n ≤ 4611686018427387904) (hK : ∀ r : Int, 0 ≤ r → r < n → r = bel x n → K (.int .i64 r) w) : callP G15 [.int .i64 x, .int .i64 n] w K := by
  refine c15 ?_
  unfold F15
  have h1 := Int.tmod_lt_of_pos x hn
  have h2 : -n < x.tmod n := by
    have := Int.lt_tmod_of_pos x hn
    omega
  have h3 := Int.tmod_nonneg n (show (0 : Int) ≤ x.tmod n + n by omega)
  have h4 := Int.tmod_lt_of_pos (x.tmod n + n) hn
  simp [bRem_int _ _ _ (show n ≠ 0 by omega), wrap_id (show -9223372036854775808 ≤ x.tmod n + n ∧ x.tmod n + n ≤ 9223372036854775807 by omega)]
  exact hK _ h3 h4 rfl
end
theorem bs_sEq (a b : List UInt8) : sEq (bs a) (bs b) = decide (a = b) := by rw [sEq_eq, bs_beq]; simp
end Go.Proofs.Gong

/- Hp9 -/
namespace Go.Proofs.Gong
open Go Go.Sx Go.Proofs
set_option maxRecDepth 100000
attribute [local irreducible] fBuild fLook fZero eqv bEqv Cl MapH LsH SlH ld1 ldN st callP eBox eAlloc lenM lenL eMapSet eDelete eAppend eBuildSl eRange eNext
section
variable {w0 w : World} {L : List HP} {K : Value → World → Prop} {v : Value} {n : Int} {M : List It}
theorem order_calls (W : World) (x y : It) : callP G81 [.agg (cIt x).toArray, .agg (cIt y).toArray] W fun v w' => v = .int .i64 (ordV x y) ∧ Gr W w' := by
  refine c81 ?_
  unfold F81
  refine eBox_ex (Sat.start W) (Gr.refl W) fun p w1 h1 g1 => ?_
  refine eBox_ex h1 g1 fun q w2 h2 g2 => ?_
  have hp := h2.f1.cl
  have hq := h2.cl
  simp only [cIt, cells_agg] at hp hq
  simp [ptr, cell_of hp, cell_of hq]
  refine cmp_spec ?_
  refine ⟨by simp [cell_of hp, cell_of hq], ?_⟩
  refine cmp_spec ?_
  generalize ha : (if x.2 < y.2 then (-1 : Int) else if y.2 < x.2 then 1 else 0) = a
  generalize hb : (if x.1 < y.1 then (-1 : Int) else if y.1 < x.1 then 1 else 0) = b
  have e : (([a, b] : List Int).find? (fun c => decide (c ≠ 0))).getD 0 = ordV x y := by
    rw [← ha, ← hb]; exact ord_find x y
  refine eBuildSl_ex (f := cI) (es := 1) (m := [a, b]) (c := #[.int .i64 a, .int .i64 b]) CI h2.drew g2.drew u22 (by kernel_rfl) rfl fun s w3 h3 g3 => ?_
  refine or_spec (ls_rd h3) (by simp) ?_
  rw [e]
  exact ⟨rfl, g3⟩
theorem all_spec (h : Sat w0 (HeapH v n M :: L) w) (hK : ∀ s w', Sat w0 (LsH cIt 2 55 s M :: HeapH v n M :: L) w' → K s w') : callP G30 [v] w K := by
  refine c30 ?_
  unfold F30
  obtain ⟨l, m, ⟨R, h1, h2⟩, hI⟩ := heap_iff.1 h
  clear h
  obtain ⟨p, sv, mv, rfl, h⟩ := heapI_iff.1 hI
  (repeat (first
 | (simp (disch := omega) only [evA, evB, bAdd_i64, bSub_i64, ptr, Nat.zero_add, Bool.not_true, Bool.not_false, Option.isNone_some, Option.isNone_none, Option.isSome_some, Option.isSome_none, decide_true, decide_false, eq_self, true_and])
 | ((with_reducible apply go_ld1 h))
 | ((with_reducible apply go_ldA h); (rfl))
 | ((with_reducible apply go_ldN h))
 | ((with_reducible apply go_st h); intro _ h)
 | ((with_reducible apply go_stA h); (rfl); (rfl); (first | rfl | simp); intro _ h)
 | ((with_reducible apply go_stN h); (rfl); (first | rfl | simp); intro _ h)
 | ((with_reducible apply go_box h); rfl; intro _ _ h)
 | ((with_reducible apply go_rd h); (rfl))
 | ((with_reducible apply go_rdN h); (rfl))
 | ((with_reducible apply go_lenL h))
 | ((with_reducible apply go_ix h); (omega))
 | ((with_reducible apply go_elN h); (omega))
 | ((with_reducible apply go_fa h); (omega); (omega))
 | ((with_reducible apply go_f1 h); (omega))
 | ((with_reducible apply go_rf1 h); (omega); (rfl))
 | ((with_reducible apply go_rel h); (omega); (rfl))
))
  refine cl_spec (l := l) (h.front (by repeat (first | exact .here | apply Fnt.there))) (by omega) fun s w h => ?_
  refine sortF_sat (lt := itLt) (cf := ordV) (l := l) h (by omega) CIt itSWO ordV_neg ok81 Try.call81 order_calls fun l' w h3 h4 h => ?_
  obtain rfl : l' = M := Asc.eq h4 R.s (h3.trans R.p)
  refine hK _ _ (Sat.f1 (heap_mk R h1 h2 (heapI_mk (p := p) (sv := sv) (mv := mv) ?_)))
  exact h.get (by (repeat (first | exact .done | (refine .pick (by repeat (first | exact .here | apply Fnt.there)) ?_) | refine .skip ?_)))
/-! HeapSame -/
/-- the deadlines that are set up to a place: a's, b's -/
def upA (f : Nat → Int) (i : Nat) : List It := (List.range i).map fun (k : Nat) => ((k : Int), f k)
def upB (f : Nat → Int) (n i : Nat) : List It := (List.range i).map fun (k : Nat) => (((n - 1 - k : Nat) : Int), f (n - 1 - k))
theorem upA_succ (f : Nat → Int) (i : Nat) : upA f (i + 1) = upA f i ++ [((i : Int), f i)] := by simp [upA, List.range_succ]
theorem upB_succ (f : Nat → Int) (n i : Nat) : upB f n (i + 1) = upB f n i ++ [(((n - 1 - i : Nat) : Int), f (n - 1 - i))] := by simp [upB, List.range_succ]
theorem setM_new {id t : Int} {M : List It} (h : ∀ t, (id, t) ∉ M) : (setM id t M).Perm ((id, t) :: M) := by
  unfold setM
  rw [drop_absent h]
  exact insM_perm _ _
theorem upA_fresh {f : Nat → Int} {i : Nat} {M : List It} (hp : M.Perm (upA f i)) (t : Int) : ((i : Int), t) ∉ M := by
  intro h
  have := hp.mem_iff.1 h
  simp only [upA, List.mem_map, List.mem_range, Prod.mk.injEq] at this
  obtain ⟨k, hk, h1, _⟩ := this
  omega
theorem upB_fresh {f : Nat → Int} {n i : Nat} {M : List It} (hi : i < n) (hp : M.Perm (upB f n i)) (t : Int) : (((n - 1 - i : Nat) : Int), t) ∉ M := by
  intro h
  have := hp.mem_iff.1 h
  simp only [upB, List.mem_map, List.mem_range, Prod.mk.injEq] at this
  obtain ⟨k, hk, h1, _⟩ := this
  omega
theorem upB_big {f : Nat → Int} {n i : Nat} {M : List It} {id : Int} (hn : n ≤ 60) (hi : 1000 ≤ id) (hp : M.Perm (upB f n i)) (t : Int) : (id, t) ∉ M := by
  intro h
  have := hp.mem_iff.1 h
  simp only [upB, List.mem_map, List.mem_range, Prod.mk.injEq] at this
  obtain ⟨k, hk, h1, _⟩ := this
  omega
theorem up_same (f : Nat → Int) (n : Nat) : (upA f n).Perm (upB f n n) := by
  have h1 : (List.range n).reverse.Perm (List.range n) := List.reverse_perm _
  have h2 : upB f n n = (List.range n).reverse.map fun (k : Nat) => ((k : Int), f k) := by
    apply List.ext_getElem
    · simp [upB]
    · intro i h3 h4; simp [upB]
  rw [h2]
  exact (h1.map _).symm
def atF (l : List It) (k : Nat) : Int := bel ((l[k]?.getD (0, 0)).2) 100
theorem atF_eq {l : List It} {k : Nat} (h : k < l.length) : atF l k = bel (l[k].2) 100 := by simp [atF, h]
theorem same_step {s0 s1 hv hw : Value} {l : List It} {tk : List Int} {i : Nat} {Ma Mb : List It} {R5 : Value → Value → Value → Value → Value → Value → World → Prop} (hl : l.length ≤ 60) (hi : i < l.length)
    (hrd : Rd w0 2 s0 l.length (l.flatMap cIt)) (hrt : Rd w0 1 s1 tk.length (tk.flatMap cI)) (ha : Ma.Perm (upA (atF l) i)) (hb : Mb.Perm (upB (atF l) l.length i)) (h : Sat w0 (HeapH hv 200 Ma :: HeapH hw 200 Mb :: L) w)
    (hR : ∀ Ma Mb w', Ma.Perm (upA (atF l) (i + 1)) → Mb.Perm (upB (atF l) l.length (i + 1)) → Sat w0 (HeapH hv 200 Ma :: HeapH hw 200 Mb :: L) w' → R5 s0 s1 hv hw (.int .i64 l.length) (.int .i64 ((i + 1 : Nat) : Int)) w') :
    F6_6 s0 s1 hv hw (.int .i64 l.length) (.int .i64 i) w K R5 := by
  have lenA : Ma.length = i := by rw [ha.length_eq]; simp [upA]
  have lenB : Mb.length = i := by rw [hb.length_eq]; simp [upB]
  have hx := ix_el hrd hi
  have hj : ((l.length : Int) - 1 - (i : Int)) = ((l.length - 1 - i : Nat) : Int) := by omega
  have hi' : l.length - 1 - i < l.length := by omega
  have hy := ix_el hrd hi'
  have ld0 : ∀ {w : World} {L' : List HP}, Sat w0 L' w → ldN 2 (elP 2 s0 i) w = some (.agg (cIt l[i]).toArray) := fun h => rd_ld CIt (hrd.sat h) hi
  have ld1' : ∀ {w : World} {L' : List HP}, Sat w0 L' w → ldN 2 (elP 2 s0 ((l.length - 1 - i : Nat) : Int)) w = some (.agg (cIt l[l.length - 1 - i]).toArray) := fun h => rd_ld CIt (hrd.sat h) hi'
  have hp1 : ∀ q : Nat, pIndexP 2 1 (.pointer (some ⟨q, 0, none⟩)) (.int .i64 1) = some (.pointer (some ⟨q, 1, none⟩)) := fun q => rfl
  have hlen := hrd.len
  have g0 : decide ((i : Int) < (l.length : Int)) = true := by simpa using hi
  unfold F6_6 F6_6b F6_7 F6_7b
  repeat' (first
    | (first
 | (simp (disch := omega) only [evA, evB, bAdd_i64, bSub_i64, ptr, Nat.zero_add, Bool.not_true, Bool.not_false, Option.isNone_some, Option.isNone_none, Option.isSome_some, Option.isSome_none, decide_true, decide_false, eq_self, true_and, g0, hj, hlen])
 | (refine go_some (hx ..) ?_)
 | (refine go_some (hy ..) ?_)
 | (refine go_some (hp1 ..) ?_)
 | ((with_reducible apply go_ld1 h))
 | ((with_reducible apply go_ldA h); (rfl))
 | ((with_reducible apply go_ldN h))
 | ((with_reducible apply go_st h); intro _ h)
 | ((with_reducible apply go_stA h); (rfl); (rfl); (first | rfl | simp); intro _ h)
 | ((with_reducible apply go_stN h); (rfl); (first | rfl | simp); intro _ h)
 | ((with_reducible apply go_box h); rfl; intro _ _ h)
 | ((with_reducible apply go_alloc h); (first | exact z49); rfl; intro _ _ h)
 | ((with_reducible apply go_rd h); (rfl))
 | ((with_reducible apply go_rdN h); (rfl))
 | ((with_reducible apply go_lenL h))
 | ((with_reducible apply go_ix h); (omega))
 | ((with_reducible apply go_elN h); (omega))
 | ((with_reducible apply go_fa h); (omega); (omega))
 | ((with_reducible apply go_f1 h); (omega))
 | ((with_reducible apply go_rf1 h); (omega); (rfl))
 | ((with_reducible apply go_rel h); (omega); (rfl))
)
    | (refine go_some (ld0 (h.to SameC.same)) ?_)
    | (refine go_some (ld1' (h.to SameC.same)) ?_)
    | (refine ⟨?_, ?_⟩)
    | (rw [fok_true]; done)
    | (rw [fok_true]; first | exact ld0 (h.to SameC.same) | exact ld1' (h.to SameC.same)))
  all_goals
    refine Below_spec (n := 100) (by omega) (by omega) fun r r0 r1 er => ?_
    have er' : r = atF l i := by rw [er, atF_eq hi]
    have fa := fun t => upA_fresh ha t
    have e1 : setR 200 (i : Int) r Ma = (0, setM (i : Int) r Ma) := by unfold setR; rw [if_neg (by omega), if_neg (by omega)]
    refine set_spec (M := Ma) (n := 200) (h.front (by repeat (first | exact .here | apply Fnt.there))) fun w h => ?_
    rw [e1] at h ⊢
    (repeat (first
 | (simp (disch := omega) only [evA, evB, bAdd_i64, bSub_i64, ptr, Nat.zero_add, Bool.not_true, Bool.not_false, Option.isNone_some, Option.isNone_none, Option.isSome_some, Option.isSome_none, decide_true, decide_false, eq_self, true_and, hj, hlen])
 | (refine go_some (hp1 ..) ?_)
 | ((with_reducible apply go_ld1 h))
 | ((with_reducible apply go_ldA h); (rfl))
 | ((with_reducible apply go_ldN h))
 | ((with_reducible apply go_st h); intro _ h)
 | ((with_reducible apply go_stA h); (rfl); (rfl); (first | rfl | simp); intro _ h)
 | ((with_reducible apply go_stN h); (rfl); (first | rfl | simp); intro _ h)
 | ((with_reducible apply go_box h); rfl; intro _ _ h)
 | ((with_reducible apply go_rd h); (rfl))
 | ((with_reducible apply go_rdN h); (rfl))
 | ((with_reducible apply go_lenL h))
 | ((with_reducible apply go_ix h); (omega))
 | ((with_reducible apply go_elN h); (omega))
 | ((with_reducible apply go_fa h); (omega); (omega))
 | ((with_reducible apply go_f1 h); (omega))
 | ((with_reducible apply go_rf1 h); (omega); (rfl))
 | ((with_reducible apply go_rel h); (omega); (rfl))
))
    refine Below_spec (n := 100) (by omega) (by omega) fun u u0 u1 eu => ?_
    have eu' : u = atF l (l.length - 1 - i) := by rw [eu, atF_eq hi']
    have fb := fun t => upB_fresh hi hb t
    have e2 : setR 200 ((l.length - 1 - i : Nat) : Int) u Mb = (0, setM ((l.length - 1 - i : Nat) : Int) u Mb) := by unfold setR; rw [if_neg (by omega), if_neg (by omega)]
    refine set_spec (M := Mb) (n := 200) (h.front (by repeat (first | exact .here | apply Fnt.there))) fun w h => ?_
    rw [e2] at h ⊢
    have hA : (setM (i : Int) r Ma).Perm (upA (atF l) (i + 1)) := by
      rw [upA_succ, ← er']
      exact (setM_new fa).trans ((ha.cons _).trans (List.perm_append_singleton _ _).symm)
    have hB : (setM ((l.length - 1 - i : Nat) : Int) u Mb).Perm (upB (atF l) l.length (i + 1)) := by
      rw [upB_succ, ← eu']
      exact (setM_new fb).trans ((hb.cons _).trans (List.perm_append_singleton _ _).symm)
    generalize setM (i : Int) r Ma = Ma' at h hA
    generalize setM ((l.length - 1 - i : Nat) : Int) u Mb = Mb' at h hB
    (repeat (first
 | (simp (disch := omega) only [evA, evB, bAdd_i64, bSub_i64, ptr, Nat.zero_add, Bool.not_true, Bool.not_false, Option.isNone_some, Option.isNone_none, Option.isSome_some, Option.isSome_none, decide_true, decide_false, eq_self, true_and, hrt.len])
 | ((with_reducible apply go_ld1 h))
 | ((with_reducible apply go_ldA h); (rfl))
 | ((with_reducible apply go_ldN h))
 | ((with_reducible apply go_st h); intro _ h)
 | ((with_reducible apply go_stA h); (rfl); (rfl); (first | rfl | simp); intro _ h)
 | ((with_reducible apply go_stN h); (rfl); (first | rfl | simp); intro _ h)
 | ((with_reducible apply go_box h); rfl; intro _ _ h)
 | ((with_reducible apply go_rd h); (rfl))
 | ((with_reducible apply go_rdN h); (rfl))
 | ((with_reducible apply go_lenL h))
 | ((with_reducible apply go_ix h); (omega))
 | ((with_reducible apply go_elN h); (omega))
 | ((with_reducible apply go_fa h); (omega); (omega))
 | ((with_reducible apply go_f1 h); (omega))
 | ((with_reducible apply go_rf1 h); (omega); (rfl))
 | ((with_reducible apply go_rel h); (omega); (rfl))
))
    by_cases g : (i : Int) < (tk.length : Int)
    · have g' : decide ((i : Int) < (tk.length : Int)) = true := by simpa using g
      have hi2 : i < tk.length := by omega
      (repeat (first
 | (simp (disch := omega) only [evA, evB, bAdd_i64, bSub_i64, ptr, Nat.zero_add, Bool.not_true, Bool.not_false, Option.isNone_some, Option.isNone_none, Option.isSome_some, Option.isSome_none, decide_true, decide_false, eq_self, true_and, g'])
 | (refine go_some (ix_el hrt hi2 ..) ?_)
 | ((with_reducible apply go_ld1 h))
 | ((with_reducible apply go_ldA h); (rfl))
 | ((with_reducible apply go_ldN h))
 | ((with_reducible apply go_st h); intro _ h)
 | ((with_reducible apply go_stA h); (rfl); (rfl); (first | rfl | simp); intro _ h)
 | ((with_reducible apply go_stN h); (rfl); (first | rfl | simp); intro _ h)
 | ((with_reducible apply go_box h); rfl; intro _ _ h)
 | ((with_reducible apply go_rd h); (rfl))
 | ((with_reducible apply go_rdN h); (rfl))
 | ((with_reducible apply go_lenL h))
 | ((with_reducible apply go_ix h); (omega))
 | ((with_reducible apply go_elN h); (omega))
 | ((with_reducible apply go_fa h); (omega); (omega))
 | ((with_reducible apply go_f1 h); (omega))
 | ((with_reducible apply go_rf1 h); (omega); (rfl))
 | ((with_reducible apply go_rel h); (omega); (rfl))
))
      refine go_some (rd_ld1 (g := Value.int .i64) (hrt.sat h) hi2) ?_
      refine Below_spec (n := 50) (by omega) (by omega) fun c c0 c1 _ => ?_
      (repeat (first
 | (simp (disch := omega) only [evA, evB, bAdd_i64, bSub_i64, ptr, Nat.zero_add, Bool.not_true, Bool.not_false, Option.isNone_some, Option.isNone_none, Option.isSome_some, Option.isSome_none, decide_true, decide_false, eq_self, true_and])
 | (refine go_some (ix_el hrt hi2 ..) ?_)
 | ((with_reducible apply go_ld1 h))
 | ((with_reducible apply go_ldA h); (rfl))
 | ((with_reducible apply go_ldN h))
 | ((with_reducible apply go_st h); intro _ h)
 | ((with_reducible apply go_stA h); (rfl); (rfl); (first | rfl | simp); intro _ h)
 | ((with_reducible apply go_stN h); (rfl); (first | rfl | simp); intro _ h)
 | ((with_reducible apply go_box h); rfl; intro _ _ h)
 | ((with_reducible apply go_rd h); (rfl))
 | ((with_reducible apply go_rdN h); (rfl))
 | ((with_reducible apply go_lenL h))
 | ((with_reducible apply go_ix h); (omega))
 | ((with_reducible apply go_elN h); (omega))
 | ((with_reducible apply go_fa h); (omega); (omega))
 | ((with_reducible apply go_f1 h); (omega))
 | ((with_reducible apply go_rf1 h); (omega); (rfl))
 | ((with_reducible apply go_rel h); (omega); (rfl))
))
      refine go_some (rd_ld1 (g := Value.int .i64) (hrt.sat h) hi2) ?_
      refine Below_spec (n := 100) (by omega) (by omega) fun d d0 d1 _ => ?_
      have lenB' : Mb'.length = i + 1 := by rw [hB.length_eq]; simp [upB]
      have fc := fun t => upB_big hl (show 1000 ≤ 1000 + c by omega) hB t
      have e3 : setR 200 (1000 + c) d Mb' = (0, setM (1000 + c) d Mb') := by unfold setR; rw [if_neg (by omega), if_neg (by omega)]
      refine set_spec (M := Mb') (n := 200) (h.front (by repeat (first | exact .here | apply Fnt.there))) fun w h => ?_
      rw [e3] at h
      have hids := heap_ids h
      have hperm := setM_new (t := d) fc
      have hmem : ((1000 + c : Int), d) ∈ setM (1000 + c) d Mb' := hperm.mem_iff.2 (by simp)
      refine drop_spec (M := setM (1000 + c) d Mb') (n := 200) (h.front (by repeat (first | exact .here | apply Fnt.there))) fun w h => ?_
      rw [find_of hids hmem]
      have hdp : (dropM (1000 + c) (setM (1000 + c) d Mb')).Perm Mb' := ((drop_perm hids hmem).trans hperm).cons_inv
      generalize dropM (1000 + c) (setM (1000 + c) d Mb') = Mc at h hdp
      have fd := fun t => upB_big hl (show 1000 ≤ 1000 + c by omega) (hdp.trans hB) t
      (repeat (first
 | (simp (disch := omega) only [evA, evB, bAdd_i64, bSub_i64, ptr, Nat.zero_add, Bool.not_true, Bool.not_false, Option.isNone_some, Option.isNone_none, Option.isSome_some, Option.isSome_none, decide_true, decide_false, eq_self, true_and])
 | ((with_reducible apply go_ld1 h))
 | ((with_reducible apply go_ldA h); (rfl))
 | ((with_reducible apply go_ldN h))
 | ((with_reducible apply go_st h); intro _ h)
 | ((with_reducible apply go_stA h); (rfl); (rfl); (first | rfl | simp); intro _ h)
 | ((with_reducible apply go_stN h); (rfl); (first | rfl | simp); intro _ h)
 | ((with_reducible apply go_box h); rfl; intro _ _ h)
 | ((with_reducible apply go_rd h); (rfl))
 | ((with_reducible apply go_rdN h); (rfl))
 | ((with_reducible apply go_lenL h))
 | ((with_reducible apply go_ix h); (omega))
 | ((with_reducible apply go_elN h); (omega))
 | ((with_reducible apply go_fa h); (omega); (omega))
 | ((with_reducible apply go_f1 h); (omega))
 | ((with_reducible apply go_rf1 h); (omega); (rfl))
 | ((with_reducible apply go_rel h); (omega); (rfl))
))
      refine drop_spec (M := Mc) (n := 200) (h.front (by repeat (first | exact .here | apply Fnt.there))) fun w h => ?_
      rw [find_none fd]
      rw [drop_absent fd] at h
      (repeat (first
 | (simp (disch := omega) only [evA, evB, bAdd_i64, bSub_i64, ptr, Nat.zero_add, Bool.not_true, Bool.not_false, Option.isNone_some, Option.isNone_none, Option.isSome_some, Option.isSome_none, decide_true, decide_false, eq_self, true_and])
 | ((with_reducible apply go_ld1 h))
 | ((with_reducible apply go_ldA h); (rfl))
 | ((with_reducible apply go_ldN h))
 | ((with_reducible apply go_st h); intro _ h)
 | ((with_reducible apply go_stA h); (rfl); (rfl); (first | rfl | simp); intro _ h)
 | ((with_reducible apply go_stN h); (rfl); (first | rfl | simp); intro _ h)
 | ((with_reducible apply go_box h); rfl; intro _ _ h)
 | ((with_reducible apply go_rd h); (rfl))
 | ((with_reducible apply go_rdN h); (rfl))
 | ((with_reducible apply go_lenL h))
 | ((with_reducible apply go_ix h); (omega))
 | ((with_reducible apply go_elN h); (omega))
 | ((with_reducible apply go_fa h); (omega); (omega))
 | ((with_reducible apply go_f1 h); (omega))
 | ((with_reducible apply go_rf1 h); (omega); (rfl))
 | ((with_reducible apply go_rel h); (omega); (rfl))
))
      exact hR Ma' Mc _ hA (hdp.trans hB) (h.get (by (repeat (first | exact .done | (refine .pick (by repeat (first | exact .here | apply Fnt.there)) ?_) | refine .skip ?_))))
    · have g' : decide ((i : Int) < (tk.length : Int)) = false := by simpa using g
      (repeat (first
 | (simp (disch := omega) only [evA, evB, bAdd_i64, bSub_i64, ptr, Nat.zero_add, Bool.not_true, Bool.not_false, Option.isNone_some, Option.isNone_none, Option.isSome_some, Option.isSome_none, decide_true, decide_false, eq_self, true_and, g'])
 | ((with_reducible apply go_ld1 h))
 | ((with_reducible apply go_ldA h); (rfl))
 | ((with_reducible apply go_ldN h))
 | ((with_reducible apply go_st h); intro _ h)
 | ((with_reducible apply go_stA h); (rfl); (rfl); (first | rfl | simp); intro _ h)
 | ((with_reducible apply go_stN h); (rfl); (first | rfl | simp); intro _ h)
 | ((with_reducible apply go_box h); rfl; intro _ _ h)
 | ((with_reducible apply go_rd h); (rfl))
 | ((with_reducible apply go_rdN h); (rfl))
 | ((with_reducible apply go_lenL h))
 | ((with_reducible apply go_ix h); (omega))
 | ((with_reducible apply go_elN h); (omega))
 | ((with_reducible apply go_fa h); (omega); (omega))
 | ((with_reducible apply go_f1 h); (omega))
 | ((with_reducible apply go_rf1 h); (omega); (rfl))
 | ((with_reducible apply go_rel h); (omega); (rfl))
))
      exact hR Ma' Mb' _ hA hB (h.get (by (repeat (first | exact .done | (refine .pick (by repeat (first | exact .here | apply Fnt.there)) ?_) | refine .skip ?_))))
theorem neIt (x y : Operand) (a b : It) : bNe Try.prog 55 x y (.agg (cIt a).toArray) (.agg (cIt b).toArray) = some (.bool (!decide (a = b))) := by
  obtain ⟨i, t⟩ := a
  obtain ⟨i', t'⟩ := b
  rw [ne55]
  simp only [Option.some.injEq, Value.bool.injEq]
  rw [Bool.eq_iff_iff]
  simp
theorem same_cmp {x y : Value} {M : List It} (hM : M.length ≤ 60) (hK : ∀ w', Sat w0 L w' → K (.bool true) w') : ∀ (d i : Nat) (w : World), M.length - i < d → i ≤ M.length → Sat w0 (LsH cIt 2 55 x M :: LsH cIt 2 55 y M :: L) w →
    F6_4L d x y (.int .i64 M.length) (.int .i64 i) w K := by
  intro d
  induction d with
  | zero => intro i w hd; omega
  | succ d ih =>
    intro i w hd hi h
    rw [F6_4L]
    unfold F6_4b F6_5 F6_5b
    by_cases g : i < M.length
    · have g' : decide ((i : Int) < (M.length : Int)) = true := by simpa using g
      (repeat (first
 | (simp (disch := omega) only [evA, evB, bAdd_i64, bSub_i64, ptr, Nat.zero_add, Bool.not_true, Bool.not_false, Option.isNone_some, Option.isNone_none, Option.isSome_some, Option.isSome_none, decide_true, decide_false, eq_self, true_and, g'])
 | (refine go_some (ls_ix h g ..) ?_)
 | ((with_reducible apply go_ld1 h))
 | ((with_reducible apply go_ldA h); (rfl))
 | ((with_reducible apply go_ldN h))
 | ((with_reducible apply go_st h); intro _ h)
 | ((with_reducible apply go_stA h); (rfl); (rfl); (first | rfl | simp); intro _ h)
 | ((with_reducible apply go_stN h); (rfl); (first | rfl | simp); intro _ h)
 | ((with_reducible apply go_box h); rfl; intro _ _ h)
 | ((with_reducible apply go_rd h); (rfl))
 | ((with_reducible apply go_rdN h); (rfl))
 | ((with_reducible apply go_lenL h))
 | ((with_reducible apply go_ix h); (omega))
 | ((with_reducible apply go_elN h); (omega))
 | ((with_reducible apply go_fa h); (omega); (omega))
 | ((with_reducible apply go_f1 h); (omega))
 | ((with_reducible apply go_rf1 h); (omega); (rfl))
 | ((with_reducible apply go_rel h); (omega); (rfl))
))
      refine go_some (ls_ld CIt h g) ?_
      (repeat (first
 | (simp (disch := omega) only [evA, evB, bAdd_i64, bSub_i64, ptr, Nat.zero_add, Bool.not_true, Bool.not_false, Option.isNone_some, Option.isNone_none, Option.isSome_some, Option.isSome_none, decide_true, decide_false, eq_self, true_and])
 | (refine go_some (ls_ix h.f1 g ..) ?_)
 | ((with_reducible apply go_ld1 h))
 | ((with_reducible apply go_ldA h); (rfl))
 | ((with_reducible apply go_ldN h))
 | ((with_reducible apply go_st h); intro _ h)
 | ((with_reducible apply go_stA h); (rfl); (rfl); (first | rfl | simp); intro _ h)
 | ((with_reducible apply go_stN h); (rfl); (first | rfl | simp); intro _ h)
 | ((with_reducible apply go_box h); rfl; intro _ _ h)
 | ((with_reducible apply go_rd h); (rfl))
 | ((with_reducible apply go_rdN h); (rfl))
 | ((with_reducible apply go_lenL h))
 | ((with_reducible apply go_ix h); (omega))
 | ((with_reducible apply go_elN h); (omega))
 | ((with_reducible apply go_fa h); (omega); (omega))
 | ((with_reducible apply go_f1 h); (omega))
 | ((with_reducible apply go_rf1 h); (omega); (rfl))
 | ((with_reducible apply go_rel h); (omega); (rfl))
))
      refine go_some (ls_ld CIt h.f1 g) ?_
      refine go_some (neIt _ _ M[i] M[i]) ?_
      (repeat (first
 | (simp (disch := omega) only [evA, evB, bAdd_i64, bSub_i64, ptr, Nat.zero_add, Bool.not_true, Bool.not_false, Option.isNone_some, Option.isNone_none, Option.isSome_some, Option.isSome_none, decide_true, decide_false, eq_self, true_and])
 | ((with_reducible apply go_ld1 h))
 | ((with_reducible apply go_ldA h); (rfl))
 | ((with_reducible apply go_ldN h))
 | ((with_reducible apply go_st h); intro _ h)
 | ((with_reducible apply go_stA h); (rfl); (rfl); (first | rfl | simp); intro _ h)
 | ((with_reducible apply go_stN h); (rfl); (first | rfl | simp); intro _ h)
 | ((with_reducible apply go_box h); rfl; intro _ _ h)
 | ((with_reducible apply go_rd h); (rfl))
 | ((with_reducible apply go_rdN h); (rfl))
 | ((with_reducible apply go_lenL h))
 | ((with_reducible apply go_ix h); (omega))
 | ((with_reducible apply go_elN h); (omega))
 | ((with_reducible apply go_fa h); (omega); (omega))
 | ((with_reducible apply go_f1 h); (omega))
 | ((with_reducible apply go_rf1 h); (omega); (rfl))
 | ((with_reducible apply go_rel h); (omega); (rfl))
))
      exact ih (i + 1) _ (by omega) (by omega) h.drew
    · have g' : decide ((i : Int) < (M.length : Int)) = false := by simpa using g
      (repeat (first
 | (simp (disch := omega) only [evA, evB, bAdd_i64, bSub_i64, ptr, Nat.zero_add, Bool.not_true, Bool.not_false, Option.isNone_some, Option.isNone_none, Option.isSome_some, Option.isSome_none, decide_true, decide_false, eq_self, true_and, g'])
 | ((with_reducible apply go_ld1 h))
 | ((with_reducible apply go_ldA h); (rfl))
 | ((with_reducible apply go_ldN h))
 | ((with_reducible apply go_st h); intro _ h)
 | ((with_reducible apply go_stA h); (rfl); (rfl); (first | rfl | simp); intro _ h)
 | ((with_reducible apply go_stN h); (rfl); (first | rfl | simp); intro _ h)
 | ((with_reducible apply go_box h); rfl; intro _ _ h)
 | ((with_reducible apply go_rd h); (rfl))
 | ((with_reducible apply go_rdN h); (rfl))
 | ((with_reducible apply go_lenL h))
 | ((with_reducible apply go_ix h); (omega))
 | ((with_reducible apply go_elN h); (omega))
 | ((with_reducible apply go_fa h); (omega); (omega))
 | ((with_reducible apply go_f1 h); (omega))
 | ((with_reducible apply go_rf1 h); (omega); (rfl))
 | ((with_reducible apply go_rel h); (omega); (rfl))
))
      exact hK _ h.drop.drop
theorem same_end {s0 hv hw : Value} {n : Nat} {M : List It} (hl : lenL s0 = some (.int .i64 (n : Nat))) (hM : M.length ≤ 60) (hn : M.length = n) (h : Sat w0 (HeapH hv 200 M :: HeapH hw 200 M :: L) w) (hK : ∀ w', Sat w0 L w' → K (.bool true) w') : F6_3 s0 hv hw w K := by
  subst hn
  unfold F6_3 F6_3b F6_4
  refine all_spec (M := M) (n := 200) h fun x w h => ?_
  refine all_spec (M := M) (n := 200) (h.front (by repeat (first | exact .here | apply Fnt.there))) fun y w h => ?_
  (repeat (first
 | (simp (disch := omega) only [evA, evB, bAdd_i64, bSub_i64, ptr, Nat.zero_add, Bool.not_true, Bool.not_false, Option.isNone_some, Option.isNone_none, Option.isSome_some, Option.isSome_none, decide_true, decide_false, eq_self, true_and, hl, ls_len h, ls_len (h.front (by exact .there (.there .here)))])
 | ((with_reducible apply go_ld1 h))
 | ((with_reducible apply go_ldA h); (rfl))
 | ((with_reducible apply go_ldN h))
 | ((with_reducible apply go_st h); intro _ h)
 | ((with_reducible apply go_stA h); (rfl); (rfl); (first | rfl | simp); intro _ h)
 | ((with_reducible apply go_stN h); (rfl); (first | rfl | simp); intro _ h)
 | ((with_reducible apply go_box h); rfl; intro _ _ h)
 | ((with_reducible apply go_rd h); (rfl))
 | ((with_reducible apply go_rdN h); (rfl))
 | ((with_reducible apply go_lenL h))
 | ((with_reducible apply go_ix h); (omega))
 | ((with_reducible apply go_elN h); (omega))
 | ((with_reducible apply go_fa h); (omega); (omega))
 | ((with_reducible apply go_f1 h); (omega))
 | ((with_reducible apply go_rf1 h); (omega); (rfl))
 | ((with_reducible apply go_rel h); (omega); (rfl))
))
  exact same_cmp hM hK fuel 0 w (by unfold fuel; omega) (by omega) (h.get (by (repeat (first | exact .done | (refine .pick (by repeat (first | exact .here | apply Fnt.there)) ?_) | refine .skip ?_))))
theorem same_loop {s0 s1 hv hw : Value} {l : List It} {tk : List Int} (hl : l.length ≤ 60) (hrd : Rd w0 2 s0 l.length (l.flatMap cIt)) (hrt : Rd w0 1 s1 tk.length (tk.flatMap cI)) (hK : ∀ w', Sat w0 L w' → K (.bool true) w') :
    ∀ (d i : Nat) (Ma Mb : List It) (w : World), l.length - i < d → i ≤ l.length → Ma.Perm (upA (atF l) i) → Mb.Perm (upB (atF l) l.length i) → Sat w0 (HeapH hv 200 Ma :: HeapH hw 200 Mb :: L) w →
      F6_2L d s0 s1 hv hw (.int .i64 l.length) (.int .i64 i) w K := by
  intro d
  induction d with
  | zero => intro i Ma Mb w hd; omega
  | succ d ih =>
    intro i Ma Mb w hd hi ha hb h
    rw [F6_2L]
    by_cases g : i < l.length
    · exact same_step hl g hrd hrt ha hb h fun Ma Mb w ha hb h => ih (i + 1) Ma Mb w (by omega) (by omega) ha hb h
    · obtain rfl : i = l.length := by omega
      have g' : decide ((l.length : Int) < (l.length : Int)) = false := by simp
      unfold F6_6 F6_6b
      (repeat (first
 | (simp (disch := omega) only [evA, evB, bAdd_i64, bSub_i64, ptr, Nat.zero_add, Bool.not_true, Bool.not_false, Option.isNone_some, Option.isNone_none, Option.isSome_some, Option.isSome_none, decide_true, decide_false, eq_self, true_and, g'])
 | ((with_reducible apply go_ld1 h))
 | ((with_reducible apply go_ldA h); (rfl))
 | ((with_reducible apply go_ldN h))
 | ((with_reducible apply go_st h); intro _ h)
 | ((with_reducible apply go_stA h); (rfl); (rfl); (first | rfl | simp); intro _ h)
 | ((with_reducible apply go_stN h); (rfl); (first | rfl | simp); intro _ h)
 | ((with_reducible apply go_box h); rfl; intro _ _ h)
 | ((with_reducible apply go_rd h); (rfl))
 | ((with_reducible apply go_rdN h); (rfl))
 | ((with_reducible apply go_lenL h))
 | ((with_reducible apply go_ix h); (omega))
 | ((with_reducible apply go_elN h); (omega))
 | ((with_reducible apply go_fa h); (omega); (omega))
 | ((with_reducible apply go_f1 h); (omega))
 | ((with_reducible apply go_rf1 h); (omega); (rfl))
 | ((with_reducible apply go_rel h); (omega); (rfl))
))
      obtain rfl : Ma = Mb := Asc.eq (heap_asc h) (heap_asc h.f1) (ha.trans ((up_same _ _).trans hb.symm))
      have lenA : Ma.length = l.length := by rw [ha.length_eq]; simp [upA]
      exact same_end hrd.len (by omega) lenA h hK
theorem heapSame_spec {s0 s1 : Value} {l : List It} {tk : List Int} (hrd : Rd w0 2 s0 l.length (l.flatMap cIt)) (hrt : Rd w0 1 s1 tk.length (tk.flatMap cI)) (h : Sat w0 L w) (hK : ∀ w', Sat w0 L w' → K (.bool true) w') : callP G6 [s0, s1] w K := by
  refine c6 ?_
  unfold F6 F6_1 F6_1b F6_2
  refine new_spec h (fun h => by omega) fun p w _ _ h => ?_
  (repeat (first
 | (simp (disch := omega) only [evA, evB, bAdd_i64, bSub_i64, ptr, Nat.zero_add, Bool.not_true, Bool.not_false, Option.isNone_some, Option.isNone_none, Option.isSome_some, Option.isSome_none, decide_true, decide_false, eq_self, true_and])
 | ((with_reducible apply go_ld1 h))
 | ((with_reducible apply go_ldA h); (rfl))
 | ((with_reducible apply go_ldN h))
 | ((with_reducible apply go_st h); intro _ h)
 | ((with_reducible apply go_stA h); (rfl); (rfl); (first | rfl | simp); intro _ h)
 | ((with_reducible apply go_stN h); (rfl); (first | rfl | simp); intro _ h)
 | ((with_reducible apply go_box h); rfl; intro _ _ h)
 | ((with_reducible apply go_rd h); (rfl))
 | ((with_reducible apply go_rdN h); (rfl))
 | ((with_reducible apply go_lenL h))
 | ((with_reducible apply go_ix h); (omega))
 | ((with_reducible apply go_elN h); (omega))
 | ((with_reducible apply go_fa h); (omega); (omega))
 | ((with_reducible apply go_f1 h); (omega))
 | ((with_reducible apply go_rf1 h); (omega); (rfl))
 | ((with_reducible apply go_rel h); (omega); (rfl))
))
  refine new_spec h (fun h => by omega) fun q w _ _ h => ?_
  (repeat (first
 | (simp (disch := omega) only [evA, evB, bAdd_i64, bSub_i64, ptr, Nat.zero_add, Bool.not_true, Bool.not_false, Option.isNone_some, Option.isNone_none, Option.isSome_some, Option.isSome_none, decide_true, decide_false, eq_self, true_and])
 | (refine go_some (bEq_nilp up46 ..) ?_)
 | ((with_reducible apply go_ld1 h))
 | ((with_reducible apply go_ldA h); (rfl))
 | ((with_reducible apply go_ldN h))
 | ((with_reducible apply go_st h); intro _ h)
 | ((with_reducible apply go_stA h); (rfl); (rfl); (first | rfl | simp); intro _ h)
 | ((with_reducible apply go_stN h); (rfl); (first | rfl | simp); intro _ h)
 | ((with_reducible apply go_box h); rfl; intro _ _ h)
 | ((with_reducible apply go_rd h); (rfl))
 | ((with_reducible apply go_rdN h); (rfl))
 | ((with_reducible apply go_lenL h))
 | ((with_reducible apply go_ix h); (omega))
 | ((with_reducible apply go_elN h); (omega))
 | ((with_reducible apply go_fa h); (omega); (omega))
 | ((with_reducible apply go_f1 h); (omega))
 | ((with_reducible apply go_rf1 h); (omega); (rfl))
 | ((with_reducible apply go_rel h); (omega); (rfl))
))
  refine works_spec h fun w h => ?_
  (repeat (first
 | (simp (disch := omega) only [evA, evB, bAdd_i64, bSub_i64, ptr, Nat.zero_add, Bool.not_true, Bool.not_false, Option.isNone_some, Option.isNone_none, Option.isSome_some, Option.isSome_none, decide_true, decide_false, eq_self, true_and, hrd.len])
 | ((with_reducible apply go_ld1 h))
 | ((with_reducible apply go_ldA h); (rfl))
 | ((with_reducible apply go_ldN h))
 | ((with_reducible apply go_st h); intro _ h)
 | ((with_reducible apply go_stA h); (rfl); (rfl); (first | rfl | simp); intro _ h)
 | ((with_reducible apply go_stN h); (rfl); (first | rfl | simp); intro _ h)
 | ((with_reducible apply go_box h); rfl; intro _ _ h)
 | ((with_reducible apply go_rd h); (rfl))
 | ((with_reducible apply go_rdN h); (rfl))
 | ((with_reducible apply go_lenL h))
 | ((with_reducible apply go_ix h); (omega))
 | ((with_reducible apply go_elN h); (omega))
 | ((with_reducible apply go_fa h); (omega); (omega))
 | ((with_reducible apply go_f1 h); (omega))
 | ((with_reducible apply go_rf1 h); (omega); (rfl))
 | ((with_reducible apply go_rel h); (omega); (rfl))
))
  have hmin : min (l.length : Int) 60 = ((min l.length 60 : Nat) : Int) := by omega
  rw [hmin]
  obtain ⟨v', e, _⟩ := hrd.sub (L := none) (H := some (.int .i64 ((min l.length 60 : Nat) : Int))) (M := none) (lo := 0) (hi := min l.length 60) .none (.some _ _) (.none _) (by omega) (by omega)
  have hrd' := rd_sub CIt hrd e (lo := 0) (hi := min l.length 60) .none (.some _ _) (.none _) (by omega) (by omega)
  rw [List.drop_zero] at hrd'
  refine go_some e ?_
  (repeat (first
 | (simp (disch := omega) only [evA, evB, bAdd_i64, bSub_i64, ptr, Nat.zero_add, Bool.not_true, Bool.not_false, Option.isNone_some, Option.isNone_none, Option.isSome_some, Option.isSome_none, decide_true, decide_false, eq_self, true_and, hrd'.len])
 | ((with_reducible apply go_ld1 h))
 | ((with_reducible apply go_ldA h); (rfl))
 | ((with_reducible apply go_ldN h))
 | ((with_reducible apply go_st h); intro _ h)
 | ((with_reducible apply go_stA h); (rfl); (rfl); (first | rfl | simp); intro _ h)
 | ((with_reducible apply go_stN h); (rfl); (first | rfl | simp); intro _ h)
 | ((with_reducible apply go_box h); rfl; intro _ _ h)
 | ((with_reducible apply go_rd h); (rfl))
 | ((with_reducible apply go_rdN h); (rfl))
 | ((with_reducible apply go_lenL h))
 | ((with_reducible apply go_ix h); (omega))
 | ((with_reducible apply go_elN h); (omega))
 | ((with_reducible apply go_fa h); (omega); (omega))
 | ((with_reducible apply go_f1 h); (omega))
 | ((with_reducible apply go_rf1 h); (omega); (rfl))
 | ((with_reducible apply go_rel h); (omega); (rfl))
))
  have hl' : (l.take (min l.length 60)).length ≤ 60 := by simp; omega
  generalize l.take (min l.length 60) = l' at hrd' hl'
  exact same_loop hl' hrd' hrt hK fuel 0 [] [] w (by unfold fuel; omega) (by omega) (.refl _) (.refl _) h.f1
end
theorem fit_pair {W : World} {B : Nat} {c : List Value} (h : FitL2 W B [.int .i64, .int .i64] c) : ∃ x : It, c = cIt x ∧ True := by
  obtain ⟨a, vs, rfl, _, h1⟩ := fitL2_int h
  obtain ⟨b, vs, rfl, _, h2⟩ := fitL2_int h1
  rw [fitL2_nil h2]; exact ⟨(a, b), rfl, trivial⟩
theorem fit_int' {W : World} {B : Nat} {c : List Value} (h : FitL2 W B [.int .i64] c) : ∃ n : Int, c = cI n ∧ True := by
  obtain ⟨n, vs, rfl, _, h2⟩ := fitL2_int h
  rw [fitL2_nil h2]; exact ⟨n, rfl, trivial⟩
theorem lawHeapSame {W : World} {v : Value} {n : Nat} {cs : List Value} (rd : Rd W 2 v n cs) (_ : n ≤ 140737488351232) (ft : ∀ i, i < n → FitL2 W 140737488351232 [.int .i64, .int .i64] ((cs.drop (i * 2)).take 2))
    {v' : Value} {n' : Nat} {cs' : List Value} (rd' : Rd W 1 v' n' cs') (_ : n' ≤ 140737488351232) (ft' : ∀ i, i < n' → FitL2 W 140737488351232 [.int .i64] ((cs'.drop (i * 1)).take 1)) :
    callP G6 [v, v'] W fun v w' => v = .bool true ∧ Sat W [] w' := by
  obtain ⟨l, rfl, rfl, _⟩ := fit_list2 (fun c h => fit_pair h) n cs rd.length ft
  obtain ⟨l', rfl, rfl, _⟩ := fit_list2 (fun c h => fit_int' h) n' cs' rd'.length ft'
  exact heapSame_spec rd rd' (Sat.start W) fun w' h => ⟨rfl, h⟩
end Go.Proofs.Gong
