/- A part of the proofs: what stands below it, told in lemmas. No condition. -/
import Derived.Test.YtkbflbmgilgolaaTy
import Derived.Test.YtkbflbmgilgolaaBook
import Derived.Test.YtkbflbmgilgolaaOct
namespace Go.Proofs.Gong
open Go Go.Sx Go.Proofs
set_option maxRecDepth 100000
-- 138 gong/spec.right
def T138 : List (Nat × FnT) := []
def F138_3b (w : World) (K : Value → World → Prop) : Prop :=
K (.bool false) w

def F138_3 (w : World) (K : Value → World → Prop) : Prop := F138_3b w K

theorem ok138_3 {K : Value → World → Prop} {kn kr : Env → World → Prop} {ke : Nat → Env → World → Prop}
    (hn : ∀ e w, (fun e w => K (e 2) w) e w → kn e w) (hr : ∀ e w, endD Try.prog [.tmp 2] K e w → kr e w) (he : ∀ i e w, noE i e w → ke i e w) :
    ∀ e w, F138_3 w K → denL Try.prog (tabOf T138) 32 fuel ((flat (bodyOf Try.f138)).drop 3) e w kn kr ke := by
  intro e w h
  unfold F138_3 at h
  have e1 : ∀ (_ : Unit), F138_3b w K = denL Try.prog (tabOf T138) 32 fuel ((flat (bodyOf Try.f138)).drop 3) e w (fun e w => K (e 2) w) (endD Try.prog [.tmp 2] K) noE := by intro _; kernel_rfl
  exact seg_end (Eq.mp (e1 ()) h) hn hr he

def F138_5b (s1 : Value) (w : World) (K : Value → World → Prop) : Prop :=
bindP (pFieldAddr 2 s1) fun v1 =>
bindP (ld1 v1 w) fun v2 =>
bindP (bEq Try.prog 9 (.tmp 25) (.const (.string ⟨#[]⟩)) v2 (.string ⟨#[]⟩)) fun v3 =>
Sx.stepG (gd true v3) (pFieldAddr 3 s1) fun v4 =>
Sx.stepG (gd true v3) (ld1 v4 w) fun v5 =>
Sx.stepG (gd true v3) (bEq Try.prog 9 (.tmp 29) (.const (.string ⟨#[]⟩)) v5 (.string ⟨#[]⟩)) fun v6 =>
bindP (pPick v3 v6 (.bool false)) fun v7 =>
K v7 w

def F138_5 (s1 : Value) (w : World) (K : Value → World → Prop) : Prop := F138_5b s1 w K

theorem ok138_5 {K : Value → World → Prop} {kn kr : Env → World → Prop} {ke : Nat → Env → World → Prop}
    (hn : ∀ e w, (fun e w => F138_3 w K) e w → kn e w) (hr : ∀ e w, endD Try.prog [.tmp 2] K e w → kr e w) (he : ∀ i e w, (blkK 0 (fun e w => F138_3 w K) noE) i e w → ke i e w) :
    ∀ e w, F138_5 (e 1) w K → denL Try.prog (tabOf T138) 32 fuel ((flat (blkB (nthC (flat (bodyOf Try.f138)) 2))).drop 1) e w kn kr ke := by
  intro e w h
  unfold F138_5 at h
  have e1 : ∀ (_ : Unit), F138_5b (e 1) w K = denL Try.prog (tabOf T138) 32 fuel ((flat (blkB (nthC (flat (bodyOf Try.f138)) 2))).drop 1) e w (fun e w => F138_3 w K) (endD Try.prog [.tmp 2] K) (blkK 0 (fun e w => F138_3 w K) noE) := by intro _; kernel_rfl
  exact seg_end (Eq.mp (e1 ()) h) hn hr he

def F138_7b (s1 : Value) (w : World) (K : Value → World → Prop) : Prop :=
bindP (pFieldAddr 4 s1) fun v8 =>
bindP (ld1 v8 w) fun v9 =>
bindP (bEq Try.prog 3 (.tmp 22) (.const (.int .i64 0)) v9 (.int .i64 0)) fun v10 =>
K v10 w

def F138_7 (s1 : Value) (w : World) (K : Value → World → Prop) : Prop := F138_7b s1 w K

theorem ok138_7 {K : Value → World → Prop} {kn kr : Env → World → Prop} {ke : Nat → Env → World → Prop}
    (hn : ∀ e w, (fun e w => F138_5 (e 1) w K) e w → kn e w) (hr : ∀ e w, endD Try.prog [.tmp 2] K e w → kr e w) (he : ∀ i e w, (blkK 3 (fun e w => F138_5 (e 1) w K) (blkK 0 (fun e w => F138_3 w K) noE)) i e w → ke i e w) :
    ∀ e w, F138_7 (e 1) w K → denL Try.prog (tabOf T138) 32 fuel ((flat (blkB (nthC (flat (blkB (nthC (flat (bodyOf Try.f138)) 2))) 0))).drop 1) e w kn kr ke := by
  intro e w h
  unfold F138_7 at h
  have e1 : ∀ (_ : Unit), F138_7b (e 1) w K = denL Try.prog (tabOf T138) 32 fuel ((flat (blkB (nthC (flat (blkB (nthC (flat (bodyOf Try.f138)) 2))) 0))).drop 1) e w (fun e w => F138_5 (e 1) w K) (endD Try.prog [.tmp 2] K) (blkK 3 (fun e w => F138_5 (e 1) w K) (blkK 0 (fun e w => F138_3 w K) noE)) := by intro _; kernel_rfl
  exact seg_end (Eq.mp (e1 ()) h) hn hr he

def F138_9b (s1 : Value) (w : World) (K : Value → World → Prop) (Y0 : Value → World → Prop) : Prop :=
bindP (pFieldAddr 2 s1) fun v11 =>
bindP (ld1 v11 w) fun v12 =>
bindP (bNe Try.prog 9 (.tmp 14) (.const (.string ⟨#[]⟩)) v12 (.string ⟨#[]⟩)) fun v13 =>
Sx.stepG (gd false v13) (pFieldAddr 3 s1) fun v14 =>
Sx.stepG (gd false v13) (ld1 v14 w) fun v15 =>
Sx.stepG (gd false v13) (bNe Try.prog 9 (.tmp 18) (.const (.string ⟨#[]⟩)) v15 (.string ⟨#[]⟩)) fun v16 =>
bindP (pPick v13 (.bool true) v16) fun v17 =>
ifB v17 (
K (.bool false) w) (
Y0 s1 w)

def F138_9 (s1 : Value) (w : World) (K : Value → World → Prop) : Prop := F138_9b s1 w K (fun a1 w => F138_7 a1 w K)

theorem ok138_9 {K : Value → World → Prop} {kn kr : Env → World → Prop} {ke : Nat → Env → World → Prop}
    (hn : ∀ e w, (fun e w => F138_7 (e 1) w K) e w → kn e w) (hr : ∀ e w, endD Try.prog [.tmp 2] K e w → kr e w) (he : ∀ i e w, (blkK 2 (fun e w => F138_7 (e 1) w K) (blkK 3 (fun e w => F138_5 (e 1) w K) (blkK 0 (fun e w => F138_3 w K) noE))) i e w → ke i e w) :
    ∀ e w, F138_9 (e 1) w K → denL Try.prog (tabOf T138) 32 fuel ((flat (blkB (nthC (flat (blkB (nthC (flat (blkB (nthC (flat (bodyOf Try.f138)) 2))) 0))) 0))).drop 1) e w kn kr ke := by
  intro e w h
  unfold F138_9 at h
  have e1 : ∀ (Y0 : Value → World → Prop), F138_9b (e 1) w K Y0 = denL Try.prog (tabOf T138) 32 fuel ((flat (blkB (nthC (flat (blkB (nthC (flat (blkB (nthC (flat (bodyOf Try.f138)) 2))) 0))) 0))).drop 1) e w (fun e w => Y0 (e 1) w) (endD Try.prog [.tmp 2] K) (blkK 2 (fun e w => Y0 (e 1) w) (blkK 3 (fun e w => F138_5 (e 1) w K) (blkK 0 (fun e w => F138_3 w K) noE))) := by intro Y0; kernel_rfl
  exact seg_end (Eq.mp (e1 (fun a1 w => F138_7 a1 w K)) h) hn hr he

def F138_11b (s1 : Value) (s4 : Value) (s7 : Value) (w : World) (_K : Value → World → Prop) (Y0 : Value → World → Prop) (Y1 : Value → World → Prop) (Y2 : World → Prop) : Prop :=
ifB s7 (
Y0 s1 w) (
bindP (bEq Try.prog 3 (.tmp 4) (.const (.int .i64 5)) s4 (.int .i64 5)) fun v18 =>
ifB v18 (
Y1 s1 w) (
Y2 w))

def F138_11 (s1 : Value) (s4 : Value) (s7 : Value) (w : World) (K : Value → World → Prop) : Prop := F138_11b s1 s4 s7 w K (fun a1 w => F138_7 a1 w K) (fun a1 w => F138_5 a1 w K) (fun w => F138_3 w K)

theorem ok138_11 {K : Value → World → Prop} {kn kr : Env → World → Prop} {ke : Nat → Env → World → Prop}
    (hn : ∀ e w, (fun e w => F138_9 (e 1) w K) e w → kn e w) (hr : ∀ e w, endD Try.prog [.tmp 2] K e w → kr e w) (he : ∀ i e w, (blkK 1 (fun e w => F138_9 (e 1) w K) (blkK 2 (fun e w => F138_7 (e 1) w K) (blkK 3 (fun e w => F138_5 (e 1) w K) (blkK 0 (fun e w => F138_3 w K) noE)))) i e w → ke i e w) :
    ∀ e w, F138_11 (e 1) (e 4) (e 7) w K → denL Try.prog (tabOf T138) 32 fuel ((flat (blkB (nthC (flat (blkB (nthC (flat (blkB (nthC (flat (blkB (nthC (flat (bodyOf Try.f138)) 2))) 0))) 0))) 0))).drop 4) e w kn kr ke := by
  intro e w h
  unfold F138_11 at h
  have e1 : ∀ (Y0 : Value → World → Prop) (Y1 : Value → World → Prop) (Y2 : World → Prop), F138_11b (e 1) (e 4) (e 7) w K Y0 Y1 Y2 = denL Try.prog (tabOf T138) 32 fuel ((flat (blkB (nthC (flat (blkB (nthC (flat (blkB (nthC (flat (blkB (nthC (flat (bodyOf Try.f138)) 2))) 0))) 0))) 0))).drop 4) e w (fun e w => F138_9 (e 1) w K) (endD Try.prog [.tmp 2] K) (blkK 1 (fun e w => F138_9 (e 1) w K) (blkK 2 (fun e w => Y0 (e 1) w) (blkK 3 (fun e w => Y1 (e 1) w) (blkK 0 (fun e w => Y2 w) noE)))) := by intro Y0 Y1 Y2; kernel_rfl
  exact seg_end (Eq.mp (e1 (fun a1 w => F138_7 a1 w K) (fun a1 w => F138_5 a1 w K) (fun w => F138_3 w K)) h) hn hr he

def F138_10b (s1 : Value) (s4 : Value) (w : World) (_K : Value → World → Prop) (Y0 : Value → World → Prop) (Y1 : Value → Value → Value → World → Prop) : Prop :=
bindP (bEq Try.prog 3 (.tmp 4) (.const (.int .i64 3)) s4 (.int .i64 3)) fun v19 =>
ifB v19 (
Y0 s1 w) (
bindP (bEq Try.prog 3 (.tmp 4) (.const (.int .i64 1)) s4 (.int .i64 1)) fun v20 =>
ifB v20 (
Y1 s1 s4 v20 w) (
bindP (bEq Try.prog 3 (.tmp 4) (.const (.int .i64 2)) s4 (.int .i64 2)) fun v21 =>
ifB v21 (
Y1 s1 s4 v21 w) (
bindP (bEq Try.prog 3 (.tmp 4) (.const (.int .i64 4)) s4 (.int .i64 4)) fun v22 =>
Y1 s1 s4 v22 w)))

def F138_10 (s1 : Value) (s4 : Value) (w : World) (K : Value → World → Prop) : Prop := F138_10b s1 s4 w K (fun a1 w => F138_9 a1 w K) (fun a1 a4 a7 w => F138_11 a1 a4 a7 w K)

theorem ok138_10 {K : Value → World → Prop} {kn kr : Env → World → Prop} {ke : Nat → Env → World → Prop}
    (hn : ∀ e w, (fun e w => F138_9 (e 1) w K) e w → kn e w) (hr : ∀ e w, endD Try.prog [.tmp 2] K e w → kr e w) (he : ∀ i e w, (blkK 1 (fun e w => F138_9 (e 1) w K) (blkK 2 (fun e w => F138_7 (e 1) w K) (blkK 3 (fun e w => F138_5 (e 1) w K) (blkK 0 (fun e w => F138_3 w K) noE)))) i e w → ke i e w) :
    ∀ e w, F138_10 (e 1) (e 4) w K → denL Try.prog (tabOf T138) 32 fuel ((flat (blkB (nthC (flat (blkB (nthC (flat (blkB (nthC (flat (blkB (nthC (flat (bodyOf Try.f138)) 2))) 0))) 0))) 0))).drop 0) e w kn kr ke := by
  intro e w h
  unfold F138_10 at h
  have e1 : ∀ (Y0 : Value → World → Prop) (Y1 : Value → Value → Value → World → Prop), F138_10b (e 1) (e 4) w K Y0 Y1 = denL Try.prog (tabOf T138) 32 fuel (((flat (blkB (nthC (flat (blkB (nthC (flat (blkB (nthC (flat (blkB (nthC (flat (bodyOf Try.f138)) 2))) 0))) 0))) 0))).drop 0).take 4) e w (fun e w => Y1 (e 1) (e 4) (e 7) w) (endD Try.prog [.tmp 2] K) (blkK 1 (fun e w => Y0 (e 1) w) (blkK 2 (fun e w => F138_7 (e 1) w K) (blkK 3 (fun e w => F138_5 (e 1) w K) (blkK 0 (fun e w => F138_3 w K) noE)))) := by intro Y0 Y1; kernel_rfl
  exact seg 4 (Eq.mp (e1 (fun a1 w => F138_9 a1 w K) (fun a1 a4 a7 w => F138_11 a1 a4 a7 w K)) h) (fun e w h => ok138_11 hn hr he e w h) hr he

def F138_8 (s1 : Value) (s4 : Value) (w : World) (K : Value → World → Prop) : Prop := F138_10 s1 s4 w K

theorem ok138_8 {K : Value → World → Prop} {kn kr : Env → World → Prop} {ke : Nat → Env → World → Prop}
    (hn : ∀ e w, (fun e w => F138_7 (e 1) w K) e w → kn e w) (hr : ∀ e w, endD Try.prog [.tmp 2] K e w → kr e w) (he : ∀ i e w, (blkK 2 (fun e w => F138_7 (e 1) w K) (blkK 3 (fun e w => F138_5 (e 1) w K) (blkK 0 (fun e w => F138_3 w K) noE))) i e w → ke i e w) :
    ∀ e w, F138_8 (e 1) (e 4) w K → denL Try.prog (tabOf T138) 32 fuel ((flat (blkB (nthC (flat (blkB (nthC (flat (blkB (nthC (flat (bodyOf Try.f138)) 2))) 0))) 0))).drop 0) e w kn kr ke := by
  intro e w h
  unfold F138_8 at h
  refine seg_block (id := 1) (body := (blkB (nthC (flat (blkB (nthC (flat (blkB (nthC (flat (blkB (nthC (flat (bodyOf Try.f138)) 2))) 0))) 0))) 0))) (l2 := (flat (blkB (nthC (flat (blkB (nthC (flat (blkB (nthC (flat (bodyOf Try.f138)) 2))) 0))) 0))).drop 1) (by kernel_rfl) ?_
  exact ok138_10 (fun e w h => ok138_9 hn hr he e w h) hr (blkK_mono (fun e w h => ok138_9 hn hr he e w h) he) e w h

def F138_6 (s1 : Value) (s4 : Value) (w : World) (K : Value → World → Prop) : Prop := F138_8 s1 s4 w K

theorem ok138_6 {K : Value → World → Prop} {kn kr : Env → World → Prop} {ke : Nat → Env → World → Prop}
    (hn : ∀ e w, (fun e w => F138_5 (e 1) w K) e w → kn e w) (hr : ∀ e w, endD Try.prog [.tmp 2] K e w → kr e w) (he : ∀ i e w, (blkK 3 (fun e w => F138_5 (e 1) w K) (blkK 0 (fun e w => F138_3 w K) noE)) i e w → ke i e w) :
    ∀ e w, F138_6 (e 1) (e 4) w K → denL Try.prog (tabOf T138) 32 fuel ((flat (blkB (nthC (flat (blkB (nthC (flat (bodyOf Try.f138)) 2))) 0))).drop 0) e w kn kr ke := by
  intro e w h
  unfold F138_6 at h
  refine seg_block (id := 2) (body := (blkB (nthC (flat (blkB (nthC (flat (blkB (nthC (flat (bodyOf Try.f138)) 2))) 0))) 0))) (l2 := (flat (blkB (nthC (flat (blkB (nthC (flat (bodyOf Try.f138)) 2))) 0))).drop 1) (by kernel_rfl) ?_
  exact ok138_8 (fun e w h => ok138_7 hn hr he e w h) hr (blkK_mono (fun e w h => ok138_7 hn hr he e w h) he) e w h

def F138_4 (s1 : Value) (s4 : Value) (w : World) (K : Value → World → Prop) : Prop := F138_6 s1 s4 w K

theorem ok138_4 {K : Value → World → Prop} {kn kr : Env → World → Prop} {ke : Nat → Env → World → Prop}
    (hn : ∀ e w, (fun e w => F138_3 w K) e w → kn e w) (hr : ∀ e w, endD Try.prog [.tmp 2] K e w → kr e w) (he : ∀ i e w, (blkK 0 (fun e w => F138_3 w K) noE) i e w → ke i e w) :
    ∀ e w, F138_4 (e 1) (e 4) w K → denL Try.prog (tabOf T138) 32 fuel ((flat (blkB (nthC (flat (bodyOf Try.f138)) 2))).drop 0) e w kn kr ke := by
  intro e w h
  unfold F138_4 at h
  refine seg_block (id := 3) (body := (blkB (nthC (flat (blkB (nthC (flat (bodyOf Try.f138)) 2))) 0))) (l2 := (flat (blkB (nthC (flat (bodyOf Try.f138)) 2))).drop 1) (by kernel_rfl) ?_
  exact ok138_6 (fun e w h => ok138_5 hn hr he e w h) hr (blkK_mono (fun e w h => ok138_5 hn hr he e w h) he) e w h

def F138_2 (s1 : Value) (s4 : Value) (w : World) (K : Value → World → Prop) : Prop := F138_4 s1 s4 w K

theorem ok138_2 {K : Value → World → Prop} {kn kr : Env → World → Prop} {ke : Nat → Env → World → Prop}
    (hn : ∀ e w, (fun e w => K (e 2) w) e w → kn e w) (hr : ∀ e w, endD Try.prog [.tmp 2] K e w → kr e w) (he : ∀ i e w, noE i e w → ke i e w) :
    ∀ e w, F138_2 (e 1) (e 4) w K → denL Try.prog (tabOf T138) 32 fuel ((flat (bodyOf Try.f138)).drop 2) e w kn kr ke := by
  intro e w h
  unfold F138_2 at h
  refine seg_block (id := 0) (body := (blkB (nthC (flat (bodyOf Try.f138)) 2))) (l2 := (flat (bodyOf Try.f138)).drop 3) (by kernel_rfl) ?_
  exact ok138_4 (fun e w h => ok138_3 hn hr he e w h) hr (blkK_mono (fun e w h => ok138_3 hn hr he e w h) he) e w h

def F138_1b (s0 : Value) (w : World) (_K : Value → World → Prop) (Y0 : Value → Value → World → Prop) : Prop :=
eBox 55 s0 w fun v24 w23 =>
bindP (pFieldAddr 0 v24) fun v25 =>
bindP (ld1 v25 w23) fun v26 =>
Y0 v24 v26 w23

def F138_1 (s0 : Value) (w : World) (K : Value → World → Prop) : Prop := F138_1b s0 w K (fun a1 a4 w => F138_2 a1 a4 w K)

theorem ok138_1 {K : Value → World → Prop} {kn kr : Env → World → Prop} {ke : Nat → Env → World → Prop}
    (hn : ∀ e w, (fun e w => K (e 2) w) e w → kn e w) (hr : ∀ e w, endD Try.prog [.tmp 2] K e w → kr e w) (he : ∀ i e w, noE i e w → ke i e w) :
    ∀ e w, F138_1 (e 0) w K → denL Try.prog (tabOf T138) 32 fuel ((flat (bodyOf Try.f138)).drop 0) e w kn kr ke := by
  intro e w h
  unfold F138_1 at h
  have e1 : ∀ (Y0 : Value → Value → World → Prop), F138_1b (e 0) w K Y0 = denL Try.prog (tabOf T138) 32 fuel (((flat (bodyOf Try.f138)).drop 0).take 2) e w (fun e w => Y0 (e 1) (e 4) w) (endD Try.prog [.tmp 2] K) noE := by intro Y0; kernel_rfl
  exact seg 2 (Eq.mp (e1 (fun a1 a4 w => F138_2 a1 a4 w K)) h) (fun e w h => ok138_2 hn hr he e w h) hr he

def F138 (x0 : Value) (w : World) (K : Value → World → Prop) : Prop := F138_1 x0 w K

def G138 : FnT := fun args w K => on1 (fun x0 => F138 x0 w K) args
theorem c138 {x0 : Value} {w : World} {K : Value → World → Prop} (h : F138 x0 w K) : callP G138 [x0] w K := callP_intro h
theorem ok138 : OkF Try.prog 138 G138 := by
  refine okF_of (tab_ok (l := T138) trivial) mixed (n := fuel) Try.func138 Try.call138 fun args w K h => ?_
  obtain ⟨x0, rfl, hh⟩ := of_on1 h
  unfold F138 at hh
  exact fnD_list (c := bodyOf Try.f138) (by kernel_rfl) (by kernel_rfl) (ok138_1 (fun _ _ h => h) (fun _ _ h => h) (fun _ _ _ h => h) (initE [x0]) w hh)

-- 39 gong/spec.Check
def T39 : List (Nat × FnT) := [(138, G138)]
def F39 (x0 : Value) (w : World) (K : Value → World → Prop) : Prop :=
eBox 55 x0 w fun v2 w1 =>
bindP (pFieldAddr 1 v2) fun v3 =>
bindP (ld1 v3 w1) fun v4 =>
bindP (bGe v4 (.int .i64 0)) fun v5 =>
Sx.stepG (gd true v5) (pFieldAddr 1 v2) fun v6 =>
Sx.stepG (gd true v5) (ld1 v6 w1) fun v7 =>
Sx.stepG (gd true v5) (bLe v7 (.int .i64 2305843009213693952)) fun v8 =>
bindP (pPick v5 v8 (.bool false)) fun v9 =>
bindP (uNot v9) fun v10 =>
Sx.stepG (gd false v10) (pFieldAddr 2 v2) fun v11 =>
Sx.stepG (gd false v10) (ld1 v11 w1) fun v12 =>
Sx.stepG (gd false v10) (lenS v12) fun v13 =>
Sx.stepG (gd false v10) (bGt v13 (.int .i64 64)) fun v14 =>
bindP (pPick v10 (.bool true) v14) fun v15 =>
Sx.stepG (gd false v15) (pFieldAddr 3 v2) fun v16 =>
Sx.stepG (gd false v15) (ld1 v16 w1) fun v17 =>
Sx.stepG (gd false v15) (lenS v17) fun v18 =>
Sx.stepG (gd false v15) (bGt v18 (.int .i64 65535)) fun v19 =>
bindP (pPick v15 (.bool true) v19) fun v20 =>
Sx.stepG (gd false v20) (pFieldAddr 4 v2) fun v21 =>
Sx.stepG (gd false v20) (ld1 v21 w1) fun v22 =>
Sx.stepG (gd false v20) (bLt v22 (.int .i64 0)) fun v23 =>
bindP (pPick v20 (.bool true) v23) fun v24 =>
Sx.stepG (gd false v24) (pFieldAddr 4 v2) fun v25 =>
Sx.stepG (gd false v24) (ld1 v25 w1) fun v26 =>
Sx.stepG (gd false v24) (bGt v26 (.int .i64 1152921504606846976)) fun v27 =>
bindP (pPick v24 (.bool true) v27) fun v28 =>
Sx.stepG (gd false v28) (ldN 5 v2 w1) fun v29 =>
stepE (gd false v28) (fun k => callP G138 [v29] w1 k) w1 fun v31 w30 =>
Sx.stepG (gd false v28) (uNot v31) fun v32 =>
bindP (pPick v28 (.bool true) v32) fun v33 =>
ifB v33 (
K (.int .i64 1) w30) (
K (.int .i64 0) w30)

def G39 : FnT := fun args w K => on1 (fun x0 => F39 x0 w K) args
theorem c39 {x0 : Value} {w : World} {K : Value → World → Prop} (h : F39 x0 w K) : callP G39 [x0] w K := callP_intro h
theorem ok39 : OkF Try.prog 39 G39 := by
  refine okF_of (tab_ok (l := T39) ⟨ok138, trivial⟩) mixed (n := fuel) Try.func39 Try.call39 fun args w K h => ?_
  obtain ⟨x0, rfl, hh⟩ := of_on1 h
  exact fnD_list (c := bodyOf Try.f39) (by kernel_rfl) (by kernel_rfl) (Eq.mp (by kernel_rfl) hh)

-- 35 gong/spec.Encode
def T35 : List (Nat × FnT) := [(39, G39), (125, G125), (126, G126), (127, G127)]
def F35 (x0 : Value) (w : World) (K : Value → World → Prop) : Prop :=
eBox 55 x0 w fun v2 w1 =>
bindP (ldN 5 v2 w1) fun v3 =>
callP G39 [v3] w1 fun v5 w4 =>
bindP (bNe Try.prog 24 (.tmp 13) (.const (.int .i64 0)) v5 (.int .i64 0)) fun v6 =>
ifB v6 (
K (.tuple #[(.string ⟨#[]⟩), v5]) w4) (
bindP (pFieldAddr 0 v2) fun v7 =>
bindP (ld1 v7 w4) fun v8 =>
callP G125 [v8, (.int .i64 1)] w4 fun v10 w9 =>
bindP (pTuple v10 0) fun v11 =>
bindP (pTuple v10 1) fun _ =>
bindP (pFieldAddr 1 v2) fun v13 =>
bindP (ld1 v13 w9) fun v14 =>
callP G126 [v14] w9 fun v16 w15 =>
bindP (pTuple v16 0) fun v17 =>
bindP (pTuple v16 1) fun _ =>
bindP (pFieldAddr 4 v2) fun v19 =>
bindP (ld1 v19 w15) fun v20 =>
callP G126 [v20] w15 fun v22 w21 =>
bindP (pTuple v22 0) fun v23 =>
bindP (pTuple v22 1) fun _ =>
bindP (bAdd v11 v17) fun v25 =>
bindP (pFieldAddr 2 v2) fun v26 =>
bindP (ld1 v26 w21.drew) fun v27 =>
bindP (pFieldAddr 3 v2) fun v28 =>
bindP (ld1 v28 w21.drew) fun v29 =>
callP G127 [v27] w21.drew fun v31 w30 =>
fok true (ld1 v28 w30) v29 ∧ (bindP (bAdd v25 v31) fun v32 =>
callP G127 [v29] w30 fun v34 w33 =>
bindP (bAdd v32 v34) fun v35 =>
bindP (bAdd v35 v23) fun v36 =>
K (.tuple #[v36, (.int .i64 0)]) w33))

def G35 : FnT := fun args w K => on1 (fun x0 => F35 x0 w K) args
theorem c35 {x0 : Value} {w : World} {K : Value → World → Prop} (h : F35 x0 w K) : callP G35 [x0] w K := callP_intro h
theorem ok35 : OkF Try.prog 35 G35 := by
  refine okF_of (tab_ok (l := T35) ⟨ok39, ok125, ok126, ok127, trivial⟩) mixed (n := fuel) Try.func35 Try.call35 fun args w K h => ?_
  obtain ⟨x0, rfl, hh⟩ := of_on1 h
  exact fnD_list (c := bodyOf Try.f35) (by kernel_rfl) (by kernel_rfl) (Eq.mp (by kernel_rfl) hh)

-- 37 gong/spec.Decode
def T37 : List (Nat × FnT) := [(39, G39), (129, G129), (130, G130), (131, G131), (132, G132), (133, G133)]
def F37 (x0 : Value) (w : World) (K : Value → World → Prop) : Prop :=
eAlloc Try.prog 55 w fun v2 w1 =>
callP G129 [x0] w1 fun v4 w3 =>
callP G130 [v4, (.int .i64 1)] w3 fun v6 w5 =>
callP G131 [v4, (.int .i64 2305843009213693952)] w5 fun v8 w7 =>
callP G132 [v4, (.int .i64 64)] w7 fun v10 w9 =>
callP G132 [v4, (.int .i64 65535)] w9 fun v12 w11 =>
callP G131 [v4, (.int .i64 1152921504606846976)] w11 fun v14 w13 =>
bindP (fBuild Try.prog 55 [(0, v6), (1, v8), (2, v10), (3, v12), (4, v14)]) fun v15 =>
eAlloc Try.prog 55 w13 fun v17 w16 =>
bindW (st 5 v17 v15 w16) fun w18 =>
callP G133 [v4] w18 fun v21 w20 =>
bindP (bNe Try.prog 24 (.tmp 20) (.const (.int .i64 0)) v21 (.int .i64 0)) fun v22 =>
Sx.stepG (gd false v22) (ldN 5 v17 w20) fun v23 =>
stepE (gd false v22) (fun k => callP G39 [v23] w20 k) w20 fun v25 w24 =>
Sx.stepG (gd false v22) (bNe Try.prog 24 (.tmp 24) (.const (.int .i64 0)) v25 (.int .i64 0)) fun v26 =>
bindP (pPick v22 (.bool true) v26) fun v27 =>
ifB v27 (
bindP (fBuild Try.prog 55 []) fun v28 =>
bindW (st 5 v2 v28 w24) fun w29 =>
bindP (ldN 5 v2 w29) fun v31 =>
K (.tuple #[v31, (.int .i64 1)]) w29) (
bindP (ldN 5 v17 w24) fun v32 =>
bindW (st 5 v2 v32 w24) fun w33 =>
bindP (ldN 5 v2 w33) fun v35 =>
K (.tuple #[v35, (.int .i64 0)]) w33)

def G37 : FnT := fun args w K => on1 (fun x0 => F37 x0 w K) args
theorem c37 {x0 : Value} {w : World} {K : Value → World → Prop} (h : F37 x0 w K) : callP G37 [x0] w K := callP_intro h
theorem ok37 : OkF Try.prog 37 G37 := by
  refine okF_of (tab_ok (l := T37) ⟨ok39, ok129, ok130, ok131, ok132, ok133, trivial⟩) mixed (n := fuel) Try.func37 Try.call37 fun args w K h => ?_
  obtain ⟨x0, rfl, hh⟩ := of_on1 h
  exact fnD_list (c := bodyOf Try.f37) (by kernel_rfl) (by kernel_rfl) (Eq.mp (by kernel_rfl) hh)

-- 34 gong/gonglaw29.works
def T34 : List (Nat × FnT) := [(35, G35), (37, G37)]
def F34 (w : World) (K : Value → World → Prop) : Prop :=
bindP (fBuild Try.prog 55 [(0, (.int .i64 3)), (1, (.int .i64 5))]) fun v1 =>
callP G35 [v1] w fun v3 w2 =>
bindP (pTuple v3 0) fun v4 =>
bindP (pTuple v3 1) fun v5 =>
callP G37 [v4] w2 fun v7 w6 =>
bindP (pTuple v7 0) fun v8 =>
bindP (pTuple v7 1) fun v9 =>
eAlloc Try.prog 55 w6 fun v11 w10 =>
bindW (st 5 v11 v8 w10) fun w12 =>
bindP (bEq Try.prog 9 (.tmp 15) (.const (.string ⟨#[3, 5, 0, 0, 0]⟩)) v4 (.string ⟨#[3, 5, 0, 0, 0]⟩)) fun v14 =>
stepM (gd true v14) v5 fun v15 =>
Sx.stepG (gd true v14) (bEq Try.prog 24 (.tmp 18) (.const (.int .i64 0)) v15 (.int .i64 0)) fun v16 =>
bindP (pPick v14 v16 (.bool false)) fun v17 =>
Sx.stepG (gd true v17) (ldN 5 v11 w12) fun v18 =>
Sx.stepG (gd true v17) (fBuild Try.prog 55 [(0, (.int .i64 3)), (1, (.int .i64 5))]) fun v19 =>
Sx.stepG (gd true v17) (bEq Try.prog 55 (.tmp 22) (.tmp 23) v18 v19) fun v20 =>
bindP (pPick v17 v20 (.bool false)) fun v21 =>
stepM (gd true v21) v9 fun v22 =>
Sx.stepG (gd true v21) (bEq Try.prog 24 (.tmp 27) (.const (.int .i64 0)) v22 (.int .i64 0)) fun v23 =>
bindP (pPick v21 v23 (.bool false)) fun v24 =>
K v24 w12

def G34 : FnT := fun args w K => on0 (F34 w K) args
theorem c34 {w : World} {K : Value → World → Prop} (h : F34 w K) : callP G34 [] w K := callP_intro h
theorem ok34 : OkF Try.prog 34 G34 := by
  refine okF_of (tab_ok (l := T34) ⟨ok35, ok37, trivial⟩) mixed (n := fuel) Try.func34 Try.call34 fun args w K h => ?_
  obtain ⟨rfl, hh⟩ := of_on0 h
  exact fnD_list (c := bodyOf Try.f34) (by kernel_rfl) (by kernel_rfl) (Eq.mp (by kernel_rfl) hh)

-- 7 gong/gonglaw29.SpecBack
def T7 : List (Nat × FnT) := [(34, G34), (35, G35), (37, G37)]
def F7_2b (s1 : Value) (w : World) (K : Value → World → Prop) : Prop :=
callP G37 [s1] w fun v2 w1 =>
bindP (pTuple v2 0) fun v3 =>
bindP (pTuple v2 1) fun v4 =>
eAlloc Try.prog 55 w1 fun v6 w5 =>
bindW (st 5 v6 v3 w5) fun w7 =>
bindP (bNe Try.prog 24 (.tmp 48) (.const (.int .i64 0)) v4 (.int .i64 0)) fun v9 =>
ifB v9 (
bindP (bEq Try.prog 24 (.tmp 50) (.const (.int .i64 1)) v4 (.int .i64 1)) fun v10 =>
Sx.stepG (gd true v10) (ldN 5 v6 w7) fun v11 =>
Sx.stepG (gd true v10) (fBuild Try.prog 55 []) fun v12 =>
Sx.stepG (gd true v10) (bEq Try.prog 55 (.tmp 53) (.tmp 54) v11 v12) fun v13 =>
bindP (pPick v10 v13 (.bool false)) fun v14 =>
K v14 w7) (
bindP (ldN 5 v6 w7) fun v15 =>
callP G35 [v15] w7 fun v17 w16 =>
bindP (pTuple v17 0) fun v18 =>
bindP (pTuple v17 1) fun v19 =>
bindP (bEq Try.prog 24 (.tmp 62) (.const (.int .i64 0)) v19 (.int .i64 0)) fun v20 =>
stepM (gd true v20) v18 fun v21 =>
stepM (gd true v20) s1 fun v22 =>
Sx.stepG (gd true v20) (bEq Try.prog 9 (.tmp 65) (.tmp 66) v21 v22) fun v23 =>
bindP (pPick v20 v23 (.bool false)) fun v24 =>
K v24 w16)

def F7_2 (s1 : Value) (w : World) (K : Value → World → Prop) : Prop := F7_2b s1 w K

theorem ok7_2 {K : Value → World → Prop} {kn kr : Env → World → Prop} {ke : Nat → Env → World → Prop}
    (hn : ∀ e w, (fun e w => K (e 4) w) e w → kn e w) (hr : ∀ e w, endD Try.prog [.tmp 4] K e w → kr e w) (he : ∀ i e w, noE i e w → ke i e w) :
    ∀ e w, F7_2 (e 1) w K → denL Try.prog (tabOf T7) 69 fuel ((flat (bodyOf Try.f7)).drop 8) e w kn kr ke := by
  intro e w h
  unfold F7_2 at h
  have e1 : ∀ (_ : Unit), F7_2b (e 1) w K = denL Try.prog (tabOf T7) 69 fuel ((flat (bodyOf Try.f7)).drop 8) e w (fun e w => K (e 4) w) (endD Try.prog [.tmp 4] K) noE := by intro _; kernel_rfl
  exact seg_end (Eq.mp (e1 ()) h) hn hr he

def F7_1b (s0 : Value) (s1 : Value) (w : World) (K : Value → World → Prop) (Y0 : Value → World → Prop) : Prop :=
eBox 55 s0 w fun v26 w25 =>
callP G34 [] w25 fun v28 w27 =>
bindP (uNot v28) fun v29 =>
ifB v29 (
K (.bool false) w27) (
bindP (pFieldAddr 3 v26) fun v30 =>
bindP (ld1 v30 w27) fun v31 =>
bindP (lenS v31) fun v32 =>
bindP (bGt v32 (.int .i64 3000)) fun v33 =>
stepM (gd false v33) s1 fun v34 =>
Sx.stepG (gd false v33) (lenS v34) fun v35 =>
Sx.stepG (gd false v33) (bGt v35 (.int .i64 3000)) fun v36 =>
bindP (pPick v33 (.bool true) v36) fun v37 =>
ifB v37 (
K (.bool true) w27) (
bindP (ldN 5 v26 w27) fun v38 =>
callP G35 [v38] w27 fun v40 w39 =>
bindP (pTuple v40 0) fun v41 =>
bindP (pTuple v40 1) fun v42 =>
bindP (bEq Try.prog 24 (.tmp 29) (.const (.int .i64 0)) v42 (.int .i64 0)) fun v43 =>
ifB v43 (
callP G37 [v41] w39 fun v45 w44 =>
bindP (pTuple v45 0) fun v46 =>
bindP (pTuple v45 1) fun v47 =>
eAlloc Try.prog 55 w44 fun v49 w48 =>
bindW (st 5 v49 v46 w48) fun w50 =>
bindP (bNe Try.prog 24 (.tmp 36) (.const (.int .i64 0)) v47 (.int .i64 0)) fun v52 =>
Sx.stepG (gd false v52) (ldN 5 v49 w50) fun v53 =>
Sx.stepG (gd false v52) (ldN 5 v26 w50) fun v54 =>
Sx.stepG (gd false v52) (bNe Try.prog 55 (.tmp 39) (.tmp 40) v53 v54) fun v55 =>
bindP (pPick v52 (.bool true) v55) fun v56 =>
ifB v56 (
K (.bool false) w50) (
Y0 s1 w50)) (
Y0 s1 w39)))

def F7_1 (s0 : Value) (s1 : Value) (w : World) (K : Value → World → Prop) : Prop := F7_1b s0 s1 w K (fun a1 w => F7_2 a1 w K)

theorem ok7_1 {K : Value → World → Prop} {kn kr : Env → World → Prop} {ke : Nat → Env → World → Prop}
    (hn : ∀ e w, (fun e w => K (e 4) w) e w → kn e w) (hr : ∀ e w, endD Try.prog [.tmp 4] K e w → kr e w) (he : ∀ i e w, noE i e w → ke i e w) :
    ∀ e w, F7_1 (e 0) (e 1) w K → denL Try.prog (tabOf T7) 69 fuel ((flat (bodyOf Try.f7)).drop 0) e w kn kr ke := by
  intro e w h
  unfold F7_1 at h
  have e1 : ∀ (Y0 : Value → World → Prop), F7_1b (e 0) (e 1) w K Y0 = denL Try.prog (tabOf T7) 69 fuel (((flat (bodyOf Try.f7)).drop 0).take 8) e w (fun e w => Y0 (e 1) w) (endD Try.prog [.tmp 4] K) noE := by intro Y0; kernel_rfl
  exact seg 8 (Eq.mp (e1 (fun a1 w => F7_2 a1 w K)) h) (fun e w h => ok7_2 hn hr he e w h) hr he

def F7 (x0 : Value) (x1 : Value) (w : World) (K : Value → World → Prop) : Prop := F7_1 x0 x1 w K

def G7 : FnT := fun args w K => on2 (fun x0 x1 => F7 x0 x1 w K) args
theorem c7 {x0 x1 : Value} {w : World} {K : Value → World → Prop} (h : F7 x0 x1 w K) : callP G7 [x0, x1] w K := callP_intro h
theorem ok7 : OkF Try.prog 7 G7 := by
  refine okF_of (tab_ok (l := T7) ⟨ok34, ok35, ok37, trivial⟩) mixed (n := fuel) Try.func7 Try.call7 fun args w K h => ?_
  obtain ⟨x0, x1, rfl, hh⟩ := of_on2 h
  unfold F7 at hh
  exact fnD_list (c := bodyOf Try.f7) (by kernel_rfl) (by kernel_rfl) (ok7_1 (fun _ _ h => h) (fun _ _ h => h) (fun _ _ _ h => h) (initE [x0, x1]) w hh)

-- 40 gong/gongref29.Check
def T40 : List (Nat × FnT) := [(123, G123)]
def F40_3b (s3 : Value) (w : World) (K : Value → World → Prop) : Prop :=
bindP (uNot s3) fun v1 =>
ifB v1 (
K (.int .i64 1) w) (
K (.int .i64 0) w)

def F40_3 (s3 : Value) (w : World) (K : Value → World → Prop) : Prop := F40_3b s3 w K

theorem ok40_3 {K : Value → World → Prop} {kn kr : Env → World → Prop} {ke : Nat → Env → World → Prop}
    (hn : ∀ e w, (fun e w => K (e 2) w) e w → kn e w) (hr : ∀ e w, endD Try.prog [.tmp 2] K e w → kr e w) (he : ∀ i e w, noE i e w → ke i e w) :
    ∀ e w, F40_3 (e 3) w K → denL Try.prog (tabOf T40) 66 fuel ((flat (bodyOf Try.f40)).drop 6) e w kn kr ke := by
  intro e w h
  unfold F40_3 at h
  have e1 : ∀ (_ : Unit), F40_3b (e 3) w K = denL Try.prog (tabOf T40) 66 fuel ((flat (bodyOf Try.f40)).drop 6) e w (fun e w => K (e 2) w) (endD Try.prog [.tmp 2] K) noE := by intro _; kernel_rfl
  exact seg_end (Eq.mp (e1 ()) h) hn hr he

def F40_5b (s1 : Value) (s31 : Value) (s32 : Value) (w : World) (K : Value → World → Prop) (Y0 : Value → World → Prop) : Prop :=
ifB s32 (
bindP (pFieldAddr 4 s1) fun v2 =>
bindP (ld1 v2 w) fun v3 =>
bindP (bEq Try.prog 3 (.tmp 37) (.const (.int .i64 0)) v3 (.int .i64 0)) fun v4 =>
Y0 v4 w) (
bindP (bEq Try.prog 3 (.tmp 31) (.const (.int .i64 3)) s31 (.int .i64 3)) fun v5 =>
ifB v5 (
bindP (pFieldAddr 4 s1) fun v6 =>
bindP (ld1 v6 w) fun v7 =>
bindP (bEq Try.prog 3 (.tmp 42) (.const (.int .i64 0)) v7 (.int .i64 0)) fun v8 =>
Sx.stepG (gd true v8) (pFieldAddr 3 s1) fun v9 =>
Sx.stepG (gd true v8) (ld1 v9 w) fun v10 =>
Sx.stepG (gd true v8) (bEq Try.prog 9 (.tmp 46) (.const (.string ⟨#[]⟩)) v10 (.string ⟨#[]⟩)) fun v11 =>
bindP (pPick v8 v11 (.bool false)) fun v12 =>
Sx.stepG (gd true v12) (pFieldAddr 2 s1) fun v13 =>
Sx.stepG (gd true v12) (ld1 v13 w) fun v14 =>
Sx.stepG (gd true v12) (bEq Try.prog 9 (.tmp 51) (.const (.string ⟨#[]⟩)) v14 (.string ⟨#[]⟩)) fun v15 =>
bindP (pPick v12 v15 (.bool false)) fun v16 =>
Y0 v16 w) (
bindP (bEq Try.prog 3 (.tmp 31) (.const (.int .i64 5)) s31 (.int .i64 5)) fun v17 =>
ifB v17 (
bindP (pFieldAddr 3 s1) fun v18 =>
bindP (ld1 v18 w) fun v19 =>
bindP (bEq Try.prog 9 (.tmp 57) (.const (.string ⟨#[]⟩)) v19 (.string ⟨#[]⟩)) fun v20 =>
Sx.stepG (gd true v20) (pFieldAddr 2 s1) fun v21 =>
Sx.stepG (gd true v20) (ld1 v21 w) fun v22 =>
Sx.stepG (gd true v20) (bEq Try.prog 9 (.tmp 61) (.const (.string ⟨#[]⟩)) v22 (.string ⟨#[]⟩)) fun v23 =>
bindP (pPick v20 v23 (.bool false)) fun v24 =>
Y0 v24 w) (
K (.int .i64 1) w)))

def F40_5 (s1 : Value) (s31 : Value) (s32 : Value) (w : World) (K : Value → World → Prop) : Prop := F40_5b s1 s31 s32 w K (fun a3 w => F40_3 a3 w K)

theorem ok40_5 {K : Value → World → Prop} {kn kr : Env → World → Prop} {ke : Nat → Env → World → Prop}
    (hn : ∀ e w, (fun e w => F40_3 (e 3) w K) e w → kn e w) (hr : ∀ e w, endD Try.prog [.tmp 2] K e w → kr e w) (he : ∀ i e w, (blkK 0 (fun e w => F40_3 (e 3) w K) noE) i e w → ke i e w) :
    ∀ e w, F40_5 (e 1) (e 31) (e 32) w K → denL Try.prog (tabOf T40) 66 fuel ((flat (blkB (nthC (flat (bodyOf Try.f40)) 5))).drop 2) e w kn kr ke := by
  intro e w h
  unfold F40_5 at h
  have e1 : ∀ (Y0 : Value → World → Prop), F40_5b (e 1) (e 31) (e 32) w K Y0 = denL Try.prog (tabOf T40) 66 fuel ((flat (blkB (nthC (flat (bodyOf Try.f40)) 5))).drop 2) e w (fun e w => Y0 (e 3) w) (endD Try.prog [.tmp 2] K) (blkK 0 (fun e w => Y0 (e 3) w) noE) := by intro Y0; kernel_rfl
  exact seg_end (Eq.mp (e1 (fun a3 w => F40_3 a3 w K)) h) hn hr he

def F40_4b (s1 : Value) (s31 : Value) (w : World) (_K : Value → World → Prop) (Y0 : Value → Value → Value → World → Prop) : Prop :=
bindP (bEq Try.prog 3 (.tmp 31) (.const (.int .i64 1)) s31 (.int .i64 1)) fun v25 =>
ifB v25 (
Y0 s1 s31 v25 w) (
bindP (bEq Try.prog 3 (.tmp 31) (.const (.int .i64 2)) s31 (.int .i64 2)) fun v26 =>
ifB v26 (
Y0 s1 s31 v26 w) (
bindP (bEq Try.prog 3 (.tmp 31) (.const (.int .i64 4)) s31 (.int .i64 4)) fun v27 =>
Y0 s1 s31 v27 w))

def F40_4 (s1 : Value) (s31 : Value) (w : World) (K : Value → World → Prop) : Prop := F40_4b s1 s31 w K (fun a1 a31 a32 w => F40_5 a1 a31 a32 w K)

theorem ok40_4 {K : Value → World → Prop} {kn kr : Env → World → Prop} {ke : Nat → Env → World → Prop}
    (hn : ∀ e w, (fun e w => F40_3 (e 3) w K) e w → kn e w) (hr : ∀ e w, endD Try.prog [.tmp 2] K e w → kr e w) (he : ∀ i e w, (blkK 0 (fun e w => F40_3 (e 3) w K) noE) i e w → ke i e w) :
    ∀ e w, F40_4 (e 1) (e 31) w K → denL Try.prog (tabOf T40) 66 fuel ((flat (blkB (nthC (flat (bodyOf Try.f40)) 5))).drop 0) e w kn kr ke := by
  intro e w h
  unfold F40_4 at h
  have e1 : ∀ (Y0 : Value → Value → Value → World → Prop), F40_4b (e 1) (e 31) w K Y0 = denL Try.prog (tabOf T40) 66 fuel (((flat (blkB (nthC (flat (bodyOf Try.f40)) 5))).drop 0).take 2) e w (fun e w => Y0 (e 1) (e 31) (e 32) w) (endD Try.prog [.tmp 2] K) (blkK 0 (fun e w => F40_3 (e 3) w K) noE) := by intro Y0; kernel_rfl
  exact seg 2 (Eq.mp (e1 (fun a1 a31 a32 w => F40_5 a1 a31 a32 w K)) h) (fun e w h => ok40_5 hn hr he e w h) hr he

def F40_2 (s1 : Value) (s31 : Value) (w : World) (K : Value → World → Prop) : Prop := F40_4 s1 s31 w K

theorem ok40_2 {K : Value → World → Prop} {kn kr : Env → World → Prop} {ke : Nat → Env → World → Prop}
    (hn : ∀ e w, (fun e w => K (e 2) w) e w → kn e w) (hr : ∀ e w, endD Try.prog [.tmp 2] K e w → kr e w) (he : ∀ i e w, noE i e w → ke i e w) :
    ∀ e w, F40_2 (e 1) (e 31) w K → denL Try.prog (tabOf T40) 66 fuel ((flat (bodyOf Try.f40)).drop 5) e w kn kr ke := by
  intro e w h
  unfold F40_2 at h
  refine seg_block (id := 0) (body := (blkB (nthC (flat (bodyOf Try.f40)) 5))) (l2 := (flat (bodyOf Try.f40)).drop 6) (by kernel_rfl) ?_
  exact ok40_4 (fun e w h => ok40_3 hn hr he e w h) hr (blkK_mono (fun e w h => ok40_3 hn hr he e w h) he) e w h

def F40_1b (s0 : Value) (w : World) (K : Value → World → Prop) (Y0 : Value → Value → World → Prop) : Prop :=
eBox 55 s0 w fun v29 w28 =>
bindP (pFieldAddr 1 v29) fun v30 =>
bindP (ld1 v30 w28) fun v31 =>
callP G123 [v31] w28 fun v33 w32 =>
bindP (uNot v33) fun v34 =>
Sx.stepG (gd false v34) (pFieldAddr 2 v29) fun v35 =>
Sx.stepG (gd false v34) (ld1 v35 w32) fun v36 =>
Sx.stepG (gd false v34) (lenS v36) fun v37 =>
Sx.stepG (gd false v34) (bGt v37 (.int .i64 64)) fun v38 =>
bindP (pPick v34 (.bool true) v38) fun v39 =>
Sx.stepG (gd false v39) (pFieldAddr 3 v29) fun v40 =>
Sx.stepG (gd false v39) (ld1 v40 w32) fun v41 =>
Sx.stepG (gd false v39) (lenS v41) fun v42 =>
Sx.stepG (gd false v39) (bGt v42 (.int .i64 65535)) fun v43 =>
bindP (pPick v39 (.bool true) v43) fun v44 =>
Sx.stepG (gd false v44) (pFieldAddr 4 v29) fun v45 =>
Sx.stepG (gd false v44) (ld1 v45 w32) fun v46 =>
Sx.stepG (gd false v44) (bLt v46 (.int .i64 0)) fun v47 =>
bindP (pPick v44 (.bool true) v47) fun v48 =>
Sx.stepG (gd false v48) (pFieldAddr 4 v29) fun v49 =>
Sx.stepG (gd false v48) (ld1 v49 w32) fun v50 =>
Sx.stepG (gd false v48) (bGt v50 (.int .i64 1152921504606846976)) fun v51 =>
bindP (pPick v48 (.bool true) v51) fun v52 =>
ifB v52 (
K (.int .i64 1) w32) (
bindP (pFieldAddr 0 v29) fun v53 =>
bindP (ld1 v53 w32) fun v54 =>
Y0 v29 v54 w32)

def F40_1 (s0 : Value) (w : World) (K : Value → World → Prop) : Prop := F40_1b s0 w K (fun a1 a31 w => F40_2 a1 a31 w K)

theorem ok40_1 {K : Value → World → Prop} {kn kr : Env → World → Prop} {ke : Nat → Env → World → Prop}
    (hn : ∀ e w, (fun e w => K (e 2) w) e w → kn e w) (hr : ∀ e w, endD Try.prog [.tmp 2] K e w → kr e w) (he : ∀ i e w, noE i e w → ke i e w) :
    ∀ e w, F40_1 (e 0) w K → denL Try.prog (tabOf T40) 66 fuel ((flat (bodyOf Try.f40)).drop 0) e w kn kr ke := by
  intro e w h
  unfold F40_1 at h
  have e1 : ∀ (Y0 : Value → Value → World → Prop), F40_1b (e 0) w K Y0 = denL Try.prog (tabOf T40) 66 fuel (((flat (bodyOf Try.f40)).drop 0).take 5) e w (fun e w => Y0 (e 1) (e 31) w) (endD Try.prog [.tmp 2] K) noE := by intro Y0; kernel_rfl
  exact seg 5 (Eq.mp (e1 (fun a1 a31 w => F40_2 a1 a31 w K)) h) (fun e w h => ok40_2 hn hr he e w h) hr he

def F40 (x0 : Value) (w : World) (K : Value → World → Prop) : Prop := F40_1 x0 w K

def G40 : FnT := fun args w K => on1 (fun x0 => F40 x0 w K) args
theorem c40 {x0 : Value} {w : World} {K : Value → World → Prop} (h : F40 x0 w K) : callP G40 [x0] w K := callP_intro h
theorem ok40 : OkF Try.prog 40 G40 := by
  refine okF_of (tab_ok (l := T40) ⟨ok123, trivial⟩) mixed (n := fuel) Try.func40 Try.call40 fun args w K h => ?_
  obtain ⟨x0, rfl, hh⟩ := of_on1 h
  unfold F40 at hh
  exact fnD_list (c := bodyOf Try.f40) (by kernel_rfl) (by kernel_rfl) (ok40_1 (fun _ _ h => h) (fun _ _ h => h) (fun _ _ _ h => h) (initE [x0]) w hh)

-- 128 gong/gongref29.Put
def T128 : List (Nat × FnT) := [(201, G201), (202, G202)]
def F128 (x0 : Value) (w : World) (K : Value → World → Prop) : Prop :=
eBox 55 x0 w fun v2 w1 =>
bindP (pFieldAddr 0 v2) fun v3 =>
bindP (ld1 v3 w1.drew) fun v4 =>
bindP (cInt .u8 v4) fun v5 =>
bindP (pFieldAddr 1 v2) fun v6 =>
bindP (ld1 v6 w1.drew) fun v7 =>
bindP (pFieldAddr 2 v2) fun v8 =>
bindP (ld1 v8 w1.drew) fun v9 =>
bindP (pFieldAddr 3 v2) fun v10 =>
bindP (ld1 v10 w1.drew) fun v11 =>
bindP (pFieldAddr 4 v2) fun v12 =>
bindP (ld1 v12 w1.drew) fun v13 =>
(eBuildSl Try.prog 29 1 [(0, v5)] w1.drew fun v15 w14 =>
(fok true (ld1 v6 w14) v7 ∧ fok true (ld1 v8 w14) v9 ∧ fok true (ld1 v10 w14) v11 ∧ fok true (ld1 v12 w14) v13) ∧ (bindP (cBytes v15 w14) fun v16 =>
callP G201 [v7] w14 fun v18 w17 =>
(fok true (ld1 v3 w17) v4 ∧ fok true (cInt .u8 v4) v5 ∧ fok true (cBytes v15 w17) v16 ∧ fok true (ld1 v8 w17) v9 ∧ fok true (ld1 v10 w17) v11 ∧ fok true (ld1 v12 w17) v13) ∧ (bindP (bAdd v16 v18) fun v19 =>
callP G202 [v9] w17 fun v21 w20 =>
(fok true (ld1 v3 w20) v4 ∧ fok true (cInt .u8 v4) v5 ∧ fok true (cBytes v15 w20) v16 ∧ fok true (ld1 v10 w20) v11 ∧ fok true (ld1 v12 w20) v13) ∧ (bindP (bAdd v19 v21) fun v22 =>
callP G202 [v11] w20 fun v24 w23 =>
(fok true (ld1 v3 w23) v4 ∧ fok true (cInt .u8 v4) v5 ∧ fok true (cBytes v15 w23) v16 ∧ fok true (ld1 v12 w23) v13) ∧ (bindP (bAdd v22 v24) fun v25 =>
callP G201 [v13] w23 fun v27 w26 =>
(fok true (ld1 v3 w26) v4 ∧ fok true (cInt .u8 v4) v5 ∧ fok true (cBytes v15 w26) v16) ∧ (bindP (bAdd v25 v27) fun v28 =>
K v28 w26)))))) ∧ (callP G201 [v7] w1.drew fun v30 w29 =>
(fok true (ld1 v3 w29) v4 ∧ fok true (cInt .u8 v4) v5 ∧ fok true (ld1 v8 w29) v9 ∧ fok true (ld1 v10 w29) v11 ∧ fok true (ld1 v12 w29) v13) ∧ ((eBuildSl Try.prog 29 1 [(0, v5)] w29 fun v32 w31 =>
(fok true (ld1 v6 w31) v7 ∧ fok true (ld1 v8 w31) v9 ∧ fok true (ld1 v10 w31) v11 ∧ fok true (ld1 v12 w31) v13) ∧ (bindP (cBytes v32 w31) fun v33 =>
bindP (bAdd v33 v30) fun v34 =>
callP G202 [v9] w31 fun v36 w35 =>
(fok true (ld1 v3 w35) v4 ∧ fok true (cInt .u8 v4) v5 ∧ fok true (cBytes v32 w35) v33 ∧ fok true (ld1 v10 w35) v11 ∧ fok true (ld1 v12 w35) v13) ∧ (bindP (bAdd v34 v36) fun v37 =>
callP G202 [v11] w35 fun v39 w38 =>
(fok true (ld1 v3 w38) v4 ∧ fok true (cInt .u8 v4) v5 ∧ fok true (cBytes v32 w38) v33 ∧ fok true (ld1 v12 w38) v13) ∧ (bindP (bAdd v37 v39) fun v40 =>
callP G201 [v13] w38 fun v42 w41 =>
(fok true (ld1 v3 w41) v4 ∧ fok true (cInt .u8 v4) v5 ∧ fok true (cBytes v32 w41) v33) ∧ (bindP (bAdd v40 v42) fun v43 =>
K v43 w41))))) ∧ (callP G202 [v9] w29 fun v45 w44 =>
(fok true (ld1 v3 w44) v4 ∧ fok true (cInt .u8 v4) v5 ∧ fok true (ld1 v10 w44) v11 ∧ fok true (ld1 v12 w44) v13) ∧ ((eBuildSl Try.prog 29 1 [(0, v5)] w44 fun v47 w46 =>
(fok true (ld1 v6 w46) v7 ∧ fok true (ld1 v8 w46) v9 ∧ fok true (ld1 v10 w46) v11 ∧ fok true (ld1 v12 w46) v13) ∧ (bindP (cBytes v47 w46) fun v48 =>
bindP (bAdd v48 v30) fun v49 =>
bindP (bAdd v49 v45) fun v50 =>
callP G202 [v11] w46 fun v52 w51 =>
(fok true (ld1 v3 w51) v4 ∧ fok true (cInt .u8 v4) v5 ∧ fok true (cBytes v47 w51) v48 ∧ fok true (ld1 v12 w51) v13) ∧ (bindP (bAdd v50 v52) fun v53 =>
callP G201 [v13] w51 fun v55 w54 =>
(fok true (ld1 v3 w54) v4 ∧ fok true (cInt .u8 v4) v5 ∧ fok true (cBytes v47 w54) v48) ∧ (bindP (bAdd v53 v55) fun v56 =>
K v56 w54)))) ∧ (callP G202 [v11] w44 fun v58 w57 =>
(fok true (ld1 v3 w57) v4 ∧ fok true (cInt .u8 v4) v5 ∧ fok true (ld1 v12 w57) v13) ∧ ((eBuildSl Try.prog 29 1 [(0, v5)] w57 fun v60 w59 =>
(fok true (ld1 v6 w59) v7 ∧ fok true (ld1 v8 w59) v9 ∧ fok true (ld1 v10 w59) v11 ∧ fok true (ld1 v12 w59) v13) ∧ (bindP (cBytes v60 w59) fun v61 =>
bindP (bAdd v61 v30) fun v62 =>
bindP (bAdd v62 v45) fun v63 =>
bindP (bAdd v63 v58) fun v64 =>
callP G201 [v13] w59 fun v66 w65 =>
(fok true (ld1 v3 w65) v4 ∧ fok true (cInt .u8 v4) v5 ∧ fok true (cBytes v60 w65) v61) ∧ (bindP (bAdd v64 v66) fun v67 =>
K v67 w65))) ∧ (callP G201 [v13] w57 fun v69 w68 =>
(fok true (ld1 v3 w68) v4 ∧ fok true (cInt .u8 v4) v5) ∧ (eBuildSl Try.prog 29 1 [(0, v5)] w68 fun v71 w70 =>
(fok true (ld1 v6 w70) v7 ∧ fok true (ld1 v8 w70) v9 ∧ fok true (ld1 v10 w70) v11 ∧ fok true (ld1 v12 w70) v13) ∧ (bindP (cBytes v71 w70) fun v72 =>
bindP (bAdd v72 v30) fun v73 =>
bindP (bAdd v73 v45) fun v74 =>
bindP (bAdd v74 v58) fun v75 =>
bindP (bAdd v75 v69) fun v76 =>
K v76 w70)))))))))

def G128 : FnT := fun args w K => on1 (fun x0 => F128 x0 w K) args
theorem c128 {x0 : Value} {w : World} {K : Value → World → Prop} (h : F128 x0 w K) : callP G128 [x0] w K := callP_intro h
theorem ok128 : OkF Try.prog 128 G128 := by
  refine okF_of (tab_ok (l := T128) ⟨ok201, ok202, trivial⟩) mixed (n := fuel) Try.func128 Try.call128 fun args w K h => ?_
  obtain ⟨x0, rfl, hh⟩ := of_on1 h
  exact fnD_list (c := bodyOf Try.f128) (by kernel_rfl) (by kernel_rfl) (Eq.mp (by kernel_rfl) hh)

-- 36 gong/gongref29.Encode
def T36 : List (Nat × FnT) := [(40, G40), (128, G128)]
def F36 (x0 : Value) (w : World) (K : Value → World → Prop) : Prop :=
eBox 55 x0 w fun v2 w1 =>
bindP (ldN 5 v2 w1) fun v3 =>
callP G40 [v3] w1 fun v5 w4 =>
bindP (bNe Try.prog 24 (.tmp 7) (.const (.int .i64 0)) v5 (.int .i64 0)) fun v6 =>
ifB v6 (
K (.tuple #[(.string ⟨#[]⟩), v5]) w4) (
bindP (ldN 5 v2 w4) fun v7 =>
callP G128 [v7] w4 fun v9 w8 =>
K (.tuple #[v9, (.int .i64 0)]) w8)

def G36 : FnT := fun args w K => on1 (fun x0 => F36 x0 w K) args
theorem c36 {x0 : Value} {w : World} {K : Value → World → Prop} (h : F36 x0 w K) : callP G36 [x0] w K := callP_intro h
theorem ok36 : OkF Try.prog 36 G36 := by
  refine okF_of (tab_ok (l := T36) ⟨ok40, ok128, trivial⟩) mixed (n := fuel) Try.func36 Try.call36 fun args w K h => ?_
  obtain ⟨x0, rfl, hh⟩ := of_on1 h
  exact fnD_list (c := bodyOf Try.f36) (by kernel_rfl) (by kernel_rfl) (Eq.mp (by kernel_rfl) hh)

-- 38 gong/gongref29.Decode
def T38 : List (Nat × FnT) := [(40, G40), (134, G134), (135, G135), (136, G136), (137, G137)]
def F38 (x0 : Value) (w : World) (K : Value → World → Prop) : Prop :=
eAlloc Try.prog 55 w fun v2 w1 =>
bindP (fBuild Try.prog 190 [(0, x0)]) fun v3 =>
eBox 190 v3 w1 fun v5 w4 =>
callP G134 [v5, (.int .i64 1)] w4 fun v7 w6 =>
bindP (fBuild Try.prog 55 [(0, v7)]) fun v8 =>
eAlloc Try.prog 55 w6 fun v10 w9 =>
bindW (st 5 v10 v8 w9) fun w11 =>
callP G135 [v5, (.int .i64 2305843009213693952)] w11 fun v14 w13 =>
bindP (pFieldAddr 1 v10) fun v15 =>
bindW (st 1 v15 v14 w13) fun w16 =>
callP G136 [v5, (.int .i64 64)] w16 fun v19 w18 =>
bindP (pFieldAddr 2 v10) fun v20 =>
bindW (st 1 v20 v19 w18) fun w21 =>
callP G136 [v5, (.int .i64 65535)] w21 fun v24 w23 =>
bindP (pFieldAddr 3 v10) fun v25 =>
bindW (st 1 v25 v24 w23) fun w26 =>
callP G135 [v5, (.int .i64 1152921504606846976)] w26 fun v29 w28 =>
bindP (pFieldAddr 4 v10) fun v30 =>
bindW (st 1 v30 v29 w28) fun w31 =>
callP G137 [v5] w31 fun v34 w33 =>
bindP (bNe Try.prog 24 (.tmp 25) (.const (.int .i64 0)) v34 (.int .i64 0)) fun v35 =>
Sx.stepG (gd false v35) (ldN 5 v10 w33) fun v36 =>
stepE (gd false v35) (fun k => callP G40 [v36] w33 k) w33 fun v38 w37 =>
Sx.stepG (gd false v35) (bNe Try.prog 24 (.tmp 29) (.const (.int .i64 0)) v38 (.int .i64 0)) fun v39 =>
bindP (pPick v35 (.bool true) v39) fun v40 =>
ifB v40 (
bindP (fBuild Try.prog 55 []) fun v41 =>
bindW (st 5 v2 v41 w37) fun w42 =>
bindP (ldN 5 v2 w42) fun v44 =>
K (.tuple #[v44, (.int .i64 1)]) w42) (
bindP (ldN 5 v10 w37) fun v45 =>
bindW (st 5 v2 v45 w37) fun w46 =>
bindP (ldN 5 v2 w46) fun v48 =>
K (.tuple #[v48, (.int .i64 0)]) w46)

def G38 : FnT := fun args w K => on1 (fun x0 => F38 x0 w K) args
theorem c38 {x0 : Value} {w : World} {K : Value → World → Prop} (h : F38 x0 w K) : callP G38 [x0] w K := callP_intro h
theorem ok38 : OkF Try.prog 38 G38 := by
  refine okF_of (tab_ok (l := T38) ⟨ok40, ok134, ok135, ok136, ok137, trivial⟩) mixed (n := fuel) Try.func38 Try.call38 fun args w K h => ?_
  obtain ⟨x0, rfl, hh⟩ := of_on1 h
  exact fnD_list (c := bodyOf Try.f38) (by kernel_rfl) (by kernel_rfl) (Eq.mp (by kernel_rfl) hh)

-- 6 gong/gonglaw29.SpecCodes
def T6 : List (Nat × FnT) := [(34, G34), (35, G35), (36, G36), (37, G37), (38, G38), (39, G39), (40, G40)]
def F6 (x0 : Value) (x1 : Value) (w : World) (K : Value → World → Prop) : Prop :=
eBox 55 x0 w fun v2 w1 =>
bindP (pFieldAddr 3 v2) fun v3 =>
bindP (ld1 v3 w1) fun v4 =>
bindP (lenS v4) fun v5 =>
bindP (bGt v5 (.int .i64 3000)) fun v6 =>
Sx.stepG (gd true v6) (pFieldAddr 3 v2) fun v7 =>
Sx.stepG (gd true v6) (ld1 v7 w1) fun v8 =>
Sx.stepG (gd true v6) (lenS v8) fun v9 =>
Sx.stepG (gd true v6) (bLe v9 (.int .i64 65535)) fun v10 =>
bindP (pPick v6 v10 (.bool false)) fun v11 =>
Sx.stepG (gd false v11) (pFieldAddr 3 v2) fun v12 =>
Sx.stepG (gd false v11) (ld1 v12 w1) fun v13 =>
Sx.stepG (gd false v11) (lenS v13) fun v14 =>
Sx.stepG (gd false v11) (bGt v14 (.int .i64 131072)) fun v15 =>
bindP (pPick v11 (.bool true) v15) fun v16 =>
stepM (gd false v16) x1 fun v17 =>
Sx.stepG (gd false v16) (lenS v17) fun v18 =>
Sx.stepG (gd false v16) (bGt v18 (.int .i64 5000)) fun v19 =>
bindP (pPick v16 (.bool true) v19) fun v20 =>
Sx.stepG (gd false v20) (pFieldAddr 2 v2) fun v21 =>
Sx.stepG (gd false v20) (ld1 v21 w1) fun v22 =>
Sx.stepG (gd false v20) (lenS v22) fun v23 =>
Sx.stepG (gd false v20) (bGt v23 (.int .i64 1000)) fun v24 =>
bindP (pPick v20 (.bool true) v24) fun v25 =>
ifB v25 (
callP G34 [] w1 fun v27 w26 =>
K v27 w26) (
bindP (ldN 5 v2 w1) fun v28 =>
callP G35 [v28] w1 fun v30 w29 =>
bindP (pTuple v30 0) fun v31 =>
bindP (pTuple v30 1) fun v32 =>
bindP (ldN 5 v2 w29) fun v33 =>
callP G36 [v33] w29 fun v35 w34 =>
bindP (pTuple v35 0) fun v36 =>
bindP (pTuple v35 1) fun v37 =>
callP G37 [x1] w34 fun v39 w38 =>
bindP (pTuple v39 0) fun v40 =>
bindP (pTuple v39 1) fun v41 =>
eAlloc Try.prog 55 w38 fun v43 w42 =>
bindW (st 5 v43 v40 w42) fun w44 =>
callP G38 [x1] w44 fun v47 w46 =>
bindP (pTuple v47 0) fun v48 =>
bindP (pTuple v47 1) fun v49 =>
eAlloc Try.prog 55 w46 fun v51 w50 =>
bindW (st 5 v51 v48 w50) fun w52 =>
bindP (ldN 5 v2 w52.drew) fun v54 =>
bindP (ldN 5 v2 w52.drew) fun v55 =>
callP G39 [v54] w52.drew fun v57 w56 =>
fok true (ldN 5 v2 w56) v55 ∧ (callP G40 [v55] w56 fun v59 w58 =>
bindP (bEq Try.prog 24 (.tmp 62) (.tmp 64) v57 v59) fun v60 =>
stepM (gd true v60) v31 fun v61 =>
stepM (gd true v60) v36 fun v62 =>
Sx.stepG (gd true v60) (bEq Try.prog 9 (.tmp 67) (.tmp 68) v61 v62) fun v63 =>
bindP (pPick v60 v63 (.bool false)) fun v64 =>
stepM (gd true v64) v32 fun v65 =>
stepM (gd true v64) v37 fun v66 =>
Sx.stepG (gd true v64) (bEq Try.prog 24 (.tmp 72) (.tmp 73) v65 v66) fun v67 =>
bindP (pPick v64 v67 (.bool false)) fun v68 =>
Sx.stepG (gd true v68) (ldN 5 v43 w58) fun v69 =>
Sx.stepG (gd true v68) (ldN 5 v51 w58) fun v70 =>
Sx.stepG (gd true v68) (bEq Try.prog 55 (.tmp 77) (.tmp 78) v69 v70) fun v71 =>
bindP (pPick v68 v71 (.bool false)) fun v72 =>
stepM (gd true v72) v41 fun v73 =>
stepM (gd true v72) v49 fun v74 =>
Sx.stepG (gd true v72) (bEq Try.prog 24 (.tmp 82) (.tmp 83) v73 v74) fun v75 =>
bindP (pPick v72 v75 (.bool false)) fun v76 =>
bindP (pPick v76 (.bool true) (.bool false)) fun v77 =>
stepE (gd true v77) (fun k => callP G34 [] w58 k) w58 fun v79 w78 =>
bindP (pPick v77 v79 (.bool false)) fun v80 =>
K v80 w78))

def G6 : FnT := fun args w K => on2 (fun x0 x1 => F6 x0 x1 w K) args
theorem c6 {x0 x1 : Value} {w : World} {K : Value → World → Prop} (h : F6 x0 x1 w K) : callP G6 [x0, x1] w K := callP_intro h
theorem ok6 : OkF Try.prog 6 G6 := by
  refine okF_of (tab_ok (l := T6) ⟨ok34, ok35, ok36, ok37, ok38, ok39, ok40, trivial⟩) mixed (n := fuel) Try.func6 Try.call6 fun args w K h => ?_
  obtain ⟨x0, x1, rfl, hh⟩ := of_on2 h
  exact fnD_list (c := bodyOf Try.f6) (by kernel_rfl) (by kernel_rfl) (Eq.mp (by kernel_rfl) hh)

end Go.Proofs.Gong
