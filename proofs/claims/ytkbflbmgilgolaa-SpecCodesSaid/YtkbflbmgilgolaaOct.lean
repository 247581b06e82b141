/- A part of the proofs: what stands below it, told in lemmas. No condition. -/
import Derived.Test.YtkbflbmgilgolaaTy
namespace Go.Proofs.Gong
open Go Go.Sx Go.Proofs
set_option maxRecDepth 100000
-- 125 gong/octet.Wide
def T125 : List (Nat × FnT) := []
def F125_3b (s0 : Value) (s1 : Value) (s6 : Value) (w : World) (K : Value → World → Prop) : Prop :=
bindP (bLt s1 (.int .i64 8)) fun v1 =>
stepM (gd true v1) s0 fun v2 =>
stepM (gd true v1) s1 fun v3 =>
Sx.stepG (gd true v1) (bMul (.int .i64 8) v3) fun v4 =>
Sx.stepG (gd true v1) (bShr v2 v4) fun v5 =>
Sx.stepG (gd true v1) (bGt v5 (.int .i64 0)) fun v6 =>
bindP (pPick v1 v6 (.bool false)) fun v7 =>
ifB v7 (
K (.tuple #[(.string ⟨#[]⟩), (.int .i64 1)]) w) (
bindP (bSub (.int .i64 8) s1) fun v8 =>
bindP (pSliceA 8 1 s6 (some v8) none none) fun v9 =>
bindP (cBytes v9 w) fun v10 =>
K (.tuple #[v10, (.int .i64 0)]) w)

def F125_3 (s0 : Value) (s1 : Value) (s6 : Value) (w : World) (K : Value → World → Prop) : Prop := F125_3b s0 s1 s6 w K

theorem ok125_3 {K : Value → World → Prop} {kn kr : Env → World → Prop} {ke : Nat → Env → World → Prop}
    (hn : ∀ e w, (fun e w => K (.tuple #[(e 4), (e 5)]) w) e w → kn e w) (hr : ∀ e w, endD Try.prog [.tmp 4, .tmp 5] K e w → kr e w) (he : ∀ i e w, noE i e w → ke i e w) :
    ∀ e w, F125_3 (e 0) (e 1) (e 6) w K → denL Try.prog (tabOf T125) 43 fuel ((flat (bodyOf Try.f125)).drop 7) e w kn kr ke := by
  intro e w h
  unfold F125_3 at h
  have e1 : ∀ (_ : Unit), F125_3b (e 0) (e 1) (e 6) w K = denL Try.prog (tabOf T125) 43 fuel ((flat (bodyOf Try.f125)).drop 7) e w (fun e w => K (.tuple #[(e 4), (e 5)]) w) (endD Try.prog [.tmp 4, .tmp 5] K) noE := by intro _; kernel_rfl
  exact seg_end (Eq.mp (e1 ()) h) hn hr he

def F125_2b (s0 : Value) (s1 : Value) (s6 : Value) (s7 : Value) (s8 : Value) (w : World) (_K : Value → World → Prop) (Y0 : Value → Value → Value → Value → Value → World → Prop) (Y1 : Value → Value → Value → World → Prop) : Prop :=
bindP (bGe s8 (.int .i64 0)) fun v11 =>
ifB v11 (
bindP (cInt .u8 s7) fun v12 =>
bindP (pIndexP 8 1 s6 s8) fun v13 =>
bindW (st 1 v13 v12 w) fun w14 =>
bindP (bShr s7 (.int .u64 8)) fun v16 =>
bindP (bSub s8 (.int .i64 1)) fun v17 =>
Y0 s0 s1 s6 v16 v17 w14) (
Y1 s0 s1 s6 w)

def F125_2L : Nat → Value → Value → Value → Value → Value → World → (Value → World → Prop) → Prop
  | 0, _, _, _, _, _, _, _ => False
  | n + 1, s0, s1, s6, s7, s8, w, K => F125_2b s0 s1 s6 s7 s8 w K (fun a0 a1 a6 a7 a8 w => F125_2L n a0 a1 a6 a7 a8 w K) (fun a0 a1 a6 w => F125_3 a0 a1 a6 w K)

def F125_2 (s0 : Value) (s1 : Value) (s6 : Value) (s7 : Value) (s8 : Value) (w : World) (K : Value → World → Prop) : Prop := F125_2L fuel s0 s1 s6 s7 s8 w K

theorem ok125_2 {K : Value → World → Prop} {kn kr : Env → World → Prop} {ke : Nat → Env → World → Prop}
    (hn : ∀ e w, (fun e w => K (.tuple #[(e 4), (e 5)]) w) e w → kn e w) (hr : ∀ e w, endD Try.prog [.tmp 4, .tmp 5] K e w → kr e w) (he : ∀ i e w, noE i e w → ke i e w) :
    ∀ e w, F125_2 (e 0) (e 1) (e 6) (e 7) (e 8) w K → denL Try.prog (tabOf T125) 43 fuel ((flat (bodyOf Try.f125)).drop 6) e w kn kr ke := by
  intro e w h
  unfold F125_2 at h
  refine seg_loop (id := 0) (body := (loopB (blkB (nthC (flat (bodyOf Try.f125)) 6)))) (l2 := (flat (bodyOf Try.f125)).drop 7) (by kernel_rfl) ?_
  refine loop_ok (FL := fun m e w => F125_2L m (e 0) (e 1) (e 6) (e 7) (e 8) w K) (fr := endD Try.prog [.tmp 4, .tmp 5] K) (fe := (blkK 0 (fun e w => F125_3 (e 0) (e 1) (e 6) w K) noE)) (fun _ _ h => h) ?_ hr (blkK_mono (fun e w h => ok125_3 hn hr he e w h) he) fuel e w h
  intro m e w h
  have h : F125_2L (m + 1) (e 0) (e 1) (e 6) (e 7) (e 8) w K := h
  rw [F125_2L] at h
  have e1 : ∀ (Y0 : Value → Value → Value → Value → Value → World → Prop) (Y1 : Value → Value → Value → World → Prop), F125_2b (e 0) (e 1) (e 6) (e 7) (e 8) w K Y0 Y1 = denL Try.prog (tabOf T125) 43 fuel (flat (loopB (blkB (nthC (flat (bodyOf Try.f125)) 6)))) e w (fun e w => Y0 (e 0) (e 1) (e 6) (e 7) (e 8) w) (endD Try.prog [.tmp 4, .tmp 5] K) (blkK 0 (fun e w => Y1 (e 0) (e 1) (e 6) w) noE) := by intro Y0 Y1; kernel_rfl
  exact Eq.mp (e1 (fun a0 a1 a6 a7 a8 w => F125_2L m a0 a1 a6 a7 a8 w K) (fun a0 a1 a6 w => F125_3 a0 a1 a6 w K)) h

def F125_1b (s0 : Value) (s1 : Value) (w : World) (K : Value → World → Prop) (Y0 : Value → Value → Value → Value → Value → World → Prop) : Prop :=
bindP (bLt s1 (.int .i64 1)) fun v18 =>
stepM (gd false v18) s1 fun v19 =>
Sx.stepG (gd false v18) (bGt v19 (.int .i64 8)) fun v20 =>
bindP (pPick v18 (.bool true) v20) fun v21 =>
stepM (gd false v21) s0 fun v22 =>
Sx.stepG (gd false v21) (bLt v22 (.int .i64 0)) fun v23 =>
bindP (pPick v21 (.bool true) v23) fun v24 =>
ifB v24 (
K (.tuple #[(.string ⟨#[]⟩), (.int .i64 1)]) w) (
eAlloc Try.prog 258 w fun v26 w25 =>
Y0 s0 s1 v26 s0 (.int .i64 7) w25)

def F125_1 (s0 : Value) (s1 : Value) (w : World) (K : Value → World → Prop) : Prop := F125_1b s0 s1 w K (fun a0 a1 a6 a7 a8 w => F125_2 a0 a1 a6 a7 a8 w K)

theorem ok125_1 {K : Value → World → Prop} {kn kr : Env → World → Prop} {ke : Nat → Env → World → Prop}
    (hn : ∀ e w, (fun e w => K (.tuple #[(e 4), (e 5)]) w) e w → kn e w) (hr : ∀ e w, endD Try.prog [.tmp 4, .tmp 5] K e w → kr e w) (he : ∀ i e w, noE i e w → ke i e w) :
    ∀ e w, F125_1 (e 0) (e 1) w K → denL Try.prog (tabOf T125) 43 fuel ((flat (bodyOf Try.f125)).drop 0) e w kn kr ke := by
  intro e w h
  unfold F125_1 at h
  have e1 : ∀ (Y0 : Value → Value → Value → Value → Value → World → Prop), F125_1b (e 0) (e 1) w K Y0 = denL Try.prog (tabOf T125) 43 fuel (((flat (bodyOf Try.f125)).drop 0).take 6) e w (fun e w => Y0 (e 0) (e 1) (e 6) (e 7) (e 8) w) (endD Try.prog [.tmp 4, .tmp 5] K) noE := by intro Y0; kernel_rfl
  exact seg 6 (Eq.mp (e1 (fun a0 a1 a6 a7 a8 w => F125_2 a0 a1 a6 a7 a8 w K)) h) (fun e w h => ok125_2 hn hr he e w h) hr he

def F125 (x0 : Value) (x1 : Value) (w : World) (K : Value → World → Prop) : Prop := F125_1 x0 x1 w K

def G125 : FnT := fun args w K => on2 (fun x0 x1 => F125 x0 x1 w K) args
theorem c125 {x0 x1 : Value} {w : World} {K : Value → World → Prop} (h : F125 x0 x1 w K) : callP G125 [x0, x1] w K := callP_intro h
theorem ok125 : OkF Try.prog 125 G125 := by
  refine okF_of (tab_ok (l := T125) trivial) mixed (n := fuel) Try.func125 Try.call125 fun args w K h => ?_
  obtain ⟨x0, x1, rfl, hh⟩ := of_on2 h
  unfold F125 at hh
  exact fnD_list (c := bodyOf Try.f125) (by kernel_rfl) (by kernel_rfl) (ok125_1 (fun _ _ h => h) (fun _ _ h => h) (fun _ _ _ h => h) (initE [x0, x1]) w hh)

-- 126 gong/octet.Groups
def T126 : List (Nat × FnT) := []
def F126_3b (s4 : Value) (s5 : Value) (w : World) (K : Value → World → Prop) : Prop :=
bindP (pSliceA 9 1 s4 (some s5) none none) fun v1 =>
bindP (cBytes v1 w) fun v2 =>
K (.tuple #[v2, (.int .i64 0)]) w

def F126_3 (s4 : Value) (s5 : Value) (w : World) (K : Value → World → Prop) : Prop := F126_3b s4 s5 w K

theorem ok126_3 {K : Value → World → Prop} {kn kr : Env → World → Prop} {ke : Nat → Env → World → Prop}
    (hn : ∀ e w, (fun e w => K (.tuple #[(e 2), (e 3)]) w) e w → kn e w) (hr : ∀ e w, endD Try.prog [.tmp 2, .tmp 3] K e w → kr e w) (he : ∀ i e w, noE i e w → ke i e w) :
    ∀ e w, F126_3 (e 4) (e 5) w K → denL Try.prog (tabOf T126) 30 fuel ((flat (bodyOf Try.f126)).drop 8) e w kn kr ke := by
  intro e w h
  unfold F126_3 at h
  have e1 : ∀ (_ : Unit), F126_3b (e 4) (e 5) w K = denL Try.prog (tabOf T126) 30 fuel ((flat (bodyOf Try.f126)).drop 8) e w (fun e w => K (.tuple #[(e 2), (e 3)]) w) (endD Try.prog [.tmp 2, .tmp 3] K) noE := by intro _; kernel_rfl
  exact seg_end (Eq.mp (e1 ()) h) hn hr he

def F126_2b (s0 : Value) (s4 : Value) (s5 : Value) (w : World) (_K : Value → World → Prop) (Y0 : Value → Value → Value → World → Prop) (Y1 : Value → Value → World → Prop) : Prop :=
bindP (bGt s0 (.int .i64 0)) fun v3 =>
ifB v3 (
bindP (bSub s5 (.int .i64 1)) fun v4 =>
bindP (bRem s0 (.int .i64 128)) fun v5 =>
bindP (bBit .or v5 (.int .i64 128)) fun v6 =>
bindP (cInt .u8 v6) fun v7 =>
bindP (pIndexP 9 1 s4 v4) fun v8 =>
bindW (st 1 v8 v7 w) fun w9 =>
bindP (bShr s0 (.int .u64 7)) fun v11 =>
Y0 v11 s4 v4 w9) (
Y1 s4 s5 w)

def F126_2L : Nat → Value → Value → Value → World → (Value → World → Prop) → Prop
  | 0, _, _, _, _, _ => False
  | n + 1, s0, s4, s5, w, K => F126_2b s0 s4 s5 w K (fun a0 a4 a5 w => F126_2L n a0 a4 a5 w K) (fun a4 a5 w => F126_3 a4 a5 w K)

def F126_2 (s0 : Value) (s4 : Value) (s5 : Value) (w : World) (K : Value → World → Prop) : Prop := F126_2L fuel s0 s4 s5 w K

theorem ok126_2 {K : Value → World → Prop} {kn kr : Env → World → Prop} {ke : Nat → Env → World → Prop}
    (hn : ∀ e w, (fun e w => K (.tuple #[(e 2), (e 3)]) w) e w → kn e w) (hr : ∀ e w, endD Try.prog [.tmp 2, .tmp 3] K e w → kr e w) (he : ∀ i e w, noE i e w → ke i e w) :
    ∀ e w, F126_2 (e 0) (e 4) (e 5) w K → denL Try.prog (tabOf T126) 30 fuel ((flat (bodyOf Try.f126)).drop 7) e w kn kr ke := by
  intro e w h
  unfold F126_2 at h
  refine seg_loop (id := 0) (body := (loopB (blkB (nthC (flat (bodyOf Try.f126)) 7)))) (l2 := (flat (bodyOf Try.f126)).drop 8) (by kernel_rfl) ?_
  refine loop_ok (FL := fun m e w => F126_2L m (e 0) (e 4) (e 5) w K) (fr := endD Try.prog [.tmp 2, .tmp 3] K) (fe := (blkK 0 (fun e w => F126_3 (e 4) (e 5) w K) noE)) (fun _ _ h => h) ?_ hr (blkK_mono (fun e w h => ok126_3 hn hr he e w h) he) fuel e w h
  intro m e w h
  have h : F126_2L (m + 1) (e 0) (e 4) (e 5) w K := h
  rw [F126_2L] at h
  have e1 : ∀ (Y0 : Value → Value → Value → World → Prop) (Y1 : Value → Value → World → Prop), F126_2b (e 0) (e 4) (e 5) w K Y0 Y1 = denL Try.prog (tabOf T126) 30 fuel (flat (loopB (blkB (nthC (flat (bodyOf Try.f126)) 7)))) e w (fun e w => Y0 (e 0) (e 4) (e 5) w) (endD Try.prog [.tmp 2, .tmp 3] K) (blkK 0 (fun e w => Y1 (e 4) (e 5) w) noE) := by intro Y0 Y1; kernel_rfl
  exact Eq.mp (e1 (fun a0 a4 a5 w => F126_2L m a0 a4 a5 w K) (fun a4 a5 w => F126_3 a4 a5 w K)) h

def F126_1b (s0 : Value) (w : World) (K : Value → World → Prop) (Y0 : Value → Value → Value → World → Prop) : Prop :=
bindP (bLt s0 (.int .i64 0)) fun v12 =>
ifB v12 (
K (.tuple #[(.string ⟨#[]⟩), (.int .i64 1)]) w) (
eAlloc Try.prog 260 w fun v14 w13 =>
bindP (bRem s0 (.int .i64 128)) fun v15 =>
bindP (cInt .u8 v15) fun v16 =>
bindP (pIndexP 9 1 v14 (.int .i64 8)) fun v17 =>
bindW (st 1 v17 v16 w13) fun w18 =>
bindP (bShr s0 (.int .u64 7)) fun v20 =>
Y0 v20 v14 (.int .i64 8) w18)

def F126_1 (s0 : Value) (w : World) (K : Value → World → Prop) : Prop := F126_1b s0 w K (fun a0 a4 a5 w => F126_2 a0 a4 a5 w K)

theorem ok126_1 {K : Value → World → Prop} {kn kr : Env → World → Prop} {ke : Nat → Env → World → Prop}
    (hn : ∀ e w, (fun e w => K (.tuple #[(e 2), (e 3)]) w) e w → kn e w) (hr : ∀ e w, endD Try.prog [.tmp 2, .tmp 3] K e w → kr e w) (he : ∀ i e w, noE i e w → ke i e w) :
    ∀ e w, F126_1 (e 0) w K → denL Try.prog (tabOf T126) 30 fuel ((flat (bodyOf Try.f126)).drop 0) e w kn kr ke := by
  intro e w h
  unfold F126_1 at h
  have e1 : ∀ (Y0 : Value → Value → Value → World → Prop), F126_1b (e 0) w K Y0 = denL Try.prog (tabOf T126) 30 fuel (((flat (bodyOf Try.f126)).drop 0).take 7) e w (fun e w => Y0 (e 0) (e 4) (e 5) w) (endD Try.prog [.tmp 2, .tmp 3] K) noE := by intro Y0; kernel_rfl
  exact seg 7 (Eq.mp (e1 (fun a0 a4 a5 w => F126_2 a0 a4 a5 w K)) h) (fun e w h => ok126_2 hn hr he e w h) hr he

def F126 (x0 : Value) (w : World) (K : Value → World → Prop) : Prop := F126_1 x0 w K

def G126 : FnT := fun args w K => on1 (fun x0 => F126 x0 w K) args
theorem c126 {x0 : Value} {w : World} {K : Value → World → Prop} (h : F126 x0 w K) : callP G126 [x0] w K := callP_intro h
theorem ok126 : OkF Try.prog 126 G126 := by
  refine okF_of (tab_ok (l := T126) trivial) mixed (n := fuel) Try.func126 Try.call126 fun args w K h => ?_
  obtain ⟨x0, rfl, hh⟩ := of_on1 h
  unfold F126 at hh
  exact fnD_list (c := bodyOf Try.f126) (by kernel_rfl) (by kernel_rfl) (ok126_1 (fun _ _ h => h) (fun _ _ h => h) (fun _ _ _ h => h) (initE [x0]) w hh)

-- 127 gong/octet.Text
def T127 : List (Nat × FnT) := [(126, G126)]
def F127 (x0 : Value) (w : World) (K : Value → World → Prop) : Prop :=
bindP (lenS x0) fun v1 =>
callP G126 [v1] w fun v3 w2 =>
bindP (pTuple v3 0) fun v4 =>
bindP (pTuple v3 1) fun _ =>
bindP (bAdd v4 x0) fun v6 =>
K v6 w2

def G127 : FnT := fun args w K => on1 (fun x0 => F127 x0 w K) args
theorem c127 {x0 : Value} {w : World} {K : Value → World → Prop} (h : F127 x0 w K) : callP G127 [x0] w K := callP_intro h
theorem ok127 : OkF Try.prog 127 G127 := by
  refine okF_of (tab_ok (l := T127) ⟨ok126, trivial⟩) mixed (n := fuel) Try.func127 Try.call127 fun args w K h => ?_
  obtain ⟨x0, rfl, hh⟩ := of_on1 h
  exact fnD_list (c := bodyOf Try.f127) (by kernel_rfl) (by kernel_rfl) (Eq.mp (by kernel_rfl) hh)

-- 129 gong/octet.Read
def T129 : List (Nat × FnT) := []
def F129 (x0 : Value) (w : World) (K : Value → World → Prop) : Prop :=
bindP (fBuild Try.prog 262 [(0, x0)]) fun v1 =>
eBox 262 v1 w fun v3 w2 =>
K v3 w2

def G129 : FnT := fun args w K => on1 (fun x0 => F129 x0 w K) args
theorem c129 {x0 : Value} {w : World} {K : Value → World → Prop} (h : F129 x0 w K) : callP G129 [x0] w K := callP_intro h
theorem ok129 : OkF Try.prog 129 G129 := by
  refine okF_of (tab_ok (l := T129) trivial) mixed (n := fuel) Try.func129 Try.call129 fun args w K h => ?_
  obtain ⟨x0, rfl, hh⟩ := of_on1 h
  exact fnD_list (c := bodyOf Try.f129) (by kernel_rfl) (by kernel_rfl) (Eq.mp (by kernel_rfl) hh)

-- 203 (*gong/octet.Reader).Refuse
def T203 : List (Nat × FnT) := []
def F203 (x0 : Value) (x1 : Value) (w : World) (K : Value → World → Prop) : Prop :=
bindP (pNil x0) fun v1 =>
bindP (pFieldAddr 1 v1) fun v2 =>
bindP (ld1 v2 w) fun v3 =>
bindP (bEq Try.prog 24 (.tmp 7) (.const (.int .i64 0)) v3 (.int .i64 0)) fun v4 =>
ifB v4 (
bindP (pNil x0) fun v5 =>
bindP (pFieldAddr 1 v5) fun v6 =>
bindW (st 1 v6 x1 w) fun w7 =>
K (.tuple #[]) w7) (
K (.tuple #[]) w)

def G203 : FnT := fun args w K => on2 (fun x0 x1 => F203 x0 x1 w K) args
theorem c203 {x0 x1 : Value} {w : World} {K : Value → World → Prop} (h : F203 x0 x1 w K) : callP G203 [x0, x1] w K := callP_intro h
theorem ok203 : OkF Try.prog 203 G203 := by
  refine okF_of (tab_ok (l := T203) trivial) mixed (n := fuel) Try.func203 Try.call203 fun args w K h => ?_
  obtain ⟨x0, x1, rfl, hh⟩ := of_on2 h
  exact fnD_list (c := bodyOf Try.f203) (by kernel_rfl) (by kernel_rfl) (Eq.mp (by kernel_rfl) hh)

-- 204 (*gong/octet.Reader).Bytes
def T204 : List (Nat × FnT) := [(203, G203)]
def F204_2b (w : World) (K : Value → World → Prop) : Prop :=
K (.string ⟨#[]⟩) w

def F204_2 (w : World) (K : Value → World → Prop) : Prop := F204_2b w K

theorem ok204_2 {K : Value → World → Prop} {kn kr : Env → World → Prop} {ke : Nat → Env → World → Prop}
    (hn : ∀ e w, (fun e w => K (e 4) w) e w → kn e w) (hr : ∀ e w, endD Try.prog [.tmp 4] K e w → kr e w) (he : ∀ i e w, noE i e w → ke i e w) :
    ∀ e w, F204_2 w K → denL Try.prog (tabOf T204) 43 fuel ((flat (bodyOf Try.f204)).drop 2) e w kn kr ke := by
  intro e w h
  unfold F204_2 at h
  have e1 : ∀ (_ : Unit), F204_2b w K = denL Try.prog (tabOf T204) 43 fuel ((flat (bodyOf Try.f204)).drop 2) e w (fun e w => K (e 4) w) (endD Try.prog [.tmp 4] K) noE := by intro _; kernel_rfl
  exact seg_end (Eq.mp (e1 ()) h) hn hr he

def F204_1b (s0 : Value) (s1 : Value) (w : World) (K : Value → World → Prop) (Y0 : World → Prop) : Prop :=
bindP (pNil s0) fun v1 =>
bindP (pFieldAddr 1 v1) fun v2 =>
bindP (ld1 v2 w) fun v3 =>
bindP (bNe Try.prog 24 (.tmp 26) (.const (.int .i64 0)) v3 (.int .i64 0)) fun v4 =>
ifB v4 (
Y0 w) (
bindP (bLt s1 (.int .i64 0)) fun v5 =>
ifB v5 (
callP G203 [s0, (.int .i64 1)] w fun _ w6 =>
Y0 w6) (
bindP (pNil s0) fun v8 =>
bindP (pFieldAddr 0 v8) fun v9 =>
bindP (ld1 v9 w) fun v10 =>
bindP (lenS v10) fun v11 =>
bindP (bGt s1 v11) fun v12 =>
ifB v12 (
callP G203 [s0, (.int .i64 10)] w fun _ w13 =>
Y0 w13) (
bindP (pNil s0) fun v15 =>
bindP (pFieldAddr 0 v15) fun v16 =>
bindP (ld1 v16 w) fun v17 =>
bindP (pSliceS v17 none (some s1)) fun v18 =>
bindP (pNil s0) fun v19 =>
bindP (pFieldAddr 0 v19) fun v20 =>
bindP (ld1 v20 w) fun v21 =>
bindP (pSliceS v21 (some s1) none) fun v22 =>
bindP (pNil s0) fun v23 =>
bindP (pFieldAddr 0 v23) fun v24 =>
bindW (st 1 v24 v22 w) fun w25 =>
K v18 w25)))

def F204_1 (s0 : Value) (s1 : Value) (w : World) (K : Value → World → Prop) : Prop := F204_1b s0 s1 w K (fun w => F204_2 w K)

theorem ok204_1 {K : Value → World → Prop} {kn kr : Env → World → Prop} {ke : Nat → Env → World → Prop}
    (hn : ∀ e w, (fun e w => K (e 4) w) e w → kn e w) (hr : ∀ e w, endD Try.prog [.tmp 4] K e w → kr e w) (he : ∀ i e w, noE i e w → ke i e w) :
    ∀ e w, F204_1 (e 0) (e 1) w K → denL Try.prog (tabOf T204) 43 fuel ((flat (bodyOf Try.f204)).drop 0) e w kn kr ke := by
  intro e w h
  unfold F204_1 at h
  have e1 : ∀ (Y0 : World → Prop), F204_1b (e 0) (e 1) w K Y0 = denL Try.prog (tabOf T204) 43 fuel (((flat (bodyOf Try.f204)).drop 0).take 2) e w (fun e w => Y0 w) (endD Try.prog [.tmp 4] K) noE := by intro Y0; kernel_rfl
  exact seg 2 (Eq.mp (e1 (fun w => F204_2 w K)) h) (fun e w h => ok204_2 hn hr he e w h) hr he

def F204 (x0 : Value) (x1 : Value) (w : World) (K : Value → World → Prop) : Prop := F204_1 x0 x1 w K

def G204 : FnT := fun args w K => on2 (fun x0 x1 => F204 x0 x1 w K) args
theorem c204 {x0 x1 : Value} {w : World} {K : Value → World → Prop} (h : F204 x0 x1 w K) : callP G204 [x0, x1] w K := callP_intro h
theorem ok204 : OkF Try.prog 204 G204 := by
  refine okF_of (tab_ok (l := T204) ⟨ok203, trivial⟩) mixed (n := fuel) Try.func204 Try.call204 fun args w K h => ?_
  obtain ⟨x0, x1, rfl, hh⟩ := of_on2 h
  unfold F204 at hh
  exact fnD_list (c := bodyOf Try.f204) (by kernel_rfl) (by kernel_rfl) (ok204_1 (fun _ _ h => h) (fun _ _ h => h) (fun _ _ _ h => h) (initE [x0, x1]) w hh)

-- 130 (*gong/octet.Reader).Wide
def T130 : List (Nat × FnT) := [(203, G203), (204, G204)]
def F130_4b (s0 : Value) (s5 : Value) (s6 : Value) (w : World) (K : Value → World → Prop) : Prop :=
bindP (bGe s6 (.int .u64 9223372036854775808)) fun v1 =>
ifB v1 (
callP G203 [s0, (.int .i64 1)] w fun _ w2 =>
bindP (pNil s0) fun v4 =>
bindP (pFieldAddr 0 v4) fun v5 =>
bindW (st 1 v5 s5 w2) fun w6 =>
K (.int .i64 0) w6) (
bindP (cInt .i64 s6) fun v8 =>
K v8 w)

def F130_4 (s0 : Value) (s5 : Value) (s6 : Value) (w : World) (K : Value → World → Prop) : Prop := F130_4b s0 s5 s6 w K

theorem ok130_4 {K : Value → World → Prop} {kn kr : Env → World → Prop} {ke : Nat → Env → World → Prop}
    (hn : ∀ e w, (fun e w => K (e 4) w) e w → kn e w) (hr : ∀ e w, endD Try.prog [.tmp 4] K e w → kr e w) (he : ∀ i e w, noE i e w → ke i e w) :
    ∀ e w, F130_4 (e 0) (e 5) (e 6) w K → denL Try.prog (tabOf T130) 46 fuel ((flat (bodyOf Try.f130)).drop 7) e w kn kr ke := by
  intro e w h
  unfold F130_4 at h
  have e1 : ∀ (_ : Unit), F130_4b (e 0) (e 5) (e 6) w K = denL Try.prog (tabOf T130) 46 fuel ((flat (bodyOf Try.f130)).drop 7) e w (fun e w => K (e 4) w) (endD Try.prog [.tmp 4] K) noE := by intro _; kernel_rfl
  exact seg_end (Eq.mp (e1 ()) h) hn hr he

def F130_3b (s0 : Value) (s5 : Value) (s6 : Value) (s24 : Value) (s25 : Value) (s26 : Value) (w : World) (_K : Value → World → Prop) (Y0 : Value → Value → Value → Value → Value → Value → World → Prop) (Y1 : Value → Value → Value → World → Prop) : Prop :=
bindP (bLt s26 s25) fun v9 =>
ifB v9 (
bindP (pIndexL 1 s24 s26) fun v10 =>
bindP (ld1 v10 w) fun v11 =>
bindP (bShl s6 (.int .u64 8)) fun v12 =>
bindP (cInt .u64 v11) fun v13 =>
bindP (bBit .or v12 v13) fun v14 =>
bindP (bAdd s26 (.int .i64 1)) fun v15 =>
Y0 s0 s5 v14 s24 s25 v15 w) (
Y1 s0 s5 s6 w)

def F130_3L : Nat → Value → Value → Value → Value → Value → Value → World → (Value → World → Prop) → Prop
  | 0, _, _, _, _, _, _, _, _ => False
  | n + 1, s0, s5, s6, s24, s25, s26, w, K => F130_3b s0 s5 s6 s24 s25 s26 w K (fun a0 a5 a6 a24 a25 a26 w => F130_3L n a0 a5 a6 a24 a25 a26 w K) (fun a0 a5 a6 w => F130_4 a0 a5 a6 w K)

def F130_3 (s0 : Value) (s5 : Value) (s6 : Value) (s24 : Value) (s25 : Value) (s26 : Value) (w : World) (K : Value → World → Prop) : Prop := F130_3L fuel s0 s5 s6 s24 s25 s26 w K

theorem ok130_3 {K : Value → World → Prop} {kn kr : Env → World → Prop} {ke : Nat → Env → World → Prop}
    (hn : ∀ e w, (fun e w => K (e 4) w) e w → kn e w) (hr : ∀ e w, endD Try.prog [.tmp 4] K e w → kr e w) (he : ∀ i e w, noE i e w → ke i e w) :
    ∀ e w, F130_3 (e 0) (e 5) (e 6) (e 24) (e 25) (e 26) w K → denL Try.prog (tabOf T130) 46 fuel ((flat (bodyOf Try.f130)).drop 6) e w kn kr ke := by
  intro e w h
  unfold F130_3 at h
  refine seg_loop (id := 0) (body := (loopB (blkB (nthC (flat (bodyOf Try.f130)) 6)))) (l2 := (flat (bodyOf Try.f130)).drop 7) (by kernel_rfl) ?_
  refine loop_ok (FL := fun m e w => F130_3L m (e 0) (e 5) (e 6) (e 24) (e 25) (e 26) w K) (fr := endD Try.prog [.tmp 4] K) (fe := (blkK 0 (fun e w => F130_4 (e 0) (e 5) (e 6) w K) noE)) (fun _ _ h => h) ?_ hr (blkK_mono (fun e w h => ok130_4 hn hr he e w h) he) fuel e w h
  intro m e w h
  have h : F130_3L (m + 1) (e 0) (e 5) (e 6) (e 24) (e 25) (e 26) w K := h
  rw [F130_3L] at h
  have e1 : ∀ (Y0 : Value → Value → Value → Value → Value → Value → World → Prop) (Y1 : Value → Value → Value → World → Prop), F130_3b (e 0) (e 5) (e 6) (e 24) (e 25) (e 26) w K Y0 Y1 = denL Try.prog (tabOf T130) 46 fuel (flat (loopB (blkB (nthC (flat (bodyOf Try.f130)) 6)))) e w (fun e w => Y0 (e 0) (e 5) (e 6) (e 24) (e 25) (e 26) w) (endD Try.prog [.tmp 4] K) (blkK 0 (fun e w => Y1 (e 0) (e 5) (e 6) w) noE) := by intro Y0 Y1; kernel_rfl
  exact Eq.mp (e1 (fun a0 a5 a6 a24 a25 a26 w => F130_3L m a0 a5 a6 a24 a25 a26 w K) (fun a0 a5 a6 w => F130_4 a0 a5 a6 w K)) h

def F130_2b (s0 : Value) (s1 : Value) (w : World) (_K : Value → World → Prop) (Y0 : Value → Value → Value → Value → Value → Value → World → Prop) : Prop :=
bindP (pNil s0) fun v16 =>
bindP (pFieldAddr 0 v16) fun v17 =>
bindP (ld1 v17 w) fun v18 =>
callP G204 [s0, s1] w fun v20 w19 =>
eToBytes Try.prog 9 29 v20 w19 fun v22 w21 =>
bindP (lenL v22) fun v23 =>
Y0 s0 v18 (.int .u64 0) v22 v23 (.int .i64 0) w21

def F130_2 (s0 : Value) (s1 : Value) (w : World) (K : Value → World → Prop) : Prop := F130_2b s0 s1 w K (fun a0 a5 a6 a24 a25 a26 w => F130_3 a0 a5 a6 a24 a25 a26 w K)

theorem ok130_2 {K : Value → World → Prop} {kn kr : Env → World → Prop} {ke : Nat → Env → World → Prop}
    (hn : ∀ e w, (fun e w => K (e 4) w) e w → kn e w) (hr : ∀ e w, endD Try.prog [.tmp 4] K e w → kr e w) (he : ∀ i e w, noE i e w → ke i e w) :
    ∀ e w, F130_2 (e 0) (e 1) w K → denL Try.prog (tabOf T130) 46 fuel ((flat (bodyOf Try.f130)).drop 3) e w kn kr ke := by
  intro e w h
  unfold F130_2 at h
  have e1 : ∀ (Y0 : Value → Value → Value → Value → Value → Value → World → Prop), F130_2b (e 0) (e 1) w K Y0 = denL Try.prog (tabOf T130) 46 fuel (((flat (bodyOf Try.f130)).drop 3).take 3) e w (fun e w => Y0 (e 0) (e 5) (e 6) (e 24) (e 25) (e 26) w) (endD Try.prog [.tmp 4] K) noE := by intro Y0; kernel_rfl
  exact seg 3 (Eq.mp (e1 (fun a0 a5 a6 a24 a25 a26 w => F130_3 a0 a5 a6 a24 a25 a26 w K)) h) (fun e w h => ok130_3 hn hr he e w h) hr he

def F130_1b (s0 : Value) (s1 : Value) (w : World) (_K : Value → World → Prop) (Y0 : Value → Value → World → Prop) : Prop :=
bindP (bLt s1 (.int .i64 1)) fun v24 =>
stepM (gd false v24) s1 fun v25 =>
Sx.stepG (gd false v24) (bGt v25 (.int .i64 8)) fun v26 =>
bindP (pPick v24 (.bool true) v26) fun v27 =>
ifB v27 (
callP G203 [s0, (.int .i64 1)] w fun _ w28 =>
Y0 s0 s1 w28) (
Y0 s0 s1 w)

def F130_1 (s0 : Value) (s1 : Value) (w : World) (K : Value → World → Prop) : Prop := F130_1b s0 s1 w K (fun a0 a1 w => F130_2 a0 a1 w K)

theorem ok130_1 {K : Value → World → Prop} {kn kr : Env → World → Prop} {ke : Nat → Env → World → Prop}
    (hn : ∀ e w, (fun e w => K (e 4) w) e w → kn e w) (hr : ∀ e w, endD Try.prog [.tmp 4] K e w → kr e w) (he : ∀ i e w, noE i e w → ke i e w) :
    ∀ e w, F130_1 (e 0) (e 1) w K → denL Try.prog (tabOf T130) 46 fuel ((flat (bodyOf Try.f130)).drop 0) e w kn kr ke := by
  intro e w h
  unfold F130_1 at h
  have e1 : ∀ (Y0 : Value → Value → World → Prop), F130_1b (e 0) (e 1) w K Y0 = denL Try.prog (tabOf T130) 46 fuel (((flat (bodyOf Try.f130)).drop 0).take 3) e w (fun e w => Y0 (e 0) (e 1) w) (endD Try.prog [.tmp 4] K) noE := by intro Y0; kernel_rfl
  exact seg 3 (Eq.mp (e1 (fun a0 a1 w => F130_2 a0 a1 w K)) h) (fun e w h => ok130_2 hn hr he e w h) hr he

def F130 (x0 : Value) (x1 : Value) (w : World) (K : Value → World → Prop) : Prop := F130_1 x0 x1 w K

def G130 : FnT := fun args w K => on2 (fun x0 x1 => F130 x0 x1 w K) args
theorem c130 {x0 x1 : Value} {w : World} {K : Value → World → Prop} (h : F130 x0 x1 w K) : callP G130 [x0, x1] w K := callP_intro h
theorem ok130 : OkF Try.prog 130 G130 := by
  refine okF_of (tab_ok (l := T130) ⟨ok203, ok204, trivial⟩) mixed (n := fuel) Try.func130 Try.call130 fun args w K h => ?_
  obtain ⟨x0, x1, rfl, hh⟩ := of_on2 h
  unfold F130 at hh
  exact fnD_list (c := bodyOf Try.f130) (by kernel_rfl) (by kernel_rfl) (ok130_1 (fun _ _ h => h) (fun _ _ h => h) (fun _ _ _ h => h) (initE [x0, x1]) w hh)

-- 205 gong/octet.groups
def T205 : List (Nat × FnT) := []
def F205_3b (w : World) (K : Value → World → Prop) : Prop :=
K (.tuple #[(.int .i64 0), (.int .i64 0), (.int .i64 3)]) w

def F205_3 (w : World) (K : Value → World → Prop) : Prop := F205_3b w K

theorem ok205_3 {K : Value → World → Prop} {kn kr : Env → World → Prop} {ke : Nat → Env → World → Prop}
    (hn : ∀ e w, (fun e w => K (.tuple #[(e 4), (e 5), (e 6)]) w) e w → kn e w) (hr : ∀ e w, endD Try.prog [.tmp 4, .tmp 5, .tmp 6] K e w → kr e w) (he : ∀ i e w, noE i e w → ke i e w) :
    ∀ e w, F205_3 w K → denL Try.prog (tabOf T205) 41 fuel ((flat (bodyOf Try.f205)).drop 2) e w kn kr ke := by
  intro e w h
  unfold F205_3 at h
  have e1 : ∀ (_ : Unit), F205_3b w K = denL Try.prog (tabOf T205) 41 fuel ((flat (bodyOf Try.f205)).drop 2) e w (fun e w => K (.tuple #[(e 4), (e 5), (e 6)]) w) (endD Try.prog [.tmp 4, .tmp 5, .tmp 6] K) noE := by intro _; kernel_rfl
  exact seg_end (Eq.mp (e1 ()) h) hn hr he

def F205_2b (s0 : Value) (s1 : Value) (s4 : Value) (s5 : Value) (w : World) (K : Value → World → Prop) (Y0 : Value → Value → Value → Value → World → Prop) (Y1 : World → Prop) : Prop :=
bindP (bLt s5 (.int .i64 9)) fun v1 =>
ifB v1 (
bindP (lenS s0) fun v2 =>
bindP (bEq Try.prog 3 (.tmp 10) (.tmp 12) s5 v2) fun v3 =>
ifB v3 (
K (.tuple #[(.int .i64 0), (.int .i64 0), (.int .i64 10)]) w) (
bindP (pIndexS s0 s5) fun v4 =>
bindP (bAdd s5 (.int .i64 1)) fun v5 =>
bindP (bShl s4 (.int .u64 7)) fun v6 =>
bindP (bBit .andNot v4 (.int .u8 128)) fun v7 =>
bindP (cInt .i64 v7) fun v8 =>
bindP (bBit .or v6 v8) fun v9 =>
bindP (bEq Try.prog 3 (.tmp 26) (.const (.int .i64 1)) v5 (.int .i64 1)) fun v10 =>
stepM (gd true v10) v4 fun v11 =>
Sx.stepG (gd true v10) (bEq Try.prog 5 (.tmp 29) (.const (.int .u8 128)) v11 (.int .u8 128)) fun v12 =>
bindP (pPick v10 v12 (.bool false)) fun v13 =>
ifB v13 (
K (.tuple #[(.int .i64 0), (.int .i64 0), (.int .i64 3)]) w) (
bindP (bGt v9 s1) fun v14 =>
ifB v14 (
K (.tuple #[(.int .i64 0), (.int .i64 0), (.int .i64 2)]) w) (
bindP (bLt v4 (.int .u8 128)) fun v15 =>
ifB v15 (
K (.tuple #[v9, v5, (.int .i64 0)]) w) (
Y0 s0 s1 v9 v5 w))))) (
Y1 w)

def F205_2L : Nat → Value → Value → Value → Value → World → (Value → World → Prop) → Prop
  | 0, _, _, _, _, _, _ => False
  | n + 1, s0, s1, s4, s5, w, K => F205_2b s0 s1 s4 s5 w K (fun a0 a1 a4 a5 w => F205_2L n a0 a1 a4 a5 w K) (fun w => F205_3 w K)

def F205_2 (s0 : Value) (s1 : Value) (s4 : Value) (s5 : Value) (w : World) (K : Value → World → Prop) : Prop := F205_2L fuel s0 s1 s4 s5 w K

theorem ok205_2 {K : Value → World → Prop} {kn kr : Env → World → Prop} {ke : Nat → Env → World → Prop}
    (hn : ∀ e w, (fun e w => K (.tuple #[(e 4), (e 5), (e 6)]) w) e w → kn e w) (hr : ∀ e w, endD Try.prog [.tmp 4, .tmp 5, .tmp 6] K e w → kr e w) (he : ∀ i e w, noE i e w → ke i e w) :
    ∀ e w, F205_2 (e 0) (e 1) (e 4) (e 5) w K → denL Try.prog (tabOf T205) 41 fuel ((flat (bodyOf Try.f205)).drop 1) e w kn kr ke := by
  intro e w h
  unfold F205_2 at h
  refine seg_loop (id := 0) (body := (loopB (blkB (nthC (flat (bodyOf Try.f205)) 1)))) (l2 := (flat (bodyOf Try.f205)).drop 2) (by kernel_rfl) ?_
  refine loop_ok (FL := fun m e w => F205_2L m (e 0) (e 1) (e 4) (e 5) w K) (fr := endD Try.prog [.tmp 4, .tmp 5, .tmp 6] K) (fe := (blkK 0 (fun e w => F205_3 w K) noE)) (fun _ _ h => h) ?_ hr (blkK_mono (fun e w h => ok205_3 hn hr he e w h) he) fuel e w h
  intro m e w h
  have h : F205_2L (m + 1) (e 0) (e 1) (e 4) (e 5) w K := h
  rw [F205_2L] at h
  have e1 : ∀ (Y0 : Value → Value → Value → Value → World → Prop) (Y1 : World → Prop), F205_2b (e 0) (e 1) (e 4) (e 5) w K Y0 Y1 = denL Try.prog (tabOf T205) 41 fuel (flat (loopB (blkB (nthC (flat (bodyOf Try.f205)) 1)))) e w (fun e w => Y0 (e 0) (e 1) (e 4) (e 5) w) (endD Try.prog [.tmp 4, .tmp 5, .tmp 6] K) (blkK 0 (fun e w => Y1 w) noE) := by intro Y0 Y1; kernel_rfl
  exact Eq.mp (e1 (fun a0 a1 a4 a5 w => F205_2L m a0 a1 a4 a5 w K) (fun w => F205_3 w K)) h

def F205_1b (s0 : Value) (s1 : Value) (w : World) (_K : Value → World → Prop) (Y0 : Value → Value → Value → Value → World → Prop) : Prop :=
Y0 s0 s1 (.int .i64 0) (.int .i64 0) w

def F205_1 (s0 : Value) (s1 : Value) (w : World) (K : Value → World → Prop) : Prop := F205_1b s0 s1 w K (fun a0 a1 a4 a5 w => F205_2 a0 a1 a4 a5 w K)

theorem ok205_1 {K : Value → World → Prop} {kn kr : Env → World → Prop} {ke : Nat → Env → World → Prop}
    (hn : ∀ e w, (fun e w => K (.tuple #[(e 4), (e 5), (e 6)]) w) e w → kn e w) (hr : ∀ e w, endD Try.prog [.tmp 4, .tmp 5, .tmp 6] K e w → kr e w) (he : ∀ i e w, noE i e w → ke i e w) :
    ∀ e w, F205_1 (e 0) (e 1) w K → denL Try.prog (tabOf T205) 41 fuel ((flat (bodyOf Try.f205)).drop 0) e w kn kr ke := by
  intro e w h
  unfold F205_1 at h
  have e1 : ∀ (Y0 : Value → Value → Value → Value → World → Prop), F205_1b (e 0) (e 1) w K Y0 = denL Try.prog (tabOf T205) 41 fuel (((flat (bodyOf Try.f205)).drop 0).take 1) e w (fun e w => Y0 (e 0) (e 1) (e 4) (e 5) w) (endD Try.prog [.tmp 4, .tmp 5, .tmp 6] K) noE := by intro Y0; kernel_rfl
  exact seg 1 (Eq.mp (e1 (fun a0 a1 a4 a5 w => F205_2 a0 a1 a4 a5 w K)) h) (fun e w h => ok205_2 hn hr he e w h) hr he

def F205 (x0 : Value) (x1 : Value) (w : World) (K : Value → World → Prop) : Prop := F205_1 x0 x1 w K

def G205 : FnT := fun args w K => on2 (fun x0 x1 => F205 x0 x1 w K) args
theorem c205 {x0 x1 : Value} {w : World} {K : Value → World → Prop} (h : F205 x0 x1 w K) : callP G205 [x0, x1] w K := callP_intro h
theorem ok205 : OkF Try.prog 205 G205 := by
  refine okF_of (tab_ok (l := T205) trivial) mixed (n := fuel) Try.func205 Try.call205 fun args w K h => ?_
  obtain ⟨x0, x1, rfl, hh⟩ := of_on2 h
  unfold F205 at hh
  exact fnD_list (c := bodyOf Try.f205) (by kernel_rfl) (by kernel_rfl) (ok205_1 (fun _ _ h => h) (fun _ _ h => h) (fun _ _ _ h => h) (initE [x0, x1]) w hh)

-- 131 (*gong/octet.Reader).Groups
def T131 : List (Nat × FnT) := [(203, G203), (205, G205)]
def F131 (x0 : Value) (x1 : Value) (w : World) (K : Value → World → Prop) : Prop :=
bindP (pNil x0) fun v1 =>
bindP (pFieldAddr 1 v1) fun v2 =>
bindP (ld1 v2 w) fun v3 =>
bindP (bNe Try.prog 24 (.tmp 11) (.const (.int .i64 0)) v3 (.int .i64 0)) fun v4 =>
ifB v4 (
K (.int .i64 0) w) (
bindP (pNil x0) fun v5 =>
bindP (pFieldAddr 0 v5) fun v6 =>
bindP (ld1 v6 w) fun v7 =>
callP G205 [v7, x1] w fun v9 w8 =>
bindP (pTuple v9 0) fun v10 =>
bindP (pTuple v9 1) fun v11 =>
bindP (pTuple v9 2) fun v12 =>
callP G203 [x0, v12] w8 fun _ w13 =>
bindP (pNil x0) fun v15 =>
bindP (pFieldAddr 0 v15) fun v16 =>
bindP (ld1 v16 w13) fun v17 =>
bindP (pSliceS v17 (some v11) none) fun v18 =>
bindP (pNil x0) fun v19 =>
bindP (pFieldAddr 0 v19) fun v20 =>
bindW (st 1 v20 v18 w13) fun w21 =>
K v10 w21)

def G131 : FnT := fun args w K => on2 (fun x0 x1 => F131 x0 x1 w K) args
theorem c131 {x0 x1 : Value} {w : World} {K : Value → World → Prop} (h : F131 x0 x1 w K) : callP G131 [x0, x1] w K := callP_intro h
theorem ok131 : OkF Try.prog 131 G131 := by
  refine okF_of (tab_ok (l := T131) ⟨ok203, ok205, trivial⟩) mixed (n := fuel) Try.func131 Try.call131 fun args w K h => ?_
  obtain ⟨x0, x1, rfl, hh⟩ := of_on2 h
  exact fnD_list (c := bodyOf Try.f131) (by kernel_rfl) (by kernel_rfl) (Eq.mp (by kernel_rfl) hh)

-- 132 (*gong/octet.Reader).Text
def T132 : List (Nat × FnT) := [(131, G131), (204, G204)]
def F132_2b (s7 : Value) (w : World) (K : Value → World → Prop) : Prop :=
K s7 w

def F132_2 (s7 : Value) (w : World) (K : Value → World → Prop) : Prop := F132_2b s7 w K

theorem ok132_2 {K : Value → World → Prop} {kn kr : Env → World → Prop} {ke : Nat → Env → World → Prop}
    (hn : ∀ e w, (fun e w => K (e 4) w) e w → kn e w) (hr : ∀ e w, endD Try.prog [.tmp 4] K e w → kr e w) (he : ∀ i e w, noE i e w → ke i e w) :
    ∀ e w, F132_2 (e 7) w K → denL Try.prog (tabOf T132) 29 fuel ((flat (bodyOf Try.f132)).drop 6) e w kn kr ke := by
  intro e w h
  unfold F132_2 at h
  have e1 : ∀ (_ : Unit), F132_2b (e 7) w K = denL Try.prog (tabOf T132) 29 fuel ((flat (bodyOf Try.f132)).drop 6) e w (fun e w => K (e 4) w) (endD Try.prog [.tmp 4] K) noE := by intro _; kernel_rfl
  exact seg_end (Eq.mp (e1 ()) h) hn hr he

def F132_1b (s0 : Value) (s1 : Value) (w : World) (_K : Value → World → Prop) (Y0 : Value → World → Prop) : Prop :=
bindP (pNil s0) fun v1 =>
bindP (pFieldAddr 0 v1) fun v2 =>
bindP (ld1 v2 w) fun v3 =>
bindP (some (.func (.func 131) #[s0] #[])) fun v4 =>
eCallV (tabOf T132) v4 [s1] w fun v6 w5 =>
callP G204 [s0, v6] w5 fun v8 w7 =>
bindP (pNil s0) fun v9 =>
bindP (pFieldAddr 1 v9) fun v10 =>
bindP (ld1 v10 w7) fun v11 =>
bindP (bNe Try.prog 24 (.tmp 22) (.const (.int .i64 0)) v11 (.int .i64 0)) fun v12 =>
ifB v12 (
bindP (pNil s0) fun v13 =>
bindP (pFieldAddr 0 v13) fun v14 =>
bindW (st 1 v14 v3 w7) fun w15 =>
Y0 v8 w15) (
Y0 v8 w7)

def F132_1 (s0 : Value) (s1 : Value) (w : World) (K : Value → World → Prop) : Prop := F132_1b s0 s1 w K (fun a7 w => F132_2 a7 w K)

theorem ok132_1 {K : Value → World → Prop} {kn kr : Env → World → Prop} {ke : Nat → Env → World → Prop}
    (hn : ∀ e w, (fun e w => K (e 4) w) e w → kn e w) (hr : ∀ e w, endD Try.prog [.tmp 4] K e w → kr e w) (he : ∀ i e w, noE i e w → ke i e w) :
    ∀ e w, F132_1 (e 0) (e 1) w K → denL Try.prog (tabOf T132) 29 fuel ((flat (bodyOf Try.f132)).drop 0) e w kn kr ke := by
  intro e w h
  unfold F132_1 at h
  have e1 : ∀ (Y0 : Value → World → Prop), F132_1b (e 0) (e 1) w K Y0 = denL Try.prog (tabOf T132) 29 fuel (((flat (bodyOf Try.f132)).drop 0).take 6) e w (fun e w => Y0 (e 7) w) (endD Try.prog [.tmp 4] K) noE := by intro Y0; kernel_rfl
  exact seg 6 (Eq.mp (e1 (fun a7 w => F132_2 a7 w K)) h) (fun e w h => ok132_2 hn hr he e w h) hr he

def F132 (x0 : Value) (x1 : Value) (w : World) (K : Value → World → Prop) : Prop := F132_1 x0 x1 w K

def G132 : FnT := fun args w K => on2 (fun x0 x1 => F132 x0 x1 w K) args
theorem c132 {x0 x1 : Value} {w : World} {K : Value → World → Prop} (h : F132 x0 x1 w K) : callP G132 [x0, x1] w K := callP_intro h
theorem ok132 : OkF Try.prog 132 G132 := by
  refine okF_of (tab_ok (l := T132) ⟨ok131, ok204, trivial⟩) mixed (n := fuel) Try.func132 Try.call132 fun args w K h => ?_
  obtain ⟨x0, x1, rfl, hh⟩ := of_on2 h
  unfold F132 at hh
  exact fnD_list (c := bodyOf Try.f132) (by kernel_rfl) (by kernel_rfl) (ok132_1 (fun _ _ h => h) (fun _ _ h => h) (fun _ _ _ h => h) (initE [x0, x1]) w hh)

-- 133 (*gong/octet.Reader).Done
def T133 : List (Nat × FnT) := []
def F133 (x0 : Value) (w : World) (K : Value → World → Prop) : Prop :=
bindP (pNil x0) fun v1 =>
bindP (pFieldAddr 1 v1) fun v2 =>
bindP (ld1 v2 w) fun v3 =>
bindP (bEq Try.prog 24 (.tmp 6) (.const (.int .i64 0)) v3 (.int .i64 0)) fun v4 =>
stepM (gd true v4) x0 fun v5 =>
Sx.stepG (gd true v4) (pNil v5) fun v6 =>
Sx.stepG (gd true v4) (pFieldAddr 0 v6) fun v7 =>
Sx.stepG (gd true v4) (ld1 v7 w) fun v8 =>
Sx.stepG (gd true v4) (bNe Try.prog 9 (.tmp 12) (.const (.string ⟨#[]⟩)) v8 (.string ⟨#[]⟩)) fun v9 =>
bindP (pPick v4 v9 (.bool false)) fun v10 =>
ifB v10 (
K (.int .i64 3) w) (
bindP (pNil x0) fun v11 =>
bindP (pFieldAddr 1 v11) fun v12 =>
bindP (ld1 v12 w) fun v13 =>
K v13 w)

def G133 : FnT := fun args w K => on1 (fun x0 => F133 x0 w K) args
theorem c133 {x0 : Value} {w : World} {K : Value → World → Prop} (h : F133 x0 w K) : callP G133 [x0] w K := callP_intro h
theorem ok133 : OkF Try.prog 133 G133 := by
  refine okF_of (tab_ok (l := T133) trivial) mixed (n := fuel) Try.func133 Try.call133 fun args w K h => ?_
  obtain ⟨x0, rfl, hh⟩ := of_on1 h
  exact fnD_list (c := bodyOf Try.f133) (by kernel_rfl) (by kernel_rfl) (Eq.mp (by kernel_rfl) hh)

-- 201 gong/gongref01.Grouped
def T201 : List (Nat × FnT) := []
def F201_3b (s3 : Value) (w : World) (K : Value → World → Prop) : Prop :=
K s3 w

def F201_3 (s3 : Value) (w : World) (K : Value → World → Prop) : Prop := F201_3b s3 w K

theorem ok201_3 {K : Value → World → Prop} {kn kr : Env → World → Prop} {ke : Nat → Env → World → Prop}
    (hn : ∀ e w, (fun e w => K (e 2) w) e w → kn e w) (hr : ∀ e w, endD Try.prog [.tmp 2] K e w → kr e w) (he : ∀ i e w, noE i e w → ke i e w) :
    ∀ e w, F201_3 (e 3) w K → denL Try.prog (tabOf T201) 22 fuel ((flat (bodyOf Try.f201)).drop 3) e w kn kr ke := by
  intro e w h
  unfold F201_3 at h
  have e1 : ∀ (_ : Unit), F201_3b (e 3) w K = denL Try.prog (tabOf T201) 22 fuel ((flat (bodyOf Try.f201)).drop 3) e w (fun e w => K (e 2) w) (endD Try.prog [.tmp 2] K) noE := by intro _; kernel_rfl
  exact seg_end (Eq.mp (e1 ()) h) hn hr he

def F201_2b (s0 : Value) (s3 : Value) (w : World) (_K : Value → World → Prop) (Y0 : Value → Value → World → Prop) (Y1 : Value → World → Prop) : Prop :=
bindP (bGe s0 (.int .i64 128)) fun v1 =>
ifB v1 (
bindP (bQuo s0 (.int .i64 128)) fun v2 =>
bindP (bRem v2 (.int .i64 128)) fun v3 =>
bindP (bAdd v3 (.int .i64 128)) fun v4 =>
bindP (cInt .u8 v4) fun v5 =>
eBuildSl Try.prog 29 1 [(0, v5)] w fun v7 w6 =>
bindP (cBytes v7 w6) fun v8 =>
bindP (bAdd v8 s3) fun v9 =>
Y0 v2 v9 w6) (
Y1 s3 w)

def F201_2L : Nat → Value → Value → World → (Value → World → Prop) → Prop
  | 0, _, _, _, _ => False
  | n + 1, s0, s3, w, K => F201_2b s0 s3 w K (fun a0 a3 w => F201_2L n a0 a3 w K) (fun a3 w => F201_3 a3 w K)

def F201_2 (s0 : Value) (s3 : Value) (w : World) (K : Value → World → Prop) : Prop := F201_2L fuel s0 s3 w K

theorem ok201_2 {K : Value → World → Prop} {kn kr : Env → World → Prop} {ke : Nat → Env → World → Prop}
    (hn : ∀ e w, (fun e w => K (e 2) w) e w → kn e w) (hr : ∀ e w, endD Try.prog [.tmp 2] K e w → kr e w) (he : ∀ i e w, noE i e w → ke i e w) :
    ∀ e w, F201_2 (e 0) (e 3) w K → denL Try.prog (tabOf T201) 22 fuel ((flat (bodyOf Try.f201)).drop 2) e w kn kr ke := by
  intro e w h
  unfold F201_2 at h
  refine seg_loop (id := 0) (body := (loopB (blkB (nthC (flat (bodyOf Try.f201)) 2)))) (l2 := (flat (bodyOf Try.f201)).drop 3) (by kernel_rfl) ?_
  refine loop_ok (FL := fun m e w => F201_2L m (e 0) (e 3) w K) (fr := endD Try.prog [.tmp 2] K) (fe := (blkK 0 (fun e w => F201_3 (e 3) w K) noE)) (fun _ _ h => h) ?_ hr (blkK_mono (fun e w h => ok201_3 hn hr he e w h) he) fuel e w h
  intro m e w h
  have h : F201_2L (m + 1) (e 0) (e 3) w K := h
  rw [F201_2L] at h
  have e1 : ∀ (Y0 : Value → Value → World → Prop) (Y1 : Value → World → Prop), F201_2b (e 0) (e 3) w K Y0 Y1 = denL Try.prog (tabOf T201) 22 fuel (flat (loopB (blkB (nthC (flat (bodyOf Try.f201)) 2)))) e w (fun e w => Y0 (e 0) (e 3) w) (endD Try.prog [.tmp 2] K) (blkK 0 (fun e w => Y1 (e 3) w) noE) := by intro Y0 Y1; kernel_rfl
  exact Eq.mp (e1 (fun a0 a3 w => F201_2L m a0 a3 w K) (fun a3 w => F201_3 a3 w K)) h

def F201_1b (s0 : Value) (w : World) (_K : Value → World → Prop) (Y0 : Value → Value → World → Prop) : Prop :=
bindP (bRem s0 (.int .i64 128)) fun v10 =>
bindP (cInt .u8 v10) fun v11 =>
eBuildSl Try.prog 29 1 [(0, v11)] w fun v13 w12 =>
bindP (cBytes v13 w12) fun v14 =>
Y0 s0 v14 w12

def F201_1 (s0 : Value) (w : World) (K : Value → World → Prop) : Prop := F201_1b s0 w K (fun a0 a3 w => F201_2 a0 a3 w K)

theorem ok201_1 {K : Value → World → Prop} {kn kr : Env → World → Prop} {ke : Nat → Env → World → Prop}
    (hn : ∀ e w, (fun e w => K (e 2) w) e w → kn e w) (hr : ∀ e w, endD Try.prog [.tmp 2] K e w → kr e w) (he : ∀ i e w, noE i e w → ke i e w) :
    ∀ e w, F201_1 (e 0) w K → denL Try.prog (tabOf T201) 22 fuel ((flat (bodyOf Try.f201)).drop 0) e w kn kr ke := by
  intro e w h
  unfold F201_1 at h
  have e1 : ∀ (Y0 : Value → Value → World → Prop), F201_1b (e 0) w K Y0 = denL Try.prog (tabOf T201) 22 fuel (((flat (bodyOf Try.f201)).drop 0).take 2) e w (fun e w => Y0 (e 0) (e 3) w) (endD Try.prog [.tmp 2] K) noE := by intro Y0; kernel_rfl
  exact seg 2 (Eq.mp (e1 (fun a0 a3 w => F201_2 a0 a3 w K)) h) (fun e w h => ok201_2 hn hr he e w h) hr he

def F201 (x0 : Value) (w : World) (K : Value → World → Prop) : Prop := F201_1 x0 w K

def G201 : FnT := fun args w K => on1 (fun x0 => F201 x0 w K) args
theorem c201 {x0 : Value} {w : World} {K : Value → World → Prop} (h : F201 x0 w K) : callP G201 [x0] w K := callP_intro h
theorem ok201 : OkF Try.prog 201 G201 := by
  refine okF_of (tab_ok (l := T201) trivial) mixed (n := fuel) Try.func201 Try.call201 fun args w K h => ?_
  obtain ⟨x0, rfl, hh⟩ := of_on1 h
  unfold F201 at hh
  exact fnD_list (c := bodyOf Try.f201) (by kernel_rfl) (by kernel_rfl) (ok201_1 (fun _ _ h => h) (fun _ _ h => h) (fun _ _ _ h => h) (initE [x0]) w hh)

-- 202 gong/gongref01.Text
def T202 : List (Nat × FnT) := [(201, G201)]
def F202 (x0 : Value) (w : World) (K : Value → World → Prop) : Prop :=
bindP (lenS x0) fun v1 =>
callP G201 [v1] w fun v3 w2 =>
bindP (bAdd v3 x0) fun v4 =>
K v4 w2

def G202 : FnT := fun args w K => on1 (fun x0 => F202 x0 w K) args
theorem c202 {x0 : Value} {w : World} {K : Value → World → Prop} (h : F202 x0 w K) : callP G202 [x0] w K := callP_intro h
theorem ok202 : OkF Try.prog 202 G202 := by
  refine okF_of (tab_ok (l := T202) ⟨ok201, trivial⟩) mixed (n := fuel) Try.func202 Try.call202 fun args w K h => ?_
  obtain ⟨x0, rfl, hh⟩ := of_on1 h
  exact fnD_list (c := bodyOf Try.f202) (by kernel_rfl) (by kernel_rfl) (Eq.mp (by kernel_rfl) hh)

-- 206 (*gong/gongref01.Reader).Left
def T206 : List (Nat × FnT) := []
def F206 (x0 : Value) (w : World) (K : Value → World → Prop) : Prop :=
bindP (pNil x0) fun v1 =>
bindP (pFieldAddr 0 v1) fun v2 =>
bindP (ld1 v2 w.drew) fun v3 =>
bindP (lenS v3) fun v4 =>
bindP (pNil x0) fun v5 =>
bindP (pFieldAddr 1 v5) fun v6 =>
bindP (ld1 v6 w.drew) fun v7 =>
bindP (bSub v4 v7) fun v8 =>
K v8 w.drew

def G206 : FnT := fun args w K => on1 (fun x0 => F206 x0 w K) args
theorem c206 {x0 : Value} {w : World} {K : Value → World → Prop} (h : F206 x0 w K) : callP G206 [x0] w K := callP_intro h
theorem ok206 : OkF Try.prog 206 G206 := by
  refine okF_of (tab_ok (l := T206) trivial) mixed (n := fuel) Try.func206 Try.call206 fun args w K h => ?_
  obtain ⟨x0, rfl, hh⟩ := of_on1 h
  exact fnD_list (c := bodyOf Try.f206) (by kernel_rfl) (by kernel_rfl) (Eq.mp (by kernel_rfl) hh)

-- 207 gong/gongref01.Number
def T207 : List (Nat × FnT) := []
def F207_3b (s4 : Value) (w : World) (K : Value → World → Prop) : Prop :=
K (.tuple #[s4, (.bool true)]) w

def F207_3 (s4 : Value) (w : World) (K : Value → World → Prop) : Prop := F207_3b s4 w K

theorem ok207_3 {K : Value → World → Prop} {kn kr : Env → World → Prop} {ke : Nat → Env → World → Prop}
    (hn : ∀ e w, (fun e w => K (.tuple #[(e 2), (e 3)]) w) e w → kn e w) (hr : ∀ e w, endD Try.prog [.tmp 2, .tmp 3] K e w → kr e w) (he : ∀ i e w, noE i e w → ke i e w) :
    ∀ e w, F207_3 (e 4) w K → denL Try.prog (tabOf T207) 28 fuel ((flat (bodyOf Try.f207)).drop 6) e w kn kr ke := by
  intro e w h
  unfold F207_3 at h
  have e1 : ∀ (_ : Unit), F207_3b (e 4) w K = denL Try.prog (tabOf T207) 28 fuel ((flat (bodyOf Try.f207)).drop 6) e w (fun e w => K (.tuple #[(e 2), (e 3)]) w) (endD Try.prog [.tmp 2, .tmp 3] K) noE := by intro _; kernel_rfl
  exact seg_end (Eq.mp (e1 ()) h) hn hr he

def F207_2b (s0 : Value) (s4 : Value) (s5 : Value) (w : World) (_K : Value → World → Prop) (Y0 : Value → Value → Value → World → Prop) (Y1 : Value → World → Prop) : Prop :=
bindP (lenS s0) fun v1 =>
bindP (bLt s5 v1) fun v2 =>
ifB v2 (
bindP (bMul s4 (.int .i64 256)) fun v3 =>
bindP (pIndexS s0 s5) fun v4 =>
bindP (cInt .i64 v4) fun v5 =>
bindP (bAdd v3 v5) fun v6 =>
bindP (bAdd s5 (.int .i64 1)) fun v7 =>
Y0 s0 v6 v7 w) (
Y1 s4 w)

def F207_2L : Nat → Value → Value → Value → World → (Value → World → Prop) → Prop
  | 0, _, _, _, _, _ => False
  | n + 1, s0, s4, s5, w, K => F207_2b s0 s4 s5 w K (fun a0 a4 a5 w => F207_2L n a0 a4 a5 w K) (fun a4 w => F207_3 a4 w K)

def F207_2 (s0 : Value) (s4 : Value) (s5 : Value) (w : World) (K : Value → World → Prop) : Prop := F207_2L fuel s0 s4 s5 w K

theorem ok207_2 {K : Value → World → Prop} {kn kr : Env → World → Prop} {ke : Nat → Env → World → Prop}
    (hn : ∀ e w, (fun e w => K (.tuple #[(e 2), (e 3)]) w) e w → kn e w) (hr : ∀ e w, endD Try.prog [.tmp 2, .tmp 3] K e w → kr e w) (he : ∀ i e w, noE i e w → ke i e w) :
    ∀ e w, F207_2 (e 0) (e 4) (e 5) w K → denL Try.prog (tabOf T207) 28 fuel ((flat (bodyOf Try.f207)).drop 5) e w kn kr ke := by
  intro e w h
  unfold F207_2 at h
  refine seg_loop (id := 0) (body := (loopB (blkB (nthC (flat (bodyOf Try.f207)) 5)))) (l2 := (flat (bodyOf Try.f207)).drop 6) (by kernel_rfl) ?_
  refine loop_ok (FL := fun m e w => F207_2L m (e 0) (e 4) (e 5) w K) (fr := endD Try.prog [.tmp 2, .tmp 3] K) (fe := (blkK 0 (fun e w => F207_3 (e 4) w K) noE)) (fun _ _ h => h) ?_ hr (blkK_mono (fun e w h => ok207_3 hn hr he e w h) he) fuel e w h
  intro m e w h
  have h : F207_2L (m + 1) (e 0) (e 4) (e 5) w K := h
  rw [F207_2L] at h
  have e1 : ∀ (Y0 : Value → Value → Value → World → Prop) (Y1 : Value → World → Prop), F207_2b (e 0) (e 4) (e 5) w K Y0 Y1 = denL Try.prog (tabOf T207) 28 fuel (flat (loopB (blkB (nthC (flat (bodyOf Try.f207)) 5)))) e w (fun e w => Y0 (e 0) (e 4) (e 5) w) (endD Try.prog [.tmp 2, .tmp 3] K) (blkK 0 (fun e w => Y1 (e 4) w) noE) := by intro Y0 Y1; kernel_rfl
  exact Eq.mp (e1 (fun a0 a4 a5 w => F207_2L m a0 a4 a5 w K) (fun a4 w => F207_3 a4 w K)) h

def F207_1b (s0 : Value) (w : World) (K : Value → World → Prop) (Y0 : Value → Value → Value → World → Prop) : Prop :=
bindP (lenS s0) fun v8 =>
bindP (bEq Try.prog 3 (.tmp 7) (.const (.int .i64 8)) v8 (.int .i64 8)) fun v9 =>
stepM (gd true v9) s0 fun v10 =>
Sx.stepG (gd true v9) (pIndexS v10 (.int .i64 0)) fun v11 =>
Sx.stepG (gd true v9) (bGe v11 (.int .u8 128)) fun v12 =>
bindP (pPick v9 v12 (.bool false)) fun v13 =>
ifB v13 (
K (.tuple #[(.int .i64 0), (.bool false)]) w) (
Y0 s0 (.int .i64 0) (.int .i64 0) w)

def F207_1 (s0 : Value) (w : World) (K : Value → World → Prop) : Prop := F207_1b s0 w K (fun a0 a4 a5 w => F207_2 a0 a4 a5 w K)

theorem ok207_1 {K : Value → World → Prop} {kn kr : Env → World → Prop} {ke : Nat → Env → World → Prop}
    (hn : ∀ e w, (fun e w => K (.tuple #[(e 2), (e 3)]) w) e w → kn e w) (hr : ∀ e w, endD Try.prog [.tmp 2, .tmp 3] K e w → kr e w) (he : ∀ i e w, noE i e w → ke i e w) :
    ∀ e w, F207_1 (e 0) w K → denL Try.prog (tabOf T207) 28 fuel ((flat (bodyOf Try.f207)).drop 0) e w kn kr ke := by
  intro e w h
  unfold F207_1 at h
  have e1 : ∀ (Y0 : Value → Value → Value → World → Prop), F207_1b (e 0) w K Y0 = denL Try.prog (tabOf T207) 28 fuel (((flat (bodyOf Try.f207)).drop 0).take 5) e w (fun e w => Y0 (e 0) (e 4) (e 5) w) (endD Try.prog [.tmp 2, .tmp 3] K) noE := by intro Y0; kernel_rfl
  exact seg 5 (Eq.mp (e1 (fun a0 a4 a5 w => F207_2 a0 a4 a5 w K)) h) (fun e w h => ok207_2 hn hr he e w h) hr he

def F207 (x0 : Value) (w : World) (K : Value → World → Prop) : Prop := F207_1 x0 w K

def G207 : FnT := fun args w K => on1 (fun x0 => F207 x0 w K) args
theorem c207 {x0 : Value} {w : World} {K : Value → World → Prop} (h : F207 x0 w K) : callP G207 [x0] w K := callP_intro h
theorem ok207 : OkF Try.prog 207 G207 := by
  refine okF_of (tab_ok (l := T207) trivial) mixed (n := fuel) Try.func207 Try.call207 fun args w K h => ?_
  obtain ⟨x0, rfl, hh⟩ := of_on1 h
  unfold F207 at hh
  exact fnD_list (c := bodyOf Try.f207) (by kernel_rfl) (by kernel_rfl) (ok207_1 (fun _ _ h => h) (fun _ _ h => h) (fun _ _ _ h => h) (initE [x0]) w hh)

-- 134 (*gong/gongref01.Reader).Wide
def T134 : List (Nat × FnT) := [(206, G206), (207, G207)]
def F134 (x0 : Value) (x1 : Value) (w : World) (K : Value → World → Prop) : Prop :=
bindP (pNil x0) fun v1 =>
bindP (pFieldAddr 2 v1) fun v2 =>
bindP (ld1 v2 w) fun v3 =>
bindP (bNe Try.prog 24 (.tmp 10) (.const (.int .i64 0)) v3 (.int .i64 0)) fun v4 =>
ifB v4 (
K (.int .i64 0) w) (
bindP (bLt x1 (.int .i64 1)) fun v5 =>
stepM (gd false v5) x1 fun v6 =>
Sx.stepG (gd false v5) (bGt v6 (.int .i64 8)) fun v7 =>
bindP (pPick v5 (.bool true) v7) fun v8 =>
ifB v8 (
bindP (pNil x0) fun v9 =>
bindP (pFieldAddr 2 v9) fun v10 =>
bindW (st 1 v10 (.int .i64 1) w) fun w11 =>
K (.int .i64 0) w11) (
callP G206 [x0] w fun v14 w13 =>
bindP (bGt x1 v14) fun v15 =>
ifB v15 (
bindP (pNil x0) fun v16 =>
bindP (pFieldAddr 2 v16) fun v17 =>
bindW (st 1 v17 (.int .i64 10) w13) fun w18 =>
K (.int .i64 0) w18) (
bindP (pNil x0) fun v20 =>
bindP (pFieldAddr 0 v20) fun v21 =>
bindP (ld1 v21 w13.drew) fun v22 =>
bindP (pNil x0) fun v23 =>
bindP (pFieldAddr 1 v23) fun v24 =>
bindP (ld1 v24 w13.drew) fun v25 =>
bindP (pNil x0) fun v26 =>
bindP (pFieldAddr 1 v26) fun v27 =>
bindP (ld1 v27 w13.drew) fun v28 =>
bindP (bAdd v28 x1) fun v29 =>
bindP (pSliceS v22 (some v25) (some v29)) fun v30 =>
callP G207 [v30] w13.drew fun v32 w31 =>
bindP (pTuple v32 0) fun v33 =>
bindP (pTuple v32 1) fun v34 =>
bindP (uNot v34) fun v35 =>
ifB v35 (
bindP (pNil x0) fun v36 =>
bindP (pFieldAddr 2 v36) fun v37 =>
bindW (st 1 v37 (.int .i64 1) w31) fun w38 =>
K (.int .i64 0) w38) (
bindP (pNil x0) fun v40 =>
bindP (pFieldAddr 1 v40) fun v41 =>
bindP (ld1 v41 w31) fun v42 =>
bindP (bAdd v42 x1) fun v43 =>
bindP (pNil x0) fun v44 =>
bindP (pFieldAddr 1 v44) fun v45 =>
bindW (st 1 v45 v43 w31) fun w46 =>
K v33 w46))))

def G134 : FnT := fun args w K => on2 (fun x0 x1 => F134 x0 x1 w K) args
theorem c134 {x0 x1 : Value} {w : World} {K : Value → World → Prop} (h : F134 x0 x1 w K) : callP G134 [x0, x1] w K := callP_intro h
theorem ok134 : OkF Try.prog 134 G134 := by
  refine okF_of (tab_ok (l := T134) ⟨ok206, ok207, trivial⟩) mixed (n := fuel) Try.func134 Try.call134 fun args w K h => ?_
  obtain ⟨x0, x1, rfl, hh⟩ := of_on2 h
  exact fnD_list (c := bodyOf Try.f134) (by kernel_rfl) (by kernel_rfl) (Eq.mp (by kernel_rfl) hh)

-- 135 (*gong/gongref01.Reader).Groups
def T135 : List (Nat × FnT) := []
def F135_3b (s0 : Value) (w : World) (K : Value → World → Prop) : Prop :=
bindP (pNil s0) fun v1 =>
bindP (pFieldAddr 2 v1) fun v2 =>
bindW (st 1 v2 (.int .i64 3) w) fun w3 =>
K (.int .i64 0) w3

def F135_3 (s0 : Value) (w : World) (K : Value → World → Prop) : Prop := F135_3b s0 w K

theorem ok135_3 {K : Value → World → Prop} {kn kr : Env → World → Prop} {ke : Nat → Env → World → Prop}
    (hn : ∀ e w, (fun e w => K (e 4) w) e w → kn e w) (hr : ∀ e w, endD Try.prog [.tmp 4] K e w → kr e w) (he : ∀ i e w, noE i e w → ke i e w) :
    ∀ e w, F135_3 (e 0) w K → denL Try.prog (tabOf T135) 80 fuel ((flat (bodyOf Try.f135)).drop 6) e w kn kr ke := by
  intro e w h
  unfold F135_3 at h
  have e1 : ∀ (_ : Unit), F135_3b (e 0) w K = denL Try.prog (tabOf T135) 80 fuel ((flat (bodyOf Try.f135)).drop 6) e w (fun e w => K (e 4) w) (endD Try.prog [.tmp 4] K) noE := by intro _; kernel_rfl
  exact seg_end (Eq.mp (e1 ()) h) hn hr he

def F135_2b (s0 : Value) (s1 : Value) (s5 : Value) (s6 : Value) (w : World) (K : Value → World → Prop) (Y0 : Value → Value → Value → Value → World → Prop) (Y1 : Value → World → Prop) : Prop :=
bindP (bLt s6 (.int .i64 9)) fun v5 =>
ifB v5 (
bindP (pNil s0) fun v6 =>
bindP (pFieldAddr 1 v6) fun v7 =>
bindP (ld1 v7 w.drew) fun v8 =>
bindP (bAdd v8 s6) fun v9 =>
bindP (pNil s0) fun v10 =>
bindP (pFieldAddr 0 v10) fun v11 =>
bindP (ld1 v11 w.drew) fun v12 =>
bindP (lenS v12) fun v13 =>
bindP (bGe v9 v13) fun v14 =>
ifB v14 (
bindP (pNil s0) fun v15 =>
bindP (pFieldAddr 2 v15) fun v16 =>
bindW (st 1 v16 (.int .i64 10) w.drew) fun w17 =>
K (.int .i64 0) w17) (
bindP (pNil s0) fun v19 =>
bindP (pFieldAddr 0 v19) fun v20 =>
bindP (ld1 v20 (w.drew).drew) fun v21 =>
bindP (pNil s0) fun v22 =>
bindP (pFieldAddr 1 v22) fun v23 =>
bindP (ld1 v23 (w.drew).drew) fun v24 =>
bindP (bAdd v24 s6) fun v25 =>
bindP (pIndexS v21 v25) fun v26 =>
bindP (cInt .i64 v26) fun v27 =>
bindP (bEq Try.prog 3 (.tmp 44) (.const (.int .i64 0)) s6 (.int .i64 0)) fun v28 =>
stepM (gd true v28) v27 fun v29 =>
Sx.stepG (gd true v28) (bEq Try.prog 3 (.tmp 47) (.const (.int .i64 128)) v29 (.int .i64 128)) fun v30 =>
bindP (pPick v28 v30 (.bool false)) fun v31 =>
ifB v31 (
bindP (pNil s0) fun v32 =>
bindP (pFieldAddr 2 v32) fun v33 =>
bindW (st 1 v33 (.int .i64 3) (w.drew).drew) fun w34 =>
K (.int .i64 0) w34) (
bindP (bMul s5 (.int .i64 128)) fun v36 =>
bindP (bRem v27 (.int .i64 128)) fun v37 =>
bindP (bAdd v36 v37) fun v38 =>
bindP (bGt v38 s1) fun v39 =>
ifB v39 (
bindP (pNil s0) fun v40 =>
bindP (pFieldAddr 2 v40) fun v41 =>
bindW (st 1 v41 (.int .i64 2) (w.drew).drew) fun w42 =>
K (.int .i64 0) w42) (
bindP (bLt v27 (.int .i64 128)) fun v44 =>
ifB v44 (
bindP (pNil s0) fun v45 =>
bindP (pFieldAddr 1 v45) fun v46 =>
bindP (ld1 v46 (w.drew).drew) fun v47 =>
bindP (bAdd v47 s6) fun v48 =>
bindP (bAdd v48 (.int .i64 1)) fun v49 =>
bindP (pNil s0) fun v50 =>
bindP (pFieldAddr 1 v50) fun v51 =>
bindW (st 1 v51 v49 (w.drew).drew) fun w52 =>
K v38 w52) (
bindP (bAdd s6 (.int .i64 1)) fun v54 =>
Y0 s0 s1 v38 v54 (w.drew).drew))))) (
Y1 s0 w)

def F135_2L : Nat → Value → Value → Value → Value → World → (Value → World → Prop) → Prop
  | 0, _, _, _, _, _, _ => False
  | n + 1, s0, s1, s5, s6, w, K => F135_2b s0 s1 s5 s6 w K (fun a0 a1 a5 a6 w => F135_2L n a0 a1 a5 a6 w K) (fun a0 w => F135_3 a0 w K)

def F135_2 (s0 : Value) (s1 : Value) (s5 : Value) (s6 : Value) (w : World) (K : Value → World → Prop) : Prop := F135_2L fuel s0 s1 s5 s6 w K

theorem ok135_2 {K : Value → World → Prop} {kn kr : Env → World → Prop} {ke : Nat → Env → World → Prop}
    (hn : ∀ e w, (fun e w => K (e 4) w) e w → kn e w) (hr : ∀ e w, endD Try.prog [.tmp 4] K e w → kr e w) (he : ∀ i e w, noE i e w → ke i e w) :
    ∀ e w, F135_2 (e 0) (e 1) (e 5) (e 6) w K → denL Try.prog (tabOf T135) 80 fuel ((flat (bodyOf Try.f135)).drop 5) e w kn kr ke := by
  intro e w h
  unfold F135_2 at h
  refine seg_loop (id := 0) (body := (loopB (blkB (nthC (flat (bodyOf Try.f135)) 5)))) (l2 := (flat (bodyOf Try.f135)).drop 6) (by kernel_rfl) ?_
  refine loop_ok (FL := fun m e w => F135_2L m (e 0) (e 1) (e 5) (e 6) w K) (fr := endD Try.prog [.tmp 4] K) (fe := (blkK 0 (fun e w => F135_3 (e 0) w K) noE)) (fun _ _ h => h) ?_ hr (blkK_mono (fun e w h => ok135_3 hn hr he e w h) he) fuel e w h
  intro m e w h
  have h : F135_2L (m + 1) (e 0) (e 1) (e 5) (e 6) w K := h
  rw [F135_2L] at h
  have e1 : ∀ (Y0 : Value → Value → Value → Value → World → Prop) (Y1 : Value → World → Prop), F135_2b (e 0) (e 1) (e 5) (e 6) w K Y0 Y1 = denL Try.prog (tabOf T135) 80 fuel (flat (loopB (blkB (nthC (flat (bodyOf Try.f135)) 5)))) e w (fun e w => Y0 (e 0) (e 1) (e 5) (e 6) w) (endD Try.prog [.tmp 4] K) (blkK 0 (fun e w => Y1 (e 0) w) noE) := by intro Y0 Y1; kernel_rfl
  exact Eq.mp (e1 (fun a0 a1 a5 a6 w => F135_2L m a0 a1 a5 a6 w K) (fun a0 w => F135_3 a0 w K)) h

def F135_1b (s0 : Value) (s1 : Value) (w : World) (K : Value → World → Prop) (Y0 : Value → Value → Value → Value → World → Prop) : Prop :=
bindP (pNil s0) fun v55 =>
bindP (pFieldAddr 2 v55) fun v56 =>
bindP (ld1 v56 w) fun v57 =>
bindP (bNe Try.prog 24 (.tmp 11) (.const (.int .i64 0)) v57 (.int .i64 0)) fun v58 =>
ifB v58 (
K (.int .i64 0) w) (
Y0 s0 s1 (.int .i64 0) (.int .i64 0) w)

def F135_1 (s0 : Value) (s1 : Value) (w : World) (K : Value → World → Prop) : Prop := F135_1b s0 s1 w K (fun a0 a1 a5 a6 w => F135_2 a0 a1 a5 a6 w K)

theorem ok135_1 {K : Value → World → Prop} {kn kr : Env → World → Prop} {ke : Nat → Env → World → Prop}
    (hn : ∀ e w, (fun e w => K (e 4) w) e w → kn e w) (hr : ∀ e w, endD Try.prog [.tmp 4] K e w → kr e w) (he : ∀ i e w, noE i e w → ke i e w) :
    ∀ e w, F135_1 (e 0) (e 1) w K → denL Try.prog (tabOf T135) 80 fuel ((flat (bodyOf Try.f135)).drop 0) e w kn kr ke := by
  intro e w h
  unfold F135_1 at h
  have e1 : ∀ (Y0 : Value → Value → Value → Value → World → Prop), F135_1b (e 0) (e 1) w K Y0 = denL Try.prog (tabOf T135) 80 fuel (((flat (bodyOf Try.f135)).drop 0).take 5) e w (fun e w => Y0 (e 0) (e 1) (e 5) (e 6) w) (endD Try.prog [.tmp 4] K) noE := by intro Y0; kernel_rfl
  exact seg 5 (Eq.mp (e1 (fun a0 a1 a5 a6 w => F135_2 a0 a1 a5 a6 w K)) h) (fun e w h => ok135_2 hn hr he e w h) hr he

def F135 (x0 : Value) (x1 : Value) (w : World) (K : Value → World → Prop) : Prop := F135_1 x0 x1 w K

def G135 : FnT := fun args w K => on2 (fun x0 x1 => F135 x0 x1 w K) args
theorem c135 {x0 x1 : Value} {w : World} {K : Value → World → Prop} (h : F135 x0 x1 w K) : callP G135 [x0, x1] w K := callP_intro h
theorem ok135 : OkF Try.prog 135 G135 := by
  refine okF_of (tab_ok (l := T135) trivial) mixed (n := fuel) Try.func135 Try.call135 fun args w K h => ?_
  obtain ⟨x0, x1, rfl, hh⟩ := of_on2 h
  unfold F135 at hh
  exact fnD_list (c := bodyOf Try.f135) (by kernel_rfl) (by kernel_rfl) (ok135_1 (fun _ _ h => h) (fun _ _ h => h) (fun _ _ _ h => h) (initE [x0, x1]) w hh)

-- 208 (*gong/gongref01.Reader).Bytes
def T208 : List (Nat × FnT) := [(206, G206)]
def F208 (x0 : Value) (x1 : Value) (w : World) (K : Value → World → Prop) : Prop :=
bindP (pNil x0) fun v1 =>
bindP (pFieldAddr 2 v1) fun v2 =>
bindP (ld1 v2 w) fun v3 =>
bindP (bNe Try.prog 24 (.tmp 8) (.const (.int .i64 0)) v3 (.int .i64 0)) fun v4 =>
ifB v4 (
K (.string ⟨#[]⟩) w) (
bindP (bLt x1 (.int .i64 0)) fun v5 =>
ifB v5 (
bindP (pNil x0) fun v6 =>
bindP (pFieldAddr 2 v6) fun v7 =>
bindW (st 1 v7 (.int .i64 1) w) fun w8 =>
K (.string ⟨#[]⟩) w8) (
callP G206 [x0] w fun v11 w10 =>
bindP (bGt x1 v11) fun v12 =>
ifB v12 (
bindP (pNil x0) fun v13 =>
bindP (pFieldAddr 2 v13) fun v14 =>
bindW (st 1 v14 (.int .i64 10) w10) fun w15 =>
K (.string ⟨#[]⟩) w15) (
bindP (pNil x0) fun v17 =>
bindP (pFieldAddr 1 v17) fun v18 =>
bindP (ld1 v18 w10) fun v19 =>
bindP (bAdd v19 x1) fun v20 =>
bindP (pNil x0) fun v21 =>
bindP (pFieldAddr 1 v21) fun v22 =>
bindW (st 1 v22 v20 w10) fun w23 =>
bindP (pNil x0) fun v25 =>
bindP (pFieldAddr 0 v25) fun v26 =>
bindP (ld1 v26 w23.drew) fun v27 =>
bindP (pNil x0) fun v28 =>
bindP (pFieldAddr 1 v28) fun v29 =>
bindP (ld1 v29 w23.drew) fun v30 =>
bindP (bSub v30 x1) fun v31 =>
bindP (pNil x0) fun v32 =>
bindP (pFieldAddr 1 v32) fun v33 =>
bindP (ld1 v33 w23.drew) fun v34 =>
bindP (pSliceS v27 (some v31) (some v34)) fun v35 =>
K v35 w23.drew)))

def G208 : FnT := fun args w K => on2 (fun x0 x1 => F208 x0 x1 w K) args
theorem c208 {x0 x1 : Value} {w : World} {K : Value → World → Prop} (h : F208 x0 x1 w K) : callP G208 [x0, x1] w K := callP_intro h
theorem ok208 : OkF Try.prog 208 G208 := by
  refine okF_of (tab_ok (l := T208) ⟨ok206, trivial⟩) mixed (n := fuel) Try.func208 Try.call208 fun args w K h => ?_
  obtain ⟨x0, x1, rfl, hh⟩ := of_on2 h
  exact fnD_list (c := bodyOf Try.f208) (by kernel_rfl) (by kernel_rfl) (Eq.mp (by kernel_rfl) hh)

-- 136 (*gong/gongref01.Reader).Text
def T136 : List (Nat × FnT) := [(135, G135), (208, G208)]
def F136_2b (s7 : Value) (w : World) (K : Value → World → Prop) : Prop :=
K s7 w

def F136_2 (s7 : Value) (w : World) (K : Value → World → Prop) : Prop := F136_2b s7 w K

theorem ok136_2 {K : Value → World → Prop} {kn kr : Env → World → Prop} {ke : Nat → Env → World → Prop}
    (hn : ∀ e w, (fun e w => K (e 4) w) e w → kn e w) (hr : ∀ e w, endD Try.prog [.tmp 4] K e w → kr e w) (he : ∀ i e w, noE i e w → ke i e w) :
    ∀ e w, F136_2 (e 7) w K → denL Try.prog (tabOf T136) 28 fuel ((flat (bodyOf Try.f136)).drop 6) e w kn kr ke := by
  intro e w h
  unfold F136_2 at h
  have e1 : ∀ (_ : Unit), F136_2b (e 7) w K = denL Try.prog (tabOf T136) 28 fuel ((flat (bodyOf Try.f136)).drop 6) e w (fun e w => K (e 4) w) (endD Try.prog [.tmp 4] K) noE := by intro _; kernel_rfl
  exact seg_end (Eq.mp (e1 ()) h) hn hr he

def F136_1b (s0 : Value) (s1 : Value) (w : World) (_K : Value → World → Prop) (Y0 : Value → World → Prop) : Prop :=
bindP (pNil s0) fun v1 =>
bindP (pFieldAddr 1 v1) fun v2 =>
bindP (ld1 v2 w) fun v3 =>
callP G135 [s0, s1] w fun v5 w4 =>
callP G208 [s0, v5] w4 fun v7 w6 =>
bindP (pNil s0) fun v8 =>
bindP (pFieldAddr 2 v8) fun v9 =>
bindP (ld1 v9 w6) fun v10 =>
bindP (bNe Try.prog 24 (.tmp 21) (.const (.int .i64 0)) v10 (.int .i64 0)) fun v11 =>
ifB v11 (
bindP (pNil s0) fun v12 =>
bindP (pFieldAddr 1 v12) fun v13 =>
bindW (st 1 v13 v3 w6) fun w14 =>
Y0 v7 w14) (
Y0 v7 w6)

def F136_1 (s0 : Value) (s1 : Value) (w : World) (K : Value → World → Prop) : Prop := F136_1b s0 s1 w K (fun a7 w => F136_2 a7 w K)

theorem ok136_1 {K : Value → World → Prop} {kn kr : Env → World → Prop} {ke : Nat → Env → World → Prop}
    (hn : ∀ e w, (fun e w => K (e 4) w) e w → kn e w) (hr : ∀ e w, endD Try.prog [.tmp 4] K e w → kr e w) (he : ∀ i e w, noE i e w → ke i e w) :
    ∀ e w, F136_1 (e 0) (e 1) w K → denL Try.prog (tabOf T136) 28 fuel ((flat (bodyOf Try.f136)).drop 0) e w kn kr ke := by
  intro e w h
  unfold F136_1 at h
  have e1 : ∀ (Y0 : Value → World → Prop), F136_1b (e 0) (e 1) w K Y0 = denL Try.prog (tabOf T136) 28 fuel (((flat (bodyOf Try.f136)).drop 0).take 6) e w (fun e w => Y0 (e 7) w) (endD Try.prog [.tmp 4] K) noE := by intro Y0; kernel_rfl
  exact seg 6 (Eq.mp (e1 (fun a7 w => F136_2 a7 w K)) h) (fun e w h => ok136_2 hn hr he e w h) hr he

def F136 (x0 : Value) (x1 : Value) (w : World) (K : Value → World → Prop) : Prop := F136_1 x0 x1 w K

def G136 : FnT := fun args w K => on2 (fun x0 x1 => F136 x0 x1 w K) args
theorem c136 {x0 x1 : Value} {w : World} {K : Value → World → Prop} (h : F136 x0 x1 w K) : callP G136 [x0, x1] w K := callP_intro h
theorem ok136 : OkF Try.prog 136 G136 := by
  refine okF_of (tab_ok (l := T136) ⟨ok135, ok208, trivial⟩) mixed (n := fuel) Try.func136 Try.call136 fun args w K h => ?_
  obtain ⟨x0, x1, rfl, hh⟩ := of_on2 h
  unfold F136 at hh
  exact fnD_list (c := bodyOf Try.f136) (by kernel_rfl) (by kernel_rfl) (ok136_1 (fun _ _ h => h) (fun _ _ h => h) (fun _ _ _ h => h) (initE [x0, x1]) w hh)

-- 137 (*gong/gongref01.Reader).Done
def T137 : List (Nat × FnT) := []
def F137 (x0 : Value) (w : World) (K : Value → World → Prop) : Prop :=
bindP (pNil x0) fun v1 =>
bindP (pFieldAddr 2 v1) fun v2 =>
bindP (ld1 v2 w) fun v3 =>
bindP (bNe Try.prog 24 (.tmp 6) (.const (.int .i64 0)) v3 (.int .i64 0)) fun v4 =>
ifB v4 (
bindP (pNil x0) fun v5 =>
bindP (pFieldAddr 2 v5) fun v6 =>
bindP (ld1 v6 w) fun v7 =>
K v7 w) (
bindP (pNil x0) fun v8 =>
bindP (pFieldAddr 1 v8) fun v9 =>
bindP (ld1 v9 w.drew) fun v10 =>
bindP (pNil x0) fun v11 =>
bindP (pFieldAddr 0 v11) fun v12 =>
bindP (ld1 v12 w.drew) fun v13 =>
bindP (lenS v13) fun v14 =>
bindP (bLt v10 v14) fun v15 =>
ifB v15 (
K (.int .i64 3) w.drew) (
K (.int .i64 0) w.drew))

def G137 : FnT := fun args w K => on1 (fun x0 => F137 x0 w K) args
theorem c137 {x0 : Value} {w : World} {K : Value → World → Prop} (h : F137 x0 w K) : callP G137 [x0] w K := callP_intro h
theorem ok137 : OkF Try.prog 137 G137 := by
  refine okF_of (tab_ok (l := T137) trivial) mixed (n := fuel) Try.func137 Try.call137 fun args w K h => ?_
  obtain ⟨x0, rfl, hh⟩ := of_on1 h
  exact fnD_list (c := bodyOf Try.f137) (by kernel_rfl) (by kernel_rfl) (Eq.mp (by kernel_rfl) hh)

end Go.Proofs.Gong
