/- A part of the proofs: what stands below it, told in lemmas. No condition. -/
import Derived.Test.YtpbfmiphjcmjjaaP1
import Derived.Test.YtpbfmiphjcmjjaaP3
import Derived.Test.YtpbfmiphjcmjjaaP2
import Derived.Test.YtpbfmiphjcmjjaaP4
set_option linter.all false

/- Board3 -/
namespace Go.Proofs.Gong
open Go Go.Sx Go.Proofs
set_option linter.all false
set_option maxRecDepth 100000
def T47 : List (Nat × FnT) := []
def F47 (x0 : Value) (w : World) (K : Value → World → Prop) : Prop :=
bindP (bLt x0 (.int .i64 1)) fun v1 =>
stepM (gd false v1) x0 fun v2 =>
Sx.stepG (gd false v1) (bGt v2 (.int .i64 65536)) fun v3 =>
bindP (pPick v1 (.bool true) v3) fun v4 =>
ifB v4 (
K (.tuple #[(.pointer none), (.int .i64 1)]) w) (
bindP (fBuild Try.prog 149 [(0, x0), (1, (.int .i64 1))]) fun v5 =>
eBox 149 v5 w fun v7 w6 =>
K (.tuple #[v7, (.int .i64 0)]) w6)
def G47 : FnT := fun args w K => on1 (fun x0 => F47 x0 w K) args
theorem c47 {x0 : Value} {w : World} {K : Value → World → Prop} (h : F47 x0 w K) : callP G47 [x0] w K := callP_intro (on1_mk (p := fun x0 => F47 x0 w K) h)
theorem ok47 : OkF Try.prog 47 G47 := by
  refine okF_of (tab_ok (l := T47) trivial) mixed (n := fuel) Try.func47 Try.call47 fun args w K h => ?_
  obtain ⟨x0, rfl, hh⟩ := of_on1 h
  exact fnD_list (c := bodyOf Try.f47) (by kernel_rfl) (by kernel_rfl) (Eq.mp (by kernel_rfl) hh)
def T98 : List (Nat × FnT) := []
def F98 (x0 : Value) (x1 : Value) (w : World) (K : Value → World → Prop) : Prop :=
eAlloc Try.prog 33 w fun v2 w1 =>
bindP (pNil x0) fun v3 =>
bindP (pFieldAddr 2 v3) fun v4 =>
bindP (ld1 v4 w1) fun v5 =>
bindP (fLook Try.prog 107 v5 x1 true w1) fun v6 =>
bindP (pTuple v6 0) fun v7 =>
bindP (pTuple v6 1) fun v8 =>
eAlloc Try.prog 33 w1 fun v10 w9 =>
bindW (st 11 v10 v7 w9) fun w11 =>
bindP (ldN 11 v10 w11) fun v13 =>
bindW (st 11 v2 v13 w11) fun w14 =>
bindP (ldN 11 v2 w14) fun v16 =>
K (.tuple #[v16, v8]) w14
def G98 : FnT := fun args w K => on2 (fun x0 x1 => F98 x0 x1 w K) args
theorem c98 {x0 x1 : Value} {w : World} {K : Value → World → Prop} (h : F98 x0 x1 w K) : callP G98 [x0, x1] w K := callP_intro (on2_mk (p := fun x0 x1 => F98 x0 x1 w K) h)
theorem ok98 : OkF Try.prog 98 G98 := by
  refine okF_of (tab_ok (l := T98) trivial) mixed (n := fuel) Try.func98 Try.call98 fun args w K h => ?_
  obtain ⟨x0, x1, rfl, hh⟩ := of_on2 h
  exact fnD_list (c := bodyOf Try.f98) (by kernel_rfl) (by kernel_rfl) (Eq.mp (by kernel_rfl) hh)
def T125 : List (Nat × FnT) := []
def F125_3b (w : World) (K : Value → World → Prop) : Prop :=
K (.int .i64 (-1)) w
def F125_3 (w : World) (K : Value → World → Prop) : Prop := F125_3b w K
theorem ok125_3 {K : Value → World → Prop} {kn kr : Env → World → Prop} {ke : Nat → Env → World → Prop}
    (hn : ∀ e w, (fun e w => K (e 4) w) e w → kn e w) (hr : ∀ e w, endD Try.prog [.tmp 4] K e w → kr e w) (he : ∀ i e w, noE i e w → ke i e w) :
    ∀ e w, F125_3 w K → denL Try.prog (tabOf T125) 26 fuel ((flat (bodyOf Try.f125)).drop 3) e w kn kr ke := by
  intro e w h
  unfold F125_3 at h
  have e1 : ∀ (_ : Unit), F125_3b w K = denL Try.prog (tabOf T125) 26 fuel ((flat (bodyOf Try.f125)).drop 3) e w (fun e w => K (e 4) w) (endD Try.prog [.tmp 4] K) noE := by intro _; kernel_rfl
  exact seg_end (Eq.mp (e1 ()) h) hn hr he
def F125_2b (s0 : Value) (s1 : Value) (s5 : Value) (w : World) (K : Value → World → Prop) (Y0 : Value → Value → Value → World → Prop) (Y1 : World → Prop) : Prop :=
bindP (pNil s0) fun v1 =>
bindP (pFieldAddr 2 v1) fun v2 =>
bindP (ld1 v2 w) fun v3 =>
bindP (lenL v3) fun v4 =>
bindP (bLt s5 v4) fun v5 =>
ifB v5 (
bindP (pNil s0) fun v6 =>
bindP (pFieldAddr 2 v6) fun v7 =>
bindP (ld1 v7 w) fun v8 =>
bindP (pIndexL 11 v8 s5) fun v9 =>
bindP (pFieldAddr 0 v9) fun v10 =>
bindP (ld1 v10 w) fun v11 =>
bindP (bEq Try.prog 3 (.tmp 22) (.tmp 23) v11 s1) fun v12 =>
ifB v12 (
K s5 w) (
bindP (bAdd s5 (.int .i64 1)) fun v13 =>
Y0 s0 s1 v13 w)) (
Y1 w)
def F125_2L : Nat → Value → Value → Value → World → (Value → World → Prop) → Prop
  | 0, _, _, _, _, _ => False
  | n + 1, s0, s1, s5, w, K => F125_2b s0 s1 s5 w K (fun a0 a1 a5 w => F125_2L n a0 a1 a5 w K) (fun w => F125_3 w K)
def F125_2 (s0 : Value) (s1 : Value) (s5 : Value) (w : World) (K : Value → World → Prop) : Prop := F125_2L fuel s0 s1 s5 w K
theorem ok125_2 {K : Value → World → Prop} {kn kr : Env → World → Prop} {ke : Nat → Env → World → Prop}
    (hn : ∀ e w, (fun e w => K (e 4) w) e w → kn e w) (hr : ∀ e w, endD Try.prog [.tmp 4] K e w → kr e w) (he : ∀ i e w, noE i e w → ke i e w) :
    ∀ e w, F125_2 (e 0) (e 1) (e 5) w K → denL Try.prog (tabOf T125) 26 fuel ((flat (bodyOf Try.f125)).drop 2) e w kn kr ke := by
  intro e w h
  unfold F125_2 at h
  refine seg_loop (id := 0) (body := (loopB (blkB (nthC (flat (bodyOf Try.f125)) 2)))) (l2 := (flat (bodyOf Try.f125)).drop 3) (by kernel_rfl) ?_
  refine loop_ok (FL := fun m e w => F125_2L m (e 0) (e 1) (e 5) w K) (fr := endD Try.prog [.tmp 4] K) (fe := (blkK 0 (fun e w => F125_3 w K) noE)) (fun _ _ h => h) ?_ hr (blkK_mono (fun e w h => ok125_3 hn hr he e w h) he) fuel e w h
  intro m e w h
  have h : F125_2L (m + 1) (e 0) (e 1) (e 5) w K := h
  rw [F125_2L] at h
  have e1 : ∀ (Y0 : Value → Value → Value → World → Prop) (Y1 : World → Prop), F125_2b (e 0) (e 1) (e 5) w K Y0 Y1 = denL Try.prog (tabOf T125) 26 fuel (flat (loopB (blkB (nthC (flat (bodyOf Try.f125)) 2)))) e w (fun e w => Y0 (e 0) (e 1) (e 5) w) (endD Try.prog [.tmp 4] K) (blkK 0 (fun e w => Y1 w) noE) := by intro Y0 Y1; kernel_rfl
  exact Eq.mp (e1 (fun a0 a1 a5 w => F125_2L m a0 a1 a5 w K) (fun w => F125_3 w K)) h
def F125_1b (s0 : Value) (s1 : Value) (w : World) (_K : Value → World → Prop) (Y0 : Value → Value → Value → World → Prop) : Prop :=
Y0 s0 s1 (.int .i64 0) w
def F125_1 (s0 : Value) (s1 : Value) (w : World) (K : Value → World → Prop) : Prop := F125_1b s0 s1 w K (fun a0 a1 a5 w => F125_2 a0 a1 a5 w K)
theorem ok125_1 {K : Value → World → Prop} {kn kr : Env → World → Prop} {ke : Nat → Env → World → Prop}
    (hn : ∀ e w, (fun e w => K (e 4) w) e w → kn e w) (hr : ∀ e w, endD Try.prog [.tmp 4] K e w → kr e w) (he : ∀ i e w, noE i e w → ke i e w) :
    ∀ e w, F125_1 (e 0) (e 1) w K → denL Try.prog (tabOf T125) 26 fuel ((flat (bodyOf Try.f125)).drop 0) e w kn kr ke := by
  intro e w h
  unfold F125_1 at h
  have e1 : ∀ (Y0 : Value → Value → Value → World → Prop), F125_1b (e 0) (e 1) w K Y0 = denL Try.prog (tabOf T125) 26 fuel (((flat (bodyOf Try.f125)).drop 0).take 2) e w (fun e w => Y0 (e 0) (e 1) (e 5) w) (endD Try.prog [.tmp 4] K) noE := by intro Y0; kernel_rfl
  exact seg 2 (Eq.mp (e1 (fun a0 a1 a5 w => F125_2 a0 a1 a5 w K)) h) (fun e w h => ok125_2 hn hr he e w h) hr he
def F125 (x0 : Value) (x1 : Value) (w : World) (K : Value → World → Prop) : Prop := F125_1 x0 x1 w K
def G125 : FnT := fun args w K => on2 (fun x0 x1 => F125 x0 x1 w K) args
theorem c125 {x0 x1 : Value} {w : World} {K : Value → World → Prop} (h : F125 x0 x1 w K) : callP G125 [x0, x1] w K := callP_intro (on2_mk (p := fun x0 x1 => F125 x0 x1 w K) h)
theorem ok125 : OkF Try.prog 125 G125 := by
  refine okF_of (tab_ok (l := T125) trivial) mixed (n := fuel) Try.func125 Try.call125 fun args w K h => ?_
  obtain ⟨x0, x1, rfl, hh⟩ := of_on2 h
  unfold F125 at hh
  exact fnD_list (c := bodyOf Try.f125) (by kernel_rfl) (by kernel_rfl) (ok125_1 (fun _ _ h => h) (fun _ _ h => h) (fun _ _ _ h => h) (initE [x0, x1]) w hh)
def T99 : List (Nat × FnT) := [(125, G125)]
def F99 (x0 : Value) (x1 : Value) (w : World) (K : Value → World → Prop) : Prop :=
eAlloc Try.prog 33 w fun v2 w1 =>
callP G125 [x0, x1] w1 fun v4 w3 =>
bindP (bLt v4 (.int .i64 0)) fun v5 =>
ifB v5 (
bindP (fBuild Try.prog 33 []) fun v6 =>
bindW (st 11 v2 v6 w3) fun w7 =>
bindP (ldN 11 v2 w7) fun v9 =>
K (.tuple #[v9, (.bool false)]) w7) (
bindP (pNil x0) fun v10 =>
bindP (pFieldAddr 2 v10) fun v11 =>
bindP (ld1 v11 w3) fun v12 =>
bindP (pIndexL 11 v12 v4) fun v13 =>
bindP (ldN 11 v13 w3) fun v14 =>
bindW (st 11 v2 v14 w3) fun w15 =>
bindP (ldN 11 v2 w15) fun v17 =>
K (.tuple #[v17, (.bool true)]) w15)
def G99 : FnT := fun args w K => on2 (fun x0 x1 => F99 x0 x1 w K) args
theorem c99 {x0 x1 : Value} {w : World} {K : Value → World → Prop} (h : F99 x0 x1 w K) : callP G99 [x0, x1] w K := callP_intro (on2_mk (p := fun x0 x1 => F99 x0 x1 w K) h)
theorem ok99 : OkF Try.prog 99 G99 := by
  refine okF_of (tab_ok (l := T99) ⟨ok125, trivial⟩) mixed (n := fuel) Try.func99 Try.call99 fun args w K h => ?_
  obtain ⟨x0, x1, rfl, hh⟩ := of_on2 h
  exact fnD_list (c := bodyOf Try.f99) (by kernel_rfl) (by kernel_rfl) (Eq.mp (by kernel_rfl) hh)
def T100 : List (Nat × FnT) := []
def F100 (x0 : Value) (x1 : Value) (x2 : Value) (x3 : Value) (w : World) (K : Value → World → Prop) : Prop :=
eAlloc Try.prog 33 w fun v2 w1 =>
bindP (pNil x0) fun v3 =>
bindP (pFieldAddr 3 v3) fun v4 =>
bindP (ld1 v4 w1) fun v5 =>
bindP (fBuild Try.prog 114 [(0, x1), (1, x2), (2, x3)]) fun v6 =>
bindP (fLook Try.prog 108 v5 v6 true w1) fun v7 =>
bindP (pTuple v7 0) fun v8 =>
bindP (pTuple v7 1) fun v9 =>
bindP (pNil x0) fun v10 =>
bindP (pFieldAddr 2 v10) fun v11 =>
bindP (ld1 v11 w1) fun v12 =>
bindP (fLook Try.prog 107 v12 v8 false w1) fun v13 =>
bindW (st 11 v2 v13 w1) fun w14 =>
bindP (ldN 11 v2 w14) fun v16 =>
K (.tuple #[v16, v9]) w14
def G100 : FnT := fun args w K => on4 (fun x0 x1 x2 x3 => F100 x0 x1 x2 x3 w K) args
theorem c100 {x0 x1 x2 x3 : Value} {w : World} {K : Value → World → Prop} (h : F100 x0 x1 x2 x3 w K) : callP G100 [x0, x1, x2, x3] w K := callP_intro (on4_mk (p := fun x0 x1 x2 x3 => F100 x0 x1 x2 x3 w K) h)
theorem ok100 : OkF Try.prog 100 G100 := by
  refine okF_of (tab_ok (l := T100) trivial) mixed (n := fuel) Try.func100 Try.call100 fun args w K h => ?_
  obtain ⟨x0, x1, x2, x3, rfl, hh⟩ := of_on4 h
  exact fnD_list (c := bodyOf Try.f100) (by kernel_rfl) (by kernel_rfl) (Eq.mp (by kernel_rfl) hh)
def T128 : List (Nat × FnT) := []
def F128 (x0 : Value) (x1 : Value) (w : World) (K : Value → World → Prop) : Prop :=
eBox 31 x0 w fun v2 w1 =>
eBox 31 x1 w1 fun v4 w3 =>
bindP (pFieldAddr 0 v2) fun v5 =>
bindP (ld1 v5 w3) fun v6 =>
bindP (pFieldAddr 0 v4) fun v7 =>
bindP (ld1 v7 w3) fun v8 =>
bindP (bEq Try.prog 9 (.tmp 6) (.tmp 8) v6 v8) fun v9 =>
Sx.stepG (gd true v9) (pFieldAddr 1 v2) fun v10 =>
Sx.stepG (gd true v9) (ld1 v10 w3) fun v11 =>
Sx.stepG (gd true v9) (pFieldAddr 1 v4) fun v12 =>
Sx.stepG (gd true v9) (ld1 v12 w3) fun v13 =>
Sx.stepG (gd true v9) (bEq Try.prog 9 (.tmp 12) (.tmp 14) v11 v13) fun v14 =>
bindP (pPick v9 v14 (.bool false)) fun v15 =>
Sx.stepG (gd true v15) (pFieldAddr 2 v2) fun v16 =>
Sx.stepG (gd true v15) (ld1 v16 w3) fun v17 =>
Sx.stepG (gd true v15) (pFieldAddr 2 v4) fun v18 =>
Sx.stepG (gd true v15) (ld1 v18 w3) fun v19 =>
Sx.stepG (gd true v15) (bEq Try.prog 9 (.tmp 19) (.tmp 21) v17 v19) fun v20 =>
bindP (pPick v15 v20 (.bool false)) fun v21 =>
K v21 w3
def G128 : FnT := fun args w K => on2 (fun x0 x1 => F128 x0 x1 w K) args
theorem c128 {x0 x1 : Value} {w : World} {K : Value → World → Prop} (h : F128 x0 x1 w K) : callP G128 [x0, x1] w K := callP_intro (on2_mk (p := fun x0 x1 => F128 x0 x1 w K) h)
theorem ok128 : OkF Try.prog 128 G128 := by
  refine okF_of (tab_ok (l := T128) trivial) mixed (n := fuel) Try.func128 Try.call128 fun args w K h => ?_
  obtain ⟨x0, x1, rfl, hh⟩ := of_on2 h
  exact fnD_list (c := bodyOf Try.f128) (by kernel_rfl) (by kernel_rfl) (Eq.mp (by kernel_rfl) hh)
def T122 : List (Nat × FnT) := [(128, G128)]
def F122_3b (w : World) (K : Value → World → Prop) : Prop :=
K (.int .i64 (-1)) w
def F122_3 (w : World) (K : Value → World → Prop) : Prop := F122_3b w K
theorem ok122_3 {K : Value → World → Prop} {kn kr : Env → World → Prop} {ke : Nat → Env → World → Prop}
    (hn : ∀ e w, (fun e w => K (e 4) w) e w → kn e w) (hr : ∀ e w, endD Try.prog [.tmp 4] K e w → kr e w) (he : ∀ i e w, noE i e w → ke i e w) :
    ∀ e w, F122_3 w K → denL Try.prog (tabOf T122) 26 fuel ((flat (bodyOf Try.f122)).drop 3) e w kn kr ke := by
  intro e w h
  unfold F122_3 at h
  have e1 : ∀ (_ : Unit), F122_3b w K = denL Try.prog (tabOf T122) 26 fuel ((flat (bodyOf Try.f122)).drop 3) e w (fun e w => K (e 4) w) (endD Try.prog [.tmp 4] K) noE := by intro _; kernel_rfl
  exact seg_end (Eq.mp (e1 ()) h) hn hr he
def F122_2b (s0 : Value) (s3 : Value) (s5 : Value) (w : World) (K : Value → World → Prop) (Y0 : Value → Value → Value → World → Prop) (Y1 : World → Prop) : Prop :=
bindP (pNil s0) fun v1 =>
bindP (pFieldAddr 2 v1) fun v2 =>
bindP (ld1 v2 w) fun v3 =>
bindP (lenL v3) fun v4 =>
bindP (bLt s5 v4) fun v5 =>
ifB v5 (
bindP (pNil s0) fun v6 =>
bindP (pFieldAddr 2 v6) fun v7 =>
bindP (ld1 v7 w.drew) fun v8 =>
bindP (pIndexL 11 v8 s5) fun v9 =>
bindP (pFieldAddr 1 v9) fun v10 =>
bindP (ldN 5 v10 w.drew) fun v11 =>
bindP (ldN 5 s3 w.drew) fun v12 =>
callP G128 [v11, v12] w.drew fun v14 w13 =>
ifB v14 (
K s5 w13) (
bindP (bAdd s5 (.int .i64 1)) fun v15 =>
Y0 s0 s3 v15 w13)) (
Y1 w)
def F122_2L : Nat → Value → Value → Value → World → (Value → World → Prop) → Prop
  | 0, _, _, _, _, _ => False
  | n + 1, s0, s3, s5, w, K => F122_2b s0 s3 s5 w K (fun a0 a3 a5 w => F122_2L n a0 a3 a5 w K) (fun w => F122_3 w K)
def F122_2 (s0 : Value) (s3 : Value) (s5 : Value) (w : World) (K : Value → World → Prop) : Prop := F122_2L fuel s0 s3 s5 w K
theorem ok122_2 {K : Value → World → Prop} {kn kr : Env → World → Prop} {ke : Nat → Env → World → Prop}
    (hn : ∀ e w, (fun e w => K (e 4) w) e w → kn e w) (hr : ∀ e w, endD Try.prog [.tmp 4] K e w → kr e w) (he : ∀ i e w, noE i e w → ke i e w) :
    ∀ e w, F122_2 (e 0) (e 3) (e 5) w K → denL Try.prog (tabOf T122) 26 fuel ((flat (bodyOf Try.f122)).drop 2) e w kn kr ke := by
  intro e w h
  unfold F122_2 at h
  refine seg_loop (id := 0) (body := (loopB (blkB (nthC (flat (bodyOf Try.f122)) 2)))) (l2 := (flat (bodyOf Try.f122)).drop 3) (by kernel_rfl) ?_
  refine loop_ok (FL := fun m e w => F122_2L m (e 0) (e 3) (e 5) w K) (fr := endD Try.prog [.tmp 4] K) (fe := (blkK 0 (fun e w => F122_3 w K) noE)) (fun _ _ h => h) ?_ hr (blkK_mono (fun e w h => ok122_3 hn hr he e w h) he) fuel e w h
  intro m e w h
  have h : F122_2L (m + 1) (e 0) (e 3) (e 5) w K := h
  rw [F122_2L] at h
  have e1 : ∀ (Y0 : Value → Value → Value → World → Prop) (Y1 : World → Prop), F122_2b (e 0) (e 3) (e 5) w K Y0 Y1 = denL Try.prog (tabOf T122) 26 fuel (flat (loopB (blkB (nthC (flat (bodyOf Try.f122)) 2)))) e w (fun e w => Y0 (e 0) (e 3) (e 5) w) (endD Try.prog [.tmp 4] K) (blkK 0 (fun e w => Y1 w) noE) := by intro Y0 Y1; kernel_rfl
  exact Eq.mp (e1 (fun a0 a3 a5 w => F122_2L m a0 a3 a5 w K) (fun w => F122_3 w K)) h
def F122_1b (s0 : Value) (s1 : Value) (w : World) (_K : Value → World → Prop) (Y0 : Value → Value → Value → World → Prop) : Prop :=
eBox 31 s1 w fun v17 w16 =>
Y0 s0 v17 (.int .i64 0) w16
def F122_1 (s0 : Value) (s1 : Value) (w : World) (K : Value → World → Prop) : Prop := F122_1b s0 s1 w K (fun a0 a3 a5 w => F122_2 a0 a3 a5 w K)
theorem ok122_1 {K : Value → World → Prop} {kn kr : Env → World → Prop} {ke : Nat → Env → World → Prop}
    (hn : ∀ e w, (fun e w => K (e 4) w) e w → kn e w) (hr : ∀ e w, endD Try.prog [.tmp 4] K e w → kr e w) (he : ∀ i e w, noE i e w → ke i e w) :
    ∀ e w, F122_1 (e 0) (e 1) w K → denL Try.prog (tabOf T122) 26 fuel ((flat (bodyOf Try.f122)).drop 0) e w kn kr ke := by
  intro e w h
  unfold F122_1 at h
  have e1 : ∀ (Y0 : Value → Value → Value → World → Prop), F122_1b (e 0) (e 1) w K Y0 = denL Try.prog (tabOf T122) 26 fuel (((flat (bodyOf Try.f122)).drop 0).take 2) e w (fun e w => Y0 (e 0) (e 3) (e 5) w) (endD Try.prog [.tmp 4] K) noE := by intro Y0; kernel_rfl
  exact seg 2 (Eq.mp (e1 (fun a0 a3 a5 w => F122_2 a0 a3 a5 w K)) h) (fun e w h => ok122_2 hn hr he e w h) hr he
def F122 (x0 : Value) (x1 : Value) (w : World) (K : Value → World → Prop) : Prop := F122_1 x0 x1 w K
def G122 : FnT := fun args w K => on2 (fun x0 x1 => F122 x0 x1 w K) args
theorem c122 {x0 x1 : Value} {w : World} {K : Value → World → Prop} (h : F122 x0 x1 w K) : callP G122 [x0, x1] w K := callP_intro (on2_mk (p := fun x0 x1 => F122 x0 x1 w K) h)
theorem ok122 : OkF Try.prog 122 G122 := by
  refine okF_of (tab_ok (l := T122) ⟨ok128, trivial⟩) mixed (n := fuel) Try.func122 Try.call122 fun args w K h => ?_
  obtain ⟨x0, x1, rfl, hh⟩ := of_on2 h
  unfold F122 at hh
  exact fnD_list (c := bodyOf Try.f122) (by kernel_rfl) (by kernel_rfl) (ok122_1 (fun _ _ h => h) (fun _ _ h => h) (fun _ _ _ h => h) (initE [x0, x1]) w hh)
def T101 : List (Nat × FnT) := [(122, G122)]
def F101 (x0 : Value) (x1 : Value) (x2 : Value) (x3 : Value) (w : World) (K : Value → World → Prop) : Prop :=
eAlloc Try.prog 33 w fun v2 w1 =>
bindP (fBuild Try.prog 31 [(0, x1), (1, x2), (2, x3)]) fun v3 =>
callP G122 [x0, v3] w1 fun v5 w4 =>
bindP (bLt v5 (.int .i64 0)) fun v6 =>
ifB v6 (
bindP (fBuild Try.prog 33 []) fun v7 =>
bindW (st 11 v2 v7 w4) fun w8 =>
bindP (ldN 11 v2 w8) fun v10 =>
K (.tuple #[v10, (.bool false)]) w8) (
bindP (pNil x0) fun v11 =>
bindP (pFieldAddr 2 v11) fun v12 =>
bindP (ld1 v12 w4) fun v13 =>
bindP (pIndexL 11 v13 v5) fun v14 =>
bindP (ldN 11 v14 w4) fun v15 =>
bindW (st 11 v2 v15 w4) fun w16 =>
bindP (ldN 11 v2 w16) fun v18 =>
K (.tuple #[v18, (.bool true)]) w16)
def G101 : FnT := fun args w K => on4 (fun x0 x1 x2 x3 => F101 x0 x1 x2 x3 w K) args
theorem c101 {x0 x1 x2 x3 : Value} {w : World} {K : Value → World → Prop} (h : F101 x0 x1 x2 x3 w K) : callP G101 [x0, x1, x2, x3] w K := callP_intro (on4_mk (p := fun x0 x1 x2 x3 => F101 x0 x1 x2 x3 w K) h)
theorem ok101 : OkF Try.prog 101 G101 := by
  refine okF_of (tab_ok (l := T101) ⟨ok122, trivial⟩) mixed (n := fuel) Try.func101 Try.call101 fun args w K h => ?_
  obtain ⟨x0, x1, x2, x3, rfl, hh⟩ := of_on4 h
  exact fnD_list (c := bodyOf Try.f101) (by kernel_rfl) (by kernel_rfl) (Eq.mp (by kernel_rfl) hh)
def T129 : List (Nat × FnT) := [(88, G88), (91, G91)]
def F129_4b (s4 : Value) (s5 : Value) (w : World) (K : Value → World → Prop) : Prop :=
bindP (ldN 11 s5 w) fun v1 =>
bindW (st 11 s4 v1 w) fun w2 =>
bindP (ldN 11 s4 w2) fun v4 =>
K v4 w2
def F129_4 (s4 : Value) (s5 : Value) (w : World) (K : Value → World → Prop) : Prop := F129_4b s4 s5 w K
theorem ok129_4 {K : Value → World → Prop} {kn kr : Env → World → Prop} {ke : Nat → Env → World → Prop}
    (hn : ∀ e w, (fun e w => bindP (ldN 11 (e 4) w) fun v6 =>
K v6 w) e w → kn e w) (hr : ∀ e w, endD Try.prog [.cell 4 33] K e w → kr e w) (he : ∀ i e w, noE i e w → ke i e w) :
    ∀ e w, F129_4 (e 4) (e 5) w K → denL Try.prog (tabOf T129) 33 fuel ((flat (bodyOf Try.f129)).drop 6) e w kn kr ke := by
  intro e w h
  unfold F129_4 at h
  have e1 : ∀ (_ : Unit), F129_4b (e 4) (e 5) w K = denL Try.prog (tabOf T129) 33 fuel ((flat (bodyOf Try.f129)).drop 6) e w (fun e w => bindP (ldN 11 (e 4) w) fun v5 =>
K v5 w) (endD Try.prog [.cell 4 33] K) noE := by intro _; kernel_rfl
  exact seg_end (Eq.mp (e1 ()) h) hn hr he
def F129_6b (s0 : Value) (s1 : Value) (s4 : Value) (s5 : Value) (s6 : Value) (w : World) (_K : Value → World → Prop) (R4 : Value → Value → Value → Value → Value → World → Prop) : Prop :=
bindP (bAdd s6 (.int .i64 1)) fun v7 =>
R4 s0 s1 s4 s5 v7 w
def F129_6 (s0 : Value) (s1 : Value) (s4 : Value) (s5 : Value) (s6 : Value) (w : World) (K : Value → World → Prop) (R4 : Value → Value → Value → Value → Value → World → Prop) : Prop := F129_6b s0 s1 s4 s5 s6 w K R4
theorem ok129_6 (R4 : Value → Value → Value → Value → Value → World → Prop) {K : Value → World → Prop} {kn kr : Env → World → Prop} {ke : Nat → Env → World → Prop}
    (hn : ∀ e w, (fun e w => R4 (e 0) (e 1) (e 4) (e 5) (e 6) w) e w → kn e w) (hr : ∀ e w, endD Try.prog [.cell 4 33] K e w → kr e w) (he : ∀ i e w, (blkK 0 (fun e w => F129_4 (e 4) (e 5) w K) noE) i e w → ke i e w) :
    ∀ e w, F129_6 (e 0) (e 1) (e 4) (e 5) (e 6) w K R4 → denL Try.prog (tabOf T129) 33 fuel ((flat (loopB (blkB (nthC (flat (bodyOf Try.f129)) 5)))).drop 3) e w kn kr ke := by
  intro e w h
  unfold F129_6 at h
  have e1 : ∀ (_ : Unit), F129_6b (e 0) (e 1) (e 4) (e 5) (e 6) w K R4 = denL Try.prog (tabOf T129) 33 fuel ((flat (loopB (blkB (nthC (flat (bodyOf Try.f129)) 5)))).drop 3) e w (fun e w => R4 (e 0) (e 1) (e 4) (e 5) (e 6) w) (endD Try.prog [.cell 4 33] K) (blkK 0 (fun e w => F129_4 (e 4) (e 5) w K) noE) := by intro _; kernel_rfl
  exact seg_end (Eq.mp (e1 ()) h) hn hr he
def F129_5b (s0 : Value) (s1 : Value) (s4 : Value) (s5 : Value) (s6 : Value) (w : World) (_K : Value → World → Prop) (R4 : Value → Value → Value → Value → Value → World → Prop) (Y0 : Value → Value → Value → Value → Value → World → Prop) (Y1 : Value → Value → World → Prop) : Prop :=
bindP (lenL s0) fun v8 =>
bindP (bLt s6 v8) fun v9 =>
ifB v9 (
bindP (pIndexL 11 s0 s6) fun v10 =>
bindP (ldN 11 v10 w.drew) fun v11 =>
bindP (ldN 11 s5 w.drew) fun v12 =>
eCallV (tabOf T129) s1 [v11, v12] w.drew fun v14 w13 =>
bindP (bLt v14 (.int .i64 0)) fun v15 =>
ifB v15 (
bindP (pIndexL 11 s0 s6) fun v16 =>
bindP (ldN 11 v16 w13) fun v17 =>
bindW (st 11 s5 v17 w13) fun w18 =>
Y0 s0 s1 s4 s5 s6 w18) (
Y0 s0 s1 s4 s5 s6 w13)) (
Y1 s4 s5 w)
def F129_5 (s0 : Value) (s1 : Value) (s4 : Value) (s5 : Value) (s6 : Value) (w : World) (K : Value → World → Prop) (R4 : Value → Value → Value → Value → Value → World → Prop) : Prop := F129_5b s0 s1 s4 s5 s6 w K R4 (fun a0 a1 a4 a5 a6 w => F129_6 a0 a1 a4 a5 a6 w K R4) (fun a4 a5 w => F129_4 a4 a5 w K)
theorem ok129_5 (R4 : Value → Value → Value → Value → Value → World → Prop) {K : Value → World → Prop} {kn kr : Env → World → Prop} {ke : Nat → Env → World → Prop}
    (hn : ∀ e w, (fun e w => R4 (e 0) (e 1) (e 4) (e 5) (e 6) w) e w → kn e w) (hr : ∀ e w, endD Try.prog [.cell 4 33] K e w → kr e w) (he : ∀ i e w, (blkK 0 (fun e w => F129_4 (e 4) (e 5) w K) noE) i e w → ke i e w) :
    ∀ e w, F129_5 (e 0) (e 1) (e 4) (e 5) (e 6) w K R4 → denL Try.prog (tabOf T129) 33 fuel ((flat (loopB (blkB (nthC (flat (bodyOf Try.f129)) 5)))).drop 0) e w kn kr ke := by
  intro e w h
  unfold F129_5 at h
  have e1 : ∀ (Y0 : Value → Value → Value → Value → Value → World → Prop) (Y1 : Value → Value → World → Prop), F129_5b (e 0) (e 1) (e 4) (e 5) (e 6) w K R4 Y0 Y1 = denL Try.prog (tabOf T129) 33 fuel (((flat (loopB (blkB (nthC (flat (bodyOf Try.f129)) 5)))).drop 0).take 3) e w (fun e w => Y0 (e 0) (e 1) (e 4) (e 5) (e 6) w) (endD Try.prog [.cell 4 33] K) (blkK 0 (fun e w => Y1 (e 4) (e 5) w) noE) := by intro Y0 Y1; kernel_rfl
  exact seg 3 (Eq.mp (e1 (fun a0 a1 a4 a5 a6 w => F129_6 a0 a1 a4 a5 a6 w K R4) (fun a4 a5 w => F129_4 a4 a5 w K)) h) (fun e w h => ok129_6 R4 hn hr he e w h) hr he
def F129_3L : Nat → Value → Value → Value → Value → Value → World → (Value → World → Prop) → Prop
  | 0, _, _, _, _, _, _, _ => False
  | n + 1, s0, s1, s4, s5, s6, w, K => F129_5 s0 s1 s4 s5 s6 w K (fun a0 a1 a4 a5 a6 w => F129_3L n a0 a1 a4 a5 a6 w K)
def F129_3 (s0 : Value) (s1 : Value) (s4 : Value) (s5 : Value) (s6 : Value) (w : World) (K : Value → World → Prop) : Prop := F129_3L fuel s0 s1 s4 s5 s6 w K
theorem ok129_3 {K : Value → World → Prop} {kn kr : Env → World → Prop} {ke : Nat → Env → World → Prop}
    (hn : ∀ e w, (fun e w => bindP (ldN 11 (e 4) w) fun v20 =>
K v20 w) e w → kn e w) (hr : ∀ e w, endD Try.prog [.cell 4 33] K e w → kr e w) (he : ∀ i e w, noE i e w → ke i e w) :
    ∀ e w, F129_3 (e 0) (e 1) (e 4) (e 5) (e 6) w K → denL Try.prog (tabOf T129) 33 fuel ((flat (bodyOf Try.f129)).drop 5) e w kn kr ke := by
  intro e w h
  unfold F129_3 at h
  refine seg_loop (id := 0) (body := (loopB (blkB (nthC (flat (bodyOf Try.f129)) 5)))) (l2 := (flat (bodyOf Try.f129)).drop 6) (by kernel_rfl) ?_
  refine loop_ok (FL := fun m e w => F129_3L m (e 0) (e 1) (e 4) (e 5) (e 6) w K) (fr := endD Try.prog [.cell 4 33] K) (fe := (blkK 0 (fun e w => F129_4 (e 4) (e 5) w K) noE)) (fun _ _ h => h) ?_ hr (blkK_mono (fun e w h => ok129_4 hn hr he e w h) he) fuel e w h
  intro m e w h
  have h : F129_3L (m + 1) (e 0) (e 1) (e 4) (e 5) (e 6) w K := h
  rw [F129_3L] at h
  exact ok129_5 (fun a0 a1 a4 a5 a6 w => F129_3L m a0 a1 a4 a5 a6 w K) (fun _ _ h => h) (fun _ _ h => h) (fun _ _ _ h => h) e w h
def F129_2b (s0 : Value) (s1 : Value) (s4 : Value) (w : World) (_K : Value → World → Prop) (Y0 : Value → Value → Value → Value → Value → World → Prop) : Prop :=
bindP (pIndexL 11 s0 (.int .i64 0)) fun v21 =>
bindP (ldN 11 v21 w) fun v22 =>
eAlloc Try.prog 33 w fun v24 w23 =>
bindW (st 11 v24 v22 w23) fun w25 =>
Y0 s0 s1 s4 v24 (.int .i64 1) w25
def F129_2 (s0 : Value) (s1 : Value) (s4 : Value) (w : World) (K : Value → World → Prop) : Prop := F129_2b s0 s1 s4 w K (fun a0 a1 a4 a5 a6 w => F129_3 a0 a1 a4 a5 a6 w K)
theorem ok129_2 {K : Value → World → Prop} {kn kr : Env → World → Prop} {ke : Nat → Env → World → Prop}
    (hn : ∀ e w, (fun e w => bindP (ldN 11 (e 4) w) fun v27 =>
K v27 w) e w → kn e w) (hr : ∀ e w, endD Try.prog [.cell 4 33] K e w → kr e w) (he : ∀ i e w, noE i e w → ke i e w) :
    ∀ e w, F129_2 (e 0) (e 1) (e 4) w K → denL Try.prog (tabOf T129) 33 fuel ((flat (bodyOf Try.f129)).drop 3) e w kn kr ke := by
  intro e w h
  unfold F129_2 at h
  have e1 : ∀ (Y0 : Value → Value → Value → Value → Value → World → Prop), F129_2b (e 0) (e 1) (e 4) w K Y0 = denL Try.prog (tabOf T129) 33 fuel (((flat (bodyOf Try.f129)).drop 3).take 2) e w (fun e w => Y0 (e 0) (e 1) (e 4) (e 5) (e 6) w) (endD Try.prog [.cell 4 33] K) noE := by intro Y0; kernel_rfl
  exact seg 2 (Eq.mp (e1 (fun a0 a1 a4 a5 a6 w => F129_3 a0 a1 a4 a5 a6 w K)) h) (fun e w h => ok129_3 hn hr he e w h) hr he
def F129_1b (s0 : Value) (s1 : Value) (w : World) (_K : Value → World → Prop) (Y0 : Value → Value → Value → World → Prop) : Prop :=
eAlloc Try.prog 33 w fun v29 w28 =>
bindP (lenL s0) fun v30 =>
bindP (bLt v30 (.int .i64 1)) fun v31 =>
ifB v31 (
bindP (fMkI Try.prog 9 (.string ⟨#[115, 108, 105, 99, 101, 115, 46, 77, 105, 110, 70, 117, 110, 99, 58, 32, 101, 109, 112, 116, 121, 32, 108, 105, 115, 116]⟩)) fun _ =>
bindP (none) fun _ =>
Y0 s0 s1 v29 w28) (
Y0 s0 s1 v29 w28)
def F129_1 (s0 : Value) (s1 : Value) (w : World) (K : Value → World → Prop) : Prop := F129_1b s0 s1 w K (fun a0 a1 a4 w => F129_2 a0 a1 a4 w K)
theorem ok129_1 {K : Value → World → Prop} {kn kr : Env → World → Prop} {ke : Nat → Env → World → Prop}
    (hn : ∀ e w, (fun e w => bindP (ldN 11 (e 4) w) fun v34 =>
K v34 w) e w → kn e w) (hr : ∀ e w, endD Try.prog [.cell 4 33] K e w → kr e w) (he : ∀ i e w, noE i e w → ke i e w) :
    ∀ e w, F129_1 (e 0) (e 1) w K → denL Try.prog (tabOf T129) 33 fuel ((flat (bodyOf Try.f129)).drop 0) e w kn kr ke := by
  intro e w h
  unfold F129_1 at h
  have e1 : ∀ (Y0 : Value → Value → Value → World → Prop), F129_1b (e 0) (e 1) w K Y0 = denL Try.prog (tabOf T129) 33 fuel (((flat (bodyOf Try.f129)).drop 0).take 3) e w (fun e w => Y0 (e 0) (e 1) (e 4) w) (endD Try.prog [.cell 4 33] K) noE := by intro Y0; kernel_rfl
  exact seg 3 (Eq.mp (e1 (fun a0 a1 a4 w => F129_2 a0 a1 a4 w K)) h) (fun e w h => ok129_2 hn hr he e w h) hr he
def F129 (x0 : Value) (x1 : Value) (w : World) (K : Value → World → Prop) : Prop := F129_1 x0 x1 w K
def G129 : FnT := fun args w K => on2 (fun x0 x1 => F129 x0 x1 w K) args
theorem c129 {x0 x1 : Value} {w : World} {K : Value → World → Prop} (h : F129 x0 x1 w K) : callP G129 [x0, x1] w K := callP_intro (on2_mk (p := fun x0 x1 => F129 x0 x1 w K) h)
theorem ok129 : OkF Try.prog 129 G129 := by
  refine okF_of (tab_ok (l := T129) ⟨ok88, ok91, trivial⟩) mixed (n := fuel) Try.func129 Try.call129 fun args w K h => ?_
  obtain ⟨x0, x1, rfl, hh⟩ := of_on2 h
  unfold F129 at hh
  exact fnD_list (c := bodyOf Try.f129) (by kernel_rfl) (by kernel_rfl) (ok129_1 (fun _ _ h => h) (fun _ _ h => h) (fun _ _ _ h => h) (initE [x0, x1]) w hh)
def T102 : List (Nat × FnT) := [(42, G42), (129, G129)]
def F102 (x0 : Value) (x1 : Value) (w : World) (K : Value → World → Prop) : Prop :=
bindP (pNil x0) fun v1 =>
bindP (pFieldAddr 2 v1) fun v2 =>
bindP (ld1 v2 w) fun v3 =>
bindP (lenM v3 w) fun v4 =>
bindP (bEq Try.prog 3 (.tmp 11) (.const (.int .i64 0)) v4 (.int .i64 0)) fun v5 =>
stepM (gd false v5) x1 fun v6 =>
Sx.stepG (gd false v5) (bLt v6 (.int .i64 1)) fun v7 =>
bindP (pPick v5 (.bool true) v7) fun v8 =>
stepM (gd false v8) x1 fun v9 =>
Sx.stepG (gd false v8) (bGt v9 (.int .i64 2305843009213693952)) fun v10 =>
bindP (pPick v8 (.bool true) v10) fun v11 =>
ifB v11 (
K (.tuple #[(.int .i64 0), (.bool false)]) w) (
callP G42 [x0] w fun v13 w12 =>
callP G129 [v13, (.func (.func 88) #[] #[])] w12 fun v15 w14 =>
eAlloc Try.prog 33 w14 fun v17 w16 =>
bindW (st 11 v17 v15 w16) fun w18 =>
bindP (pFieldAddr 8 v17) fun v20 =>
bindP (ld1 v20 w18) fun v21 =>
bindP (bAdd v21 x1) fun v22 =>
K (.tuple #[v22, (.bool true)]) w18)
def G102 : FnT := fun args w K => on2 (fun x0 x1 => F102 x0 x1 w K) args
theorem c102 {x0 x1 : Value} {w : World} {K : Value → World → Prop} (h : F102 x0 x1 w K) : callP G102 [x0, x1] w K := callP_intro (on2_mk (p := fun x0 x1 => F102 x0 x1 w K) h)
theorem ok102 : OkF Try.prog 102 G102 := by
  refine okF_of (tab_ok (l := T102) ⟨ok42, ok129, trivial⟩) mixed (n := fuel) Try.func102 Try.call102 fun args w K h => ?_
  obtain ⟨x0, x1, rfl, hh⟩ := of_on2 h
  exact fnD_list (c := bodyOf Try.f102) (by kernel_rfl) (by kernel_rfl) (Eq.mp (by kernel_rfl) hh)
def T103 : List (Nat × FnT) := []
def F103_3b (s1 : Value) (s6 : Value) (w : World) (K : Value → World → Prop) : Prop :=
bindP (bAdd s6 s1) fun v1 =>
K (.tuple #[v1, (.bool true)]) w
def F103_3 (s1 : Value) (s6 : Value) (w : World) (K : Value → World → Prop) : Prop := F103_3b s1 s6 w K
theorem ok103_3 {K : Value → World → Prop} {kn kr : Env → World → Prop} {ke : Nat → Env → World → Prop}
    (hn : ∀ e w, (fun e w => K (.tuple #[(e 4), (e 5)]) w) e w → kn e w) (hr : ∀ e w, endD Try.prog [.tmp 4, .tmp 5] K e w → kr e w) (he : ∀ i e w, noE i e w → ke i e w) :
    ∀ e w, F103_3 (e 1) (e 6) w K → denL Try.prog (tabOf T103) 51 fuel ((flat (bodyOf Try.f103)).drop 6) e w kn kr ke := by
  intro e w h
  unfold F103_3 at h
  have e1 : ∀ (_ : Unit), F103_3b (e 1) (e 6) w K = denL Try.prog (tabOf T103) 51 fuel ((flat (bodyOf Try.f103)).drop 6) e w (fun e w => K (.tuple #[(e 4), (e 5)]) w) (endD Try.prog [.tmp 4, .tmp 5] K) noE := by intro _; kernel_rfl
  exact seg_end (Eq.mp (e1 ()) h) hn hr he
def F103_2b (s0 : Value) (s1 : Value) (s6 : Value) (s7 : Value) (w : World) (_K : Value → World → Prop) (Y0 : Value → Value → Value → Value → World → Prop) (Y1 : Value → Value → World → Prop) : Prop :=
bindP (pNil s0) fun v2 =>
bindP (pFieldAddr 2 v2) fun v3 =>
bindP (ld1 v3 w) fun v4 =>
bindP (lenL v4) fun v5 =>
bindP (bLt s7 v5) fun v6 =>
ifB v6 (
bindP (pNil s0) fun v7 =>
bindP (pFieldAddr 2 v7) fun v8 =>
bindP (ld1 v8 w) fun v9 =>
bindP (pIndexL 11 v9 s7) fun v10 =>
bindP (pFieldAddr 8 v10) fun v11 =>
bindP (ld1 v11 w) fun v12 =>
bindP (pMin s6 v12) fun v13 =>
bindP (bAdd s7 (.int .i64 1)) fun v14 =>
Y0 s0 s1 v13 v14 w) (
Y1 s1 s6 w)
def F103_2L : Nat → Value → Value → Value → Value → World → (Value → World → Prop) → Prop
  | 0, _, _, _, _, _, _ => False
  | n + 1, s0, s1, s6, s7, w, K => F103_2b s0 s1 s6 s7 w K (fun a0 a1 a6 a7 w => F103_2L n a0 a1 a6 a7 w K) (fun a1 a6 w => F103_3 a1 a6 w K)
def F103_2 (s0 : Value) (s1 : Value) (s6 : Value) (s7 : Value) (w : World) (K : Value → World → Prop) : Prop := F103_2L fuel s0 s1 s6 s7 w K
theorem ok103_2 {K : Value → World → Prop} {kn kr : Env → World → Prop} {ke : Nat → Env → World → Prop}
    (hn : ∀ e w, (fun e w => K (.tuple #[(e 4), (e 5)]) w) e w → kn e w) (hr : ∀ e w, endD Try.prog [.tmp 4, .tmp 5] K e w → kr e w) (he : ∀ i e w, noE i e w → ke i e w) :
    ∀ e w, F103_2 (e 0) (e 1) (e 6) (e 7) w K → denL Try.prog (tabOf T103) 51 fuel ((flat (bodyOf Try.f103)).drop 5) e w kn kr ke := by
  intro e w h
  unfold F103_2 at h
  refine seg_loop (id := 0) (body := (loopB (blkB (nthC (flat (bodyOf Try.f103)) 5)))) (l2 := (flat (bodyOf Try.f103)).drop 6) (by kernel_rfl) ?_
  refine loop_ok (FL := fun m e w => F103_2L m (e 0) (e 1) (e 6) (e 7) w K) (fr := endD Try.prog [.tmp 4, .tmp 5] K) (fe := (blkK 0 (fun e w => F103_3 (e 1) (e 6) w K) noE)) (fun _ _ h => h) ?_ hr (blkK_mono (fun e w h => ok103_3 hn hr he e w h) he) fuel e w h
  intro m e w h
  have h : F103_2L (m + 1) (e 0) (e 1) (e 6) (e 7) w K := h
  rw [F103_2L] at h
  have e1 : ∀ (Y0 : Value → Value → Value → Value → World → Prop) (Y1 : Value → Value → World → Prop), F103_2b (e 0) (e 1) (e 6) (e 7) w K Y0 Y1 = denL Try.prog (tabOf T103) 51 fuel (flat (loopB (blkB (nthC (flat (bodyOf Try.f103)) 5)))) e w (fun e w => Y0 (e 0) (e 1) (e 6) (e 7) w) (endD Try.prog [.tmp 4, .tmp 5] K) (blkK 0 (fun e w => Y1 (e 1) (e 6) w) noE) := by intro Y0 Y1; kernel_rfl
  exact Eq.mp (e1 (fun a0 a1 a6 a7 w => F103_2L m a0 a1 a6 a7 w K) (fun a1 a6 w => F103_3 a1 a6 w K)) h
def F103_1b (s0 : Value) (s1 : Value) (w : World) (K : Value → World → Prop) (Y0 : Value → Value → Value → Value → World → Prop) : Prop :=
bindP (pNil s0) fun v15 =>
bindP (pFieldAddr 2 v15) fun v16 =>
bindP (ld1 v16 w) fun v17 =>
bindP (lenL v17) fun v18 =>
bindP (bEq Try.prog 3 (.tmp 12) (.const (.int .i64 0)) v18 (.int .i64 0)) fun v19 =>
stepM (gd false v19) s1 fun v20 =>
Sx.stepG (gd false v19) (bLt v20 (.int .i64 1)) fun v21 =>
bindP (pPick v19 (.bool true) v21) fun v22 =>
stepM (gd false v22) s1 fun v23 =>
Sx.stepG (gd false v22) (bGt v23 (.int .i64 2305843009213693952)) fun v24 =>
bindP (pPick v22 (.bool true) v24) fun v25 =>
ifB v25 (
K (.tuple #[(.int .i64 0), (.bool false)]) w) (
bindP (pNil s0) fun v26 =>
bindP (pFieldAddr 2 v26) fun v27 =>
bindP (ld1 v27 w) fun v28 =>
bindP (pIndexL 11 v28 (.int .i64 0)) fun v29 =>
bindP (pFieldAddr 8 v29) fun v30 =>
bindP (ld1 v30 w) fun v31 =>
Y0 s0 s1 v31 (.int .i64 0) w)
def F103_1 (s0 : Value) (s1 : Value) (w : World) (K : Value → World → Prop) : Prop := F103_1b s0 s1 w K (fun a0 a1 a6 a7 w => F103_2 a0 a1 a6 a7 w K)
theorem ok103_1 {K : Value → World → Prop} {kn kr : Env → World → Prop} {ke : Nat → Env → World → Prop}
    (hn : ∀ e w, (fun e w => K (.tuple #[(e 4), (e 5)]) w) e w → kn e w) (hr : ∀ e w, endD Try.prog [.tmp 4, .tmp 5] K e w → kr e w) (he : ∀ i e w, noE i e w → ke i e w) :
    ∀ e w, F103_1 (e 0) (e 1) w K → denL Try.prog (tabOf T103) 51 fuel ((flat (bodyOf Try.f103)).drop 0) e w kn kr ke := by
  intro e w h
  unfold F103_1 at h
  have e1 : ∀ (Y0 : Value → Value → Value → Value → World → Prop), F103_1b (e 0) (e 1) w K Y0 = denL Try.prog (tabOf T103) 51 fuel (((flat (bodyOf Try.f103)).drop 0).take 5) e w (fun e w => Y0 (e 0) (e 1) (e 6) (e 7) w) (endD Try.prog [.tmp 4, .tmp 5] K) noE := by intro Y0; kernel_rfl
  exact seg 5 (Eq.mp (e1 (fun a0 a1 a6 a7 w => F103_2 a0 a1 a6 a7 w K)) h) (fun e w h => ok103_2 hn hr he e w h) hr he
def F103 (x0 : Value) (x1 : Value) (w : World) (K : Value → World → Prop) : Prop := F103_1 x0 x1 w K
def G103 : FnT := fun args w K => on2 (fun x0 x1 => F103 x0 x1 w K) args
theorem c103 {x0 x1 : Value} {w : World} {K : Value → World → Prop} (h : F103 x0 x1 w K) : callP G103 [x0, x1] w K := callP_intro (on2_mk (p := fun x0 x1 => F103 x0 x1 w K) h)
theorem ok103 : OkF Try.prog 103 G103 := by
  refine okF_of (tab_ok (l := T103) trivial) mixed (n := fuel) Try.func103 Try.call103 fun args w K h => ?_
  obtain ⟨x0, x1, rfl, hh⟩ := of_on2 h
  unfold F103 at hh
  exact fnD_list (c := bodyOf Try.f103) (by kernel_rfl) (by kernel_rfl) (ok103_1 (fun _ _ h => h) (fun _ _ h => h) (fun _ _ _ h => h) (initE [x0, x1]) w hh)
def T49 : List (Nat × FnT) := [(17, G17), (42, G42), (45, G45), (46, G46), (98, G98), (99, G99), (100, G100), (101, G101), (102, G102), (103, G103)]
def F49_3b (s0 : Value) (s1 : Value) (s7 : Value) (s8 : Value) (s9 : Value) (s10 : Value) (s11 : Value) (s12 : Value) (s13 : Value) (s14 : Value) (s15 : Value) (s16 : Value) (s17 : Value) (s18 : Value) (s20 : Value) (w : World) (K : Value → World → Prop) : Prop :=
stepM (gd true s20) s0 fun v1 =>
stepM (gd true s20) s1 fun v2 =>
Sx.stepG (gd true s20) (pNil v2) fun v3 =>
Sx.stepG (gd true s20) (pFieldAddr 2 v3) fun v4 =>
Sx.stepG (gd true s20) (ld1 v4 w.drew) fun v5 =>
stepE (gd true s20) (fun k => callP G42 [v1] w.drew k) w.drew fun v7 w6 =>
fok (gd true s20) (ld1 v4 w6) v5 ∧ (stepE (gd true s20) (fun k => callP G46 [v7, v5] w6 k) w6 fun v9 w8 =>
bindP (pPick s20 v9 (.bool false)) fun v10 =>
Sx.stepG (gd true v10) (ldN 11 s7 w8) fun v11 =>
Sx.stepG (gd true v10) (ldN 11 s9 w8) fun v12 =>
Sx.stepG (gd true v10) (bEq Try.prog 33 (.tmp 107) (.tmp 108) v11 v12) fun v13 =>
bindP (pPick v10 v13 (.bool false)) fun v14 =>
stepM (gd true v14) s8 fun v15 =>
stepM (gd true v14) s10 fun v16 =>
Sx.stepG (gd true v14) (bEq Try.prog 4 (.tmp 112) (.tmp 113) v15 v16) fun v17 =>
bindP (pPick v14 v17 (.bool false)) fun v18 =>
Sx.stepG (gd true v18) (ldN 11 s11 w8) fun v19 =>
Sx.stepG (gd true v18) (ldN 11 s13 w8) fun v20 =>
Sx.stepG (gd true v18) (bEq Try.prog 33 (.tmp 117) (.tmp 118) v19 v20) fun v21 =>
bindP (pPick v18 v21 (.bool false)) fun v22 =>
stepM (gd true v22) s12 fun v23 =>
stepM (gd true v22) s14 fun v24 =>
Sx.stepG (gd true v22) (bEq Try.prog 4 (.tmp 122) (.tmp 123) v23 v24) fun v25 =>
bindP (pPick v22 v25 (.bool false)) fun v26 =>
stepM (gd true v26) s15 fun v27 =>
stepM (gd true v26) s17 fun v28 =>
Sx.stepG (gd true v26) (bEq Try.prog 3 (.tmp 127) (.tmp 128) v27 v28) fun v29 =>
bindP (pPick v26 v29 (.bool false)) fun v30 =>
stepM (gd true v30) s16 fun v31 =>
stepM (gd true v30) s18 fun v32 =>
Sx.stepG (gd true v30) (bEq Try.prog 4 (.tmp 132) (.tmp 133) v31 v32) fun v33 =>
bindP (pPick v30 v33 (.bool false)) fun v34 =>
stepM (gd true v34) s0 fun v35 =>
stepM (gd true v34) s1 fun v36 =>
Sx.stepG (gd true v34) (pNil v36) fun v37 =>
Sx.stepG (gd true v34) (pFieldAddr 2 v37) fun v38 =>
Sx.stepG (gd true v34) (ld1 v38 w8) fun v39 =>
Sx.stepG (gd true v34) (lenL v39) fun v40 =>
stepE (gd true v34) (fun k => callP G17 [v35] w8 k) w8 fun v42 w41 =>
(fok (gd true v34) (ld1 v38 w41) v39 ∧ fok (gd true v34) (lenL v39) v40) ∧ (Sx.stepG (gd true v34) (bEq Try.prog 3 (.tmp 138) (.tmp 143) v42 v40) fun v43 =>
bindP (pPick v34 v43 (.bool false)) fun v44 =>
stepM (gd true v44) s0 fun v45 =>
stepM (gd true v44) s1 fun v46 =>
Sx.stepG (gd true v44) (pNil v46) fun v47 =>
Sx.stepG (gd true v44) (pFieldAddr 1 v47) fun v48 =>
Sx.stepG (gd true v44) (ld1 v48 w41) fun v49 =>
stepE (gd true v44) (fun k => callP G45 [v45] w41 k) w41 fun v51 w50 =>
fok (gd true v44) (ld1 v48 w50) v49 ∧ (Sx.stepG (gd true v44) (bEq Try.prog 3 (.tmp 148) (.tmp 152) v51 v49) fun v52 =>
bindP (pPick v44 v52 (.bool false)) fun v53 =>
K v53 w50)))
def F49_3 (s0 : Value) (s1 : Value) (s7 : Value) (s8 : Value) (s9 : Value) (s10 : Value) (s11 : Value) (s12 : Value) (s13 : Value) (s14 : Value) (s15 : Value) (s16 : Value) (s17 : Value) (s18 : Value) (s20 : Value) (w : World) (K : Value → World → Prop) : Prop := F49_3b s0 s1 s7 s8 s9 s10 s11 s12 s13 s14 s15 s16 s17 s18 s20 w K
theorem ok49_3 {K : Value → World → Prop} {kn kr : Env → World → Prop} {ke : Nat → Env → World → Prop}
    (hn : ∀ e w, (fun e w => K (e 6) w) e w → kn e w) (hr : ∀ e w, endD Try.prog [.tmp 6] K e w → kr e w) (he : ∀ i e w, noE i e w → ke i e w) :
    ∀ e w, F49_3 (e 0) (e 1) (e 7) (e 8) (e 9) (e 10) (e 11) (e 12) (e 13) (e 14) (e 15) (e 16) (e 17) (e 18) (e 20) w K → denL Try.prog (tabOf T49) 155 fuel ((flat (bodyOf Try.f49)).drop 11) e w kn kr ke := by
  intro e w h
  unfold F49_3 at h
  have e1 : ∀ (_ : Unit), F49_3b (e 0) (e 1) (e 7) (e 8) (e 9) (e 10) (e 11) (e 12) (e 13) (e 14) (e 15) (e 16) (e 17) (e 18) (e 20) w K = denL Try.prog (tabOf T49) 155 fuel ((flat (bodyOf Try.f49)).drop 11) e w (fun e w => K (e 6) w) (endD Try.prog [.tmp 6] K) noE := by intro _; kernel_rfl
  exact seg_end (Eq.mp (e1 ()) h) hn hr he
def F49_2b (s0 : Value) (s1 : Value) (s7 : Value) (s8 : Value) (s9 : Value) (s10 : Value) (s11 : Value) (s12 : Value) (s13 : Value) (s14 : Value) (s15 : Value) (s16 : Value) (s17 : Value) (s18 : Value) (s19 : Value) (s20 : Value) (s21 : Value) (w : World) (_K : Value → World → Prop) (Y0 : Value → Value → Value → Value → Value → Value → Value → Value → Value → Value → Value → Value → Value → Value → Value → Value → Value → World → Prop) (Y1 : Value → Value → Value → Value → Value → Value → Value → Value → Value → Value → Value → Value → Value → Value → Value → World → Prop) : Prop :=
bindP (lenL s19) fun v54 =>
bindP (bLt s21 v54) fun v55 =>
ifB v55 (
bindP (pIndexL 11 s19 s21) fun v56 =>
bindP (pFieldAddr 0 v56) fun v57 =>
bindW (st 1 v57 (.int .i64 (-9)) w) fun w58 =>
bindP (bAdd s21 (.int .i64 1)) fun v60 =>
Y0 s0 s1 s7 s8 s9 s10 s11 s12 s13 s14 s15 s16 s17 s18 s19 s20 v60 w58) (
Y1 s0 s1 s7 s8 s9 s10 s11 s12 s13 s14 s15 s16 s17 s18 s20 w)
def F49_2L : Nat → Value → Value → Value → Value → Value → Value → Value → Value → Value → Value → Value → Value → Value → Value → Value → Value → Value → World → (Value → World → Prop) → Prop
  | 0, _, _, _, _, _, _, _, _, _, _, _, _, _, _, _, _, _, _, _ => False
  | n + 1, s0, s1, s7, s8, s9, s10, s11, s12, s13, s14, s15, s16, s17, s18, s19, s20, s21, w, K => F49_2b s0 s1 s7 s8 s9 s10 s11 s12 s13 s14 s15 s16 s17 s18 s19 s20 s21 w K (fun a0 a1 a7 a8 a9 a10 a11 a12 a13 a14 a15 a16 a17 a18 a19 a20 a21 w => F49_2L n a0 a1 a7 a8 a9 a10 a11 a12 a13 a14 a15 a16 a17 a18 a19 a20 a21 w K) (fun a0 a1 a7 a8 a9 a10 a11 a12 a13 a14 a15 a16 a17 a18 a20 w => F49_3 a0 a1 a7 a8 a9 a10 a11 a12 a13 a14 a15 a16 a17 a18 a20 w K)
def F49_2 (s0 : Value) (s1 : Value) (s7 : Value) (s8 : Value) (s9 : Value) (s10 : Value) (s11 : Value) (s12 : Value) (s13 : Value) (s14 : Value) (s15 : Value) (s16 : Value) (s17 : Value) (s18 : Value) (s19 : Value) (s20 : Value) (s21 : Value) (w : World) (K : Value → World → Prop) : Prop := F49_2L fuel s0 s1 s7 s8 s9 s10 s11 s12 s13 s14 s15 s16 s17 s18 s19 s20 s21 w K
theorem ok49_2 {K : Value → World → Prop} {kn kr : Env → World → Prop} {ke : Nat → Env → World → Prop}
    (hn : ∀ e w, (fun e w => K (e 6) w) e w → kn e w) (hr : ∀ e w, endD Try.prog [.tmp 6] K e w → kr e w) (he : ∀ i e w, noE i e w → ke i e w) :
    ∀ e w, F49_2 (e 0) (e 1) (e 7) (e 8) (e 9) (e 10) (e 11) (e 12) (e 13) (e 14) (e 15) (e 16) (e 17) (e 18) (e 19) (e 20) (e 21) w K → denL Try.prog (tabOf T49) 155 fuel ((flat (bodyOf Try.f49)).drop 10) e w kn kr ke := by
  intro e w h
  unfold F49_2 at h
  refine seg_loop (id := 0) (body := (loopB (blkB (nthC (flat (bodyOf Try.f49)) 10)))) (l2 := (flat (bodyOf Try.f49)).drop 11) (by kernel_rfl) ?_
  refine loop_ok (FL := fun m e w => F49_2L m (e 0) (e 1) (e 7) (e 8) (e 9) (e 10) (e 11) (e 12) (e 13) (e 14) (e 15) (e 16) (e 17) (e 18) (e 19) (e 20) (e 21) w K) (fr := endD Try.prog [.tmp 6] K) (fe := (blkK 0 (fun e w => F49_3 (e 0) (e 1) (e 7) (e 8) (e 9) (e 10) (e 11) (e 12) (e 13) (e 14) (e 15) (e 16) (e 17) (e 18) (e 20) w K) noE)) (fun _ _ h => h) ?_ hr (blkK_mono (fun e w h => ok49_3 hn hr he e w h) he) fuel e w h
  intro m e w h
  have h : F49_2L (m + 1) (e 0) (e 1) (e 7) (e 8) (e 9) (e 10) (e 11) (e 12) (e 13) (e 14) (e 15) (e 16) (e 17) (e 18) (e 19) (e 20) (e 21) w K := h
  rw [F49_2L] at h
  have e1 : ∀ (Y0 : Value → Value → Value → Value → Value → Value → Value → Value → Value → Value → Value → Value → Value → Value → Value → Value → Value → World → Prop) (Y1 : Value → Value → Value → Value → Value → Value → Value → Value → Value → Value → Value → Value → Value → Value → Value → World → Prop), F49_2b (e 0) (e 1) (e 7) (e 8) (e 9) (e 10) (e 11) (e 12) (e 13) (e 14) (e 15) (e 16) (e 17) (e 18) (e 19) (e 20) (e 21) w K Y0 Y1 = denL Try.prog (tabOf T49) 155 fuel (flat (loopB (blkB (nthC (flat (bodyOf Try.f49)) 10)))) e w (fun e w => Y0 (e 0) (e 1) (e 7) (e 8) (e 9) (e 10) (e 11) (e 12) (e 13) (e 14) (e 15) (e 16) (e 17) (e 18) (e 19) (e 20) (e 21) w) (endD Try.prog [.tmp 6] K) (blkK 0 (fun e w => Y1 (e 0) (e 1) (e 7) (e 8) (e 9) (e 10) (e 11) (e 12) (e 13) (e 14) (e 15) (e 16) (e 17) (e 18) (e 20) w) noE) := by intro Y0 Y1; kernel_rfl
  exact Eq.mp (e1 (fun a0 a1 a7 a8 a9 a10 a11 a12 a13 a14 a15 a16 a17 a18 a19 a20 a21 w => F49_2L m a0 a1 a7 a8 a9 a10 a11 a12 a13 a14 a15 a16 a17 a18 a19 a20 a21 w K) (fun a0 a1 a7 a8 a9 a10 a11 a12 a13 a14 a15 a16 a17 a18 a20 w => F49_3 a0 a1 a7 a8 a9 a10 a11 a12 a13 a14 a15 a16 a17 a18 a20 w K)) h
def F49_1b (s0 : Value) (s1 : Value) (s2 : Value) (w : World) (_K : Value → World → Prop) (Y0 : Value → Value → Value → Value → Value → Value → Value → Value → Value → Value → Value → Value → Value → Value → Value → Value → Value → World → Prop) : Prop :=
eBox 90 s2 w fun v62 w61 =>
bindP (pFieldAddr 2 v62) fun v63 =>
bindP (ld1 v63 w61) fun v64 =>
callP G98 [s0, v64] w61 fun v66 w65 =>
bindP (pTuple v66 0) fun v67 =>
bindP (pTuple v66 1) fun v68 =>
eAlloc Try.prog 33 w65 fun v70 w69 =>
bindW (st 11 v70 v67 w69) fun w71 =>
bindP (pFieldAddr 2 v62) fun v73 =>
bindP (ld1 v73 w71) fun v74 =>
callP G99 [s1, v74] w71 fun v76 w75 =>
bindP (pTuple v76 0) fun v77 =>
bindP (pTuple v76 1) fun v78 =>
eAlloc Try.prog 33 w75 fun v80 w79 =>
bindW (st 11 v80 v77 w79) fun w81 =>
bindP (pFieldAddr 4 v62) fun v83 =>
bindP (pFieldAddr 0 v83) fun v84 =>
bindP (ld1 v84 w81) fun v85 =>
bindP (pFieldAddr 4 v62) fun v86 =>
bindP (pFieldAddr 1 v86) fun v87 =>
bindP (ld1 v87 w81) fun v88 =>
bindP (pFieldAddr 4 v62) fun v89 =>
bindP (pFieldAddr 2 v89) fun v90 =>
bindP (ld1 v90 w81) fun v91 =>
callP G100 [s0, v85, v88, v91] w81 fun v93 w92 =>
bindP (pTuple v93 0) fun v94 =>
bindP (pTuple v93 1) fun v95 =>
eAlloc Try.prog 33 w92 fun v97 w96 =>
bindW (st 11 v97 v94 w96) fun w98 =>
bindP (pFieldAddr 4 v62) fun v100 =>
bindP (pFieldAddr 0 v100) fun v101 =>
bindP (ld1 v101 w98) fun v102 =>
bindP (pFieldAddr 4 v62) fun v103 =>
bindP (pFieldAddr 1 v103) fun v104 =>
bindP (ld1 v104 w98) fun v105 =>
bindP (pFieldAddr 4 v62) fun v106 =>
bindP (pFieldAddr 2 v106) fun v107 =>
bindP (ld1 v107 w98) fun v108 =>
callP G101 [s1, v102, v105, v108] w98 fun v110 w109 =>
bindP (pTuple v110 0) fun v111 =>
bindP (pTuple v110 1) fun v112 =>
eAlloc Try.prog 33 w109 fun v114 w113 =>
bindW (st 11 v114 v111 w113) fun w115 =>
bindP (pFieldAddr 3 v62) fun v117 =>
bindP (ld1 v117 w115) fun v118 =>
callP G102 [s0, v118] w115 fun v120 w119 =>
bindP (pTuple v120 0) fun v121 =>
bindP (pTuple v120 1) fun v122 =>
bindP (pFieldAddr 3 v62) fun v123 =>
bindP (ld1 v123 w119) fun v124 =>
callP G103 [s1, v124] w119 fun v126 w125 =>
bindP (pTuple v126 0) fun v127 =>
bindP (pTuple v126 1) fun v128 =>
callP G42 [s0] w125 fun v130 w129 =>
bindP (pNil s1) fun v131 =>
bindP (pFieldAddr 2 v131) fun v132 =>
bindP (ld1 v132 w129) fun v133 =>
callP G46 [v130, v133] w129 fun v135 w134 =>
Y0 s0 s1 v70 v68 v80 v78 v97 v95 v114 v112 v121 v122 v127 v128 v130 v135 (.int .i64 0) w134
def F49_1 (s0 : Value) (s1 : Value) (s2 : Value) (w : World) (K : Value → World → Prop) : Prop := F49_1b s0 s1 s2 w K (fun a0 a1 a7 a8 a9 a10 a11 a12 a13 a14 a15 a16 a17 a18 a19 a20 a21 w => F49_2 a0 a1 a7 a8 a9 a10 a11 a12 a13 a14 a15 a16 a17 a18 a19 a20 a21 w K)
theorem ok49_1 {K : Value → World → Prop} {kn kr : Env → World → Prop} {ke : Nat → Env → World → Prop}
    (hn : ∀ e w, (fun e w => K (e 6) w) e w → kn e w) (hr : ∀ e w, endD Try.prog [.tmp 6] K e w → kr e w) (he : ∀ i e w, noE i e w → ke i e w) :
    ∀ e w, F49_1 (e 0) (e 1) (e 2) w K → denL Try.prog (tabOf T49) 155 fuel ((flat (bodyOf Try.f49)).drop 0) e w kn kr ke := by
  intro e w h
  unfold F49_1 at h
  have e1 : ∀ (Y0 : Value → Value → Value → Value → Value → Value → Value → Value → Value → Value → Value → Value → Value → Value → Value → Value → Value → World → Prop), F49_1b (e 0) (e 1) (e 2) w K Y0 = denL Try.prog (tabOf T49) 155 fuel (((flat (bodyOf Try.f49)).drop 0).take 10) e w (fun e w => Y0 (e 0) (e 1) (e 7) (e 8) (e 9) (e 10) (e 11) (e 12) (e 13) (e 14) (e 15) (e 16) (e 17) (e 18) (e 19) (e 20) (e 21) w) (endD Try.prog [.tmp 6] K) noE := by intro Y0; kernel_rfl
  exact seg 10 (Eq.mp (e1 (fun a0 a1 a7 a8 a9 a10 a11 a12 a13 a14 a15 a16 a17 a18 a19 a20 a21 w => F49_2 a0 a1 a7 a8 a9 a10 a11 a12 a13 a14 a15 a16 a17 a18 a19 a20 a21 w K)) h) (fun e w h => ok49_2 hn hr he e w h) hr he
def F49 (x0 : Value) (x1 : Value) (x2 : Value) (w : World) (K : Value → World → Prop) : Prop := F49_1 x0 x1 x2 w K
def G49 : FnT := fun args w K => on3 (fun x0 x1 x2 => F49 x0 x1 x2 w K) args
theorem c49 {x0 x1 x2 : Value} {w : World} {K : Value → World → Prop} (h : F49 x0 x1 x2 w K) : callP G49 [x0, x1, x2] w K := callP_intro (on3_mk (p := fun x0 x1 x2 => F49 x0 x1 x2 w K) h)
theorem ok49 : OkF Try.prog 49 G49 := by
  refine okF_of (tab_ok (l := T49) ⟨ok17, ok42, ok45, ok46, ok98, ok99, ok100, ok101, ok102, ok103, trivial⟩) mixed (n := fuel) Try.func49 Try.call49 fun args w K h => ?_
  obtain ⟨x0, x1, x2, rfl, hh⟩ := of_on3 h
  unfold F49 at hh
  exact fnD_list (c := bodyOf Try.f49) (by kernel_rfl) (by kernel_rfl) (ok49_1 (fun _ _ h => h) (fun _ _ h => h) (fun _ _ _ h => h) (initE [x0, x1, x2]) w hh)
def T123 : List (Nat × FnT) := []
def F123 (x0 : Value) (x1 : Value) (w : World) (K : Value → World → Prop) : Prop :=
eAlloc Try.prog 33 w fun v2 w1 =>
bindP (pNil x0) fun v3 =>
bindP (pFieldAddr 2 v3) fun v4 =>
bindP (ld1 v4 w1) fun v5 =>
bindP (pIndexL 11 v5 x1) fun v6 =>
bindP (ldN 11 v6 w1) fun v7 =>
eAlloc Try.prog 33 w1 fun v9 w8 =>
bindW (st 11 v9 v7 w8) fun w10 =>
bindP (pNil x0) fun v12 =>
bindP (pFieldAddr 2 v12) fun v13 =>
bindP (ld1 v13 w10.drew) fun v14 =>
bindP (pSliceL 11 v14 none (some x1) none) fun v15 =>
bindP (pNil x0) fun v16 =>
bindP (pFieldAddr 2 v16) fun v17 =>
bindP (ld1 v17 w10.drew) fun v18 =>
bindP (bAdd x1 (.int .i64 1)) fun v19 =>
bindP (pSliceL 11 v18 (some v19) none none) fun v20 =>
eBuildSl Try.prog 74 0 [] w10.drew fun v22 w21 =>
(fok true (ld1 v13 w21) v14 ∧ fok true (ld1 v17 w21) v18) ∧ (eAppend Try.prog 74 74 v22 v15 w21 fun v24 w23 =>
fok true (ld1 v17 w23) v18 ∧ (eAppend Try.prog 74 74 v24 v20 w23 fun v26 w25 =>
bindP (pNil x0) fun v27 =>
bindP (pFieldAddr 2 v27) fun v28 =>
bindW (st 1 v28 v26 w25) fun w29 =>
bindP (ldN 11 v9 w29) fun v31 =>
bindW (st 11 v2 v31 w29) fun w32 =>
bindP (ldN 11 v2 w32) fun v34 =>
K v34 w32))
def G123 : FnT := fun args w K => on2 (fun x0 x1 => F123 x0 x1 w K) args
theorem c123 {x0 x1 : Value} {w : World} {K : Value → World → Prop} (h : F123 x0 x1 w K) : callP G123 [x0, x1] w K := callP_intro (on2_mk (p := fun x0 x1 => F123 x0 x1 w K) h)
theorem ok123 : OkF Try.prog 123 G123 := by
  refine okF_of (tab_ok (l := T123) trivial) mixed (n := fuel) Try.func123 Try.call123 fun args w K h => ?_
  obtain ⟨x0, x1, rfl, hh⟩ := of_on2 h
  exact fnD_list (c := bodyOf Try.f123) (by kernel_rfl) (by kernel_rfl) (Eq.mp (by kernel_rfl) hh)
def T124 : List (Nat × FnT) := []
def F124_4b (s0 : Value) (s1 : Value) (s8 : Value) (s10 : Value) (s11 : Value) (w : World) (K : Value → World → Prop) : Prop :=
eBuildSl Try.prog 74 0 [] w fun v2 w1 =>
bindP (pNil s0) fun v3 =>
bindP (pFieldAddr 2 v3) fun v4 =>
bindP (ld1 v4 w1) fun v5 =>
eAppend Try.prog 74 74 v2 v5 w1 fun v7 w6 =>
bindP (ldN 11 s10 w6) fun v8 =>
bindP (pIndexL 11 v7 s1) fun v9 =>
bindW (st 11 v9 v8 w6) fun w10 =>
bindP (pNil s0) fun v12 =>
bindP (pFieldAddr 2 v12) fun v13 =>
bindW (st 1 v13 v7 w10) fun w14 =>
bindP (ldN 11 s10 w14) fun v16 =>
bindW (st 11 s8 v16 w14) fun w17 =>
bindP (ldN 11 s8 w17) fun v19 =>
K (.tuple #[v19, s11]) w17
def F124_4 (s0 : Value) (s1 : Value) (s8 : Value) (s10 : Value) (s11 : Value) (w : World) (K : Value → World → Prop) : Prop := F124_4b s0 s1 s8 s10 s11 w K
theorem ok124_4 {K : Value → World → Prop} {kn kr : Env → World → Prop} {ke : Nat → Env → World → Prop}
    (hn : ∀ e w, (fun e w => bindP (ldN 11 (e 8) w) fun v21 =>
K (.tuple #[v21, (e 9)]) w) e w → kn e w) (hr : ∀ e w, endD Try.prog [.cell 8 33, .tmp 9] K e w → kr e w) (he : ∀ i e w, noE i e w → ke i e w) :
    ∀ e w, F124_4 (e 0) (e 1) (e 8) (e 10) (e 11) w K → denL Try.prog (tabOf T124) 70 fuel ((flat (bodyOf Try.f124)).drop 9) e w kn kr ke := by
  intro e w h
  unfold F124_4 at h
  have e1 : ∀ (_ : Unit), F124_4b (e 0) (e 1) (e 8) (e 10) (e 11) w K = denL Try.prog (tabOf T124) 70 fuel ((flat (bodyOf Try.f124)).drop 9) e w (fun e w => bindP (ldN 11 (e 8) w) fun v20 =>
K (.tuple #[v20, (e 9)]) w) (endD Try.prog [.cell 8 33, .tmp 9] K) noE := by intro _; kernel_rfl
  exact seg_end (Eq.mp (e1 ()) h) hn hr he
def F124_6b (s0 : Value) (s1 : Value) (s6 : Value) (s8 : Value) (s10 : Value) (s11 : Value) (w : World) (_K : Value → World → Prop) (Y0 : Value → Value → Value → Value → Value → World → Prop) : Prop :=
bindP (pFieldAddr 3 s6) fun v22 =>
bindP (ld1 v22 w) fun v23 =>
bindP (pFieldAddr 1 s10) fun v24 =>
bindP (pFieldAddr 3 v24) fun v25 =>
bindW (st 1 v25 v23 w) fun w26 =>
Y0 s0 s1 s8 s10 s11 w26
def F124_6 (s0 : Value) (s1 : Value) (s6 : Value) (s8 : Value) (s10 : Value) (s11 : Value) (w : World) (K : Value → World → Prop) : Prop := F124_6b s0 s1 s6 s8 s10 s11 w K (fun a0 a1 a8 a10 a11 w => F124_4 a0 a1 a8 a10 a11 w K)
theorem ok124_6 {K : Value → World → Prop} {kn kr : Env → World → Prop} {ke : Nat → Env → World → Prop}
    (hn : ∀ e w, (fun e w => F124_4 (e 0) (e 1) (e 8) (e 10) (e 11) w K) e w → kn e w) (hr : ∀ e w, endD Try.prog [.cell 8 33, .tmp 9] K e w → kr e w) (he : ∀ i e w, noE i e w → ke i e w) :
    ∀ e w, F124_6 (e 0) (e 1) (e 6) (e 8) (e 10) (e 11) w K → denL Try.prog (tabOf T124) 70 fuel ((flat (thenC (nthC (flat (bodyOf Try.f124)) 8))).drop 3) e w kn kr ke := by
  intro e w h
  unfold F124_6 at h
  have e1 : ∀ (Y0 : Value → Value → Value → Value → Value → World → Prop), F124_6b (e 0) (e 1) (e 6) (e 8) (e 10) (e 11) w K Y0 = denL Try.prog (tabOf T124) 70 fuel ((flat (thenC (nthC (flat (bodyOf Try.f124)) 8))).drop 3) e w (fun e w => Y0 (e 0) (e 1) (e 8) (e 10) (e 11) w) (endD Try.prog [.cell 8 33, .tmp 9] K) noE := by intro Y0; kernel_rfl
  exact seg_end (Eq.mp (e1 (fun a0 a1 a8 a10 a11 w => F124_4 a0 a1 a8 a10 a11 w K)) h) hn hr he
def F124_5b (s0 : Value) (s1 : Value) (s6 : Value) (s8 : Value) (s10 : Value) (w : World) (_K : Value → World → Prop) (Y0 : Value → Value → Value → Value → Value → Value → World → Prop) : Prop :=
bindP (pFieldAddr 3 s6) fun v28 =>
bindP (ld1 v28 w) fun v29 =>
bindP (pFieldAddr 1 s10) fun v30 =>
bindP (pFieldAddr 3 v30) fun v31 =>
bindP (ld1 v31 w) fun v32 =>
bindP (bGt v29 v32) fun v33 =>
ifB v33 (
bindP (pFieldAddr 9 s10) fun v34 =>
bindW (st 1 v34 (.bool false) w) fun w35 =>
bindP (pFieldAddr 10 s10) fun v37 =>
bindW (st 1 v37 (.string ⟨#[]⟩) w35) fun w38 =>
Y0 s0 s1 s6 s8 s10 (.int .i64 2) w38) (
Y0 s0 s1 s6 s8 s10 (.int .i64 2) w)
def F124_5 (s0 : Value) (s1 : Value) (s6 : Value) (s8 : Value) (s10 : Value) (w : World) (K : Value → World → Prop) : Prop := F124_5b s0 s1 s6 s8 s10 w K (fun a0 a1 a6 a8 a10 a11 w => F124_6 a0 a1 a6 a8 a10 a11 w K)
theorem ok124_5 {K : Value → World → Prop} {kn kr : Env → World → Prop} {ke : Nat → Env → World → Prop}
    (hn : ∀ e w, (fun e w => F124_4 (e 0) (e 1) (e 8) (e 10) (e 11) w K) e w → kn e w) (hr : ∀ e w, endD Try.prog [.cell 8 33, .tmp 9] K e w → kr e w) (he : ∀ i e w, noE i e w → ke i e w) :
    ∀ e w, F124_5 (e 0) (e 1) (e 6) (e 8) (e 10) w K → denL Try.prog (tabOf T124) 70 fuel ((flat (thenC (nthC (flat (bodyOf Try.f124)) 8))).drop 0) e w kn kr ke := by
  intro e w h
  unfold F124_5 at h
  have e1 : ∀ (Y0 : Value → Value → Value → Value → Value → Value → World → Prop), F124_5b (e 0) (e 1) (e 6) (e 8) (e 10) w K Y0 = denL Try.prog (tabOf T124) 70 fuel (((flat (thenC (nthC (flat (bodyOf Try.f124)) 8))).drop 0).take 3) e w (fun e w => Y0 (e 0) (e 1) (e 6) (e 8) (e 10) (e 11) w) (endD Try.prog [.cell 8 33, .tmp 9] K) noE := by intro Y0; kernel_rfl
  exact seg 3 (Eq.mp (e1 (fun a0 a1 a6 a8 a10 a11 w => F124_6 a0 a1 a6 a8 a10 a11 w K)) h) (fun e w h => ok124_6 hn hr he e w h) hr he
def F124_7b (s0 : Value) (s1 : Value) (s8 : Value) (s10 : Value) (s11 : Value) (w : World) (_K : Value → World → Prop) (Y0 : Value → Value → Value → Value → Value → World → Prop) : Prop :=
Y0 s0 s1 s8 s10 s11 w
def F124_7 (s0 : Value) (s1 : Value) (s8 : Value) (s10 : Value) (s11 : Value) (w : World) (K : Value → World → Prop) : Prop := F124_7b s0 s1 s8 s10 s11 w K (fun a0 a1 a8 a10 a11 w => F124_4 a0 a1 a8 a10 a11 w K)
theorem ok124_7 {K : Value → World → Prop} {kn kr : Env → World → Prop} {ke : Nat → Env → World → Prop}
    (hn : ∀ e w, (fun e w => F124_4 (e 0) (e 1) (e 8) (e 10) (e 11) w K) e w → kn e w) (hr : ∀ e w, endD Try.prog [.cell 8 33, .tmp 9] K e w → kr e w) (he : ∀ i e w, noE i e w → ke i e w) :
    ∀ e w, F124_7 (e 0) (e 1) (e 8) (e 10) (e 11) w K → denL Try.prog (tabOf T124) 70 fuel ((flat (elseC (nthC (flat (bodyOf Try.f124)) 8))).drop 0) e w kn kr ke := by
  intro e w h
  unfold F124_7 at h
  have e1 : ∀ (Y0 : Value → Value → Value → Value → Value → World → Prop), F124_7b (e 0) (e 1) (e 8) (e 10) (e 11) w K Y0 = denL Try.prog (tabOf T124) 70 fuel ((flat (elseC (nthC (flat (bodyOf Try.f124)) 8))).drop 0) e w (fun e w => Y0 (e 0) (e 1) (e 8) (e 10) (e 11) w) (endD Try.prog [.cell 8 33, .tmp 9] K) noE := by intro Y0; kernel_rfl
  exact seg_end (Eq.mp (e1 (fun a0 a1 a8 a10 a11 w => F124_4 a0 a1 a8 a10 a11 w K)) h) hn hr he
def F124_3 (s0 : Value) (s1 : Value) (s6 : Value) (s8 : Value) (s10 : Value) (s11 : Value) (s41 : Value) (w : World) (K : Value → World → Prop) : Prop := ifB s41 (F124_5 s0 s1 s6 s8 s10 w K) (F124_7 s0 s1 s8 s10 s11 w K)
theorem ok124_3 {K : Value → World → Prop} {kn kr : Env → World → Prop} {ke : Nat → Env → World → Prop}
    (hn : ∀ e w, (fun e w => bindP (ldN 11 (e 8) w) fun v40 =>
K (.tuple #[v40, (e 9)]) w) e w → kn e w) (hr : ∀ e w, endD Try.prog [.cell 8 33, .tmp 9] K e w → kr e w) (he : ∀ i e w, noE i e w → ke i e w) :
    ∀ e w, F124_3 (e 0) (e 1) (e 6) (e 8) (e 10) (e 11) (e 41) w K → denL Try.prog (tabOf T124) 70 fuel ((flat (bodyOf Try.f124)).drop 8) e w kn kr ke := by
  intro e w h
  unfold F124_3 at h
  refine seg_cond (c := (.tmp 41)) (a := thenC (nthC (flat (bodyOf Try.f124)) 8)) (b := elseC (nthC (flat (bodyOf Try.f124)) 8)) (l2 := (flat (bodyOf Try.f124)).drop 9) (by kernel_rfl) h (fun h => ?_) (fun h => ?_)
  · exact ok124_5 (fun e w h => ok124_4 hn hr he e w h) hr he e w h
  · exact ok124_7 (fun e w h => ok124_4 hn hr he e w h) hr he e w h
def F124_2b (s0 : Value) (s1 : Value) (s3 : Value) (s6 : Value) (s8 : Value) (s10 : Value) (s11 : Value) (w : World) (_K : Value → World → Prop) (Y0 : Value → Value → Value → Value → Value → Value → Value → World → Prop) : Prop :=
bindP (pFieldAddr 8 s10) fun v41 =>
bindP (ld1 v41 w) fun v42 =>
bindP (pMax v42 s3) fun v43 =>
bindP (pFieldAddr 8 s10) fun v44 =>
bindW (st 1 v44 v43 w) fun w45 =>
bindP (pFieldAddr 4 s6) fun v47 =>
bindP (ld1 v47 w45) fun v48 =>
bindP (pFieldAddr 1 s10) fun v49 =>
bindP (pFieldAddr 4 v49) fun v50 =>
bindW (st 1 v50 v48 w45) fun w51 =>
bindP (pFieldAddr 3 s6) fun v53 =>
bindP (ld1 v53 w51) fun v54 =>
bindP (pFieldAddr 1 s10) fun v55 =>
bindP (pFieldAddr 3 v55) fun v56 =>
bindP (ld1 v56 w51) fun v57 =>
bindP (bNe Try.prog 3 (.tmp 37) (.tmp 40) v54 v57) fun v58 =>
Y0 s0 s1 s6 s8 s10 s11 v58 w51
def F124_2 (s0 : Value) (s1 : Value) (s3 : Value) (s6 : Value) (s8 : Value) (s10 : Value) (s11 : Value) (w : World) (K : Value → World → Prop) : Prop := F124_2b s0 s1 s3 s6 s8 s10 s11 w K (fun a0 a1 a6 a8 a10 a11 a41 w => F124_3 a0 a1 a6 a8 a10 a11 a41 w K)
theorem ok124_2 {K : Value → World → Prop} {kn kr : Env → World → Prop} {ke : Nat → Env → World → Prop}
    (hn : ∀ e w, (fun e w => bindP (ldN 11 (e 8) w) fun v59 =>
K (.tuple #[v59, (e 9)]) w) e w → kn e w) (hr : ∀ e w, endD Try.prog [.cell 8 33, .tmp 9] K e w → kr e w) (he : ∀ i e w, noE i e w → ke i e w) :
    ∀ e w, F124_2 (e 0) (e 1) (e 3) (e 6) (e 8) (e 10) (e 11) w K → denL Try.prog (tabOf T124) 70 fuel ((flat (bodyOf Try.f124)).drop 5) e w kn kr ke := by
  intro e w h
  unfold F124_2 at h
  have e1 : ∀ (Y0 : Value → Value → Value → Value → Value → Value → Value → World → Prop), F124_2b (e 0) (e 1) (e 3) (e 6) (e 8) (e 10) (e 11) w K Y0 = denL Try.prog (tabOf T124) 70 fuel (((flat (bodyOf Try.f124)).drop 5).take 3) e w (fun e w => Y0 (e 0) (e 1) (e 6) (e 8) (e 10) (e 11) (e 41) w) (endD Try.prog [.cell 8 33, .tmp 9] K) noE := by intro Y0; kernel_rfl
  exact seg 3 (Eq.mp (e1 (fun a0 a1 a6 a8 a10 a11 a41 w => F124_3 a0 a1 a6 a8 a10 a11 a41 w K)) h) (fun e w h => ok124_3 hn hr he e w h) hr he
def F124_1b (s0 : Value) (s1 : Value) (s2 : Value) (s3 : Value) (w : World) (_K : Value → World → Prop) (Y0 : Value → Value → Value → Value → Value → Value → Value → World → Prop) : Prop :=
eBox 31 s2 w fun v61 w60 =>
eAlloc Try.prog 33 w60 fun v63 w62 =>
bindP (pNil s0) fun v64 =>
bindP (pFieldAddr 2 v64) fun v65 =>
bindP (ld1 v65 w62) fun v66 =>
bindP (pIndexL 11 v66 s1) fun v67 =>
bindP (ldN 11 v67 w62) fun v68 =>
eAlloc Try.prog 33 w62 fun v70 w69 =>
bindW (st 11 v70 v68 w69) fun w71 =>
bindP (pFieldAddr 6 v70) fun v73 =>
bindP (ld1 v73 w71) fun v74 =>
bindP (bLt v74 (.int .i64 1099511627776)) fun v75 =>
ifB v75 (
bindP (pFieldAddr 6 v70) fun v76 =>
bindP (ld1 v76 w71) fun v77 =>
bindP (bAdd v77 (.int .i64 1)) fun v78 =>
bindP (pFieldAddr 6 v70) fun v79 =>
bindW (st 1 v79 v78 w71) fun w80 =>
Y0 s0 s1 s3 v61 v63 v70 (.int .i64 0) w80) (
Y0 s0 s1 s3 v61 v63 v70 (.int .i64 0) w71)
def F124_1 (s0 : Value) (s1 : Value) (s2 : Value) (s3 : Value) (w : World) (K : Value → World → Prop) : Prop := F124_1b s0 s1 s2 s3 w K (fun a0 a1 a3 a6 a8 a10 a11 w => F124_2 a0 a1 a3 a6 a8 a10 a11 w K)
theorem ok124_1 {K : Value → World → Prop} {kn kr : Env → World → Prop} {ke : Nat → Env → World → Prop}
    (hn : ∀ e w, (fun e w => bindP (ldN 11 (e 8) w) fun v82 =>
K (.tuple #[v82, (e 9)]) w) e w → kn e w) (hr : ∀ e w, endD Try.prog [.cell 8 33, .tmp 9] K e w → kr e w) (he : ∀ i e w, noE i e w → ke i e w) :
    ∀ e w, F124_1 (e 0) (e 1) (e 2) (e 3) w K → denL Try.prog (tabOf T124) 70 fuel ((flat (bodyOf Try.f124)).drop 0) e w kn kr ke := by
  intro e w h
  unfold F124_1 at h
  have e1 : ∀ (Y0 : Value → Value → Value → Value → Value → Value → Value → World → Prop), F124_1b (e 0) (e 1) (e 2) (e 3) w K Y0 = denL Try.prog (tabOf T124) 70 fuel (((flat (bodyOf Try.f124)).drop 0).take 5) e w (fun e w => Y0 (e 0) (e 1) (e 3) (e 6) (e 8) (e 10) (e 11) w) (endD Try.prog [.cell 8 33, .tmp 9] K) noE := by intro Y0; kernel_rfl
  exact seg 5 (Eq.mp (e1 (fun a0 a1 a3 a6 a8 a10 a11 w => F124_2 a0 a1 a3 a6 a8 a10 a11 w K)) h) (fun e w h => ok124_2 hn hr he e w h) hr he
def F124 (x0 : Value) (x1 : Value) (x2 : Value) (x3 : Value) (w : World) (K : Value → World → Prop) : Prop := F124_1 x0 x1 x2 x3 w K
def G124 : FnT := fun args w K => on4 (fun x0 x1 x2 x3 => F124 x0 x1 x2 x3 w K) args
theorem c124 {x0 x1 x2 x3 : Value} {w : World} {K : Value → World → Prop} (h : F124 x0 x1 x2 x3 w K) : callP G124 [x0, x1, x2, x3] w K := callP_intro (on4_mk (p := fun x0 x1 x2 x3 => F124 x0 x1 x2 x3 w K) h)
theorem ok124 : OkF Try.prog 124 G124 := by
  refine okF_of (tab_ok (l := T124) trivial) mixed (n := fuel) Try.func124 Try.call124 fun args w K h => ?_
  obtain ⟨x0, x1, x2, x3, rfl, hh⟩ := of_on4 h
  unfold F124 at hh
  exact fnD_list (c := bodyOf Try.f124) (by kernel_rfl) (by kernel_rfl) (ok124_1 (fun _ _ h => h) (fun _ _ h => h) (fun _ _ _ h => h) (initE [x0, x1, x2, x3]) w hh)
def T92 : List (Nat × FnT) := [(68, G68), (69, G69), (122, G122), (123, G123), (124, G124)]
def F92 (x0 : Value) (x1 : Value) (x2 : Value) (w : World) (K : Value → World → Prop) : Prop :=
eBox 31 x1 w fun v2 w1 =>
eAlloc Try.prog 33 w1 fun v4 w3 =>
bindP (ldN 5 v2 w3) fun v5 =>
callP G68 [v5] w3 fun v7 w6 =>
bindP (bNe Try.prog 24 (.tmp 16) (.const (.int .i64 0)) v7 (.int .i64 0)) fun v8 =>
ifB v8 (
bindP (fBuild Try.prog 33 []) fun v9 =>
bindW (st 11 v4 v9 w6) fun w10 =>
bindP (ldN 11 v4 w10) fun v12 =>
K (.tuple #[v12, (.int .i64 0), v7]) w10) (
callP G69 [x2] w6 fun v14 w13 =>
bindP (uNot v14) fun v15 =>
ifB v15 (
bindP (fBuild Try.prog 33 []) fun v16 =>
bindW (st 11 v4 v16 w13) fun w17 =>
bindP (ldN 11 v4 w17) fun v19 =>
K (.tuple #[v19, (.int .i64 0), (.int .i64 1)]) w17) (
bindP (ldN 5 v2 w13) fun v20 =>
callP G122 [x0, v20] w13 fun v22 w21 =>
bindP (pFieldAddr 3 v2) fun v23 =>
bindP (ld1 v23 w21) fun v24 =>
bindP (bEq Try.prog 3 (.tmp 28) (.const (.int .i64 0)) v24 (.int .i64 0)) fun v25 =>
ifB v25 (
bindP (bLt v22 (.int .i64 0)) fun v26 =>
ifB v26 (
bindP (fBuild Try.prog 33 []) fun v27 =>
bindW (st 11 v4 v27 w21) fun w28 =>
bindP (ldN 11 v4 w28) fun v30 =>
K (.tuple #[v30, (.int .i64 0), (.int .i64 5)]) w28) (
callP G123 [x0, v22] w21 fun v32 w31 =>
bindW (st 11 v4 v32 w31) fun w33 =>
bindP (ldN 11 v4 w33) fun v35 =>
K (.tuple #[v35, (.int .i64 3), (.int .i64 0)]) w33)) (
bindP (bGe v22 (.int .i64 0)) fun v36 =>
ifB v36 (
bindP (ldN 5 v2 w21) fun v37 =>
callP G124 [x0, v22, v37, x2] w21 fun v39 w38 =>
bindP (pTuple v39 0) fun v40 =>
bindP (pTuple v39 1) fun v41 =>
eAlloc Try.prog 33 w38 fun v43 w42 =>
bindW (st 11 v43 v40 w42) fun w44 =>
bindP (ldN 11 v43 w44) fun v46 =>
bindW (st 11 v4 v46 w44) fun w47 =>
bindP (ldN 11 v4 w47) fun v49 =>
K (.tuple #[v49, v41, (.int .i64 0)]) w47) (
bindP (pNil x0) fun v50 =>
bindP (pFieldAddr 2 v50) fun v51 =>
bindP (ld1 v51 w21.drew) fun v52 =>
bindP (lenL v52) fun v53 =>
bindP (pNil x0) fun v54 =>
bindP (pFieldAddr 0 v54) fun v55 =>
bindP (ld1 v55 w21.drew) fun v56 =>
bindP (bGe v53 v56) fun v57 =>
ifB v57 (
bindP (fBuild Try.prog 33 []) fun v58 =>
bindW (st 11 v4 v58 w21.drew) fun w59 =>
bindP (ldN 11 v4 w59) fun v61 =>
K (.tuple #[v61, (.int .i64 0), (.int .i64 200)]) w59) (
bindP (pNil x0) fun v62 =>
bindP (pFieldAddr 1 v62) fun v63 =>
bindP (ld1 v63 (w21.drew).drew) fun v64 =>
bindP (ldN 5 v2 (w21.drew).drew) fun v65 =>
bindP (fBuild Try.prog 33 [(0, v64), (1, v65), (2, (.int .i64 1)), (3, x2), (4, x2)]) fun v66 =>
eAlloc Try.prog 33 (w21.drew).drew fun v68 w67 =>
(fok true (ld1 v63 w67) v64 ∧ fok true (ldN 5 v2 w67) v65) ∧ (bindW (st 11 v68 v66 w67) fun w69 =>
bindP (pNil x0) fun v71 =>
bindP (pFieldAddr 1 v71) fun v72 =>
bindP (ld1 v72 w69) fun v73 =>
bindP (bAdd v73 (.int .i64 1)) fun v74 =>
bindP (pNil x0) fun v75 =>
bindP (pFieldAddr 1 v75) fun v76 =>
bindW (st 1 v76 v74 w69) fun w77 =>
bindP (pNil x0) fun v79 =>
bindP (pFieldAddr 2 v79) fun v80 =>
bindP (ld1 v80 w77.drew) fun v81 =>
bindP (ldN 11 v68 w77.drew) fun v82 =>
(eBuildSl Try.prog 74 0 [] w77.drew fun v84 w83 =>
(fok true (ld1 v80 w83) v81 ∧ fok true (ldN 11 v68 w83) v82) ∧ ((eAppend Try.prog 74 74 v84 v81 w83 fun v86 w85 =>
fok true (ldN 11 v68 w85) v82 ∧ (eBuildSl Try.prog 74 1 [(0, v82)] w85 fun v88 w87 =>
fok true (ld1 v80 w87) v81 ∧ (eAppend Try.prog 74 74 v86 v88 w87 fun v90 w89 =>
bindP (pNil x0) fun v91 =>
bindP (pFieldAddr 2 v91) fun v92 =>
bindW (st 1 v92 v90 w89) fun w93 =>
bindP (ldN 11 v68 w93) fun v95 =>
bindW (st 11 v4 v95 w93) fun w96 =>
bindP (ldN 11 v4 w96) fun v98 =>
K (.tuple #[v98, (.int .i64 1), (.int .i64 0)]) w96))) ∧ (eBuildSl Try.prog 74 1 [(0, v82)] w83 fun v100 w99 =>
fok true (ld1 v80 w99) v81 ∧ (eAppend Try.prog 74 74 v84 v81 w99 fun v102 w101 =>
fok true (ldN 11 v68 w101) v82 ∧ (eAppend Try.prog 74 74 v102 v100 w101 fun v104 w103 =>
bindP (pNil x0) fun v105 =>
bindP (pFieldAddr 2 v105) fun v106 =>
bindW (st 1 v106 v104 w103) fun w107 =>
bindP (ldN 11 v68 w107) fun v109 =>
bindW (st 11 v4 v109 w107) fun w110 =>
bindP (ldN 11 v4 w110) fun v112 =>
K (.tuple #[v112, (.int .i64 1), (.int .i64 0)]) w110))))) ∧ (eBuildSl Try.prog 74 1 [(0, v82)] w77.drew fun v114 w113 =>
fok true (ld1 v80 w113) v81 ∧ (eBuildSl Try.prog 74 0 [] w113 fun v116 w115 =>
(fok true (ld1 v80 w115) v81 ∧ fok true (ldN 11 v68 w115) v82) ∧ (eAppend Try.prog 74 74 v116 v81 w115 fun v118 w117 =>
fok true (ldN 11 v68 w117) v82 ∧ (eAppend Try.prog 74 74 v118 v114 w117 fun v120 w119 =>
bindP (pNil x0) fun v121 =>
bindP (pFieldAddr 2 v121) fun v122 =>
bindW (st 1 v122 v120 w119) fun w123 =>
bindP (ldN 11 v68 w123) fun v125 =>
bindW (st 11 v4 v125 w123) fun w126 =>
bindP (ldN 11 v4 w126) fun v128 =>
K (.tuple #[v128, (.int .i64 1), (.int .i64 0)]) w126))))))))))
def G92 : FnT := fun args w K => on3 (fun x0 x1 x2 => F92 x0 x1 x2 w K) args
theorem c92 {x0 x1 x2 : Value} {w : World} {K : Value → World → Prop} (h : F92 x0 x1 x2 w K) : callP G92 [x0, x1, x2] w K := callP_intro (on3_mk (p := fun x0 x1 x2 => F92 x0 x1 x2 w K) h)
theorem ok92 : OkF Try.prog 92 G92 := by
  refine okF_of (tab_ok (l := T92) ⟨ok68, ok69, ok122, ok123, ok124, trivial⟩) mixed (n := fuel) Try.func92 Try.call92 fun args w K h => ?_
  obtain ⟨x0, x1, x2, rfl, hh⟩ := of_on3 h
  exact fnD_list (c := bodyOf Try.f92) (by kernel_rfl) (by kernel_rfl) (Eq.mp (by kernel_rfl) hh)
def T93 : List (Nat × FnT) := [(70, G70), (125, G125)]
def F93 (x0 : Value) (x1 : Value) (x2 : Value) (w : World) (K : Value → World → Prop) : Prop :=
eAlloc Try.prog 33 w fun v2 w1 =>
callP G125 [x0, x1] w1 fun v4 w3 =>
bindP (bLt v4 (.int .i64 0)) fun v5 =>
ifB v5 (
bindP (fBuild Try.prog 33 []) fun v6 =>
bindW (st 11 v2 v6 w3) fun w7 =>
bindP (ldN 11 v2 w7) fun v9 =>
K (.tuple #[v9, (.int .i64 5)]) w7) (
callP G70 [x2] w3 fun v11 w10 =>
bindP (uNot v11) fun v12 =>
ifB v12 (
bindP (fBuild Try.prog 33 []) fun v13 =>
bindW (st 11 v2 v13 w10) fun w14 =>
bindP (ldN 11 v2 w14) fun v16 =>
K (.tuple #[v16, (.int .i64 1)]) w14) (
bindP (pNil x0) fun v17 =>
bindP (pFieldAddr 2 v17) fun v18 =>
bindP (ld1 v18 w10) fun v19 =>
bindP (pIndexL 11 v19 v4) fun v20 =>
bindP (pFieldAddr 9 v20) fun v21 =>
bindP (ld1 v21 w10) fun v22 =>
ifB v22 (
bindP (fBuild Try.prog 33 []) fun v23 =>
bindW (st 11 v2 v23 w10) fun w24 =>
bindP (ldN 11 v2 w24) fun v26 =>
K (.tuple #[v26, (.int .i64 6)]) w24) (
eBuildSl Try.prog 74 0 [] w10 fun v28 w27 =>
bindP (pNil x0) fun v29 =>
bindP (pFieldAddr 2 v29) fun v30 =>
bindP (ld1 v30 w27) fun v31 =>
eAppend Try.prog 74 74 v28 v31 w27 fun v33 w32 =>
bindP (pIndexL 11 v33 v4) fun v34 =>
bindP (pFieldAddr 9 v34) fun v35 =>
bindW (st 1 v35 (.bool true) w32) fun w36 =>
bindP (pIndexL 11 v33 v4) fun v38 =>
bindP (pFieldAddr 10 v38) fun v39 =>
bindW (st 1 v39 x2 w36) fun w40 =>
bindP (pNil x0) fun v42 =>
bindP (pFieldAddr 2 v42) fun v43 =>
bindW (st 1 v43 v33 w40) fun w44 =>
bindP (pIndexL 11 v33 v4) fun v46 =>
bindP (ldN 11 v46 w44) fun v47 =>
bindW (st 11 v2 v47 w44) fun w48 =>
bindP (ldN 11 v2 w48) fun v50 =>
K (.tuple #[v50, (.int .i64 0)]) w48)))
def G93 : FnT := fun args w K => on3 (fun x0 x1 x2 => F93 x0 x1 x2 w K) args
theorem c93 {x0 x1 x2 : Value} {w : World} {K : Value → World → Prop} (h : F93 x0 x1 x2 w K) : callP G93 [x0, x1, x2] w K := callP_intro (on3_mk (p := fun x0 x1 x2 => F93 x0 x1 x2 w K) h)
theorem ok93 : OkF Try.prog 93 G93 := by
  refine okF_of (tab_ok (l := T93) ⟨ok70, ok125, trivial⟩) mixed (n := fuel) Try.func93 Try.call93 fun args w K h => ?_
  obtain ⟨x0, x1, x2, rfl, hh⟩ := of_on3 h
  exact fnD_list (c := bodyOf Try.f93) (by kernel_rfl) (by kernel_rfl) (Eq.mp (by kernel_rfl) hh)
def T94 : List (Nat × FnT) := [(123, G123), (125, G125)]
def F94 (x0 : Value) (x1 : Value) (w : World) (K : Value → World → Prop) : Prop :=
eAlloc Try.prog 33 w fun v2 w1 =>
callP G125 [x0, x1] w1 fun v4 w3 =>
bindP (bLt v4 (.int .i64 0)) fun v5 =>
ifB v5 (
bindP (fBuild Try.prog 33 []) fun v6 =>
bindW (st 11 v2 v6 w3) fun w7 =>
bindP (ldN 11 v2 w7) fun v9 =>
K (.tuple #[v9, (.int .i64 5)]) w7) (
callP G123 [x0, v4] w3 fun v11 w10 =>
bindW (st 11 v2 v11 w10) fun w12 =>
bindP (ldN 11 v2 w12) fun v14 =>
K (.tuple #[v14, (.int .i64 0)]) w12)
def G94 : FnT := fun args w K => on2 (fun x0 x1 => F94 x0 x1 w K) args
theorem c94 {x0 x1 : Value} {w : World} {K : Value → World → Prop} (h : F94 x0 x1 w K) : callP G94 [x0, x1] w K := callP_intro (on2_mk (p := fun x0 x1 => F94 x0 x1 w K) h)
theorem ok94 : OkF Try.prog 94 G94 := by
  refine okF_of (tab_ok (l := T94) ⟨ok123, ok125, trivial⟩) mixed (n := fuel) Try.func94 Try.call94 fun args w K h => ?_
  obtain ⟨x0, x1, rfl, hh⟩ := of_on2 h
  exact fnD_list (c := bodyOf Try.f94) (by kernel_rfl) (by kernel_rfl) (Eq.mp (by kernel_rfl) hh)
def T95 : List (Nat × FnT) := [(69, G69)]
def F95_3b (s0 : Value) (s8 : Value) (s9 : Value) (w : World) (K : Value → World → Prop) : Prop :=
bindP (pNil s0) fun v1 =>
bindP (pFieldAddr 2 v1) fun v2 =>
bindW (st 1 v2 s9 w) fun w3 =>
K (.tuple #[s8, (.int .i64 0)]) w3
def F95_3 (s0 : Value) (s8 : Value) (s9 : Value) (w : World) (K : Value → World → Prop) : Prop := F95_3b s0 s8 s9 w K
theorem ok95_3 {K : Value → World → Prop} {kn kr : Env → World → Prop} {ke : Nat → Env → World → Prop}
    (hn : ∀ e w, (fun e w => K (.tuple #[(e 6), (e 7)]) w) e w → kn e w) (hr : ∀ e w, endD Try.prog [.tmp 6, .tmp 7] K e w → kr e w) (he : ∀ i e w, noE i e w → ke i e w) :
    ∀ e w, F95_3 (e 0) (e 8) (e 9) w K → denL Try.prog (tabOf T95) 86 fuel ((flat (bodyOf Try.f95)).drop 6) e w kn kr ke := by
  intro e w h
  unfold F95_3 at h
  have e1 : ∀ (_ : Unit), F95_3b (e 0) (e 8) (e 9) w K = denL Try.prog (tabOf T95) 86 fuel ((flat (bodyOf Try.f95)).drop 6) e w (fun e w => K (.tuple #[(e 6), (e 7)]) w) (endD Try.prog [.tmp 6, .tmp 7] K) noE := by intro _; kernel_rfl
  exact seg_end (Eq.mp (e1 ()) h) hn hr he
def F95_6b (s0 : Value) (s1 : Value) (s2 : Value) (s8 : Value) (s9 : Value) (s10 : Value) (w : World) (_K : Value → World → Prop) (R3 : Value → Value → Value → Value → Value → Value → World → Prop) : Prop :=
bindP (bAdd s10 (.int .i64 1)) fun v5 =>
R3 s0 s1 s2 s8 s9 v5 w
def F95_6 (s0 : Value) (s1 : Value) (s2 : Value) (s8 : Value) (s9 : Value) (s10 : Value) (w : World) (K : Value → World → Prop) (R3 : Value → Value → Value → Value → Value → Value → World → Prop) : Prop := F95_6b s0 s1 s2 s8 s9 s10 w K R3
theorem ok95_6 (R3 : Value → Value → Value → Value → Value → Value → World → Prop) {K : Value → World → Prop} {kn kr : Env → World → Prop} {ke : Nat → Env → World → Prop}
    (hn : ∀ e w, (fun e w => R3 (e 0) (e 1) (e 2) (e 8) (e 9) (e 10) w) e w → kn e w) (hr : ∀ e w, endD Try.prog [.tmp 6, .tmp 7] K e w → kr e w) (he : ∀ i e w, (blkK 0 (fun e w => F95_3 (e 0) (e 8) (e 9) w K) noE) i e w → ke i e w) :
    ∀ e w, F95_6 (e 0) (e 1) (e 2) (e 8) (e 9) (e 10) w K R3 → denL Try.prog (tabOf T95) 86 fuel ((flat (loopB (blkB (nthC (flat (bodyOf Try.f95)) 5)))).drop 3) e w kn kr ke := by
  intro e w h
  unfold F95_6 at h
  have e1 : ∀ (_ : Unit), F95_6b (e 0) (e 1) (e 2) (e 8) (e 9) (e 10) w K R3 = denL Try.prog (tabOf T95) 86 fuel ((flat (loopB (blkB (nthC (flat (bodyOf Try.f95)) 5)))).drop 3) e w (fun e w => R3 (e 0) (e 1) (e 2) (e 8) (e 9) (e 10) w) (endD Try.prog [.tmp 6, .tmp 7] K) (blkK 0 (fun e w => F95_3 (e 0) (e 8) (e 9) w K) noE) := by intro _; kernel_rfl
  exact seg_end (Eq.mp (e1 ()) h) hn hr he
def F95_9b (s0 : Value) (s1 : Value) (s2 : Value) (s8 : Value) (s9 : Value) (s10 : Value) (s11 : Value) (s12 : Value) (w : World) (_K : Value → World → Prop) (R3 : Value → Value → Value → Value → Value → Value → World → Prop) (Y0 : Value → Value → Value → Value → Value → Value → World → Prop) : Prop :=
bindP (pSliceL 11 s8 none (some s12) none) fun v6 =>
eAppend Try.prog 74 74 (.slice none 0 0) v6 w fun v8 w7 =>
bindP (ldN 11 s11 w7) fun v9 =>
eBuildSl Try.prog 74 1 [(0, v9)] w7 fun v11 w10 =>
eAppend Try.prog 74 74 v8 v11 w10 fun v13 w12 =>
bindP (pSliceL 11 s8 (some s12) none none) fun v14 =>
eAppend Try.prog 74 74 v13 v14 w12 fun v16 w15 =>
Y0 s0 s1 s2 v16 s9 s10 w15
def F95_9 (s0 : Value) (s1 : Value) (s2 : Value) (s8 : Value) (s9 : Value) (s10 : Value) (s11 : Value) (s12 : Value) (w : World) (K : Value → World → Prop) (R3 : Value → Value → Value → Value → Value → Value → World → Prop) : Prop := F95_9b s0 s1 s2 s8 s9 s10 s11 s12 w K R3 (fun a0 a1 a2 a8 a9 a10 w => F95_6 a0 a1 a2 a8 a9 a10 w K R3)
theorem ok95_9 (R3 : Value → Value → Value → Value → Value → Value → World → Prop) {K : Value → World → Prop} {kn kr : Env → World → Prop} {ke : Nat → Env → World → Prop}
    (hn : ∀ e w, (fun e w => F95_6 (e 0) (e 1) (e 2) (e 8) (e 9) (e 10) w K R3) e w → kn e w) (hr : ∀ e w, endD Try.prog [.tmp 6, .tmp 7] K e w → kr e w) (he : ∀ i e w, (blkK 1 (fun e w => F95_6 (e 0) (e 1) (e 2) (e 8) (e 9) (e 10) w K R3) (blkK 0 (fun e w => F95_3 (e 0) (e 8) (e 9) w K) noE)) i e w → ke i e w) :
    ∀ e w, F95_9 (e 0) (e 1) (e 2) (e 8) (e 9) (e 10) (e 11) (e 12) w K R3 → denL Try.prog (tabOf T95) 86 fuel ((flat (blkB (nthC (flat (loopB (blkB (nthC (flat (bodyOf Try.f95)) 5)))) 2))).drop 5) e w kn kr ke := by
  intro e w h
  unfold F95_9 at h
  have e1 : ∀ (Y0 : Value → Value → Value → Value → Value → Value → World → Prop), F95_9b (e 0) (e 1) (e 2) (e 8) (e 9) (e 10) (e 11) (e 12) w K R3 Y0 = denL Try.prog (tabOf T95) 86 fuel ((flat (blkB (nthC (flat (loopB (blkB (nthC (flat (bodyOf Try.f95)) 5)))) 2))).drop 5) e w (fun e w => Y0 (e 0) (e 1) (e 2) (e 8) (e 9) (e 10) w) (endD Try.prog [.tmp 6, .tmp 7] K) (blkK 1 (fun e w => Y0 (e 0) (e 1) (e 2) (e 8) (e 9) (e 10) w) (blkK 0 (fun e w => F95_3 (e 0) (e 8) (e 9) w K) noE)) := by intro Y0; kernel_rfl
  exact seg_end (Eq.mp (e1 (fun a0 a1 a2 a8 a9 a10 w => F95_6 a0 a1 a2 a8 a9 a10 w K R3)) h) hn hr he
def F95_8b (s0 : Value) (s1 : Value) (s2 : Value) (s8 : Value) (s9 : Value) (s10 : Value) (s11 : Value) (s12 : Value) (w : World) (_K : Value → World → Prop) (R3 : Value → Value → Value → Value → Value → Value → World → Prop) (Y0 : Value → Value → Value → Value → Value → Value → Value → Value → World → Prop) (Y1 : Value → Value → Value → Value → Value → Value → Value → Value → World → Prop) : Prop :=
bindP (lenL s8) fun v17 =>
bindP (bLt s12 v17) fun v18 =>
stepM (gd true v18) s8 fun v19 =>
stepM (gd true v18) s12 fun v20 =>
Sx.stepG (gd true v18) (pIndexL 11 v19 v20) fun v21 =>
Sx.stepG (gd true v18) (pFieldAddr 8 v21) fun v22 =>
Sx.stepG (gd true v18) (ld1 v22 w.drew) fun v23 =>
Sx.stepG (gd true v18) (pFieldAddr 8 s11) fun v24 =>
Sx.stepG (gd true v18) (ld1 v24 w.drew) fun v25 =>
Sx.stepG (gd true v18) (bLe v23 v25) fun v26 =>
bindP (pPick v18 v26 (.bool false)) fun v27 =>
ifB v27 (
bindP (bAdd s12 (.int .i64 1)) fun v28 =>
Y0 s0 s1 s2 s8 s9 s10 s11 v28 w.drew) (
Y1 s0 s1 s2 s8 s9 s10 s11 s12 w.drew)
def F95_8L : Nat → Value → Value → Value → Value → Value → Value → Value → Value → World → (Value → World → Prop) → (Value → Value → Value → Value → Value → Value → World → Prop) → Prop
  | 0, _, _, _, _, _, _, _, _, _, _, _ => False
  | n + 1, s0, s1, s2, s8, s9, s10, s11, s12, w, K, R3 => F95_8b s0 s1 s2 s8 s9 s10 s11 s12 w K R3 (fun a0 a1 a2 a8 a9 a10 a11 a12 w => F95_8L n a0 a1 a2 a8 a9 a10 a11 a12 w K R3) (fun a0 a1 a2 a8 a9 a10 a11 a12 w => F95_9 a0 a1 a2 a8 a9 a10 a11 a12 w K R3)
def F95_8 (s0 : Value) (s1 : Value) (s2 : Value) (s8 : Value) (s9 : Value) (s10 : Value) (s11 : Value) (s12 : Value) (w : World) (K : Value → World → Prop) (R3 : Value → Value → Value → Value → Value → Value → World → Prop) : Prop := F95_8L fuel s0 s1 s2 s8 s9 s10 s11 s12 w K R3
theorem ok95_8 (R3 : Value → Value → Value → Value → Value → Value → World → Prop) {K : Value → World → Prop} {kn kr : Env → World → Prop} {ke : Nat → Env → World → Prop}
    (hn : ∀ e w, (fun e w => F95_6 (e 0) (e 1) (e 2) (e 8) (e 9) (e 10) w K R3) e w → kn e w) (hr : ∀ e w, endD Try.prog [.tmp 6, .tmp 7] K e w → kr e w) (he : ∀ i e w, (blkK 1 (fun e w => F95_6 (e 0) (e 1) (e 2) (e 8) (e 9) (e 10) w K R3) (blkK 0 (fun e w => F95_3 (e 0) (e 8) (e 9) w K) noE)) i e w → ke i e w) :
    ∀ e w, F95_8 (e 0) (e 1) (e 2) (e 8) (e 9) (e 10) (e 11) (e 12) w K R3 → denL Try.prog (tabOf T95) 86 fuel ((flat (blkB (nthC (flat (loopB (blkB (nthC (flat (bodyOf Try.f95)) 5)))) 2))).drop 4) e w kn kr ke := by
  intro e w h
  unfold F95_8 at h
  refine seg_loop (id := 2) (body := (loopB (blkB (nthC (flat (blkB (nthC (flat (loopB (blkB (nthC (flat (bodyOf Try.f95)) 5)))) 2))) 4)))) (l2 := (flat (blkB (nthC (flat (loopB (blkB (nthC (flat (bodyOf Try.f95)) 5)))) 2))).drop 5) (by kernel_rfl) ?_
  refine loop_ok (FL := fun m e w => F95_8L m (e 0) (e 1) (e 2) (e 8) (e 9) (e 10) (e 11) (e 12) w K R3) (fr := endD Try.prog [.tmp 6, .tmp 7] K) (fe := (blkK 2 (fun e w => F95_9 (e 0) (e 1) (e 2) (e 8) (e 9) (e 10) (e 11) (e 12) w K R3) (blkK 1 (fun e w => F95_6 (e 0) (e 1) (e 2) (e 8) (e 9) (e 10) w K R3) (blkK 0 (fun e w => F95_3 (e 0) (e 8) (e 9) w K) noE)))) (fun _ _ h => h) ?_ hr (blkK_mono (fun e w h => ok95_9 R3 hn hr he e w h) he) fuel e w h
  intro m e w h
  have h : F95_8L (m + 1) (e 0) (e 1) (e 2) (e 8) (e 9) (e 10) (e 11) (e 12) w K R3 := h
  rw [F95_8L] at h
  have e1 : ∀ (Y0 : Value → Value → Value → Value → Value → Value → Value → Value → World → Prop) (Y1 : Value → Value → Value → Value → Value → Value → Value → Value → World → Prop), F95_8b (e 0) (e 1) (e 2) (e 8) (e 9) (e 10) (e 11) (e 12) w K R3 Y0 Y1 = denL Try.prog (tabOf T95) 86 fuel (flat (loopB (blkB (nthC (flat (blkB (nthC (flat (loopB (blkB (nthC (flat (bodyOf Try.f95)) 5)))) 2))) 4)))) e w (fun e w => Y0 (e 0) (e 1) (e 2) (e 8) (e 9) (e 10) (e 11) (e 12) w) (endD Try.prog [.tmp 6, .tmp 7] K) (blkK 2 (fun e w => Y1 (e 0) (e 1) (e 2) (e 8) (e 9) (e 10) (e 11) (e 12) w) (blkK 1 (fun e w => F95_6 (e 0) (e 1) (e 2) (e 8) (e 9) (e 10) w K R3) (blkK 0 (fun e w => F95_3 (e 0) (e 8) (e 9) w K) noE))) := by intro Y0 Y1; kernel_rfl
  exact Eq.mp (e1 (fun a0 a1 a2 a8 a9 a10 a11 a12 w => F95_8L m a0 a1 a2 a8 a9 a10 a11 a12 w K R3) (fun a0 a1 a2 a8 a9 a10 a11 a12 w => F95_9 a0 a1 a2 a8 a9 a10 a11 a12 w K R3)) h
def F95_7b (s0 : Value) (s1 : Value) (s2 : Value) (s8 : Value) (s9 : Value) (s10 : Value) (w : World) (_K : Value → World → Prop) (R3 : Value → Value → Value → Value → Value → Value → World → Prop) (Y0 : Value → Value → Value → Value → Value → Value → World → Prop) (Y1 : Value → Value → Value → Value → Value → Value → Value → Value → World → Prop) : Prop :=
bindP (pNil s0) fun v29 =>
bindP (pFieldAddr 2 v29) fun v30 =>
bindP (ld1 v30 w) fun v31 =>
bindP (pIndexL 11 v31 s10) fun v32 =>
bindP (ldN 11 v32 w) fun v33 =>
eAlloc Try.prog 33 w fun v35 w34 =>
bindW (st 11 v35 v33 w34) fun w36 =>
bindP (pFieldAddr 8 v35) fun v38 =>
bindP (ld1 v38 w36) fun v39 =>
bindP (bSub s1 s2) fun v40 =>
bindP (bGt v39 v40) fun v41 =>
ifB v41 (
bindP (ldN 11 v35 w36) fun v42 =>
eBuildSl Try.prog 74 1 [(0, v42)] w36 fun v44 w43 =>
eAppend Try.prog 74 74 s9 v44 w43 fun v46 w45 =>
Y0 s0 s1 s2 s8 v46 s10 w45) (
Y1 s0 s1 s2 s8 s9 s10 v35 (.int .i64 0) w36)
def F95_7 (s0 : Value) (s1 : Value) (s2 : Value) (s8 : Value) (s9 : Value) (s10 : Value) (w : World) (K : Value → World → Prop) (R3 : Value → Value → Value → Value → Value → Value → World → Prop) : Prop := F95_7b s0 s1 s2 s8 s9 s10 w K R3 (fun a0 a1 a2 a8 a9 a10 w => F95_6 a0 a1 a2 a8 a9 a10 w K R3) (fun a0 a1 a2 a8 a9 a10 a11 a12 w => F95_8 a0 a1 a2 a8 a9 a10 a11 a12 w K R3)
theorem ok95_7 (R3 : Value → Value → Value → Value → Value → Value → World → Prop) {K : Value → World → Prop} {kn kr : Env → World → Prop} {ke : Nat → Env → World → Prop}
    (hn : ∀ e w, (fun e w => F95_6 (e 0) (e 1) (e 2) (e 8) (e 9) (e 10) w K R3) e w → kn e w) (hr : ∀ e w, endD Try.prog [.tmp 6, .tmp 7] K e w → kr e w) (he : ∀ i e w, (blkK 1 (fun e w => F95_6 (e 0) (e 1) (e 2) (e 8) (e 9) (e 10) w K R3) (blkK 0 (fun e w => F95_3 (e 0) (e 8) (e 9) w K) noE)) i e w → ke i e w) :
    ∀ e w, F95_7 (e 0) (e 1) (e 2) (e 8) (e 9) (e 10) w K R3 → denL Try.prog (tabOf T95) 86 fuel ((flat (blkB (nthC (flat (loopB (blkB (nthC (flat (bodyOf Try.f95)) 5)))) 2))).drop 0) e w kn kr ke := by
  intro e w h
  unfold F95_7 at h
  have e1 : ∀ (Y0 : Value → Value → Value → Value → Value → Value → World → Prop) (Y1 : Value → Value → Value → Value → Value → Value → Value → Value → World → Prop), F95_7b (e 0) (e 1) (e 2) (e 8) (e 9) (e 10) w K R3 Y0 Y1 = denL Try.prog (tabOf T95) 86 fuel (((flat (blkB (nthC (flat (loopB (blkB (nthC (flat (bodyOf Try.f95)) 5)))) 2))).drop 0).take 4) e w (fun e w => Y1 (e 0) (e 1) (e 2) (e 8) (e 9) (e 10) (e 11) (e 12) w) (endD Try.prog [.tmp 6, .tmp 7] K) (blkK 1 (fun e w => Y0 (e 0) (e 1) (e 2) (e 8) (e 9) (e 10) w) (blkK 0 (fun e w => F95_3 (e 0) (e 8) (e 9) w K) noE)) := by intro Y0 Y1; kernel_rfl
  exact seg 4 (Eq.mp (e1 (fun a0 a1 a2 a8 a9 a10 w => F95_6 a0 a1 a2 a8 a9 a10 w K R3) (fun a0 a1 a2 a8 a9 a10 a11 a12 w => F95_8 a0 a1 a2 a8 a9 a10 a11 a12 w K R3)) h) (fun e w h => ok95_8 R3 hn hr he e w h) hr he
def F95_5 (s0 : Value) (s1 : Value) (s2 : Value) (s8 : Value) (s9 : Value) (s10 : Value) (w : World) (K : Value → World → Prop) (R3 : Value → Value → Value → Value → Value → Value → World → Prop) : Prop := F95_7 s0 s1 s2 s8 s9 s10 w K R3
theorem ok95_5 (R3 : Value → Value → Value → Value → Value → Value → World → Prop) {K : Value → World → Prop} {kn kr : Env → World → Prop} {ke : Nat → Env → World → Prop}
    (hn : ∀ e w, (fun e w => R3 (e 0) (e 1) (e 2) (e 8) (e 9) (e 10) w) e w → kn e w) (hr : ∀ e w, endD Try.prog [.tmp 6, .tmp 7] K e w → kr e w) (he : ∀ i e w, (blkK 0 (fun e w => F95_3 (e 0) (e 8) (e 9) w K) noE) i e w → ke i e w) :
    ∀ e w, F95_5 (e 0) (e 1) (e 2) (e 8) (e 9) (e 10) w K R3 → denL Try.prog (tabOf T95) 86 fuel ((flat (loopB (blkB (nthC (flat (bodyOf Try.f95)) 5)))).drop 2) e w kn kr ke := by
  intro e w h
  unfold F95_5 at h
  refine seg_block (id := 1) (body := (blkB (nthC (flat (loopB (blkB (nthC (flat (bodyOf Try.f95)) 5)))) 2))) (l2 := (flat (loopB (blkB (nthC (flat (bodyOf Try.f95)) 5)))).drop 3) (by kernel_rfl) ?_
  exact ok95_7 R3 (fun e w h => ok95_6 R3 hn hr he e w h) hr (blkK_mono (fun e w h => ok95_6 R3 hn hr he e w h) he) e w h
def F95_4b (s0 : Value) (s1 : Value) (s2 : Value) (s8 : Value) (s9 : Value) (s10 : Value) (w : World) (_K : Value → World → Prop) (R3 : Value → Value → Value → Value → Value → Value → World → Prop) (Y0 : Value → Value → Value → Value → Value → Value → World → Prop) (Y1 : Value → Value → Value → World → Prop) : Prop :=
bindP (pNil s0) fun v47 =>
bindP (pFieldAddr 2 v47) fun v48 =>
bindP (ld1 v48 w) fun v49 =>
bindP (lenL v49) fun v50 =>
bindP (bLt s10 v50) fun v51 =>
ifB v51 (
Y0 s0 s1 s2 s8 s9 s10 w) (
Y1 s0 s8 s9 w)
def F95_4 (s0 : Value) (s1 : Value) (s2 : Value) (s8 : Value) (s9 : Value) (s10 : Value) (w : World) (K : Value → World → Prop) (R3 : Value → Value → Value → Value → Value → Value → World → Prop) : Prop := F95_4b s0 s1 s2 s8 s9 s10 w K R3 (fun a0 a1 a2 a8 a9 a10 w => F95_5 a0 a1 a2 a8 a9 a10 w K R3) (fun a0 a8 a9 w => F95_3 a0 a8 a9 w K)
theorem ok95_4 (R3 : Value → Value → Value → Value → Value → Value → World → Prop) {K : Value → World → Prop} {kn kr : Env → World → Prop} {ke : Nat → Env → World → Prop}
    (hn : ∀ e w, (fun e w => R3 (e 0) (e 1) (e 2) (e 8) (e 9) (e 10) w) e w → kn e w) (hr : ∀ e w, endD Try.prog [.tmp 6, .tmp 7] K e w → kr e w) (he : ∀ i e w, (blkK 0 (fun e w => F95_3 (e 0) (e 8) (e 9) w K) noE) i e w → ke i e w) :
    ∀ e w, F95_4 (e 0) (e 1) (e 2) (e 8) (e 9) (e 10) w K R3 → denL Try.prog (tabOf T95) 86 fuel ((flat (loopB (blkB (nthC (flat (bodyOf Try.f95)) 5)))).drop 0) e w kn kr ke := by
  intro e w h
  unfold F95_4 at h
  have e1 : ∀ (Y0 : Value → Value → Value → Value → Value → Value → World → Prop) (Y1 : Value → Value → Value → World → Prop), F95_4b (e 0) (e 1) (e 2) (e 8) (e 9) (e 10) w K R3 Y0 Y1 = denL Try.prog (tabOf T95) 86 fuel (((flat (loopB (blkB (nthC (flat (bodyOf Try.f95)) 5)))).drop 0).take 2) e w (fun e w => Y0 (e 0) (e 1) (e 2) (e 8) (e 9) (e 10) w) (endD Try.prog [.tmp 6, .tmp 7] K) (blkK 0 (fun e w => Y1 (e 0) (e 8) (e 9) w) noE) := by intro Y0 Y1; kernel_rfl
  exact seg 2 (Eq.mp (e1 (fun a0 a1 a2 a8 a9 a10 w => F95_5 a0 a1 a2 a8 a9 a10 w K R3) (fun a0 a8 a9 w => F95_3 a0 a8 a9 w K)) h) (fun e w h => ok95_5 R3 hn hr he e w h) hr he
def F95_2L : Nat → Value → Value → Value → Value → Value → Value → World → (Value → World → Prop) → Prop
  | 0, _, _, _, _, _, _, _, _ => False
  | n + 1, s0, s1, s2, s8, s9, s10, w, K => F95_4 s0 s1 s2 s8 s9 s10 w K (fun a0 a1 a2 a8 a9 a10 w => F95_2L n a0 a1 a2 a8 a9 a10 w K)
def F95_2 (s0 : Value) (s1 : Value) (s2 : Value) (s8 : Value) (s9 : Value) (s10 : Value) (w : World) (K : Value → World → Prop) : Prop := F95_2L fuel s0 s1 s2 s8 s9 s10 w K
theorem ok95_2 {K : Value → World → Prop} {kn kr : Env → World → Prop} {ke : Nat → Env → World → Prop}
    (hn : ∀ e w, (fun e w => K (.tuple #[(e 6), (e 7)]) w) e w → kn e w) (hr : ∀ e w, endD Try.prog [.tmp 6, .tmp 7] K e w → kr e w) (he : ∀ i e w, noE i e w → ke i e w) :
    ∀ e w, F95_2 (e 0) (e 1) (e 2) (e 8) (e 9) (e 10) w K → denL Try.prog (tabOf T95) 86 fuel ((flat (bodyOf Try.f95)).drop 5) e w kn kr ke := by
  intro e w h
  unfold F95_2 at h
  refine seg_loop (id := 0) (body := (loopB (blkB (nthC (flat (bodyOf Try.f95)) 5)))) (l2 := (flat (bodyOf Try.f95)).drop 6) (by kernel_rfl) ?_
  refine loop_ok (FL := fun m e w => F95_2L m (e 0) (e 1) (e 2) (e 8) (e 9) (e 10) w K) (fr := endD Try.prog [.tmp 6, .tmp 7] K) (fe := (blkK 0 (fun e w => F95_3 (e 0) (e 8) (e 9) w K) noE)) (fun _ _ h => h) ?_ hr (blkK_mono (fun e w h => ok95_3 hn hr he e w h) he) fuel e w h
  intro m e w h
  have h : F95_2L (m + 1) (e 0) (e 1) (e 2) (e 8) (e 9) (e 10) w K := h
  rw [F95_2L] at h
  exact ok95_4 (fun a0 a1 a2 a8 a9 a10 w => F95_2L m a0 a1 a2 a8 a9 a10 w K) (fun _ _ h => h) (fun _ _ h => h) (fun _ _ _ h => h) e w h
def F95_1b (s0 : Value) (s1 : Value) (s2 : Value) (w : World) (K : Value → World → Prop) (Y0 : Value → Value → Value → Value → Value → Value → World → Prop) : Prop :=
callP G69 [s1] w fun v53 w52 =>
bindP (uNot v53) fun v54 =>
stepM (gd false v54) s2 fun v55 =>
Sx.stepG (gd false v54) (bLt v55 (.int .i64 1)) fun v56 =>
bindP (pPick v54 (.bool true) v56) fun v57 =>
stepM (gd false v57) s2 fun v58 =>
Sx.stepG (gd false v57) (bGt v58 (.int .i64 2305843009213693952)) fun v59 =>
bindP (pPick v57 (.bool true) v59) fun v60 =>
ifB v60 (
K (.tuple #[(.slice none 0 0), (.int .i64 1)]) w52) (
Y0 s0 s1 s2 (.slice none 0 0) (.slice none 0 0) (.int .i64 0) w52)
def F95_1 (s0 : Value) (s1 : Value) (s2 : Value) (w : World) (K : Value → World → Prop) : Prop := F95_1b s0 s1 s2 w K (fun a0 a1 a2 a8 a9 a10 w => F95_2 a0 a1 a2 a8 a9 a10 w K)
theorem ok95_1 {K : Value → World → Prop} {kn kr : Env → World → Prop} {ke : Nat → Env → World → Prop}
    (hn : ∀ e w, (fun e w => K (.tuple #[(e 6), (e 7)]) w) e w → kn e w) (hr : ∀ e w, endD Try.prog [.tmp 6, .tmp 7] K e w → kr e w) (he : ∀ i e w, noE i e w → ke i e w) :
    ∀ e w, F95_1 (e 0) (e 1) (e 2) w K → denL Try.prog (tabOf T95) 86 fuel ((flat (bodyOf Try.f95)).drop 0) e w kn kr ke := by
  intro e w h
  unfold F95_1 at h
  have e1 : ∀ (Y0 : Value → Value → Value → Value → Value → Value → World → Prop), F95_1b (e 0) (e 1) (e 2) w K Y0 = denL Try.prog (tabOf T95) 86 fuel (((flat (bodyOf Try.f95)).drop 0).take 5) e w (fun e w => Y0 (e 0) (e 1) (e 2) (e 8) (e 9) (e 10) w) (endD Try.prog [.tmp 6, .tmp 7] K) noE := by intro Y0; kernel_rfl
  exact seg 5 (Eq.mp (e1 (fun a0 a1 a2 a8 a9 a10 w => F95_2 a0 a1 a2 a8 a9 a10 w K)) h) (fun e w h => ok95_2 hn hr he e w h) hr he
def F95 (x0 : Value) (x1 : Value) (x2 : Value) (w : World) (K : Value → World → Prop) : Prop := F95_1 x0 x1 x2 w K
def G95 : FnT := fun args w K => on3 (fun x0 x1 x2 => F95 x0 x1 x2 w K) args
theorem c95 {x0 x1 x2 : Value} {w : World} {K : Value → World → Prop} (h : F95 x0 x1 x2 w K) : callP G95 [x0, x1, x2] w K := callP_intro (on3_mk (p := fun x0 x1 x2 => F95 x0 x1 x2 w K) h)
theorem ok95 : OkF Try.prog 95 G95 := by
  refine okF_of (tab_ok (l := T95) ⟨ok69, trivial⟩) mixed (n := fuel) Try.func95 Try.call95 fun args w K h => ?_
  obtain ⟨x0, x1, x2, rfl, hh⟩ := of_on3 h
  unfold F95 at hh
  exact fnD_list (c := bodyOf Try.f95) (by kernel_rfl) (by kernel_rfl) (ok95_1 (fun _ _ h => h) (fun _ _ h => h) (fun _ _ _ h => h) (initE [x0, x1, x2]) w hh)
def T126 : List (Nat × FnT) := [(118, G118)]
def F126 (x0 : Value) (w : World) (K : Value → World → Prop) : Prop :=
bindP (bEq Try.prog 107 (.tmp 3) (.const (.map none)) x0 (.map none)) fun v1 =>
ifB v1 (
K (.map none) w) (
bindP (fMkI Try.prog 107 x0) fun v2 =>
callP G118 [v2] w fun v4 w3 =>
bindP (fAssert Try.prog v4 107 false) fun v5 =>
K v5 w3)
def G126 : FnT := fun args w K => on1 (fun x0 => F126 x0 w K) args
theorem c126 {x0 : Value} {w : World} {K : Value → World → Prop} (h : F126 x0 w K) : callP G126 [x0] w K := callP_intro (on1_mk (p := fun x0 => F126 x0 w K) h)
theorem ok126 : OkF Try.prog 126 G126 := by
  refine okF_of (tab_ok (l := T126) ⟨ok118, trivial⟩) mixed (n := fuel) Try.func126 Try.call126 fun args w K h => ?_
  obtain ⟨x0, rfl, hh⟩ := of_on1 h
  exact fnD_list (c := bodyOf Try.f126) (by kernel_rfl) (by kernel_rfl) (Eq.mp (by kernel_rfl) hh)
def T127 : List (Nat × FnT) := [(118, G118)]
def F127 (x0 : Value) (w : World) (K : Value → World → Prop) : Prop :=
bindP (bEq Try.prog 108 (.tmp 3) (.const (.map none)) x0 (.map none)) fun v1 =>
ifB v1 (
K (.map none) w) (
bindP (fMkI Try.prog 108 x0) fun v2 =>
callP G118 [v2] w fun v4 w3 =>
bindP (fAssert Try.prog v4 108 false) fun v5 =>
K v5 w3)
def G127 : FnT := fun args w K => on1 (fun x0 => F127 x0 w K) args
theorem c127 {x0 : Value} {w : World} {K : Value → World → Prop} (h : F127 x0 w K) : callP G127 [x0] w K := callP_intro (on1_mk (p := fun x0 => F127 x0 w K) h)
theorem ok127 : OkF Try.prog 127 G127 := by
  refine okF_of (tab_ok (l := T127) ⟨ok118, trivial⟩) mixed (n := fuel) Try.func127 Try.call127 fun args w K h => ?_
  obtain ⟨x0, rfl, hh⟩ := of_on1 h
  exact fnD_list (c := bodyOf Try.f127) (by kernel_rfl) (by kernel_rfl) (Eq.mp (by kernel_rfl) hh)
def T96 : List (Nat × FnT) := [(126, G126), (127, G127)]
def F96 (x0 : Value) (w : World) (K : Value → World → Prop) : Prop :=
bindP (pNil x0) fun v1 =>
bindP (pFieldAddr 0 v1) fun v2 =>
bindP (ld1 v2 w.drew) fun v3 =>
bindP (pNil x0) fun v4 =>
bindP (pFieldAddr 1 v4) fun v5 =>
bindP (ld1 v5 w.drew) fun v6 =>
bindP (pNil x0) fun v7 =>
bindP (pFieldAddr 2 v7) fun v8 =>
bindP (ld1 v8 w.drew) fun v9 =>
bindP (pNil x0) fun v10 =>
bindP (pFieldAddr 3 v10) fun v11 =>
bindP (ld1 v11 w.drew) fun v12 =>
callP G126 [v9] w.drew fun v14 w13 =>
(fok true (ld1 v2 w13) v3 ∧ fok true (ld1 v5 w13) v6 ∧ fok true (ld1 v11 w13) v12) ∧ (callP G127 [v12] w13 fun v16 w15 =>
(fok true (ld1 v2 w15) v3 ∧ fok true (ld1 v5 w15) v6) ∧ (bindP (fBuild Try.prog 110 [(0, v3), (1, v6), (2, v14), (3, v16)]) fun v17 =>
eBox 110 v17 w15 fun v19 w18 =>
K v19 w18))
def G96 : FnT := fun args w K => on1 (fun x0 => F96 x0 w K) args
theorem c96 {x0 : Value} {w : World} {K : Value → World → Prop} (h : F96 x0 w K) : callP G96 [x0] w K := callP_intro (on1_mk (p := fun x0 => F96 x0 w K) h)
theorem ok96 : OkF Try.prog 96 G96 := by
  refine okF_of (tab_ok (l := T96) ⟨ok126, ok127, trivial⟩) mixed (n := fuel) Try.func96 Try.call96 fun args w K h => ?_
  obtain ⟨x0, rfl, hh⟩ := of_on1 h
  exact fnD_list (c := bodyOf Try.f96) (by kernel_rfl) (by kernel_rfl) (Eq.mp (by kernel_rfl) hh)
def T97 : List (Nat × FnT) := [(19, G19), (128, G128)]
def F97_3b (s0 : Value) (s1 : Value) (s2 : Value) (s7 : Value) (w : World) (K : Value → World → Prop) : Prop :=
bindP (lenL s1) fun v1 =>
bindP (pNil s0) fun v2 =>
bindP (pFieldAddr 0 v2) fun v3 =>
bindP (ld1 v3 w) fun v4 =>
bindP (bGt v1 v4) fun v5 =>
ifB v5 (
K (.int .i64 200) w) (
bindP (pNil s0) fun v6 =>
bindP (pFieldAddr 2 v6) fun v7 =>
bindW (st 1 v7 s7 w) fun w8 =>
bindP (pNil s0) fun v10 =>
bindP (pFieldAddr 1 v10) fun v11 =>
bindW (st 1 v11 s2 w8) fun w12 =>
K (.int .i64 0) w12)
def F97_3 (s0 : Value) (s1 : Value) (s2 : Value) (s7 : Value) (w : World) (K : Value → World → Prop) : Prop := F97_3b s0 s1 s2 s7 w K
theorem ok97_3 {K : Value → World → Prop} {kn kr : Env → World → Prop} {ke : Nat → Env → World → Prop}
    (hn : ∀ e w, (fun e w => K (e 6) w) e w → kn e w) (hr : ∀ e w, endD Try.prog [.tmp 6] K e w → kr e w) (he : ∀ i e w, noE i e w → ke i e w) :
    ∀ e w, F97_3 (e 0) (e 1) (e 2) (e 7) w K → denL Try.prog (tabOf T97) 119 fuel ((flat (bodyOf Try.f97)).drop 6) e w kn kr ke := by
  intro e w h
  unfold F97_3 at h
  have e1 : ∀ (_ : Unit), F97_3b (e 0) (e 1) (e 2) (e 7) w K = denL Try.prog (tabOf T97) 119 fuel ((flat (bodyOf Try.f97)).drop 6) e w (fun e w => K (e 6) w) (endD Try.prog [.tmp 6] K) noE := by intro _; kernel_rfl
  exact seg_end (Eq.mp (e1 ()) h) hn hr he
def F97_6b (s0 : Value) (s1 : Value) (s2 : Value) (s7 : Value) (s8 : Value) (w : World) (_K : Value → World → Prop) (R3 : Value → Value → Value → Value → Value → World → Prop) : Prop :=
bindP (bAdd s8 (.int .i64 1)) fun v14 =>
R3 s0 s1 s2 s7 v14 w
def F97_6 (s0 : Value) (s1 : Value) (s2 : Value) (s7 : Value) (s8 : Value) (w : World) (K : Value → World → Prop) (R3 : Value → Value → Value → Value → Value → World → Prop) : Prop := F97_6b s0 s1 s2 s7 s8 w K R3
theorem ok97_6 (R3 : Value → Value → Value → Value → Value → World → Prop) {K : Value → World → Prop} {kn kr : Env → World → Prop} {ke : Nat → Env → World → Prop}
    (hn : ∀ e w, (fun e w => R3 (e 0) (e 1) (e 2) (e 7) (e 8) w) e w → kn e w) (hr : ∀ e w, endD Try.prog [.tmp 6] K e w → kr e w) (he : ∀ i e w, (blkK 0 (fun e w => F97_3 (e 0) (e 1) (e 2) (e 7) w K) noE) i e w → ke i e w) :
    ∀ e w, F97_6 (e 0) (e 1) (e 2) (e 7) (e 8) w K R3 → denL Try.prog (tabOf T97) 119 fuel ((flat (loopB (blkB (nthC (flat (bodyOf Try.f97)) 5)))).drop 3) e w kn kr ke := by
  intro e w h
  unfold F97_6 at h
  have e1 : ∀ (_ : Unit), F97_6b (e 0) (e 1) (e 2) (e 7) (e 8) w K R3 = denL Try.prog (tabOf T97) 119 fuel ((flat (loopB (blkB (nthC (flat (bodyOf Try.f97)) 5)))).drop 3) e w (fun e w => R3 (e 0) (e 1) (e 2) (e 7) (e 8) w) (endD Try.prog [.tmp 6] K) (blkK 0 (fun e w => F97_3 (e 0) (e 1) (e 2) (e 7) w K) noE) := by intro _; kernel_rfl
  exact seg_end (Eq.mp (e1 ()) h) hn hr he
def F97_11b (s0 : Value) (s1 : Value) (s2 : Value) (s7 : Value) (s8 : Value) (s10 : Value) (w : World) (_K : Value → World → Prop) (R3 : Value → Value → Value → Value → Value → World → Prop) (Y0 : Value → Value → Value → Value → Value → World → Prop) : Prop :=
bindP (pSliceL 11 s7 none (some s10) none) fun v15 =>
eAppend Try.prog 74 74 (.slice none 0 0) v15 w fun v17 w16 =>
bindP (pIndexL 11 s1 s8) fun v18 =>
bindP (ldN 11 v18 w16) fun v19 =>
eBuildSl Try.prog 74 1 [(0, v19)] w16 fun v21 w20 =>
eAppend Try.prog 74 74 v17 v21 w20 fun v23 w22 =>
bindP (pSliceL 11 s7 (some s10) none none) fun v24 =>
eAppend Try.prog 74 74 v23 v24 w22 fun v26 w25 =>
Y0 s0 s1 s2 v26 s8 w25
def F97_11 (s0 : Value) (s1 : Value) (s2 : Value) (s7 : Value) (s8 : Value) (s10 : Value) (w : World) (K : Value → World → Prop) (R3 : Value → Value → Value → Value → Value → World → Prop) : Prop := F97_11b s0 s1 s2 s7 s8 s10 w K R3 (fun a0 a1 a2 a7 a8 w => F97_6 a0 a1 a2 a7 a8 w K R3)
theorem ok97_11 (R3 : Value → Value → Value → Value → Value → World → Prop) {K : Value → World → Prop} {kn kr : Env → World → Prop} {ke : Nat → Env → World → Prop}
    (hn : ∀ e w, (fun e w => F97_6 (e 0) (e 1) (e 2) (e 7) (e 8) w K R3) e w → kn e w) (hr : ∀ e w, endD Try.prog [.tmp 6] K e w → kr e w) (he : ∀ i e w, (blkK 1 (fun e w => F97_6 (e 0) (e 1) (e 2) (e 7) (e 8) w K R3) (blkK 0 (fun e w => F97_3 (e 0) (e 1) (e 2) (e 7) w K) noE)) i e w → ke i e w) :
    ∀ e w, F97_11 (e 0) (e 1) (e 2) (e 7) (e 8) (e 10) w K R3 → denL Try.prog (tabOf T97) 119 fuel ((flat (blkB (nthC (flat (loopB (blkB (nthC (flat (bodyOf Try.f97)) 5)))) 2))).drop 6) e w kn kr ke := by
  intro e w h
  unfold F97_11 at h
  have e1 : ∀ (Y0 : Value → Value → Value → Value → Value → World → Prop), F97_11b (e 0) (e 1) (e 2) (e 7) (e 8) (e 10) w K R3 Y0 = denL Try.prog (tabOf T97) 119 fuel ((flat (blkB (nthC (flat (loopB (blkB (nthC (flat (bodyOf Try.f97)) 5)))) 2))).drop 6) e w (fun e w => Y0 (e 0) (e 1) (e 2) (e 7) (e 8) w) (endD Try.prog [.tmp 6] K) (blkK 1 (fun e w => Y0 (e 0) (e 1) (e 2) (e 7) (e 8) w) (blkK 0 (fun e w => F97_3 (e 0) (e 1) (e 2) (e 7) w K) noE)) := by intro Y0; kernel_rfl
  exact seg_end (Eq.mp (e1 (fun a0 a1 a2 a7 a8 w => F97_6 a0 a1 a2 a7 a8 w K R3)) h) hn hr he
def F97_10b (s0 : Value) (s1 : Value) (s2 : Value) (s7 : Value) (s8 : Value) (s10 : Value) (w : World) (_K : Value → World → Prop) (R3 : Value → Value → Value → Value → Value → World → Prop) (Y0 : Value → Value → Value → Value → Value → Value → World → Prop) (Y1 : Value → Value → Value → Value → Value → Value → World → Prop) : Prop :=
bindP (lenL s7) fun v27 =>
bindP (bLt s10 v27) fun v28 =>
stepM (gd true v28) s7 fun v29 =>
stepM (gd true v28) s10 fun v30 =>
Sx.stepG (gd true v28) (pIndexL 11 v29 v30) fun v31 =>
Sx.stepG (gd true v28) (pFieldAddr 0 v31) fun v32 =>
Sx.stepG (gd true v28) (ld1 v32 w.drew) fun v33 =>
stepM (gd true v28) s1 fun v34 =>
stepM (gd true v28) s8 fun v35 =>
Sx.stepG (gd true v28) (pIndexL 11 v34 v35) fun v36 =>
Sx.stepG (gd true v28) (pFieldAddr 0 v36) fun v37 =>
Sx.stepG (gd true v28) (ld1 v37 w.drew) fun v38 =>
Sx.stepG (gd true v28) (bLt v33 v38) fun v39 =>
bindP (pPick v28 v39 (.bool false)) fun v40 =>
ifB v40 (
bindP (bAdd s10 (.int .i64 1)) fun v41 =>
Y0 s0 s1 s2 s7 s8 v41 w.drew) (
Y1 s0 s1 s2 s7 s8 s10 w.drew)
def F97_10L : Nat → Value → Value → Value → Value → Value → Value → World → (Value → World → Prop) → (Value → Value → Value → Value → Value → World → Prop) → Prop
  | 0, _, _, _, _, _, _, _, _, _ => False
  | n + 1, s0, s1, s2, s7, s8, s10, w, K, R3 => F97_10b s0 s1 s2 s7 s8 s10 w K R3 (fun a0 a1 a2 a7 a8 a10 w => F97_10L n a0 a1 a2 a7 a8 a10 w K R3) (fun a0 a1 a2 a7 a8 a10 w => F97_11 a0 a1 a2 a7 a8 a10 w K R3)
def F97_10 (s0 : Value) (s1 : Value) (s2 : Value) (s7 : Value) (s8 : Value) (s10 : Value) (w : World) (K : Value → World → Prop) (R3 : Value → Value → Value → Value → Value → World → Prop) : Prop := F97_10L fuel s0 s1 s2 s7 s8 s10 w K R3
theorem ok97_10 (R3 : Value → Value → Value → Value → Value → World → Prop) {K : Value → World → Prop} {kn kr : Env → World → Prop} {ke : Nat → Env → World → Prop}
    (hn : ∀ e w, (fun e w => F97_6 (e 0) (e 1) (e 2) (e 7) (e 8) w K R3) e w → kn e w) (hr : ∀ e w, endD Try.prog [.tmp 6] K e w → kr e w) (he : ∀ i e w, (blkK 1 (fun e w => F97_6 (e 0) (e 1) (e 2) (e 7) (e 8) w K R3) (blkK 0 (fun e w => F97_3 (e 0) (e 1) (e 2) (e 7) w K) noE)) i e w → ke i e w) :
    ∀ e w, F97_10 (e 0) (e 1) (e 2) (e 7) (e 8) (e 10) w K R3 → denL Try.prog (tabOf T97) 119 fuel ((flat (blkB (nthC (flat (loopB (blkB (nthC (flat (bodyOf Try.f97)) 5)))) 2))).drop 5) e w kn kr ke := by
  intro e w h
  unfold F97_10 at h
  refine seg_loop (id := 4) (body := (loopB (blkB (nthC (flat (blkB (nthC (flat (loopB (blkB (nthC (flat (bodyOf Try.f97)) 5)))) 2))) 5)))) (l2 := (flat (blkB (nthC (flat (loopB (blkB (nthC (flat (bodyOf Try.f97)) 5)))) 2))).drop 6) (by kernel_rfl) ?_
  refine loop_ok (FL := fun m e w => F97_10L m (e 0) (e 1) (e 2) (e 7) (e 8) (e 10) w K R3) (fr := endD Try.prog [.tmp 6] K) (fe := (blkK 4 (fun e w => F97_11 (e 0) (e 1) (e 2) (e 7) (e 8) (e 10) w K R3) (blkK 1 (fun e w => F97_6 (e 0) (e 1) (e 2) (e 7) (e 8) w K R3) (blkK 0 (fun e w => F97_3 (e 0) (e 1) (e 2) (e 7) w K) noE)))) (fun _ _ h => h) ?_ hr (blkK_mono (fun e w h => ok97_11 R3 hn hr he e w h) he) fuel e w h
  intro m e w h
  have h : F97_10L (m + 1) (e 0) (e 1) (e 2) (e 7) (e 8) (e 10) w K R3 := h
  rw [F97_10L] at h
  have e1 : ∀ (Y0 : Value → Value → Value → Value → Value → Value → World → Prop) (Y1 : Value → Value → Value → Value → Value → Value → World → Prop), F97_10b (e 0) (e 1) (e 2) (e 7) (e 8) (e 10) w K R3 Y0 Y1 = denL Try.prog (tabOf T97) 119 fuel (flat (loopB (blkB (nthC (flat (blkB (nthC (flat (loopB (blkB (nthC (flat (bodyOf Try.f97)) 5)))) 2))) 5)))) e w (fun e w => Y0 (e 0) (e 1) (e 2) (e 7) (e 8) (e 10) w) (endD Try.prog [.tmp 6] K) (blkK 4 (fun e w => Y1 (e 0) (e 1) (e 2) (e 7) (e 8) (e 10) w) (blkK 1 (fun e w => F97_6 (e 0) (e 1) (e 2) (e 7) (e 8) w K R3) (blkK 0 (fun e w => F97_3 (e 0) (e 1) (e 2) (e 7) w K) noE))) := by intro Y0 Y1; kernel_rfl
  exact Eq.mp (e1 (fun a0 a1 a2 a7 a8 a10 w => F97_10L m a0 a1 a2 a7 a8 a10 w K R3) (fun a0 a1 a2 a7 a8 a10 w => F97_11 a0 a1 a2 a7 a8 a10 w K R3)) h
def F97_9b (s0 : Value) (s1 : Value) (s2 : Value) (s7 : Value) (s8 : Value) (w : World) (_K : Value → World → Prop) (R3 : Value → Value → Value → Value → Value → World → Prop) (Y0 : Value → Value → Value → Value → Value → Value → World → Prop) : Prop :=
Y0 s0 s1 s2 s7 s8 (.int .i64 0) w
def F97_9 (s0 : Value) (s1 : Value) (s2 : Value) (s7 : Value) (s8 : Value) (w : World) (K : Value → World → Prop) (R3 : Value → Value → Value → Value → Value → World → Prop) : Prop := F97_9b s0 s1 s2 s7 s8 w K R3 (fun a0 a1 a2 a7 a8 a10 w => F97_10 a0 a1 a2 a7 a8 a10 w K R3)
theorem ok97_9 (R3 : Value → Value → Value → Value → Value → World → Prop) {K : Value → World → Prop} {kn kr : Env → World → Prop} {ke : Nat → Env → World → Prop}
    (hn : ∀ e w, (fun e w => F97_6 (e 0) (e 1) (e 2) (e 7) (e 8) w K R3) e w → kn e w) (hr : ∀ e w, endD Try.prog [.tmp 6] K e w → kr e w) (he : ∀ i e w, (blkK 1 (fun e w => F97_6 (e 0) (e 1) (e 2) (e 7) (e 8) w K R3) (blkK 0 (fun e w => F97_3 (e 0) (e 1) (e 2) (e 7) w K) noE)) i e w → ke i e w) :
    ∀ e w, F97_9 (e 0) (e 1) (e 2) (e 7) (e 8) w K R3 → denL Try.prog (tabOf T97) 119 fuel ((flat (blkB (nthC (flat (loopB (blkB (nthC (flat (bodyOf Try.f97)) 5)))) 2))).drop 4) e w kn kr ke := by
  intro e w h
  unfold F97_9 at h
  have e1 : ∀ (Y0 : Value → Value → Value → Value → Value → Value → World → Prop), F97_9b (e 0) (e 1) (e 2) (e 7) (e 8) w K R3 Y0 = denL Try.prog (tabOf T97) 119 fuel (((flat (blkB (nthC (flat (loopB (blkB (nthC (flat (bodyOf Try.f97)) 5)))) 2))).drop 4).take 1) e w (fun e w => Y0 (e 0) (e 1) (e 2) (e 7) (e 8) (e 10) w) (endD Try.prog [.tmp 6] K) (blkK 1 (fun e w => F97_6 (e 0) (e 1) (e 2) (e 7) (e 8) w K R3) (blkK 0 (fun e w => F97_3 (e 0) (e 1) (e 2) (e 7) w K) noE)) := by intro Y0; kernel_rfl
  exact seg 1 (Eq.mp (e1 (fun a0 a1 a2 a7 a8 a10 w => F97_10 a0 a1 a2 a7 a8 a10 w K R3)) h) (fun e w h => ok97_10 R3 hn hr he e w h) hr he
def F97_8b (s0 : Value) (s1 : Value) (s2 : Value) (s7 : Value) (s8 : Value) (s9 : Value) (w : World) (K : Value → World → Prop) (R3 : Value → Value → Value → Value → Value → World → Prop) (Y0 : Value → Value → Value → Value → Value → Value → World → Prop) (Y1 : Value → Value → Value → Value → Value → World → Prop) : Prop :=
bindP (bLt s9 s8) fun v42 =>
ifB v42 (
bindP (pIndexL 11 s1 s9) fun v43 =>
bindP (pFieldAddr 0 v43) fun v44 =>
bindP (ld1 v44 w.drew) fun v45 =>
bindP (pIndexL 11 s1 s8) fun v46 =>
bindP (pFieldAddr 0 v46) fun v47 =>
bindP (ld1 v47 w.drew) fun v48 =>
bindP (bEq Try.prog 3 (.tmp 48) (.tmp 53) v45 v48) fun v49 =>
stepM (gd false v49) s1 fun v50 =>
stepM (gd false v49) s9 fun v51 =>
Sx.stepG (gd false v49) (pIndexL 11 v50 v51) fun v52 =>
Sx.stepG (gd false v49) (pFieldAddr 1 v52) fun v53 =>
Sx.stepG (gd false v49) (ldN 5 v53 w.drew) fun v54 =>
stepM (gd false v49) s1 fun v55 =>
stepM (gd false v49) s8 fun v56 =>
Sx.stepG (gd false v49) (pIndexL 11 v55 v56) fun v57 =>
Sx.stepG (gd false v49) (pFieldAddr 1 v57) fun v58 =>
Sx.stepG (gd false v49) (ldN 5 v58 w.drew) fun v59 =>
stepE (gd false v49) (fun k => callP G128 [v54, v59] w.drew k) w.drew fun v61 w60 =>
bindP (pPick v49 (.bool true) v61) fun v62 =>
ifB v62 (
K (.int .i64 4) w60) (
bindP (bAdd s9 (.int .i64 1)) fun v63 =>
Y0 s0 s1 s2 s7 s8 v63 w60)) (
Y1 s0 s1 s2 s7 s8 w)
def F97_8L : Nat → Value → Value → Value → Value → Value → Value → World → (Value → World → Prop) → (Value → Value → Value → Value → Value → World → Prop) → Prop
  | 0, _, _, _, _, _, _, _, _, _ => False
  | n + 1, s0, s1, s2, s7, s8, s9, w, K, R3 => F97_8b s0 s1 s2 s7 s8 s9 w K R3 (fun a0 a1 a2 a7 a8 a9 w => F97_8L n a0 a1 a2 a7 a8 a9 w K R3) (fun a0 a1 a2 a7 a8 w => F97_9 a0 a1 a2 a7 a8 w K R3)
def F97_8 (s0 : Value) (s1 : Value) (s2 : Value) (s7 : Value) (s8 : Value) (s9 : Value) (w : World) (K : Value → World → Prop) (R3 : Value → Value → Value → Value → Value → World → Prop) : Prop := F97_8L fuel s0 s1 s2 s7 s8 s9 w K R3
theorem ok97_8 (R3 : Value → Value → Value → Value → Value → World → Prop) {K : Value → World → Prop} {kn kr : Env → World → Prop} {ke : Nat → Env → World → Prop}
    (hn : ∀ e w, (fun e w => F97_6 (e 0) (e 1) (e 2) (e 7) (e 8) w K R3) e w → kn e w) (hr : ∀ e w, endD Try.prog [.tmp 6] K e w → kr e w) (he : ∀ i e w, (blkK 1 (fun e w => F97_6 (e 0) (e 1) (e 2) (e 7) (e 8) w K R3) (blkK 0 (fun e w => F97_3 (e 0) (e 1) (e 2) (e 7) w K) noE)) i e w → ke i e w) :
    ∀ e w, F97_8 (e 0) (e 1) (e 2) (e 7) (e 8) (e 9) w K R3 → denL Try.prog (tabOf T97) 119 fuel ((flat (blkB (nthC (flat (loopB (blkB (nthC (flat (bodyOf Try.f97)) 5)))) 2))).drop 3) e w kn kr ke := by
  intro e w h
  unfold F97_8 at h
  refine seg_loop (id := 2) (body := (loopB (blkB (nthC (flat (blkB (nthC (flat (loopB (blkB (nthC (flat (bodyOf Try.f97)) 5)))) 2))) 3)))) (l2 := (flat (blkB (nthC (flat (loopB (blkB (nthC (flat (bodyOf Try.f97)) 5)))) 2))).drop 4) (by kernel_rfl) ?_
  refine loop_ok (FL := fun m e w => F97_8L m (e 0) (e 1) (e 2) (e 7) (e 8) (e 9) w K R3) (fr := endD Try.prog [.tmp 6] K) (fe := (blkK 2 (fun e w => F97_9 (e 0) (e 1) (e 2) (e 7) (e 8) w K R3) (blkK 1 (fun e w => F97_6 (e 0) (e 1) (e 2) (e 7) (e 8) w K R3) (blkK 0 (fun e w => F97_3 (e 0) (e 1) (e 2) (e 7) w K) noE)))) (fun _ _ h => h) ?_ hr (blkK_mono (fun e w h => ok97_9 R3 hn hr he e w h) he) fuel e w h
  intro m e w h
  have h : F97_8L (m + 1) (e 0) (e 1) (e 2) (e 7) (e 8) (e 9) w K R3 := h
  rw [F97_8L] at h
  have e1 : ∀ (Y0 : Value → Value → Value → Value → Value → Value → World → Prop) (Y1 : Value → Value → Value → Value → Value → World → Prop), F97_8b (e 0) (e 1) (e 2) (e 7) (e 8) (e 9) w K R3 Y0 Y1 = denL Try.prog (tabOf T97) 119 fuel (flat (loopB (blkB (nthC (flat (blkB (nthC (flat (loopB (blkB (nthC (flat (bodyOf Try.f97)) 5)))) 2))) 3)))) e w (fun e w => Y0 (e 0) (e 1) (e 2) (e 7) (e 8) (e 9) w) (endD Try.prog [.tmp 6] K) (blkK 2 (fun e w => Y1 (e 0) (e 1) (e 2) (e 7) (e 8) w) (blkK 1 (fun e w => F97_6 (e 0) (e 1) (e 2) (e 7) (e 8) w K R3) (blkK 0 (fun e w => F97_3 (e 0) (e 1) (e 2) (e 7) w K) noE))) := by intro Y0 Y1; kernel_rfl
  exact Eq.mp (e1 (fun a0 a1 a2 a7 a8 a9 w => F97_8L m a0 a1 a2 a7 a8 a9 w K R3) (fun a0 a1 a2 a7 a8 w => F97_9 a0 a1 a2 a7 a8 w K R3)) h
def F97_7b (s0 : Value) (s1 : Value) (s2 : Value) (s7 : Value) (s8 : Value) (w : World) (K : Value → World → Prop) (R3 : Value → Value → Value → Value → Value → World → Prop) (Y0 : Value → Value → Value → Value → Value → Value → World → Prop) : Prop :=
bindP (pIndexL 11 s1 s8) fun v64 =>
bindP (ldN 11 v64 w) fun v65 =>
callP G19 [v65] w fun v67 w66 =>
bindP (bNe Try.prog 24 (.tmp 28) (.const (.int .i64 0)) v67 (.int .i64 0)) fun v68 =>
stepM (gd false v68) s1 fun v69 =>
stepM (gd false v68) s8 fun v70 =>
Sx.stepG (gd false v68) (pIndexL 11 v69 v70) fun v71 =>
Sx.stepG (gd false v68) (pFieldAddr 0 v71) fun v72 =>
Sx.stepG (gd false v68) (ld1 v72 w66) fun v73 =>
stepM (gd false v68) s2 fun v74 =>
Sx.stepG (gd false v68) (bGe v73 v74) fun v75 =>
bindP (pPick v68 (.bool true) v75) fun v76 =>
ifB v76 (
K (.int .i64 4) w66) (
Y0 s0 s1 s2 s7 s8 (.int .i64 0) w66)
def F97_7 (s0 : Value) (s1 : Value) (s2 : Value) (s7 : Value) (s8 : Value) (w : World) (K : Value → World → Prop) (R3 : Value → Value → Value → Value → Value → World → Prop) : Prop := F97_7b s0 s1 s2 s7 s8 w K R3 (fun a0 a1 a2 a7 a8 a9 w => F97_8 a0 a1 a2 a7 a8 a9 w K R3)
theorem ok97_7 (R3 : Value → Value → Value → Value → Value → World → Prop) {K : Value → World → Prop} {kn kr : Env → World → Prop} {ke : Nat → Env → World → Prop}
    (hn : ∀ e w, (fun e w => F97_6 (e 0) (e 1) (e 2) (e 7) (e 8) w K R3) e w → kn e w) (hr : ∀ e w, endD Try.prog [.tmp 6] K e w → kr e w) (he : ∀ i e w, (blkK 1 (fun e w => F97_6 (e 0) (e 1) (e 2) (e 7) (e 8) w K R3) (blkK 0 (fun e w => F97_3 (e 0) (e 1) (e 2) (e 7) w K) noE)) i e w → ke i e w) :
    ∀ e w, F97_7 (e 0) (e 1) (e 2) (e 7) (e 8) w K R3 → denL Try.prog (tabOf T97) 119 fuel ((flat (blkB (nthC (flat (loopB (blkB (nthC (flat (bodyOf Try.f97)) 5)))) 2))).drop 0) e w kn kr ke := by
  intro e w h
  unfold F97_7 at h
  have e1 : ∀ (Y0 : Value → Value → Value → Value → Value → Value → World → Prop), F97_7b (e 0) (e 1) (e 2) (e 7) (e 8) w K R3 Y0 = denL Try.prog (tabOf T97) 119 fuel (((flat (blkB (nthC (flat (loopB (blkB (nthC (flat (bodyOf Try.f97)) 5)))) 2))).drop 0).take 3) e w (fun e w => Y0 (e 0) (e 1) (e 2) (e 7) (e 8) (e 9) w) (endD Try.prog [.tmp 6] K) (blkK 1 (fun e w => F97_6 (e 0) (e 1) (e 2) (e 7) (e 8) w K R3) (blkK 0 (fun e w => F97_3 (e 0) (e 1) (e 2) (e 7) w K) noE)) := by intro Y0; kernel_rfl
  exact seg 3 (Eq.mp (e1 (fun a0 a1 a2 a7 a8 a9 w => F97_8 a0 a1 a2 a7 a8 a9 w K R3)) h) (fun e w h => ok97_8 R3 hn hr he e w h) hr he
def F97_5 (s0 : Value) (s1 : Value) (s2 : Value) (s7 : Value) (s8 : Value) (w : World) (K : Value → World → Prop) (R3 : Value → Value → Value → Value → Value → World → Prop) : Prop := F97_7 s0 s1 s2 s7 s8 w K R3
theorem ok97_5 (R3 : Value → Value → Value → Value → Value → World → Prop) {K : Value → World → Prop} {kn kr : Env → World → Prop} {ke : Nat → Env → World → Prop}
    (hn : ∀ e w, (fun e w => R3 (e 0) (e 1) (e 2) (e 7) (e 8) w) e w → kn e w) (hr : ∀ e w, endD Try.prog [.tmp 6] K e w → kr e w) (he : ∀ i e w, (blkK 0 (fun e w => F97_3 (e 0) (e 1) (e 2) (e 7) w K) noE) i e w → ke i e w) :
    ∀ e w, F97_5 (e 0) (e 1) (e 2) (e 7) (e 8) w K R3 → denL Try.prog (tabOf T97) 119 fuel ((flat (loopB (blkB (nthC (flat (bodyOf Try.f97)) 5)))).drop 2) e w kn kr ke := by
  intro e w h
  unfold F97_5 at h
  refine seg_block (id := 1) (body := (blkB (nthC (flat (loopB (blkB (nthC (flat (bodyOf Try.f97)) 5)))) 2))) (l2 := (flat (loopB (blkB (nthC (flat (bodyOf Try.f97)) 5)))).drop 3) (by kernel_rfl) ?_
  exact ok97_7 R3 (fun e w h => ok97_6 R3 hn hr he e w h) hr (blkK_mono (fun e w h => ok97_6 R3 hn hr he e w h) he) e w h
def F97_4b (s0 : Value) (s1 : Value) (s2 : Value) (s7 : Value) (s8 : Value) (w : World) (_K : Value → World → Prop) (R3 : Value → Value → Value → Value → Value → World → Prop) (Y0 : Value → Value → Value → Value → Value → World → Prop) (Y1 : Value → Value → Value → Value → World → Prop) : Prop :=
bindP (lenL s1) fun v77 =>
bindP (bLt s8 v77) fun v78 =>
ifB v78 (
Y0 s0 s1 s2 s7 s8 w) (
Y1 s0 s1 s2 s7 w)
def F97_4 (s0 : Value) (s1 : Value) (s2 : Value) (s7 : Value) (s8 : Value) (w : World) (K : Value → World → Prop) (R3 : Value → Value → Value → Value → Value → World → Prop) : Prop := F97_4b s0 s1 s2 s7 s8 w K R3 (fun a0 a1 a2 a7 a8 w => F97_5 a0 a1 a2 a7 a8 w K R3) (fun a0 a1 a2 a7 w => F97_3 a0 a1 a2 a7 w K)
theorem ok97_4 (R3 : Value → Value → Value → Value → Value → World → Prop) {K : Value → World → Prop} {kn kr : Env → World → Prop} {ke : Nat → Env → World → Prop}
    (hn : ∀ e w, (fun e w => R3 (e 0) (e 1) (e 2) (e 7) (e 8) w) e w → kn e w) (hr : ∀ e w, endD Try.prog [.tmp 6] K e w → kr e w) (he : ∀ i e w, (blkK 0 (fun e w => F97_3 (e 0) (e 1) (e 2) (e 7) w K) noE) i e w → ke i e w) :
    ∀ e w, F97_4 (e 0) (e 1) (e 2) (e 7) (e 8) w K R3 → denL Try.prog (tabOf T97) 119 fuel ((flat (loopB (blkB (nthC (flat (bodyOf Try.f97)) 5)))).drop 0) e w kn kr ke := by
  intro e w h
  unfold F97_4 at h
  have e1 : ∀ (Y0 : Value → Value → Value → Value → Value → World → Prop) (Y1 : Value → Value → Value → Value → World → Prop), F97_4b (e 0) (e 1) (e 2) (e 7) (e 8) w K R3 Y0 Y1 = denL Try.prog (tabOf T97) 119 fuel (((flat (loopB (blkB (nthC (flat (bodyOf Try.f97)) 5)))).drop 0).take 2) e w (fun e w => Y0 (e 0) (e 1) (e 2) (e 7) (e 8) w) (endD Try.prog [.tmp 6] K) (blkK 0 (fun e w => Y1 (e 0) (e 1) (e 2) (e 7) w) noE) := by intro Y0 Y1; kernel_rfl
  exact seg 2 (Eq.mp (e1 (fun a0 a1 a2 a7 a8 w => F97_5 a0 a1 a2 a7 a8 w K R3) (fun a0 a1 a2 a7 w => F97_3 a0 a1 a2 a7 w K)) h) (fun e w h => ok97_5 R3 hn hr he e w h) hr he
def F97_2L : Nat → Value → Value → Value → Value → Value → World → (Value → World → Prop) → Prop
  | 0, _, _, _, _, _, _, _ => False
  | n + 1, s0, s1, s2, s7, s8, w, K => F97_4 s0 s1 s2 s7 s8 w K (fun a0 a1 a2 a7 a8 w => F97_2L n a0 a1 a2 a7 a8 w K)
def F97_2 (s0 : Value) (s1 : Value) (s2 : Value) (s7 : Value) (s8 : Value) (w : World) (K : Value → World → Prop) : Prop := F97_2L fuel s0 s1 s2 s7 s8 w K
theorem ok97_2 {K : Value → World → Prop} {kn kr : Env → World → Prop} {ke : Nat → Env → World → Prop}
    (hn : ∀ e w, (fun e w => K (e 6) w) e w → kn e w) (hr : ∀ e w, endD Try.prog [.tmp 6] K e w → kr e w) (he : ∀ i e w, noE i e w → ke i e w) :
    ∀ e w, F97_2 (e 0) (e 1) (e 2) (e 7) (e 8) w K → denL Try.prog (tabOf T97) 119 fuel ((flat (bodyOf Try.f97)).drop 5) e w kn kr ke := by
  intro e w h
  unfold F97_2 at h
  refine seg_loop (id := 0) (body := (loopB (blkB (nthC (flat (bodyOf Try.f97)) 5)))) (l2 := (flat (bodyOf Try.f97)).drop 6) (by kernel_rfl) ?_
  refine loop_ok (FL := fun m e w => F97_2L m (e 0) (e 1) (e 2) (e 7) (e 8) w K) (fr := endD Try.prog [.tmp 6] K) (fe := (blkK 0 (fun e w => F97_3 (e 0) (e 1) (e 2) (e 7) w K) noE)) (fun _ _ h => h) ?_ hr (blkK_mono (fun e w h => ok97_3 hn hr he e w h) he) fuel e w h
  intro m e w h
  have h : F97_2L (m + 1) (e 0) (e 1) (e 2) (e 7) (e 8) w K := h
  rw [F97_2L] at h
  exact ok97_4 (fun a0 a1 a2 a7 a8 w => F97_2L m a0 a1 a2 a7 a8 w K) (fun _ _ h => h) (fun _ _ h => h) (fun _ _ _ h => h) e w h
def F97_1b (s0 : Value) (s1 : Value) (s2 : Value) (w : World) (K : Value → World → Prop) (Y0 : Value → Value → Value → Value → Value → World → Prop) : Prop :=
bindP (bLt s2 (.int .i64 1)) fun v79 =>
stepM (gd false v79) s2 fun v80 =>
Sx.stepG (gd false v79) (bGt v80 (.int .i64 1152921504606846976)) fun v81 =>
bindP (pPick v79 (.bool true) v81) fun v82 =>
ifB v82 (
K (.int .i64 4) w) (
Y0 s0 s1 s2 (.slice none 0 0) (.int .i64 0) w)
def F97_1 (s0 : Value) (s1 : Value) (s2 : Value) (w : World) (K : Value → World → Prop) : Prop := F97_1b s0 s1 s2 w K (fun a0 a1 a2 a7 a8 w => F97_2 a0 a1 a2 a7 a8 w K)
theorem ok97_1 {K : Value → World → Prop} {kn kr : Env → World → Prop} {ke : Nat → Env → World → Prop}
    (hn : ∀ e w, (fun e w => K (e 6) w) e w → kn e w) (hr : ∀ e w, endD Try.prog [.tmp 6] K e w → kr e w) (he : ∀ i e w, noE i e w → ke i e w) :
    ∀ e w, F97_1 (e 0) (e 1) (e 2) w K → denL Try.prog (tabOf T97) 119 fuel ((flat (bodyOf Try.f97)).drop 0) e w kn kr ke := by
  intro e w h
  unfold F97_1 at h
  have e1 : ∀ (Y0 : Value → Value → Value → Value → Value → World → Prop), F97_1b (e 0) (e 1) (e 2) w K Y0 = denL Try.prog (tabOf T97) 119 fuel (((flat (bodyOf Try.f97)).drop 0).take 5) e w (fun e w => Y0 (e 0) (e 1) (e 2) (e 7) (e 8) w) (endD Try.prog [.tmp 6] K) noE := by intro Y0; kernel_rfl
  exact seg 5 (Eq.mp (e1 (fun a0 a1 a2 a7 a8 w => F97_2 a0 a1 a2 a7 a8 w K)) h) (fun e w h => ok97_2 hn hr he e w h) hr he
def F97 (x0 : Value) (x1 : Value) (x2 : Value) (w : World) (K : Value → World → Prop) : Prop := F97_1 x0 x1 x2 w K
def G97 : FnT := fun args w K => on3 (fun x0 x1 x2 => F97 x0 x1 x2 w K) args
theorem c97 {x0 x1 x2 : Value} {w : World} {K : Value → World → Prop} (h : F97 x0 x1 x2 w K) : callP G97 [x0, x1, x2] w K := callP_intro (on3_mk (p := fun x0 x1 x2 => F97 x0 x1 x2 w K) h)
theorem ok97 : OkF Try.prog 97 G97 := by
  refine okF_of (tab_ok (l := T97) ⟨ok19, ok128, trivial⟩) mixed (n := fuel) Try.func97 Try.call97 fun args w K h => ?_
  obtain ⟨x0, x1, x2, rfl, hh⟩ := of_on3 h
  unfold F97 at hh
  exact fnD_list (c := bodyOf Try.f97) (by kernel_rfl) (by kernel_rfl) (ok97_1 (fun _ _ h => h) (fun _ _ h => h) (fun _ _ _ h => h) (initE [x0, x1, x2]) w hh)
def T48 : List (Nat × FnT) := [(15, G15), (16, G16), (40, G40), (41, G41), (43, G43), (44, G44), (46, G46), (49, G49), (92, G92), (93, G93), (94, G94), (95, G95), (96, G96), (97, G97)]
def F48_6b (s0 : Value) (s1 : Value) (s5 : Value) (w : World) (K : Value → World → Prop) : Prop :=
bindP (pFieldAddr 4 s5) fun v1 =>
bindP (ldN 5 v1 w) fun v2 =>
bindP (pFieldAddr 1 s5) fun v3 =>
bindP (ld1 v3 w) fun v4 =>
callP G16 [s0, v2, v4] w fun v6 w5 =>
bindP (pTuple v6 0) fun v7 =>
bindP (pTuple v6 1) fun v8 =>
bindP (pTuple v6 2) fun v9 =>
eAlloc Try.prog 33 w5 fun v11 w10 =>
bindW (st 11 v11 v7 w10) fun w12 =>
bindP (pFieldAddr 4 s5) fun v14 =>
bindP (ldN 5 v14 w12) fun v15 =>
bindP (pFieldAddr 1 s5) fun v16 =>
bindP (ld1 v16 w12) fun v17 =>
callP G92 [s1, v15, v17] w12 fun v19 w18 =>
bindP (pTuple v19 0) fun v20 =>
bindP (pTuple v19 1) fun v21 =>
bindP (pTuple v19 2) fun v22 =>
eAlloc Try.prog 33 w18 fun v24 w23 =>
bindW (st 11 v24 v20 w23) fun w25 =>
bindP (ldN 11 v11 w25) fun v27 =>
bindP (ldN 11 v24 w25) fun v28 =>
bindP (bEq Try.prog 33 (.tmp 98) (.tmp 99) v27 v28) fun v29 =>
stepM (gd true v29) v8 fun v30 =>
stepM (gd true v29) v21 fun v31 =>
Sx.stepG (gd true v29) (bEq Try.prog 3 (.tmp 102) (.tmp 103) v30 v31) fun v32 =>
bindP (pPick v29 v32 (.bool false)) fun v33 =>
stepM (gd true v33) v9 fun v34 =>
stepM (gd true v33) v22 fun v35 =>
Sx.stepG (gd true v33) (bEq Try.prog 24 (.tmp 107) (.tmp 108) v34 v35) fun v36 =>
bindP (pPick v33 v36 (.bool false)) fun v37 =>
K v37 w25
def F48_6 (s0 : Value) (s1 : Value) (s5 : Value) (w : World) (K : Value → World → Prop) : Prop := F48_6b s0 s1 s5 w K
theorem ok48_6 {K : Value → World → Prop} {kn kr : Env → World → Prop} {ke : Nat → Env → World → Prop}
    (hn : ∀ e w, (fun e w => K (e 6) w) e w → kn e w) (hr : ∀ e w, endD Try.prog [.tmp 6] K e w → kr e w) (he : ∀ i e w, (blkK 0 (fun e w => K (e 6) w) noE) i e w → ke i e w) :
    ∀ e w, F48_6 (e 0) (e 1) (e 5) w K → denL Try.prog (tabOf T48) 262 fuel ((flat (thenC (nthC (flat (blkB (nthC (flat (bodyOf Try.f48)) 6))) 1))).drop 0) e w kn kr ke := by
  intro e w h
  unfold F48_6 at h
  have e1 : ∀ (_ : Unit), F48_6b (e 0) (e 1) (e 5) w K = denL Try.prog (tabOf T48) 262 fuel ((flat (thenC (nthC (flat (blkB (nthC (flat (bodyOf Try.f48)) 6))) 1))).drop 0) e w (fun e w => K (e 6) w) (endD Try.prog [.tmp 6] K) (blkK 0 (fun e w => K (e 6) w) noE) := by intro _; kernel_rfl
  exact seg_end (Eq.mp (e1 ()) h) hn hr he
def F48_9b (s0 : Value) (s1 : Value) (s5 : Value) (s7 : Value) (w : World) (K : Value → World → Prop) : Prop :=
bindP (pFieldAddr 9 s5) fun v38 =>
bindP (ld1 v38 w) fun v39 =>
callP G43 [s0, s7, v39] w fun v41 w40 =>
bindP (pTuple v41 0) fun v42 =>
bindP (pTuple v41 1) fun v43 =>
eAlloc Try.prog 33 w40 fun v45 w44 =>
bindW (st 11 v45 v42 w44) fun w46 =>
bindP (pFieldAddr 9 s5) fun v48 =>
bindP (ld1 v48 w46) fun v49 =>
callP G93 [s1, s7, v49] w46 fun v51 w50 =>
bindP (pTuple v51 0) fun v52 =>
bindP (pTuple v51 1) fun v53 =>
eAlloc Try.prog 33 w50 fun v55 w54 =>
bindW (st 11 v55 v52 w54) fun w56 =>
bindP (ldN 11 v45 w56) fun v58 =>
bindP (ldN 11 v55 w56) fun v59 =>
bindP (bEq Try.prog 33 (.tmp 129) (.tmp 130) v58 v59) fun v60 =>
stepM (gd true v60) v43 fun v61 =>
stepM (gd true v60) v53 fun v62 =>
Sx.stepG (gd true v60) (bEq Try.prog 24 (.tmp 133) (.tmp 134) v61 v62) fun v63 =>
bindP (pPick v60 v63 (.bool false)) fun v64 =>
K v64 w56
def F48_9 (s0 : Value) (s1 : Value) (s5 : Value) (s7 : Value) (w : World) (K : Value → World → Prop) : Prop := F48_9b s0 s1 s5 s7 w K
theorem ok48_9 {K : Value → World → Prop} {kn kr : Env → World → Prop} {ke : Nat → Env → World → Prop}
    (hn : ∀ e w, (fun e w => K (e 6) w) e w → kn e w) (hr : ∀ e w, endD Try.prog [.tmp 6] K e w → kr e w) (he : ∀ i e w, (blkK 0 (fun e w => K (e 6) w) noE) i e w → ke i e w) :
    ∀ e w, F48_9 (e 0) (e 1) (e 5) (e 7) w K → denL Try.prog (tabOf T48) 262 fuel ((flat (thenC (nthC (flat (elseC (nthC (flat (blkB (nthC (flat (bodyOf Try.f48)) 6))) 1))) 1))).drop 0) e w kn kr ke := by
  intro e w h
  unfold F48_9 at h
  have e1 : ∀ (_ : Unit), F48_9b (e 0) (e 1) (e 5) (e 7) w K = denL Try.prog (tabOf T48) 262 fuel ((flat (thenC (nthC (flat (elseC (nthC (flat (blkB (nthC (flat (bodyOf Try.f48)) 6))) 1))) 1))).drop 0) e w (fun e w => K (e 6) w) (endD Try.prog [.tmp 6] K) (blkK 0 (fun e w => K (e 6) w) noE) := by intro _; kernel_rfl
  exact seg_end (Eq.mp (e1 ()) h) hn hr he
def F48_12b (s0 : Value) (s1 : Value) (s7 : Value) (w : World) (K : Value → World → Prop) : Prop :=
callP G40 [s0, s7] w fun v66 w65 =>
bindP (pTuple v66 0) fun v67 =>
bindP (pTuple v66 1) fun v68 =>
eAlloc Try.prog 33 w65 fun v70 w69 =>
bindW (st 11 v70 v67 w69) fun w71 =>
callP G94 [s1, s7] w71 fun v74 w73 =>
bindP (pTuple v74 0) fun v75 =>
bindP (pTuple v74 1) fun v76 =>
eAlloc Try.prog 33 w73 fun v78 w77 =>
bindW (st 11 v78 v75 w77) fun w79 =>
bindP (ldN 11 v70 w79) fun v81 =>
bindP (ldN 11 v78 w79) fun v82 =>
bindP (bEq Try.prog 33 (.tmp 151) (.tmp 152) v81 v82) fun v83 =>
stepM (gd true v83) v68 fun v84 =>
stepM (gd true v83) v76 fun v85 =>
Sx.stepG (gd true v83) (bEq Try.prog 24 (.tmp 155) (.tmp 156) v84 v85) fun v86 =>
bindP (pPick v83 v86 (.bool false)) fun v87 =>
K v87 w79
def F48_12 (s0 : Value) (s1 : Value) (s7 : Value) (w : World) (K : Value → World → Prop) : Prop := F48_12b s0 s1 s7 w K
theorem ok48_12 {K : Value → World → Prop} {kn kr : Env → World → Prop} {ke : Nat → Env → World → Prop}
    (hn : ∀ e w, (fun e w => K (e 6) w) e w → kn e w) (hr : ∀ e w, endD Try.prog [.tmp 6] K e w → kr e w) (he : ∀ i e w, (blkK 0 (fun e w => K (e 6) w) noE) i e w → ke i e w) :
    ∀ e w, F48_12 (e 0) (e 1) (e 7) w K → denL Try.prog (tabOf T48) 262 fuel ((flat (thenC (nthC (flat (elseC (nthC (flat (elseC (nthC (flat (blkB (nthC (flat (bodyOf Try.f48)) 6))) 1))) 1))) 1))).drop 0) e w kn kr ke := by
  intro e w h
  unfold F48_12 at h
  have e1 : ∀ (_ : Unit), F48_12b (e 0) (e 1) (e 7) w K = denL Try.prog (tabOf T48) 262 fuel ((flat (thenC (nthC (flat (elseC (nthC (flat (elseC (nthC (flat (blkB (nthC (flat (bodyOf Try.f48)) 6))) 1))) 1))) 1))).drop 0) e w (fun e w => K (e 6) w) (endD Try.prog [.tmp 6] K) (blkK 0 (fun e w => K (e 6) w) noE) := by intro _; kernel_rfl
  exact seg_end (Eq.mp (e1 ()) h) hn hr he
def F48_15b (s0 : Value) (s1 : Value) (s5 : Value) (w : World) (K : Value → World → Prop) : Prop :=
bindP (pFieldAddr 1 s5) fun v88 =>
bindP (ld1 v88 w) fun v89 =>
bindP (pFieldAddr 3 s5) fun v90 =>
bindP (ld1 v90 w) fun v91 =>
callP G41 [s0, v89, v91] w fun v93 w92 =>
bindP (pTuple v93 0) fun v94 =>
bindP (pTuple v93 1) fun v95 =>
bindP (pFieldAddr 1 s5) fun v96 =>
bindP (ld1 v96 w92) fun v97 =>
bindP (pFieldAddr 3 s5) fun v98 =>
bindP (ld1 v98 w92) fun v99 =>
callP G95 [s1, v97, v99] w92 fun v101 w100 =>
bindP (pTuple v101 0) fun v102 =>
bindP (pTuple v101 1) fun v103 =>
callP G46 [v94, v102] w100 fun v105 w104 =>
stepM (gd true v105) v95 fun v106 =>
stepM (gd true v105) v103 fun v107 =>
Sx.stepG (gd true v105) (bEq Try.prog 24 (.tmp 183) (.tmp 184) v106 v107) fun v108 =>
bindP (pPick v105 v108 (.bool false)) fun v109 =>
K v109 w104
def F48_15 (s0 : Value) (s1 : Value) (s5 : Value) (w : World) (K : Value → World → Prop) : Prop := F48_15b s0 s1 s5 w K
theorem ok48_15 {K : Value → World → Prop} {kn kr : Env → World → Prop} {ke : Nat → Env → World → Prop}
    (hn : ∀ e w, (fun e w => K (e 6) w) e w → kn e w) (hr : ∀ e w, endD Try.prog [.tmp 6] K e w → kr e w) (he : ∀ i e w, (blkK 0 (fun e w => K (e 6) w) noE) i e w → ke i e w) :
    ∀ e w, F48_15 (e 0) (e 1) (e 5) w K → denL Try.prog (tabOf T48) 262 fuel ((flat (thenC (nthC (flat (elseC (nthC (flat (elseC (nthC (flat (elseC (nthC (flat (blkB (nthC (flat (bodyOf Try.f48)) 6))) 1))) 1))) 1))) 1))).drop 0) e w kn kr ke := by
  intro e w h
  unfold F48_15 at h
  have e1 : ∀ (_ : Unit), F48_15b (e 0) (e 1) (e 5) w K = denL Try.prog (tabOf T48) 262 fuel ((flat (thenC (nthC (flat (elseC (nthC (flat (elseC (nthC (flat (elseC (nthC (flat (blkB (nthC (flat (bodyOf Try.f48)) 6))) 1))) 1))) 1))) 1))).drop 0) e w (fun e w => K (e 6) w) (endD Try.prog [.tmp 6] K) (blkK 0 (fun e w => K (e 6) w) noE) := by intro _; kernel_rfl
  exact seg_end (Eq.mp (e1 ()) h) hn hr he
def F48_18b (s0 : Value) (s1 : Value) (s5 : Value) (w : World) (K : Value → World → Prop) : Prop :=
callP G96 [s0] w fun v111 w110 =>
bindP (bEq Try.prog 23 (.tmp 191) (.const (.pointer none)) v111 (.pointer none)) fun v112 =>
stepM (gd false v112) v111 fun v113 =>
stepM (gd false v112) s1 fun v114 =>
Sx.stepG (gd false v112) (ldN 11 s5 w110) fun v115 =>
stepE (gd false v112) (fun k => callP G49 [v113, v114, v115] w110 k) w110 fun v117 w116 =>
Sx.stepG (gd false v112) (uNot v117) fun v118 =>
bindP (pPick v112 (.bool true) v118) fun v119 =>
ifB v119 (
K (.bool false) w116) (
bindP (pFieldAddr 4 s5) fun v120 =>
bindP (ldN 5 v120 w116) fun v121 =>
bindP (pFieldAddr 1 s5) fun v122 =>
bindP (ld1 v122 w116) fun v123 =>
callP G16 [v111, v121, v123] w116 fun _ w124 =>
bindP (pFieldAddr 1 s5) fun v126 =>
bindP (ld1 v126 w124) fun v127 =>
callP G41 [v111, v127, (.int .i64 1)] w124 fun _ w128 =>
K (.bool true) w128)
def F48_18 (s0 : Value) (s1 : Value) (s5 : Value) (w : World) (K : Value → World → Prop) : Prop := F48_18b s0 s1 s5 w K
theorem ok48_18 {K : Value → World → Prop} {kn kr : Env → World → Prop} {ke : Nat → Env → World → Prop}
    (hn : ∀ e w, (fun e w => K (e 6) w) e w → kn e w) (hr : ∀ e w, endD Try.prog [.tmp 6] K e w → kr e w) (he : ∀ i e w, (blkK 0 (fun e w => K (e 6) w) noE) i e w → ke i e w) :
    ∀ e w, F48_18 (e 0) (e 1) (e 5) w K → denL Try.prog (tabOf T48) 262 fuel ((flat (thenC (nthC (flat (elseC (nthC (flat (elseC (nthC (flat (elseC (nthC (flat (elseC (nthC (flat (blkB (nthC (flat (bodyOf Try.f48)) 6))) 1))) 1))) 1))) 1))) 1))).drop 0) e w kn kr ke := by
  intro e w h
  unfold F48_18 at h
  have e1 : ∀ (_ : Unit), F48_18b (e 0) (e 1) (e 5) w K = denL Try.prog (tabOf T48) 262 fuel ((flat (thenC (nthC (flat (elseC (nthC (flat (elseC (nthC (flat (elseC (nthC (flat (elseC (nthC (flat (blkB (nthC (flat (bodyOf Try.f48)) 6))) 1))) 1))) 1))) 1))) 1))).drop 0) e w (fun e w => K (e 6) w) (endD Try.prog [.tmp 6] K) (blkK 0 (fun e w => K (e 6) w) noE) := by intro _; kernel_rfl
  exact seg_end (Eq.mp (e1 ()) h) hn hr he
def F48_23b (s0 : Value) (s1 : Value) (s28 : Value) (w : World) (K : Value → World → Prop) : Prop :=
bindP (pNil s1) fun v130 =>
bindP (pFieldAddr 1 v130) fun v131 =>
bindP (ld1 v131 w.drew) fun v132 =>
bindP (pNil s1) fun v133 =>
bindP (pFieldAddr 1 v133) fun v134 =>
bindP (ld1 v134 w.drew) fun v135 =>
callP G44 [s0, s28, v132] w.drew fun v137 w136 =>
fok true (ld1 v134 w136) v135 ∧ (callP G97 [s1, s28, v135] w136 fun v139 w138 =>
bindP (bEq Try.prog 24 (.tmp 253) (.tmp 260) v137 v139) fun v140 =>
K v140 w138)
def F48_23 (s0 : Value) (s1 : Value) (s28 : Value) (w : World) (K : Value → World → Prop) : Prop := F48_23b s0 s1 s28 w K
theorem ok48_23 {K : Value → World → Prop} {kn kr : Env → World → Prop} {ke : Nat → Env → World → Prop}
    (hn : ∀ e w, (fun e w => K (e 6) w) e w → kn e w) (hr : ∀ e w, endD Try.prog [.tmp 6] K e w → kr e w) (he : ∀ i e w, (blkK 0 (fun e w => K (e 6) w) noE) i e w → ke i e w) :
    ∀ e w, F48_23 (e 0) (e 1) (e 28) w K → denL Try.prog (tabOf T48) 262 fuel ((flat (thenC (nthC (flat (elseC (nthC (flat (elseC (nthC (flat (elseC (nthC (flat (elseC (nthC (flat (elseC (nthC (flat (blkB (nthC (flat (bodyOf Try.f48)) 6))) 1))) 1))) 1))) 1))) 1))) 1))).drop 3) e w kn kr ke := by
  intro e w h
  unfold F48_23 at h
  have e1 : ∀ (_ : Unit), F48_23b (e 0) (e 1) (e 28) w K = denL Try.prog (tabOf T48) 262 fuel ((flat (thenC (nthC (flat (elseC (nthC (flat (elseC (nthC (flat (elseC (nthC (flat (elseC (nthC (flat (elseC (nthC (flat (blkB (nthC (flat (bodyOf Try.f48)) 6))) 1))) 1))) 1))) 1))) 1))) 1))).drop 3) e w (fun e w => K (e 6) w) (endD Try.prog [.tmp 6] K) (blkK 0 (fun e w => K (e 6) w) noE) := by intro _; kernel_rfl
  exact seg_end (Eq.mp (e1 ()) h) hn hr he
def F48_22b (s0 : Value) (s1 : Value) (s28 : Value) (s29 : Value) (w : World) (_K : Value → World → Prop) (Y0 : Value → Value → Value → Value → World → Prop) (Y1 : Value → Value → Value → World → Prop) : Prop :=
bindP (lenL s28) fun v141 =>
bindP (bQuo v141 (.int .i64 2)) fun v142 =>
bindP (bLt s29 v142) fun v143 =>
ifB v143 (
bindP (lenL s28) fun v144 =>
bindP (bSub v144 (.int .i64 1)) fun v145 =>
bindP (bSub v145 s29) fun v146 =>
bindP (lenL s28) fun v147 =>
bindP (bSub v147 (.int .i64 1)) fun v148 =>
bindP (bSub v148 s29) fun v149 =>
bindP (pIndexL 11 s28 v149) fun v150 =>
bindP (ldN 11 v150 w.drew) fun v151 =>
bindP (pIndexL 11 s28 s29) fun v152 =>
bindP (ldN 11 v152 w.drew) fun v153 =>
bindP (pIndexL 11 s28 s29) fun v154 =>
bindW (st 11 v154 v151 w.drew) fun w155 =>
fok true (lenL s28) v144 ∧ (bindP (pIndexL 11 s28 v146) fun v157 =>
bindW (st 11 v157 v153 w155) fun w158 =>
bindP (bAdd s29 (.int .i64 1)) fun v160 =>
Y0 s0 s1 s28 v160 w158)) (
Y1 s0 s1 s28 w)
def F48_22L : Nat → Value → Value → Value → Value → World → (Value → World → Prop) → Prop
  | 0, _, _, _, _, _, _ => False
  | n + 1, s0, s1, s28, s29, w, K => F48_22b s0 s1 s28 s29 w K (fun a0 a1 a28 a29 w => F48_22L n a0 a1 a28 a29 w K) (fun a0 a1 a28 w => F48_23 a0 a1 a28 w K)
def F48_22 (s0 : Value) (s1 : Value) (s28 : Value) (s29 : Value) (w : World) (K : Value → World → Prop) : Prop := F48_22L fuel s0 s1 s28 s29 w K
theorem ok48_22 {K : Value → World → Prop} {kn kr : Env → World → Prop} {ke : Nat → Env → World → Prop}
    (hn : ∀ e w, (fun e w => K (e 6) w) e w → kn e w) (hr : ∀ e w, endD Try.prog [.tmp 6] K e w → kr e w) (he : ∀ i e w, (blkK 0 (fun e w => K (e 6) w) noE) i e w → ke i e w) :
    ∀ e w, F48_22 (e 0) (e 1) (e 28) (e 29) w K → denL Try.prog (tabOf T48) 262 fuel ((flat (thenC (nthC (flat (elseC (nthC (flat (elseC (nthC (flat (elseC (nthC (flat (elseC (nthC (flat (elseC (nthC (flat (blkB (nthC (flat (bodyOf Try.f48)) 6))) 1))) 1))) 1))) 1))) 1))) 1))).drop 2) e w kn kr ke := by
  intro e w h
  unfold F48_22 at h
  refine seg_loop (id := 1) (body := (loopB (blkB (nthC (flat (thenC (nthC (flat (elseC (nthC (flat (elseC (nthC (flat (elseC (nthC (flat (elseC (nthC (flat (elseC (nthC (flat (blkB (nthC (flat (bodyOf Try.f48)) 6))) 1))) 1))) 1))) 1))) 1))) 1))) 2)))) (l2 := (flat (thenC (nthC (flat (elseC (nthC (flat (elseC (nthC (flat (elseC (nthC (flat (elseC (nthC (flat (elseC (nthC (flat (blkB (nthC (flat (bodyOf Try.f48)) 6))) 1))) 1))) 1))) 1))) 1))) 1))).drop 3) (by kernel_rfl) ?_
  refine loop_ok (FL := fun m e w => F48_22L m (e 0) (e 1) (e 28) (e 29) w K) (fr := endD Try.prog [.tmp 6] K) (fe := (blkK 1 (fun e w => F48_23 (e 0) (e 1) (e 28) w K) (blkK 0 (fun e w => K (e 6) w) noE))) (fun _ _ h => h) ?_ hr (blkK_mono (fun e w h => ok48_23 hn hr he e w h) he) fuel e w h
  intro m e w h
  have h : F48_22L (m + 1) (e 0) (e 1) (e 28) (e 29) w K := h
  rw [F48_22L] at h
  have e1 : ∀ (Y0 : Value → Value → Value → Value → World → Prop) (Y1 : Value → Value → Value → World → Prop), F48_22b (e 0) (e 1) (e 28) (e 29) w K Y0 Y1 = denL Try.prog (tabOf T48) 262 fuel (flat (loopB (blkB (nthC (flat (thenC (nthC (flat (elseC (nthC (flat (elseC (nthC (flat (elseC (nthC (flat (elseC (nthC (flat (elseC (nthC (flat (blkB (nthC (flat (bodyOf Try.f48)) 6))) 1))) 1))) 1))) 1))) 1))) 1))) 2)))) e w (fun e w => Y0 (e 0) (e 1) (e 28) (e 29) w) (endD Try.prog [.tmp 6] K) (blkK 1 (fun e w => Y1 (e 0) (e 1) (e 28) w) (blkK 0 (fun e w => K (e 6) w) noE)) := by intro Y0 Y1; kernel_rfl
  exact Eq.mp (e1 (fun a0 a1 a28 a29 w => F48_22L m a0 a1 a28 a29 w K) (fun a0 a1 a28 w => F48_23 a0 a1 a28 w K)) h
def F48_21b (s0 : Value) (s1 : Value) (w : World) (_K : Value → World → Prop) (Y0 : Value → Value → Value → Value → World → Prop) : Prop :=
eBuildSl Try.prog 74 0 [] w fun v162 w161 =>
bindP (pNil s1) fun v163 =>
bindP (pFieldAddr 2 v163) fun v164 =>
bindP (ld1 v164 w161) fun v165 =>
eAppend Try.prog 74 74 v162 v165 w161 fun v167 w166 =>
Y0 s0 s1 v167 (.int .i64 0) w166
def F48_21 (s0 : Value) (s1 : Value) (w : World) (K : Value → World → Prop) : Prop := F48_21b s0 s1 w K (fun a0 a1 a28 a29 w => F48_22 a0 a1 a28 a29 w K)
theorem ok48_21 {K : Value → World → Prop} {kn kr : Env → World → Prop} {ke : Nat → Env → World → Prop}
    (hn : ∀ e w, (fun e w => K (e 6) w) e w → kn e w) (hr : ∀ e w, endD Try.prog [.tmp 6] K e w → kr e w) (he : ∀ i e w, (blkK 0 (fun e w => K (e 6) w) noE) i e w → ke i e w) :
    ∀ e w, F48_21 (e 0) (e 1) w K → denL Try.prog (tabOf T48) 262 fuel ((flat (thenC (nthC (flat (elseC (nthC (flat (elseC (nthC (flat (elseC (nthC (flat (elseC (nthC (flat (elseC (nthC (flat (blkB (nthC (flat (bodyOf Try.f48)) 6))) 1))) 1))) 1))) 1))) 1))) 1))).drop 0) e w kn kr ke := by
  intro e w h
  unfold F48_21 at h
  have e1 : ∀ (Y0 : Value → Value → Value → Value → World → Prop), F48_21b (e 0) (e 1) w K Y0 = denL Try.prog (tabOf T48) 262 fuel (((flat (thenC (nthC (flat (elseC (nthC (flat (elseC (nthC (flat (elseC (nthC (flat (elseC (nthC (flat (elseC (nthC (flat (blkB (nthC (flat (bodyOf Try.f48)) 6))) 1))) 1))) 1))) 1))) 1))) 1))).drop 0).take 2) e w (fun e w => Y0 (e 0) (e 1) (e 28) (e 29) w) (endD Try.prog [.tmp 6] K) (blkK 0 (fun e w => K (e 6) w) noE) := by intro Y0; kernel_rfl
  exact seg 2 (Eq.mp (e1 (fun a0 a1 a28 a29 w => F48_22 a0 a1 a28 a29 w K)) h) (fun e w h => ok48_22 hn hr he e w h) hr he
def F48_24b (s0 : Value) (s1 : Value) (s5 : Value) (w : World) (K : Value → World → Prop) : Prop :=
bindP (pFieldAddr 10 s5) fun v168 =>
bindP (ld1 v168 w) fun v169 =>
bindP (lenL v169) fun v170 =>
bindP (bGt v170 (.int .i64 30)) fun v171 =>
ifB v171 (
K (.bool true) w) (
bindP (pFieldAddr 10 s5) fun v172 =>
bindP (ld1 v172 w.drew) fun v173 =>
bindP (pFieldAddr 1 s5) fun v174 =>
bindP (ld1 v174 w.drew) fun v175 =>
bindP (pFieldAddr 10 s5) fun v176 =>
bindP (ld1 v176 w.drew) fun v177 =>
bindP (pFieldAddr 1 s5) fun v178 =>
bindP (ld1 v178 w.drew) fun v179 =>
eBuildSl Try.prog 74 0 [] w.drew fun v181 w180 =>
(fok true (ld1 v172 w180) v173 ∧ fok true (ld1 v174 w180) v175 ∧ fok true (ld1 v176 w180) v177 ∧ fok true (ld1 v178 w180) v179) ∧ (eAppend Try.prog 74 74 v181 v173 w180 fun v183 w182 =>
(fok true (ld1 v174 w182) v175 ∧ fok true (ld1 v176 w182) v177 ∧ fok true (ld1 v178 w182) v179) ∧ (callP G44 [s0, v183, v175] w182 fun v185 w184 =>
(fok true (ld1 v176 w184) v177 ∧ fok true (ld1 v178 w184) v179) ∧ (callP G97 [s1, v177, v179] w184 fun v187 w186 =>
bindP (bEq Try.prog 24 (.tmp 68) (.tmp 74) v185 v187) fun v188 =>
K v188 w186))))
def F48_24 (s0 : Value) (s1 : Value) (s5 : Value) (w : World) (K : Value → World → Prop) : Prop := F48_24b s0 s1 s5 w K
theorem ok48_24 {K : Value → World → Prop} {kn kr : Env → World → Prop} {ke : Nat → Env → World → Prop}
    (hn : ∀ e w, (fun e w => K (e 6) w) e w → kn e w) (hr : ∀ e w, endD Try.prog [.tmp 6] K e w → kr e w) (he : ∀ i e w, (blkK 0 (fun e w => K (e 6) w) noE) i e w → ke i e w) :
    ∀ e w, F48_24 (e 0) (e 1) (e 5) w K → denL Try.prog (tabOf T48) 262 fuel ((flat (elseC (nthC (flat (elseC (nthC (flat (elseC (nthC (flat (elseC (nthC (flat (elseC (nthC (flat (elseC (nthC (flat (blkB (nthC (flat (bodyOf Try.f48)) 6))) 1))) 1))) 1))) 1))) 1))) 1))).drop 0) e w kn kr ke := by
  intro e w h
  unfold F48_24 at h
  have e1 : ∀ (_ : Unit), F48_24b (e 0) (e 1) (e 5) w K = denL Try.prog (tabOf T48) 262 fuel ((flat (elseC (nthC (flat (elseC (nthC (flat (elseC (nthC (flat (elseC (nthC (flat (elseC (nthC (flat (elseC (nthC (flat (blkB (nthC (flat (bodyOf Try.f48)) 6))) 1))) 1))) 1))) 1))) 1))) 1))).drop 0) e w (fun e w => K (e 6) w) (endD Try.prog [.tmp 6] K) (blkK 0 (fun e w => K (e 6) w) noE) := by intro _; kernel_rfl
  exact seg_end (Eq.mp (e1 ()) h) hn hr he
def F48_20 (s0 : Value) (s1 : Value) (s5 : Value) (s210 : Value) (w : World) (K : Value → World → Prop) : Prop := ifB s210 (F48_21 s0 s1 w K) (F48_24 s0 s1 s5 w K)
theorem ok48_20 {K : Value → World → Prop} {kn kr : Env → World → Prop} {ke : Nat → Env → World → Prop}
    (hn : ∀ e w, (fun e w => K (e 6) w) e w → kn e w) (hr : ∀ e w, endD Try.prog [.tmp 6] K e w → kr e w) (he : ∀ i e w, (blkK 0 (fun e w => K (e 6) w) noE) i e w → ke i e w) :
    ∀ e w, F48_20 (e 0) (e 1) (e 5) (e 210) w K → denL Try.prog (tabOf T48) 262 fuel ((flat (elseC (nthC (flat (elseC (nthC (flat (elseC (nthC (flat (elseC (nthC (flat (elseC (nthC (flat (blkB (nthC (flat (bodyOf Try.f48)) 6))) 1))) 1))) 1))) 1))) 1))).drop 1) e w kn kr ke := by
  intro e w h
  unfold F48_20 at h
  refine seg_cond (c := (.tmp 210)) (a := thenC (nthC (flat (elseC (nthC (flat (elseC (nthC (flat (elseC (nthC (flat (elseC (nthC (flat (elseC (nthC (flat (blkB (nthC (flat (bodyOf Try.f48)) 6))) 1))) 1))) 1))) 1))) 1))) 1)) (b := elseC (nthC (flat (elseC (nthC (flat (elseC (nthC (flat (elseC (nthC (flat (elseC (nthC (flat (elseC (nthC (flat (blkB (nthC (flat (bodyOf Try.f48)) 6))) 1))) 1))) 1))) 1))) 1))) 1)) (l2 := (flat (elseC (nthC (flat (elseC (nthC (flat (elseC (nthC (flat (elseC (nthC (flat (elseC (nthC (flat (blkB (nthC (flat (bodyOf Try.f48)) 6))) 1))) 1))) 1))) 1))) 1))).drop 2) (by kernel_rfl) h (fun h => ?_) (fun h => ?_)
  · exact ok48_21 hn hr he e w h
  · exact ok48_24 hn hr he e w h
def F48_19b (s0 : Value) (s1 : Value) (s5 : Value) (s56 : Value) (w : World) (_K : Value → World → Prop) (Y0 : Value → Value → Value → Value → World → Prop) : Prop :=
bindP (bEq Try.prog 3 (.tmp 56) (.const (.int .i64 5)) s56 (.int .i64 5)) fun v189 =>
Y0 s0 s1 s5 v189 w
def F48_19 (s0 : Value) (s1 : Value) (s5 : Value) (s56 : Value) (w : World) (K : Value → World → Prop) : Prop := F48_19b s0 s1 s5 s56 w K (fun a0 a1 a5 a210 w => F48_20 a0 a1 a5 a210 w K)
theorem ok48_19 {K : Value → World → Prop} {kn kr : Env → World → Prop} {ke : Nat → Env → World → Prop}
    (hn : ∀ e w, (fun e w => K (e 6) w) e w → kn e w) (hr : ∀ e w, endD Try.prog [.tmp 6] K e w → kr e w) (he : ∀ i e w, (blkK 0 (fun e w => K (e 6) w) noE) i e w → ke i e w) :
    ∀ e w, F48_19 (e 0) (e 1) (e 5) (e 56) w K → denL Try.prog (tabOf T48) 262 fuel ((flat (elseC (nthC (flat (elseC (nthC (flat (elseC (nthC (flat (elseC (nthC (flat (elseC (nthC (flat (blkB (nthC (flat (bodyOf Try.f48)) 6))) 1))) 1))) 1))) 1))) 1))).drop 0) e w kn kr ke := by
  intro e w h
  unfold F48_19 at h
  have e1 : ∀ (Y0 : Value → Value → Value → Value → World → Prop), F48_19b (e 0) (e 1) (e 5) (e 56) w K Y0 = denL Try.prog (tabOf T48) 262 fuel (((flat (elseC (nthC (flat (elseC (nthC (flat (elseC (nthC (flat (elseC (nthC (flat (elseC (nthC (flat (blkB (nthC (flat (bodyOf Try.f48)) 6))) 1))) 1))) 1))) 1))) 1))).drop 0).take 1) e w (fun e w => Y0 (e 0) (e 1) (e 5) (e 210) w) (endD Try.prog [.tmp 6] K) (blkK 0 (fun e w => K (e 6) w) noE) := by intro Y0; kernel_rfl
  exact seg 1 (Eq.mp (e1 (fun a0 a1 a5 a210 w => F48_20 a0 a1 a5 a210 w K)) h) (fun e w h => ok48_20 hn hr he e w h) hr he
def F48_17 (s0 : Value) (s1 : Value) (s5 : Value) (s56 : Value) (s187 : Value) (w : World) (K : Value → World → Prop) : Prop := ifB s187 (F48_18 s0 s1 s5 w K) (F48_19 s0 s1 s5 s56 w K)
theorem ok48_17 {K : Value → World → Prop} {kn kr : Env → World → Prop} {ke : Nat → Env → World → Prop}
    (hn : ∀ e w, (fun e w => K (e 6) w) e w → kn e w) (hr : ∀ e w, endD Try.prog [.tmp 6] K e w → kr e w) (he : ∀ i e w, (blkK 0 (fun e w => K (e 6) w) noE) i e w → ke i e w) :
    ∀ e w, F48_17 (e 0) (e 1) (e 5) (e 56) (e 187) w K → denL Try.prog (tabOf T48) 262 fuel ((flat (elseC (nthC (flat (elseC (nthC (flat (elseC (nthC (flat (elseC (nthC (flat (blkB (nthC (flat (bodyOf Try.f48)) 6))) 1))) 1))) 1))) 1))).drop 1) e w kn kr ke := by
  intro e w h
  unfold F48_17 at h
  refine seg_cond (c := (.tmp 187)) (a := thenC (nthC (flat (elseC (nthC (flat (elseC (nthC (flat (elseC (nthC (flat (elseC (nthC (flat (blkB (nthC (flat (bodyOf Try.f48)) 6))) 1))) 1))) 1))) 1))) 1)) (b := elseC (nthC (flat (elseC (nthC (flat (elseC (nthC (flat (elseC (nthC (flat (elseC (nthC (flat (blkB (nthC (flat (bodyOf Try.f48)) 6))) 1))) 1))) 1))) 1))) 1)) (l2 := (flat (elseC (nthC (flat (elseC (nthC (flat (elseC (nthC (flat (elseC (nthC (flat (blkB (nthC (flat (bodyOf Try.f48)) 6))) 1))) 1))) 1))) 1))).drop 2) (by kernel_rfl) h (fun h => ?_) (fun h => ?_)
  · exact ok48_18 hn hr he e w h
  · exact ok48_19 hn hr he e w h
def F48_16b (s0 : Value) (s1 : Value) (s5 : Value) (s56 : Value) (w : World) (_K : Value → World → Prop) (Y0 : Value → Value → Value → Value → Value → World → Prop) : Prop :=
bindP (bEq Try.prog 3 (.tmp 56) (.const (.int .i64 4)) s56 (.int .i64 4)) fun v190 =>
Y0 s0 s1 s5 s56 v190 w
def F48_16 (s0 : Value) (s1 : Value) (s5 : Value) (s56 : Value) (w : World) (K : Value → World → Prop) : Prop := F48_16b s0 s1 s5 s56 w K (fun a0 a1 a5 a56 a187 w => F48_17 a0 a1 a5 a56 a187 w K)
theorem ok48_16 {K : Value → World → Prop} {kn kr : Env → World → Prop} {ke : Nat → Env → World → Prop}
    (hn : ∀ e w, (fun e w => K (e 6) w) e w → kn e w) (hr : ∀ e w, endD Try.prog [.tmp 6] K e w → kr e w) (he : ∀ i e w, (blkK 0 (fun e w => K (e 6) w) noE) i e w → ke i e w) :
    ∀ e w, F48_16 (e 0) (e 1) (e 5) (e 56) w K → denL Try.prog (tabOf T48) 262 fuel ((flat (elseC (nthC (flat (elseC (nthC (flat (elseC (nthC (flat (elseC (nthC (flat (blkB (nthC (flat (bodyOf Try.f48)) 6))) 1))) 1))) 1))) 1))).drop 0) e w kn kr ke := by
  intro e w h
  unfold F48_16 at h
  have e1 : ∀ (Y0 : Value → Value → Value → Value → Value → World → Prop), F48_16b (e 0) (e 1) (e 5) (e 56) w K Y0 = denL Try.prog (tabOf T48) 262 fuel (((flat (elseC (nthC (flat (elseC (nthC (flat (elseC (nthC (flat (elseC (nthC (flat (blkB (nthC (flat (bodyOf Try.f48)) 6))) 1))) 1))) 1))) 1))).drop 0).take 1) e w (fun e w => Y0 (e 0) (e 1) (e 5) (e 56) (e 187) w) (endD Try.prog [.tmp 6] K) (blkK 0 (fun e w => K (e 6) w) noE) := by intro Y0; kernel_rfl
  exact seg 1 (Eq.mp (e1 (fun a0 a1 a5 a56 a187 w => F48_17 a0 a1 a5 a56 a187 w K)) h) (fun e w h => ok48_17 hn hr he e w h) hr he
def F48_14 (s0 : Value) (s1 : Value) (s5 : Value) (s56 : Value) (s159 : Value) (w : World) (K : Value → World → Prop) : Prop := ifB s159 (F48_15 s0 s1 s5 w K) (F48_16 s0 s1 s5 s56 w K)
theorem ok48_14 {K : Value → World → Prop} {kn kr : Env → World → Prop} {ke : Nat → Env → World → Prop}
    (hn : ∀ e w, (fun e w => K (e 6) w) e w → kn e w) (hr : ∀ e w, endD Try.prog [.tmp 6] K e w → kr e w) (he : ∀ i e w, (blkK 0 (fun e w => K (e 6) w) noE) i e w → ke i e w) :
    ∀ e w, F48_14 (e 0) (e 1) (e 5) (e 56) (e 159) w K → denL Try.prog (tabOf T48) 262 fuel ((flat (elseC (nthC (flat (elseC (nthC (flat (elseC (nthC (flat (blkB (nthC (flat (bodyOf Try.f48)) 6))) 1))) 1))) 1))).drop 1) e w kn kr ke := by
  intro e w h
  unfold F48_14 at h
  refine seg_cond (c := (.tmp 159)) (a := thenC (nthC (flat (elseC (nthC (flat (elseC (nthC (flat (elseC (nthC (flat (blkB (nthC (flat (bodyOf Try.f48)) 6))) 1))) 1))) 1))) 1)) (b := elseC (nthC (flat (elseC (nthC (flat (elseC (nthC (flat (elseC (nthC (flat (blkB (nthC (flat (bodyOf Try.f48)) 6))) 1))) 1))) 1))) 1)) (l2 := (flat (elseC (nthC (flat (elseC (nthC (flat (elseC (nthC (flat (blkB (nthC (flat (bodyOf Try.f48)) 6))) 1))) 1))) 1))).drop 2) (by kernel_rfl) h (fun h => ?_) (fun h => ?_)
  · exact ok48_15 hn hr he e w h
  · exact ok48_16 hn hr he e w h
def F48_13b (s0 : Value) (s1 : Value) (s5 : Value) (s56 : Value) (w : World) (_K : Value → World → Prop) (Y0 : Value → Value → Value → Value → Value → World → Prop) : Prop :=
bindP (bEq Try.prog 3 (.tmp 56) (.const (.int .i64 3)) s56 (.int .i64 3)) fun v191 =>
Y0 s0 s1 s5 s56 v191 w
def F48_13 (s0 : Value) (s1 : Value) (s5 : Value) (s56 : Value) (w : World) (K : Value → World → Prop) : Prop := F48_13b s0 s1 s5 s56 w K (fun a0 a1 a5 a56 a159 w => F48_14 a0 a1 a5 a56 a159 w K)
theorem ok48_13 {K : Value → World → Prop} {kn kr : Env → World → Prop} {ke : Nat → Env → World → Prop}
    (hn : ∀ e w, (fun e w => K (e 6) w) e w → kn e w) (hr : ∀ e w, endD Try.prog [.tmp 6] K e w → kr e w) (he : ∀ i e w, (blkK 0 (fun e w => K (e 6) w) noE) i e w → ke i e w) :
    ∀ e w, F48_13 (e 0) (e 1) (e 5) (e 56) w K → denL Try.prog (tabOf T48) 262 fuel ((flat (elseC (nthC (flat (elseC (nthC (flat (elseC (nthC (flat (blkB (nthC (flat (bodyOf Try.f48)) 6))) 1))) 1))) 1))).drop 0) e w kn kr ke := by
  intro e w h
  unfold F48_13 at h
  have e1 : ∀ (Y0 : Value → Value → Value → Value → Value → World → Prop), F48_13b (e 0) (e 1) (e 5) (e 56) w K Y0 = denL Try.prog (tabOf T48) 262 fuel (((flat (elseC (nthC (flat (elseC (nthC (flat (elseC (nthC (flat (blkB (nthC (flat (bodyOf Try.f48)) 6))) 1))) 1))) 1))).drop 0).take 1) e w (fun e w => Y0 (e 0) (e 1) (e 5) (e 56) (e 159) w) (endD Try.prog [.tmp 6] K) (blkK 0 (fun e w => K (e 6) w) noE) := by intro Y0; kernel_rfl
  exact seg 1 (Eq.mp (e1 (fun a0 a1 a5 a56 a159 w => F48_14 a0 a1 a5 a56 a159 w K)) h) (fun e w h => ok48_14 hn hr he e w h) hr he
def F48_11 (s0 : Value) (s1 : Value) (s5 : Value) (s7 : Value) (s56 : Value) (s137 : Value) (w : World) (K : Value → World → Prop) : Prop := ifB s137 (F48_12 s0 s1 s7 w K) (F48_13 s0 s1 s5 s56 w K)
theorem ok48_11 {K : Value → World → Prop} {kn kr : Env → World → Prop} {ke : Nat → Env → World → Prop}
    (hn : ∀ e w, (fun e w => K (e 6) w) e w → kn e w) (hr : ∀ e w, endD Try.prog [.tmp 6] K e w → kr e w) (he : ∀ i e w, (blkK 0 (fun e w => K (e 6) w) noE) i e w → ke i e w) :
    ∀ e w, F48_11 (e 0) (e 1) (e 5) (e 7) (e 56) (e 137) w K → denL Try.prog (tabOf T48) 262 fuel ((flat (elseC (nthC (flat (elseC (nthC (flat (blkB (nthC (flat (bodyOf Try.f48)) 6))) 1))) 1))).drop 1) e w kn kr ke := by
  intro e w h
  unfold F48_11 at h
  refine seg_cond (c := (.tmp 137)) (a := thenC (nthC (flat (elseC (nthC (flat (elseC (nthC (flat (blkB (nthC (flat (bodyOf Try.f48)) 6))) 1))) 1))) 1)) (b := elseC (nthC (flat (elseC (nthC (flat (elseC (nthC (flat (blkB (nthC (flat (bodyOf Try.f48)) 6))) 1))) 1))) 1)) (l2 := (flat (elseC (nthC (flat (elseC (nthC (flat (blkB (nthC (flat (bodyOf Try.f48)) 6))) 1))) 1))).drop 2) (by kernel_rfl) h (fun h => ?_) (fun h => ?_)
  · exact ok48_12 hn hr he e w h
  · exact ok48_13 hn hr he e w h
def F48_10b (s0 : Value) (s1 : Value) (s5 : Value) (s7 : Value) (s56 : Value) (w : World) (_K : Value → World → Prop) (Y0 : Value → Value → Value → Value → Value → Value → World → Prop) : Prop :=
bindP (bEq Try.prog 3 (.tmp 56) (.const (.int .i64 2)) s56 (.int .i64 2)) fun v192 =>
Y0 s0 s1 s5 s7 s56 v192 w
def F48_10 (s0 : Value) (s1 : Value) (s5 : Value) (s7 : Value) (s56 : Value) (w : World) (K : Value → World → Prop) : Prop := F48_10b s0 s1 s5 s7 s56 w K (fun a0 a1 a5 a7 a56 a137 w => F48_11 a0 a1 a5 a7 a56 a137 w K)
theorem ok48_10 {K : Value → World → Prop} {kn kr : Env → World → Prop} {ke : Nat → Env → World → Prop}
    (hn : ∀ e w, (fun e w => K (e 6) w) e w → kn e w) (hr : ∀ e w, endD Try.prog [.tmp 6] K e w → kr e w) (he : ∀ i e w, (blkK 0 (fun e w => K (e 6) w) noE) i e w → ke i e w) :
    ∀ e w, F48_10 (e 0) (e 1) (e 5) (e 7) (e 56) w K → denL Try.prog (tabOf T48) 262 fuel ((flat (elseC (nthC (flat (elseC (nthC (flat (blkB (nthC (flat (bodyOf Try.f48)) 6))) 1))) 1))).drop 0) e w kn kr ke := by
  intro e w h
  unfold F48_10 at h
  have e1 : ∀ (Y0 : Value → Value → Value → Value → Value → Value → World → Prop), F48_10b (e 0) (e 1) (e 5) (e 7) (e 56) w K Y0 = denL Try.prog (tabOf T48) 262 fuel (((flat (elseC (nthC (flat (elseC (nthC (flat (blkB (nthC (flat (bodyOf Try.f48)) 6))) 1))) 1))).drop 0).take 1) e w (fun e w => Y0 (e 0) (e 1) (e 5) (e 7) (e 56) (e 137) w) (endD Try.prog [.tmp 6] K) (blkK 0 (fun e w => K (e 6) w) noE) := by intro Y0; kernel_rfl
  exact seg 1 (Eq.mp (e1 (fun a0 a1 a5 a7 a56 a137 w => F48_11 a0 a1 a5 a7 a56 a137 w K)) h) (fun e w h => ok48_11 hn hr he e w h) hr he
def F48_8 (s0 : Value) (s1 : Value) (s5 : Value) (s7 : Value) (s56 : Value) (s111 : Value) (w : World) (K : Value → World → Prop) : Prop := ifB s111 (F48_9 s0 s1 s5 s7 w K) (F48_10 s0 s1 s5 s7 s56 w K)
theorem ok48_8 {K : Value → World → Prop} {kn kr : Env → World → Prop} {ke : Nat → Env → World → Prop}
    (hn : ∀ e w, (fun e w => K (e 6) w) e w → kn e w) (hr : ∀ e w, endD Try.prog [.tmp 6] K e w → kr e w) (he : ∀ i e w, (blkK 0 (fun e w => K (e 6) w) noE) i e w → ke i e w) :
    ∀ e w, F48_8 (e 0) (e 1) (e 5) (e 7) (e 56) (e 111) w K → denL Try.prog (tabOf T48) 262 fuel ((flat (elseC (nthC (flat (blkB (nthC (flat (bodyOf Try.f48)) 6))) 1))).drop 1) e w kn kr ke := by
  intro e w h
  unfold F48_8 at h
  refine seg_cond (c := (.tmp 111)) (a := thenC (nthC (flat (elseC (nthC (flat (blkB (nthC (flat (bodyOf Try.f48)) 6))) 1))) 1)) (b := elseC (nthC (flat (elseC (nthC (flat (blkB (nthC (flat (bodyOf Try.f48)) 6))) 1))) 1)) (l2 := (flat (elseC (nthC (flat (blkB (nthC (flat (bodyOf Try.f48)) 6))) 1))).drop 2) (by kernel_rfl) h (fun h => ?_) (fun h => ?_)
  · exact ok48_9 hn hr he e w h
  · exact ok48_10 hn hr he e w h
def F48_7b (s0 : Value) (s1 : Value) (s5 : Value) (s7 : Value) (s56 : Value) (w : World) (_K : Value → World → Prop) (Y0 : Value → Value → Value → Value → Value → Value → World → Prop) : Prop :=
bindP (bEq Try.prog 3 (.tmp 56) (.const (.int .i64 1)) s56 (.int .i64 1)) fun v193 =>
Y0 s0 s1 s5 s7 s56 v193 w
def F48_7 (s0 : Value) (s1 : Value) (s5 : Value) (s7 : Value) (s56 : Value) (w : World) (K : Value → World → Prop) : Prop := F48_7b s0 s1 s5 s7 s56 w K (fun a0 a1 a5 a7 a56 a111 w => F48_8 a0 a1 a5 a7 a56 a111 w K)
theorem ok48_7 {K : Value → World → Prop} {kn kr : Env → World → Prop} {ke : Nat → Env → World → Prop}
    (hn : ∀ e w, (fun e w => K (e 6) w) e w → kn e w) (hr : ∀ e w, endD Try.prog [.tmp 6] K e w → kr e w) (he : ∀ i e w, (blkK 0 (fun e w => K (e 6) w) noE) i e w → ke i e w) :
    ∀ e w, F48_7 (e 0) (e 1) (e 5) (e 7) (e 56) w K → denL Try.prog (tabOf T48) 262 fuel ((flat (elseC (nthC (flat (blkB (nthC (flat (bodyOf Try.f48)) 6))) 1))).drop 0) e w kn kr ke := by
  intro e w h
  unfold F48_7 at h
  have e1 : ∀ (Y0 : Value → Value → Value → Value → Value → Value → World → Prop), F48_7b (e 0) (e 1) (e 5) (e 7) (e 56) w K Y0 = denL Try.prog (tabOf T48) 262 fuel (((flat (elseC (nthC (flat (blkB (nthC (flat (bodyOf Try.f48)) 6))) 1))).drop 0).take 1) e w (fun e w => Y0 (e 0) (e 1) (e 5) (e 7) (e 56) (e 111) w) (endD Try.prog [.tmp 6] K) (blkK 0 (fun e w => K (e 6) w) noE) := by intro Y0; kernel_rfl
  exact seg 1 (Eq.mp (e1 (fun a0 a1 a5 a7 a56 a111 w => F48_8 a0 a1 a5 a7 a56 a111 w K)) h) (fun e w h => ok48_8 hn hr he e w h) hr he
def F48_5 (s0 : Value) (s1 : Value) (s5 : Value) (s7 : Value) (s56 : Value) (s76 : Value) (w : World) (K : Value → World → Prop) : Prop := ifB s76 (F48_6 s0 s1 s5 w K) (F48_7 s0 s1 s5 s7 s56 w K)
theorem ok48_5 {K : Value → World → Prop} {kn kr : Env → World → Prop} {ke : Nat → Env → World → Prop}
    (hn : ∀ e w, (fun e w => K (e 6) w) e w → kn e w) (hr : ∀ e w, endD Try.prog [.tmp 6] K e w → kr e w) (he : ∀ i e w, (blkK 0 (fun e w => K (e 6) w) noE) i e w → ke i e w) :
    ∀ e w, F48_5 (e 0) (e 1) (e 5) (e 7) (e 56) (e 76) w K → denL Try.prog (tabOf T48) 262 fuel ((flat (blkB (nthC (flat (bodyOf Try.f48)) 6))).drop 1) e w kn kr ke := by
  intro e w h
  unfold F48_5 at h
  refine seg_cond (c := (.tmp 76)) (a := thenC (nthC (flat (blkB (nthC (flat (bodyOf Try.f48)) 6))) 1)) (b := elseC (nthC (flat (blkB (nthC (flat (bodyOf Try.f48)) 6))) 1)) (l2 := (flat (blkB (nthC (flat (bodyOf Try.f48)) 6))).drop 2) (by kernel_rfl) h (fun h => ?_) (fun h => ?_)
  · exact ok48_6 hn hr he e w h
  · exact ok48_7 hn hr he e w h
def F48_4b (s0 : Value) (s1 : Value) (s5 : Value) (s7 : Value) (s56 : Value) (w : World) (_K : Value → World → Prop) (Y0 : Value → Value → Value → Value → Value → Value → World → Prop) : Prop :=
bindP (bEq Try.prog 3 (.tmp 56) (.const (.int .i64 0)) s56 (.int .i64 0)) fun v194 =>
Y0 s0 s1 s5 s7 s56 v194 w
def F48_4 (s0 : Value) (s1 : Value) (s5 : Value) (s7 : Value) (s56 : Value) (w : World) (K : Value → World → Prop) : Prop := F48_4b s0 s1 s5 s7 s56 w K (fun a0 a1 a5 a7 a56 a76 w => F48_5 a0 a1 a5 a7 a56 a76 w K)
theorem ok48_4 {K : Value → World → Prop} {kn kr : Env → World → Prop} {ke : Nat → Env → World → Prop}
    (hn : ∀ e w, (fun e w => K (e 6) w) e w → kn e w) (hr : ∀ e w, endD Try.prog [.tmp 6] K e w → kr e w) (he : ∀ i e w, (blkK 0 (fun e w => K (e 6) w) noE) i e w → ke i e w) :
    ∀ e w, F48_4 (e 0) (e 1) (e 5) (e 7) (e 56) w K → denL Try.prog (tabOf T48) 262 fuel ((flat (blkB (nthC (flat (bodyOf Try.f48)) 6))).drop 0) e w kn kr ke := by
  intro e w h
  unfold F48_4 at h
  have e1 : ∀ (Y0 : Value → Value → Value → Value → Value → Value → World → Prop), F48_4b (e 0) (e 1) (e 5) (e 7) (e 56) w K Y0 = denL Try.prog (tabOf T48) 262 fuel (((flat (blkB (nthC (flat (bodyOf Try.f48)) 6))).drop 0).take 1) e w (fun e w => Y0 (e 0) (e 1) (e 5) (e 7) (e 56) (e 76) w) (endD Try.prog [.tmp 6] K) (blkK 0 (fun e w => K (e 6) w) noE) := by intro Y0; kernel_rfl
  exact seg 1 (Eq.mp (e1 (fun a0 a1 a5 a7 a56 a76 w => F48_5 a0 a1 a5 a7 a56 a76 w K)) h) (fun e w h => ok48_5 hn hr he e w h) hr he
def F48_3 (s0 : Value) (s1 : Value) (s5 : Value) (s7 : Value) (s56 : Value) (w : World) (K : Value → World → Prop) : Prop := F48_4 s0 s1 s5 s7 s56 w K
theorem ok48_3 {K : Value → World → Prop} {kn kr : Env → World → Prop} {ke : Nat → Env → World → Prop}
    (hn : ∀ e w, (fun e w => K (e 6) w) e w → kn e w) (hr : ∀ e w, endD Try.prog [.tmp 6] K e w → kr e w) (he : ∀ i e w, noE i e w → ke i e w) :
    ∀ e w, F48_3 (e 0) (e 1) (e 5) (e 7) (e 56) w K → denL Try.prog (tabOf T48) 262 fuel ((flat (bodyOf Try.f48)).drop 6) e w kn kr ke := by
  intro e w h
  unfold F48_3 at h
  refine seg_block (id := 0) (body := (blkB (nthC (flat (bodyOf Try.f48)) 6))) (l2 := (flat (bodyOf Try.f48)).drop 7) (by kernel_rfl) ?_
  exact ok48_4 hn hr (blkK_mono hn he) e w h
def F48_2b (s0 : Value) (s1 : Value) (s5 : Value) (s7 : Value) (w : World) (_K : Value → World → Prop) (Y0 : Value → Value → Value → Value → Value → World → Prop) : Prop :=
bindP (pFieldAddr 0 s5) fun v195 =>
bindP (ld1 v195 w) fun v196 =>
callP G15 [v196, (.int .i64 7)] w fun v198 w197 =>
Y0 s0 s1 s5 s7 v198 w197
def F48_2 (s0 : Value) (s1 : Value) (s5 : Value) (s7 : Value) (w : World) (K : Value → World → Prop) : Prop := F48_2b s0 s1 s5 s7 w K (fun a0 a1 a5 a7 a56 w => F48_3 a0 a1 a5 a7 a56 w K)
theorem ok48_2 {K : Value → World → Prop} {kn kr : Env → World → Prop} {ke : Nat → Env → World → Prop}
    (hn : ∀ e w, (fun e w => K (e 6) w) e w → kn e w) (hr : ∀ e w, endD Try.prog [.tmp 6] K e w → kr e w) (he : ∀ i e w, noE i e w → ke i e w) :
    ∀ e w, F48_2 (e 0) (e 1) (e 5) (e 7) w K → denL Try.prog (tabOf T48) 262 fuel ((flat (bodyOf Try.f48)).drop 5) e w kn kr ke := by
  intro e w h
  unfold F48_2 at h
  have e1 : ∀ (Y0 : Value → Value → Value → Value → Value → World → Prop), F48_2b (e 0) (e 1) (e 5) (e 7) w K Y0 = denL Try.prog (tabOf T48) 262 fuel (((flat (bodyOf Try.f48)).drop 5).take 1) e w (fun e w => Y0 (e 0) (e 1) (e 5) (e 7) (e 56) w) (endD Try.prog [.tmp 6] K) noE := by intro Y0; kernel_rfl
  exact seg 1 (Eq.mp (e1 (fun a0 a1 a5 a7 a56 w => F48_3 a0 a1 a5 a7 a56 w K)) h) (fun e w h => ok48_3 hn hr he e w h) hr he
def F48_1b (s0 : Value) (s1 : Value) (s2 : Value) (w : World) (_K : Value → World → Prop) (Y0 : Value → Value → Value → Value → World → Prop) : Prop :=
eBox 90 s2 w fun v200 w199 =>
bindP (pFieldAddr 2 v200) fun v201 =>
bindP (ld1 v201 w199) fun v202 =>
bindP (pNil s1) fun v203 =>
bindP (pFieldAddr 2 v203) fun v204 =>
bindP (ld1 v204 w199) fun v205 =>
bindP (lenL v205) fun v206 =>
bindP (bGt v206 (.int .i64 0)) fun v207 =>
Sx.stepG (gd true v207) (pFieldAddr 2 v200) fun v208 =>
Sx.stepG (gd true v207) (ld1 v208 w199) fun v209 =>
Sx.stepG (gd true v207) (bRem v209 (.int .i64 3)) fun v210 =>
Sx.stepG (gd true v207) (bNe Try.prog 3 (.tmp 42) (.const (.int .i64 0)) v210 (.int .i64 0)) fun v211 =>
bindP (pPick v207 v211 (.bool false)) fun v212 =>
ifB v212 (
bindP (pFieldAddr 2 v200) fun v213 =>
bindP (ld1 v213 w199) fun v214 =>
bindP (lenL v205) fun v215 =>
callP G15 [v214, v215] w199 fun v217 w216 =>
bindP (pIndexL 11 v205 v217) fun v218 =>
bindP (pFieldAddr 0 v218) fun v219 =>
bindP (ld1 v219 w216) fun v220 =>
Y0 s0 s1 v200 v220 w216) (
Y0 s0 s1 v200 v202 w199)
def F48_1 (s0 : Value) (s1 : Value) (s2 : Value) (w : World) (K : Value → World → Prop) : Prop := F48_1b s0 s1 s2 w K (fun a0 a1 a5 a7 w => F48_2 a0 a1 a5 a7 w K)
theorem ok48_1 {K : Value → World → Prop} {kn kr : Env → World → Prop} {ke : Nat → Env → World → Prop}
    (hn : ∀ e w, (fun e w => K (e 6) w) e w → kn e w) (hr : ∀ e w, endD Try.prog [.tmp 6] K e w → kr e w) (he : ∀ i e w, noE i e w → ke i e w) :
    ∀ e w, F48_1 (e 0) (e 1) (e 2) w K → denL Try.prog (tabOf T48) 262 fuel ((flat (bodyOf Try.f48)).drop 0) e w kn kr ke := by
  intro e w h
  unfold F48_1 at h
  have e1 : ∀ (Y0 : Value → Value → Value → Value → World → Prop), F48_1b (e 0) (e 1) (e 2) w K Y0 = denL Try.prog (tabOf T48) 262 fuel (((flat (bodyOf Try.f48)).drop 0).take 5) e w (fun e w => Y0 (e 0) (e 1) (e 5) (e 7) w) (endD Try.prog [.tmp 6] K) noE := by intro Y0; kernel_rfl
  exact seg 5 (Eq.mp (e1 (fun a0 a1 a5 a7 w => F48_2 a0 a1 a5 a7 w K)) h) (fun e w h => ok48_2 hn hr he e w h) hr he
def F48 (x0 : Value) (x1 : Value) (x2 : Value) (w : World) (K : Value → World → Prop) : Prop := F48_1 x0 x1 x2 w K
def G48 : FnT := fun args w K => on3 (fun x0 x1 x2 => F48 x0 x1 x2 w K) args
theorem c48 {x0 x1 x2 : Value} {w : World} {K : Value → World → Prop} (h : F48 x0 x1 x2 w K) : callP G48 [x0, x1, x2] w K := callP_intro (on3_mk (p := fun x0 x1 x2 => F48 x0 x1 x2 w K) h)
theorem ok48 : OkF Try.prog 48 G48 := by
  refine okF_of (tab_ok (l := T48) ⟨ok15, ok16, ok40, ok41, ok43, ok44, ok46, ok49, ok92, ok93, ok94, ok95, ok96, ok97, trivial⟩) mixed (n := fuel) Try.func48 Try.call48 fun args w K h => ?_
  obtain ⟨x0, x1, x2, rfl, hh⟩ := of_on3 h
  unfold F48 at hh
  exact fnD_list (c := bodyOf Try.f48) (by kernel_rfl) (by kernel_rfl) (ok48_1 (fun _ _ h => h) (fun _ _ h => h) (fun _ _ _ h => h) (initE [x0, x1, x2]) w hh)
def T10 : List (Nat × FnT) := [(13, G13), (14, G14), (47, G47), (48, G48), (49, G49)]
def F10_3b (w : World) (K : Value → World → Prop) : Prop :=
K (.bool true) w
def F10_3 (w : World) (K : Value → World → Prop) : Prop := F10_3b w K
theorem ok10_3 {K : Value → World → Prop} {kn kr : Env → World → Prop} {ke : Nat → Env → World → Prop}
    (hn : ∀ e w, (fun e w => K (e 4) w) e w → kn e w) (hr : ∀ e w, endD Try.prog [.tmp 4] K e w → kr e w) (he : ∀ i e w, noE i e w → ke i e w) :
    ∀ e w, F10_3 w K → denL Try.prog (tabOf T10) 89 fuel ((flat (bodyOf Try.f10)).drop 7) e w kn kr ke := by
  intro e w h
  unfold F10_3 at h
  have e1 : ∀ (_ : Unit), F10_3b w K = denL Try.prog (tabOf T10) 89 fuel ((flat (bodyOf Try.f10)).drop 7) e w (fun e w => K (e 4) w) (endD Try.prog [.tmp 4] K) noE := by intro _; kernel_rfl
  exact seg_end (Eq.mp (e1 ()) h) hn hr he
def F10_5b (s1 : Value) (s5 : Value) (s7 : Value) (s9 : Value) (w : World) (_K : Value → World → Prop) (R3 : Value → Value → Value → Value → World → Prop) : Prop :=
bindP (bAdd s9 (.int .i64 1)) fun v1 =>
R3 s1 s5 s7 v1 w
def F10_5 (s1 : Value) (s5 : Value) (s7 : Value) (s9 : Value) (w : World) (K : Value → World → Prop) (R3 : Value → Value → Value → Value → World → Prop) : Prop := F10_5b s1 s5 s7 s9 w K R3
theorem ok10_5 (R3 : Value → Value → Value → Value → World → Prop) {K : Value → World → Prop} {kn kr : Env → World → Prop} {ke : Nat → Env → World → Prop}
    (hn : ∀ e w, (fun e w => R3 (e 1) (e 5) (e 7) (e 9) w) e w → kn e w) (hr : ∀ e w, endD Try.prog [.tmp 4] K e w → kr e w) (he : ∀ i e w, (blkK 0 (fun e w => F10_3 w K) noE) i e w → ke i e w) :
    ∀ e w, F10_5 (e 1) (e 5) (e 7) (e 9) w K R3 → denL Try.prog (tabOf T10) 89 fuel ((flat (loopB (blkB (nthC (flat (bodyOf Try.f10)) 6)))).drop 3) e w kn kr ke := by
  intro e w h
  unfold F10_5 at h
  have e1 : ∀ (_ : Unit), F10_5b (e 1) (e 5) (e 7) (e 9) w K R3 = denL Try.prog (tabOf T10) 89 fuel ((flat (loopB (blkB (nthC (flat (bodyOf Try.f10)) 6)))).drop 3) e w (fun e w => R3 (e 1) (e 5) (e 7) (e 9) w) (endD Try.prog [.tmp 4] K) (blkK 0 (fun e w => F10_3 w K) noE) := by intro _; kernel_rfl
  exact seg_end (Eq.mp (e1 ()) h) hn hr he
def F10_4b (s1 : Value) (s5 : Value) (s7 : Value) (s9 : Value) (w : World) (K : Value → World → Prop) (R3 : Value → Value → Value → Value → World → Prop) (Y0 : Value → Value → Value → Value → World → Prop) (Y1 : World → Prop) : Prop :=
bindP (bNe Try.prog 86 (.tmp 35) (.const (.pointer none)) s7 (.pointer none)) fun v2 =>
stepM (gd true v2) s9 fun v3 =>
stepM (gd true v2) s1 fun v4 =>
Sx.stepG (gd true v2) (lenL v4) fun v5 =>
Sx.stepG (gd true v2) (bLt v3 v5) fun v6 =>
bindP (pPick v2 v6 (.bool false)) fun v7 =>
stepM (gd true v7) s9 fun v8 =>
Sx.stepG (gd true v7) (bLt v8 (.int .i64 60)) fun v9 =>
bindP (pPick v7 v9 (.bool false)) fun v10 =>
ifB v10 (
bindP (pIndexL 11 s1 s9) fun v11 =>
bindP (ldN 11 v11 w) fun v12 =>
eAlloc Try.prog 90 w fun v14 w13 =>
bindW (st 11 v14 v12 w13) fun w15 =>
bindP (pFieldAddr 4 v14) fun v17 =>
bindP (pFieldAddr 0 v17) fun v18 =>
bindP (ld1 v18 w15) fun v19 =>
bindP (lenS v19) fun v20 =>
bindP (pFieldAddr 4 v14) fun v21 =>
bindP (pFieldAddr 1 v21) fun v22 =>
bindP (ld1 v22 w15) fun v23 =>
bindP (lenS v23) fun v24 =>
bindP (bAdd v20 v24) fun v25 =>
bindP (pFieldAddr 4 v14) fun v26 =>
bindP (pFieldAddr 2 v26) fun v27 =>
bindP (ld1 v27 w15) fun v28 =>
bindP (lenS v28) fun v29 =>
bindP (bAdd v25 v29) fun v30 =>
bindP (pFieldAddr 4 v14) fun v31 =>
bindP (pFieldAddr 4 v31) fun v32 =>
bindP (ld1 v32 w15) fun v33 =>
bindP (lenS v33) fun v34 =>
bindP (bAdd v30 v34) fun v35 =>
bindP (pFieldAddr 9 v14) fun v36 =>
bindP (ld1 v36 w15) fun v37 =>
bindP (lenS v37) fun v38 =>
bindP (bAdd v35 v38) fun v39 =>
bindP (bGt v39 (.int .i64 3000)) fun v40 =>
ifB v40 (
Y0 s1 s5 s7 s9 w15) (
bindP (ldN 11 v14 w15) fun v41 =>
callP G48 [s5, s7, v41] w15 fun v43 w42 =>
bindP (uNot v43) fun v44 =>
stepM (gd false v44) s5 fun v45 =>
stepM (gd false v44) s7 fun v46 =>
Sx.stepG (gd false v44) (ldN 11 v14 w42) fun v47 =>
stepE (gd false v44) (fun k => callP G49 [v45, v46, v47] w42 k) w42 fun v49 w48 =>
Sx.stepG (gd false v44) (uNot v49) fun v50 =>
bindP (pPick v44 (.bool true) v50) fun v51 =>
ifB v51 (
K (.bool false) w48) (
Y0 s1 s5 s7 s9 w48))) (
Y1 w)
def F10_4 (s1 : Value) (s5 : Value) (s7 : Value) (s9 : Value) (w : World) (K : Value → World → Prop) (R3 : Value → Value → Value → Value → World → Prop) : Prop := F10_4b s1 s5 s7 s9 w K R3 (fun a1 a5 a7 a9 w => F10_5 a1 a5 a7 a9 w K R3) (fun w => F10_3 w K)
theorem ok10_4 (R3 : Value → Value → Value → Value → World → Prop) {K : Value → World → Prop} {kn kr : Env → World → Prop} {ke : Nat → Env → World → Prop}
    (hn : ∀ e w, (fun e w => R3 (e 1) (e 5) (e 7) (e 9) w) e w → kn e w) (hr : ∀ e w, endD Try.prog [.tmp 4] K e w → kr e w) (he : ∀ i e w, (blkK 0 (fun e w => F10_3 w K) noE) i e w → ke i e w) :
    ∀ e w, F10_4 (e 1) (e 5) (e 7) (e 9) w K R3 → denL Try.prog (tabOf T10) 89 fuel ((flat (loopB (blkB (nthC (flat (bodyOf Try.f10)) 6)))).drop 0) e w kn kr ke := by
  intro e w h
  unfold F10_4 at h
  have e1 : ∀ (Y0 : Value → Value → Value → Value → World → Prop) (Y1 : World → Prop), F10_4b (e 1) (e 5) (e 7) (e 9) w K R3 Y0 Y1 = denL Try.prog (tabOf T10) 89 fuel (((flat (loopB (blkB (nthC (flat (bodyOf Try.f10)) 6)))).drop 0).take 3) e w (fun e w => Y0 (e 1) (e 5) (e 7) (e 9) w) (endD Try.prog [.tmp 4] K) (blkK 0 (fun e w => Y1 w) noE) := by intro Y0 Y1; kernel_rfl
  exact seg 3 (Eq.mp (e1 (fun a1 a5 a7 a9 w => F10_5 a1 a5 a7 a9 w K R3) (fun w => F10_3 w K)) h) (fun e w h => ok10_5 R3 hn hr he e w h) hr he
def F10_2L : Nat → Value → Value → Value → Value → World → (Value → World → Prop) → Prop
  | 0, _, _, _, _, _, _ => False
  | n + 1, s1, s5, s7, s9, w, K => F10_4 s1 s5 s7 s9 w K (fun a1 a5 a7 a9 w => F10_2L n a1 a5 a7 a9 w K)
def F10_2 (s1 : Value) (s5 : Value) (s7 : Value) (s9 : Value) (w : World) (K : Value → World → Prop) : Prop := F10_2L fuel s1 s5 s7 s9 w K
theorem ok10_2 {K : Value → World → Prop} {kn kr : Env → World → Prop} {ke : Nat → Env → World → Prop}
    (hn : ∀ e w, (fun e w => K (e 4) w) e w → kn e w) (hr : ∀ e w, endD Try.prog [.tmp 4] K e w → kr e w) (he : ∀ i e w, noE i e w → ke i e w) :
    ∀ e w, F10_2 (e 1) (e 5) (e 7) (e 9) w K → denL Try.prog (tabOf T10) 89 fuel ((flat (bodyOf Try.f10)).drop 6) e w kn kr ke := by
  intro e w h
  unfold F10_2 at h
  refine seg_loop (id := 0) (body := (loopB (blkB (nthC (flat (bodyOf Try.f10)) 6)))) (l2 := (flat (bodyOf Try.f10)).drop 7) (by kernel_rfl) ?_
  refine loop_ok (FL := fun m e w => F10_2L m (e 1) (e 5) (e 7) (e 9) w K) (fr := endD Try.prog [.tmp 4] K) (fe := (blkK 0 (fun e w => F10_3 w K) noE)) (fun _ _ h => h) ?_ hr (blkK_mono (fun e w h => ok10_3 hn hr he e w h) he) fuel e w h
  intro m e w h
  have h : F10_2L (m + 1) (e 1) (e 5) (e 7) (e 9) w K := h
  rw [F10_2L] at h
  exact ok10_4 (fun a1 a5 a7 a9 w => F10_2L m a1 a5 a7 a9 w K) (fun _ _ h => h) (fun _ _ h => h) (fun _ _ _ h => h) e w h
def F10_1b (s0 : Value) (s1 : Value) (w : World) (K : Value → World → Prop) (Y0 : Value → Value → Value → Value → World → Prop) : Prop :=
callP G13 [s0] w fun v53 w52 =>
bindP (pTuple v53 0) fun v54 =>
bindP (pTuple v53 1) fun v55 =>
callP G47 [s0] w52 fun v57 w56 =>
bindP (pTuple v57 0) fun v58 =>
bindP (pTuple v57 1) fun v59 =>
bindP (bNe Try.prog 24 (.tmp 21) (.tmp 22) v55 v59) fun v60 =>
stepM (gd false v60) v54 fun v61 =>
Sx.stepG (gd false v60) (bEq Try.prog 23 (.tmp 25) (.const (.pointer none)) v61 (.pointer none)) fun v62 =>
stepM (gd false v60) v58 fun v63 =>
Sx.stepG (gd false v60) (bEq Try.prog 86 (.tmp 27) (.const (.pointer none)) v63 (.pointer none)) fun v64 =>
Sx.stepG (gd false v60) (bNe Try.prog 4 (.tmp 26) (.tmp 28) v62 v64) fun v65 =>
bindP (pPick v60 (.bool true) v65) fun v66 =>
stepE (gd false v66) (fun k => callP G14 [] w56 k) w56 fun v68 w67 =>
Sx.stepG (gd false v66) (uNot v68) fun v69 =>
bindP (pPick v66 (.bool true) v69) fun v70 =>
ifB v70 (
K (.bool false) w67) (
Y0 s1 v54 v58 (.int .i64 0) w67)
def F10_1 (s0 : Value) (s1 : Value) (w : World) (K : Value → World → Prop) : Prop := F10_1b s0 s1 w K (fun a1 a5 a7 a9 w => F10_2 a1 a5 a7 a9 w K)
theorem ok10_1 {K : Value → World → Prop} {kn kr : Env → World → Prop} {ke : Nat → Env → World → Prop}
    (hn : ∀ e w, (fun e w => K (e 4) w) e w → kn e w) (hr : ∀ e w, endD Try.prog [.tmp 4] K e w → kr e w) (he : ∀ i e w, noE i e w → ke i e w) :
    ∀ e w, F10_1 (e 0) (e 1) w K → denL Try.prog (tabOf T10) 89 fuel ((flat (bodyOf Try.f10)).drop 0) e w kn kr ke := by
  intro e w h
  unfold F10_1 at h
  have e1 : ∀ (Y0 : Value → Value → Value → Value → World → Prop), F10_1b (e 0) (e 1) w K Y0 = denL Try.prog (tabOf T10) 89 fuel (((flat (bodyOf Try.f10)).drop 0).take 6) e w (fun e w => Y0 (e 1) (e 5) (e 7) (e 9) w) (endD Try.prog [.tmp 4] K) noE := by intro Y0; kernel_rfl
  exact seg 6 (Eq.mp (e1 (fun a1 a5 a7 a9 w => F10_2 a1 a5 a7 a9 w K)) h) (fun e w h => ok10_2 hn hr he e w h) hr he
def F10 (x0 : Value) (x1 : Value) (w : World) (K : Value → World → Prop) : Prop := F10_1 x0 x1 w K
def G10 : FnT := fun args w K => on2 (fun x0 x1 => F10 x0 x1 w K) args
theorem c10 {x0 x1 : Value} {w : World} {K : Value → World → Prop} (h : F10 x0 x1 w K) : callP G10 [x0, x1] w K := callP_intro (on2_mk (p := fun x0 x1 => F10 x0 x1 w K) h)
theorem ok10 : OkF Try.prog 10 G10 := by
  refine okF_of (tab_ok (l := T10) ⟨ok13, ok14, ok47, ok48, ok49, trivial⟩) mixed (n := fuel) Try.func10 Try.call10 fun args w K h => ?_
  obtain ⟨x0, x1, rfl, hh⟩ := of_on2 h
  unfold F10 at hh
  exact fnD_list (c := bodyOf Try.f10) (by kernel_rfl) (by kernel_rfl) (ok10_1 (fun _ _ h => h) (fun _ _ h => h) (fun _ _ _ h => h) (initE [x0, x1]) w hh)
end Go.Proofs.Gong

/- Bp0 -/
namespace Go.Proofs.Gong
open Go Go.Sx Go.Proofs
set_option maxRecDepth 100000
def RefB (v : Value) (n next : Int) (rs : List Row) : HP := HEx fun p => HEx fun s => HPr (v = ptr p) (HSt (Cl p #[.int .i64 n, .int .i64 next, s] 149) (LsH cRow 11 33 s rs))
theorem find_at {p : Row → Bool} : ∀ {rs : List Row} {i : Nat} (hi : i < rs.length), (∀ j (h : j < i), p (rs[j]'(by omega)) = false) → p rs[i] = true → rs.find? p = some rs[i]
  | r :: rs, 0, _, _, h1 => by
    simp only [List.getElem_cons_zero] at h1 ⊢
    rw [List.find?_cons, h1]
  | r :: rs, i + 1, hi, h0, h1 => by
    have h2 := h0 0 (by omega)
    simp only [List.getElem_cons_zero] at h2
    rw [List.find?_cons, h2]
    simp only [List.getElem_cons_succ] at h1 ⊢
    exact find_at (by simpa using hi) (fun j h => by have := h0 (j + 1) (by omega); simpa using this) h1
theorem find_no {p : Row → Bool} {rs : List Row} (h : ∀ j (h : j < rs.length), p rs[j] = false) : rs.find? p = none := by
  rw [List.find?_eq_none]
  intro x hx
  obtain ⟨j, hj, rfl⟩ := List.getElem_of_mem hx
  rw [h j hj]; simp
section
variable {rs : List Row} {i : Nat}
theorem remL_at (ha : rs.Pairwise fun a b => a.id < b.id) (hi : i < rs.length) : rs.take i ++ rs.drop (i + 1) = remL rs[i].id rs := by
  have e : rs = rs.take i ++ rs[i] :: rs.drop (i + 1) := by rw [← List.drop_eq_getElem_cons hi, List.take_append_drop]
  rw [e, List.pairwise_append] at ha
  have h1 : ∀ d ∈ rs.take i, d.id ≠ rs[i].id := fun d hd => by have := ha.2.2 d hd rs[i] List.mem_cons_self; omega
  have h2 : ∀ d ∈ rs.drop (i + 1), d.id ≠ rs[i].id := fun d hd => by have := (List.pairwise_cons.1 ha.2.1).1 d hd; omega
  have := remL_split (r := rs[i]) h1 h2
  rw [← e] at this
  exact this.symm
theorem replL_at {r : Row} (ha : rs.Pairwise fun a b => a.id < b.id) (hi : i < rs.length) (e : r.id = rs[i].id) : rs.set i r = replL r rs := by
  have e0 : rs = rs.take i ++ rs[i] :: rs.drop (i + 1) := by rw [← List.drop_eq_getElem_cons hi, List.take_append_drop]
  rw [e0, List.pairwise_append] at ha
  have h1 : ∀ d ∈ rs.take i, d.id ≠ rs[i].id := fun d hd => by have := ha.2.2 d hd rs[i] List.mem_cons_self; omega
  have h2 : ∀ d ∈ rs.drop (i + 1), d.id ≠ rs[i].id := fun d hd => by have := (List.pairwise_cons.1 ha.2.1).1 d hd; omega
  have := replL_split (r := rs[i]) e h1 h2
  rw [← e0] at this
  rw [this, List.set_eq_take_append_cons_drop, if_pos hi]
end
attribute [local irreducible] fBuild fLook fZero eqv bEqv Cl MapH LsH SlH ld1 ldN st callP eBox eAlloc lenM lenL eMapSet eDelete eAppend eBuildSl eRange eNext
section
variable {w0 w : World} {L : List HP} {K : Value → World → Prop} {v : Value} {n next : Int} {rs : List Row} {r : Row}
theorem refB_iff : Sat w0 (RefB v n next rs :: L) w ↔ ∃ p s, v = ptr p ∧ Sat w0 (Cl p #[.int .i64 n, .int .i64 next, s] 149 :: LsH cRow 11 33 s rs :: L) w := by
  simp only [RefB, Sat.ex_iff, Sat.pr_iff, Sat.star_iff]
theorem rsign_spec {a b : Evt} (h : Sat w0 L w) (hK : ∀ w', Sat w0 L w' → K (.bool (decide (sgOf a = sgOf b))) w') : callP G128 [evV a, evV b] w K := by
  refine c128 ?_
  unfold F128
  (repeat (first
 | (simp (disch := omega) only [evA, evB, evC, bAdd_i64, bSub_i64])
 | (with_reducible apply go_ld1 h)
 | ((with_reducible first | apply go_ldA h | apply go_rd h | apply go_rdN h | apply go_rlen h); rfl)
 | (with_reducible first | apply go_ldN h | apply go_lenL h)
 | ((with_reducible apply go_st h); intro _ h)
 | ((with_reducible apply go_stA h); rfl; rfl; (first | rfl | simp [OneV.o]); intro _ h)
 | ((with_reducible apply go_stN h); rfl; (first | rfl | simp [OneV.o]); intro _ h)
 | ((with_reducible apply go_box h); rfl; intro _ _ h)
 | ((with_reducible apply go_ix h); omega)
 | ((with_reducible first | apply go_elN h | apply go_f1 h | apply go_rf1 h | apply go_rel h); (case hi => omega); (try case hx => exact inferInstance); (try case hv => rfl))
 | ((with_reducible apply go_fa h); omega; omega)
))
  by_cases e1 : a.node = b.node
  case' neg =>
    have e2 : decide (sgOf a = sgOf b) = false := by simp [sgOf, e1]
    rw [e2] at hK
    rw [decide_eq_false e1]
    (repeat (first
 | (simp (disch := omega) only [evA, evB, evC, bAdd_i64, bSub_i64])
 | (with_reducible apply go_ld1 h)
 | ((with_reducible first | apply go_ldA h | apply go_rd h | apply go_rdN h | apply go_rlen h); rfl)
 | (with_reducible first | apply go_ldN h | apply go_lenL h)
 | ((with_reducible apply go_st h); intro _ h)
 | ((with_reducible apply go_stA h); rfl; rfl; (first | rfl | simp [OneV.o]); intro _ h)
 | ((with_reducible apply go_stN h); rfl; (first | rfl | simp [OneV.o]); intro _ h)
 | ((with_reducible apply go_box h); rfl; intro _ _ h)
 | ((with_reducible apply go_ix h); omega)
 | ((with_reducible first | apply go_elN h | apply go_f1 h | apply go_rf1 h | apply go_rel h); (case hi => omega); (try case hx => exact inferInstance); (try case hv => rfl))
 | ((with_reducible apply go_fa h); omega; omega)
))
    exact hK _ (h.got)
  rw [decide_eq_true e1]
  (repeat (first
 | (simp (disch := omega) only [evA, evB, evC, bAdd_i64, bSub_i64])
 | (with_reducible apply go_ld1 h)
 | ((with_reducible first | apply go_ldA h | apply go_rd h | apply go_rdN h | apply go_rlen h); rfl)
 | (with_reducible first | apply go_ldN h | apply go_lenL h)
 | ((with_reducible apply go_st h); intro _ h)
 | ((with_reducible apply go_stA h); rfl; rfl; (first | rfl | simp [OneV.o]); intro _ h)
 | ((with_reducible apply go_stN h); rfl; (first | rfl | simp [OneV.o]); intro _ h)
 | ((with_reducible apply go_box h); rfl; intro _ _ h)
 | ((with_reducible apply go_ix h); omega)
 | ((with_reducible first | apply go_elN h | apply go_f1 h | apply go_rf1 h | apply go_rel h); (case hi => omega); (try case hx => exact inferInstance); (try case hv => rfl))
 | ((with_reducible apply go_fa h); omega; omega)
))
  by_cases e2 : a.cls = b.cls
  case' neg =>
    have e2 : decide (sgOf a = sgOf b) = false := by simp [sgOf, e2]
    rw [e2] at hK
    rw [decide_eq_false ‹¬ a.cls = b.cls›]
    (repeat (first
 | (simp (disch := omega) only [evA, evB, evC, bAdd_i64, bSub_i64])
 | (with_reducible apply go_ld1 h)
 | ((with_reducible first | apply go_ldA h | apply go_rd h | apply go_rdN h | apply go_rlen h); rfl)
 | (with_reducible first | apply go_ldN h | apply go_lenL h)
 | ((with_reducible apply go_st h); intro _ h)
 | ((with_reducible apply go_stA h); rfl; rfl; (first | rfl | simp [OneV.o]); intro _ h)
 | ((with_reducible apply go_stN h); rfl; (first | rfl | simp [OneV.o]); intro _ h)
 | ((with_reducible apply go_box h); rfl; intro _ _ h)
 | ((with_reducible apply go_ix h); omega)
 | ((with_reducible first | apply go_elN h | apply go_f1 h | apply go_rf1 h | apply go_rel h); (case hi => omega); (try case hx => exact inferInstance); (try case hv => rfl))
 | ((with_reducible apply go_fa h); omega; omega)
))
    exact hK _ (h.got)
  rw [decide_eq_true e2]
  (repeat (first
 | (simp (disch := omega) only [evA, evB, evC, bAdd_i64, bSub_i64])
 | (with_reducible apply go_ld1 h)
 | ((with_reducible first | apply go_ldA h | apply go_rd h | apply go_rdN h | apply go_rlen h); rfl)
 | (with_reducible first | apply go_ldN h | apply go_lenL h)
 | ((with_reducible apply go_st h); intro _ h)
 | ((with_reducible apply go_stA h); rfl; rfl; (first | rfl | simp [OneV.o]); intro _ h)
 | ((with_reducible apply go_stN h); rfl; (first | rfl | simp [OneV.o]); intro _ h)
 | ((with_reducible apply go_box h); rfl; intro _ _ h)
 | ((with_reducible apply go_ix h); omega)
 | ((with_reducible first | apply go_elN h | apply go_f1 h | apply go_rf1 h | apply go_rel h); (case hi => omega); (try case hx => exact inferInstance); (try case hv => rfl))
 | ((with_reducible apply go_fa h); omega; omega)
))
  have e3 : decide (a.key = b.key) = decide (sgOf a = sgOf b) := by simp [sgOf, e1, e2]
  rw [e3]
  exact hK _ (h.got)
theorem rplace_loop {p q : Nat} {s : Value} {e : Evt} (hl : rs.length ≤ 1073741824) (hK0 : (rs.find? fun d => decide (sgOf d.e = sgOf e)) = none → ∀ w', Sat w0 (Cl q (cEv e).toArray 31 :: Cl p #[.int .i64 n, .int .i64 next, s] 149 :: LsH cRow 11 33 s rs :: L) w' → K (.int .i64 (-1)) w')
    (hK1 : ∀ i (hi : i < rs.length), (rs.find? fun d => decide (sgOf d.e = sgOf e)) = some rs[i] → ∀ w', Sat w0 (Cl q (cEv e).toArray 31 :: Cl p #[.int .i64 n, .int .i64 next, s] 149 :: LsH cRow 11 33 s rs :: L) w' → K (.int .i64 (i : Nat)) w') :
    ∀ (d i : Nat) (w : World), rs.length - i < d → i ≤ rs.length → (∀ j (h : j < i) (hj : j < rs.length), decide (sgOf rs[j].e = sgOf e) = false) →
      Sat w0 (Cl q (cEv e).toArray 31 :: Cl p #[.int .i64 n, .int .i64 next, s] 149 :: LsH cRow 11 33 s rs :: L) w → F122_2L d (ptr p) (ptr q) (.int .i64 i) w K := by
  intro d
  induction d with
  | zero => intro i w hd; omega
  | succ d ih =>
    intro i w hd hi h0 h
    rw [F122_2L]
    unfold F122_2b
    by_cases g : i < rs.length
    · have g' : decide ((i : Int) < (rs.length : Int)) = true := by simpa using g
      (repeat (first
 | (simp (disch := omega) only [evA, evB, evC, bAdd_i64, bSub_i64, g'])
 | (with_reducible apply go_ld1 h)
 | ((with_reducible first | apply go_ldA h | apply go_rd h | apply go_rdN h | apply go_rlen h); rfl)
 | (with_reducible first | apply go_ldN h | apply go_lenL h)
 | ((with_reducible apply go_st h); intro _ h)
 | ((with_reducible apply go_stA h); rfl; rfl; (first | rfl | simp [OneV.o]); intro _ h)
 | ((with_reducible apply go_stN h); rfl; (first | rfl | simp [OneV.o]); intro _ h)
 | ((with_reducible apply go_box h); rfl; intro _ _ h)
 | ((with_reducible apply go_ix h); omega)
 | ((with_reducible first | apply go_elN h | apply go_f1 h | apply go_rf1 h | apply go_rel h); (case hi => omega); (try case hx => exact inferInstance); (try case hv => rfl))
 | ((with_reducible first | apply go_fN h | apply go_rfN h); (case hi => omega); (try case hp => exact inferInstance); (try case hv => rfl))
 | ((with_reducible apply go_fa h); omega; omega)
))
      refine rsign_spec (a := rs[i].e) (b := e) h.drew fun w h => ?_
      cases hs : decide (sgOf rs[i].e = sgOf e)
      · (repeat (first
 | (simp (disch := omega) only [evA, evB, evC, bAdd_i64, bSub_i64])
 | (with_reducible apply go_ld1 h)
 | ((with_reducible first | apply go_ldA h | apply go_rd h | apply go_rdN h | apply go_rlen h); rfl)
 | (with_reducible first | apply go_ldN h | apply go_lenL h)
 | ((with_reducible apply go_st h); intro _ h)
 | ((with_reducible apply go_stA h); rfl; rfl; (first | rfl | simp [OneV.o]); intro _ h)
 | ((with_reducible apply go_stN h); rfl; (first | rfl | simp [OneV.o]); intro _ h)
 | ((with_reducible apply go_box h); rfl; intro _ _ h)
 | ((with_reducible apply go_ix h); omega)
 | ((with_reducible first | apply go_elN h | apply go_f1 h | apply go_rf1 h | apply go_rel h); (case hi => omega); (try case hx => exact inferInstance); (try case hv => rfl))
 | ((with_reducible apply go_fa h); omega; omega)
))
        refine ih (i + 1) _ (by omega) (by omega) (fun j h hj => ?_) h
        by_cases ej : j = i
        · subst ej; exact hs
        · exact h0 j (by omega) hj
      · (repeat (first
 | (simp (disch := omega) only [evA, evB, evC, bAdd_i64, bSub_i64])
 | (with_reducible apply go_ld1 h)
 | ((with_reducible first | apply go_ldA h | apply go_rd h | apply go_rdN h | apply go_rlen h); rfl)
 | (with_reducible first | apply go_ldN h | apply go_lenL h)
 | ((with_reducible apply go_st h); intro _ h)
 | ((with_reducible apply go_stA h); rfl; rfl; (first | rfl | simp [OneV.o]); intro _ h)
 | ((with_reducible apply go_stN h); rfl; (first | rfl | simp [OneV.o]); intro _ h)
 | ((with_reducible apply go_box h); rfl; intro _ _ h)
 | ((with_reducible apply go_ix h); omega)
 | ((with_reducible first | apply go_elN h | apply go_f1 h | apply go_rf1 h | apply go_rel h); (case hi => omega); (try case hx => exact inferInstance); (try case hv => rfl))
 | ((with_reducible apply go_fa h); omega; omega)
))
        exact hK1 i g (find_at g (fun j h => h0 j h (by omega)) hs) _ h
    · have g' : decide ((i : Int) < (rs.length : Int)) = false := by simpa using g
      (repeat (first
 | (simp (disch := omega) only [evA, evB, evC, bAdd_i64, bSub_i64, g'])
 | (with_reducible apply go_ld1 h)
 | ((with_reducible first | apply go_ldA h | apply go_rd h | apply go_rdN h | apply go_rlen h); rfl)
 | (with_reducible first | apply go_ldN h | apply go_lenL h)
 | ((with_reducible apply go_st h); intro _ h)
 | ((with_reducible apply go_stA h); rfl; rfl; (first | rfl | simp [OneV.o]); intro _ h)
 | ((with_reducible apply go_stN h); rfl; (first | rfl | simp [OneV.o]); intro _ h)
 | ((with_reducible apply go_box h); rfl; intro _ _ h)
 | ((with_reducible apply go_ix h); omega)
 | ((with_reducible first | apply go_elN h | apply go_f1 h | apply go_rf1 h | apply go_rel h); (case hi => omega); (try case hx => exact inferInstance); (try case hv => rfl))
 | ((with_reducible apply go_fa h); omega; omega)
))
      unfold F122_3 F122_3b
      exact hK0 (find_no fun j hj => h0 j (by omega) hj) _ h
theorem rplace_spec {e : Evt} (hl : rs.length ≤ 1073741824) (h : Sat w0 (RefB v n next rs :: L) w) (hK0 : (rs.find? fun d => decide (sgOf d.e = sgOf e)) = none → ∀ w', Sat w0 (RefB v n next rs :: L) w' → K (.int .i64 (-1)) w')
    (hK1 : ∀ i (hi : i < rs.length), (rs.find? fun d => decide (sgOf d.e = sgOf e)) = some rs[i] → ∀ w', Sat w0 (RefB v n next rs :: L) w' → K (.int .i64 (i : Nat)) w') : callP G122 [v, evV e] w K := by
  refine c122 ?_
  unfold F122 F122_1 F122_1b F122_2
  replace h := refB_iff.1 h
  obtain ⟨p, s, rfl, h⟩ := h
  (repeat (first
 | (simp (disch := omega) only [evA, evB, evC, bAdd_i64, bSub_i64])
 | (with_reducible apply go_ld1 h)
 | ((with_reducible first | apply go_ldA h | apply go_rd h | apply go_rdN h | apply go_rlen h); rfl)
 | (with_reducible first | apply go_ldN h | apply go_lenL h)
 | ((with_reducible apply go_st h); intro _ h)
 | ((with_reducible apply go_stA h); rfl; rfl; (first | rfl | simp [OneV.o]); intro _ h)
 | ((with_reducible apply go_stN h); rfl; (first | rfl | simp [OneV.o]); intro _ h)
 | ((with_reducible apply go_box h); rfl; intro _ _ h)
 | ((with_reducible apply go_ix h); omega)
 | ((with_reducible first | apply go_elN h | apply go_f1 h | apply go_rf1 h | apply go_rel h); (case hi => omega); (try case hx => exact inferInstance); (try case hv => rfl))
 | ((with_reducible apply go_fa h); omega; omega)
))
  refine rplace_loop (L := L) hl (fun hf w h => hK0 hf w (refB_iff.2 ⟨p, s, rfl, h.drop⟩)) (fun i hi hf w h => hK1 i hi hf w (refB_iff.2 ⟨p, s, rfl, h.drop⟩)) fuel 0 _ (by unfold fuel; omega) (by omega) (fun j h => by omega) h
theorem rat_loop {p : Nat} {s : Value} {id : Int} (hl : rs.length ≤ 1073741824) (hK0 : (rs.find? fun d => decide (d.id = id)) = none → K (.int .i64 (-1)) w)
    (hK1 : ∀ i (hi : i < rs.length), (rs.find? fun d => decide (d.id = id)) = some rs[i] → K (.int .i64 (i : Nat)) w)
    (h : Sat w0 (Cl p #[.int .i64 n, .int .i64 next, s] 149 :: LsH cRow 11 33 s rs :: L) w) :
    ∀ (d i : Nat), rs.length - i < d → i ≤ rs.length → (∀ j (h : j < i) (hj : j < rs.length), decide (rs[j].id = id) = false) → F125_2L d (ptr p) (.int .i64 id) (.int .i64 i) w K := by
  intro d
  induction d with
  | zero => intro i hd; omega
  | succ d ih =>
    intro i hd hi h0
    rw [F125_2L]
    unfold F125_2b
    by_cases g : i < rs.length
    · have g' : decide ((i : Int) < (rs.length : Int)) = true := by simpa using g
      (repeat (first
 | (simp (disch := omega) only [evA, evB, evC, bAdd_i64, bSub_i64, g'])
 | (with_reducible apply go_ld1 h)
 | ((with_reducible first | apply go_ldA h | apply go_rd h | apply go_rdN h | apply go_rlen h); rfl)
 | (with_reducible first | apply go_ldN h | apply go_lenL h)
 | ((with_reducible apply go_st h); intro _ h)
 | ((with_reducible apply go_stA h); rfl; rfl; (first | rfl | simp [OneV.o]); intro _ h)
 | ((with_reducible apply go_stN h); rfl; (first | rfl | simp [OneV.o]); intro _ h)
 | ((with_reducible apply go_box h); rfl; intro _ _ h)
 | ((with_reducible apply go_ix h); omega)
 | ((with_reducible first | apply go_elN h | apply go_f1 h | apply go_rf1 h | apply go_rel h); (case hi => omega); (try case hx => exact inferInstance); (try case hv => rfl))
 | ((with_reducible apply go_fa h); omega; omega)
))
      cases hs : decide (rs[i].id = id)
      · (repeat (first
 | (simp (disch := omega) only [evA, evB, evC, bAdd_i64, bSub_i64])
 | (with_reducible apply go_ld1 h)
 | ((with_reducible first | apply go_ldA h | apply go_rd h | apply go_rdN h | apply go_rlen h); rfl)
 | (with_reducible first | apply go_ldN h | apply go_lenL h)
 | ((with_reducible apply go_st h); intro _ h)
 | ((with_reducible apply go_stA h); rfl; rfl; (first | rfl | simp [OneV.o]); intro _ h)
 | ((with_reducible apply go_stN h); rfl; (first | rfl | simp [OneV.o]); intro _ h)
 | ((with_reducible apply go_box h); rfl; intro _ _ h)
 | ((with_reducible apply go_ix h); omega)
 | ((with_reducible first | apply go_elN h | apply go_f1 h | apply go_rf1 h | apply go_rel h); (case hi => omega); (try case hx => exact inferInstance); (try case hv => rfl))
 | ((with_reducible apply go_fa h); omega; omega)
))
        refine ih (i + 1) (by omega) (by omega) (fun j h hj => ?_)
        by_cases ej : j = i
        · subst ej; exact hs
        · exact h0 j (by omega) hj
      · (repeat (first
 | (simp (disch := omega) only [evA, evB, evC, bAdd_i64, bSub_i64])
 | (with_reducible apply go_ld1 h)
 | ((with_reducible first | apply go_ldA h | apply go_rd h | apply go_rdN h | apply go_rlen h); rfl)
 | (with_reducible first | apply go_ldN h | apply go_lenL h)
 | ((with_reducible apply go_st h); intro _ h)
 | ((with_reducible apply go_stA h); rfl; rfl; (first | rfl | simp [OneV.o]); intro _ h)
 | ((with_reducible apply go_stN h); rfl; (first | rfl | simp [OneV.o]); intro _ h)
 | ((with_reducible apply go_box h); rfl; intro _ _ h)
 | ((with_reducible apply go_ix h); omega)
 | ((with_reducible first | apply go_elN h | apply go_f1 h | apply go_rf1 h | apply go_rel h); (case hi => omega); (try case hx => exact inferInstance); (try case hv => rfl))
 | ((with_reducible apply go_fa h); omega; omega)
))
        exact hK1 i g (find_at g (fun j h => h0 j h (by omega)) hs)
    · have g' : decide ((i : Int) < (rs.length : Int)) = false := by simpa using g
      (repeat (first
 | (simp (disch := omega) only [evA, evB, evC, bAdd_i64, bSub_i64, g'])
 | (with_reducible apply go_ld1 h)
 | ((with_reducible first | apply go_ldA h | apply go_rd h | apply go_rdN h | apply go_rlen h); rfl)
 | (with_reducible first | apply go_ldN h | apply go_lenL h)
 | ((with_reducible apply go_st h); intro _ h)
 | ((with_reducible apply go_stA h); rfl; rfl; (first | rfl | simp [OneV.o]); intro _ h)
 | ((with_reducible apply go_stN h); rfl; (first | rfl | simp [OneV.o]); intro _ h)
 | ((with_reducible apply go_box h); rfl; intro _ _ h)
 | ((with_reducible apply go_ix h); omega)
 | ((with_reducible first | apply go_elN h | apply go_f1 h | apply go_rf1 h | apply go_rel h); (case hi => omega); (try case hx => exact inferInstance); (try case hv => rfl))
 | ((with_reducible apply go_fa h); omega; omega)
))
      unfold F125_3 F125_3b
      exact hK0 (find_no fun j hj => h0 j (by omega) hj)
theorem rat_spec {id : Int} (hl : rs.length ≤ 1073741824) (h : Sat w0 (RefB v n next rs :: L) w) (hK0 : (rs.find? fun d => decide (d.id = id)) = none → K (.int .i64 (-1)) w)
    (hK1 : ∀ i (hi : i < rs.length), (rs.find? fun d => decide (d.id = id)) = some rs[i] → K (.int .i64 (i : Nat)) w) : callP G125 [v, .int .i64 id] w K := by
  refine c125 ?_
  unfold F125 F125_1 F125_1b F125_2
  replace h := refB_iff.1 h
  obtain ⟨p, s, rfl, h⟩ := h
  exact rat_loop hl hK0 hK1 h fuel 0 (by unfold fuel; omega) (by omega) (fun j h => by omega)
theorem rtake_spec {i : Nat} (hl : rs.length ≤ 1073741824) (hi : i < rs.length) (h : Sat w0 (RefB v n next rs :: L) w) (hK : ∀ w', Sat w0 (RefB v n next (rs.take i ++ rs.drop (i + 1)) :: L) w' → K (rowV rs[i]) w') : callP G123 [v, .int .i64 (i : Nat)] w K := by
  refine c123 ?_
  unfold F123
  replace h := refB_iff.1 h
  obtain ⟨p, s, rfl, h⟩ := h
  refine go_alloc h zR rfl fun _ _ h => ?_
  (repeat (first
 | (simp (disch := omega) only [evA, evB, evC, bAdd_i64, bSub_i64])
 | (with_reducible apply go_ld1 h)
 | ((with_reducible first | apply go_ldA h | apply go_rd h | apply go_rdN h | apply go_rlen h); rfl)
 | (with_reducible first | apply go_ldN h | apply go_lenL h)
 | ((with_reducible apply go_st h); intro _ h)
 | ((with_reducible apply go_stA h); rfl; rfl; (first | rfl | simp [OneV.o]); intro _ h)
 | ((with_reducible apply go_stN h); rfl; (first | rfl | simp [OneV.o]); intro _ h)
 | ((with_reducible apply go_box h); rfl; intro _ _ h)
 | ((with_reducible apply go_ix h); omega)
 | ((with_reducible first | apply go_elN h | apply go_f1 h | apply go_rf1 h | apply go_rel h); (case hi => omega); (try case hx => exact inferInstance); (try case hv => rfl))
 | ((with_reducible apply go_fa h); omega; omega)
))
  refine go_alloc h zR rfl fun _ _ h => ?_
  (repeat (first
 | (simp (disch := omega) only [evA, evB, evC, bAdd_i64, bSub_i64])
 | (with_reducible apply go_ld1 h)
 | ((with_reducible first | apply go_ldA h | apply go_rd h | apply go_rdN h | apply go_rlen h); rfl)
 | (with_reducible first | apply go_ldN h | apply go_lenL h)
 | ((with_reducible apply go_st h); intro _ h)
 | ((with_reducible apply go_stA h); rfl; rfl; (first | rfl | simp [OneV.o]); intro _ h)
 | ((with_reducible apply go_stN h); rfl; (first | rfl | simp [OneV.o]); intro _ h)
 | ((with_reducible apply go_box h); rfl; intro _ _ h)
 | ((with_reducible apply go_ix h); omega)
 | ((with_reducible first | apply go_elN h | apply go_f1 h | apply go_rf1 h | apply go_rel h); (case hi => omega); (try case hx => exact inferInstance); (try case hv => rfl))
 | ((with_reducible apply go_fa h); omega; omega)
))
  refine go_subTo' h.drew (i := i) (by omega) fun v1 r1 => ?_
  (repeat (first
 | (simp (disch := omega) only [evA, evB, evC, bAdd_i64, bSub_i64])
 | (with_reducible apply go_ld1 h)
 | ((with_reducible first | apply go_ldA h | apply go_rd h | apply go_rdN h | apply go_rlen h); rfl)
 | (with_reducible first | apply go_ldN h | apply go_lenL h)
 | ((with_reducible apply go_st h); intro _ h)
 | ((with_reducible apply go_stA h); rfl; rfl; (first | rfl | simp [OneV.o]); intro _ h)
 | ((with_reducible apply go_stN h); rfl; (first | rfl | simp [OneV.o]); intro _ h)
 | ((with_reducible apply go_box h); rfl; intro _ _ h)
 | ((with_reducible apply go_ix h); omega)
 | ((with_reducible first | apply go_elN h | apply go_f1 h | apply go_rf1 h | apply go_rel h); (case hi => omega); (try case hx => exact inferInstance); (try case hv => rfl))
 | ((with_reducible apply go_fa h); omega; omega)
))
  refine go_subFrom' (jk := .i64) h.drew (i := i + 1) (by omega) fun v2 r2 => ?_
  refine go_lit0 CR h u74 (by kernel_rfl) fun s2 w h => ?_
  (repeat (first
 | (simp (disch := omega) only [evA, evB, evC, bAdd_i64, bSub_i64])
 | (with_reducible apply go_ld1 h)
 | ((with_reducible first | apply go_ldA h | apply go_rd h | apply go_rdN h | apply go_rlen h); rfl)
 | (with_reducible first | apply go_ldN h | apply go_lenL h)
 | ((with_reducible apply go_st h); intro _ h)
 | ((with_reducible apply go_stA h); rfl; rfl; (first | rfl | simp [OneV.o]); intro _ h)
 | ((with_reducible apply go_stN h); rfl; (first | rfl | simp [OneV.o]); intro _ h)
 | ((with_reducible apply go_box h); rfl; intro _ _ h)
 | ((with_reducible apply go_ix h); omega)
 | ((with_reducible first | apply go_elN h | apply go_f1 h | apply go_rf1 h | apply go_rel h); (case hi => omega); (try case hx => exact inferInstance); (try case hv => rfl))
 | ((with_reducible apply go_fa h); omega; omega)
))
  refine ls_app (l := []) (m := rs.take i) CR (h.frt) sl74 ss74 (r1 h inferInstance) (by simp; omega) fun s3 w h => ?_
  (repeat (first
 | (simp (disch := omega) only [evA, evB, evC, bAdd_i64, bSub_i64])
 | (with_reducible apply go_ld1 h)
 | ((with_reducible first | apply go_ldA h | apply go_rd h | apply go_rdN h | apply go_rlen h); rfl)
 | (with_reducible first | apply go_ldN h | apply go_lenL h)
 | ((with_reducible apply go_st h); intro _ h)
 | ((with_reducible apply go_stA h); rfl; rfl; (first | rfl | simp [OneV.o]); intro _ h)
 | ((with_reducible apply go_stN h); rfl; (first | rfl | simp [OneV.o]); intro _ h)
 | ((with_reducible apply go_box h); rfl; intro _ _ h)
 | ((with_reducible apply go_ix h); omega)
 | ((with_reducible first | apply go_elN h | apply go_f1 h | apply go_rf1 h | apply go_rel h); (case hi => omega); (try case hx => exact inferInstance); (try case hv => rfl))
 | ((with_reducible apply go_fa h); omega; omega)
))
  refine ls_app (l := [] ++ rs.take i) (m := rs.drop (i + 1)) CR (h.frt) sl74 ss74 (r2 h inferInstance) (by simp; omega) fun s4 w h => ?_
  rw [List.nil_append] at h
  have := ls_one h
  (repeat (first
 | (simp (disch := omega) only [evA, evB, evC, bAdd_i64, bSub_i64])
 | (with_reducible apply go_ld1 h)
 | ((with_reducible first | apply go_ldA h | apply go_rd h | apply go_rdN h | apply go_rlen h); rfl)
 | (with_reducible first | apply go_ldN h | apply go_lenL h)
 | ((with_reducible apply go_st h); intro _ h)
 | ((with_reducible apply go_stA h); rfl; rfl; (first | rfl | simp [OneV.o]); intro _ h)
 | ((with_reducible apply go_stN h); rfl; (first | rfl | simp [OneV.o]); intro _ h)
 | ((with_reducible apply go_box h); rfl; intro _ _ h)
 | ((with_reducible apply go_ix h); omega)
 | ((with_reducible first | apply go_elN h | apply go_f1 h | apply go_rf1 h | apply go_rel h); (case hi => omega); (try case hx => exact inferInstance); (try case hv => rfl))
 | ((with_reducible apply go_fa h); omega; omega)
))
  exact hK _ (refB_iff.2 ⟨p, s4, rfl, h.got⟩)
theorem ragain_spec {i : Nat} {e : Evt} {now : Int} (hl : rs.length ≤ 1073741824) (hi : i < rs.length) (ht : 0 ≤ rs[i].tally ∧ rs[i].tally ≤ 1099511627776) (h : Sat w0 (RefB v n next rs :: L) w)
    (hK : ∀ w', Sat w0 (RefB v n next (rs.set i (againP rs[i] e now).1) :: L) w' → K (.tuple #[rowV (againP rs[i] e now).1, .int .i64 (againP rs[i] e now).2]) w') : callP G124 [v, .int .i64 (i : Nat), evV e, .int .i64 now] w K := by
  refine c124 ?_
  unfold F124 F124_1 F124_1b
  replace h := refB_iff.1 h
  obtain ⟨p, s, rfl, h⟩ := h
  (repeat (first
 | (simp (disch := omega) only [evA, evB, evC, bAdd_i64, bSub_i64])
 | (with_reducible apply go_ld1 h)
 | ((with_reducible first | apply go_ldA h | apply go_rd h | apply go_rdN h | apply go_rlen h); rfl)
 | (with_reducible first | apply go_ldN h | apply go_lenL h)
 | ((with_reducible apply go_st h); intro _ h)
 | ((with_reducible apply go_stA h); rfl; rfl; (first | rfl | simp [OneV.o]); intro _ h)
 | ((with_reducible apply go_stN h); rfl; (first | rfl | simp [OneV.o]); intro _ h)
 | ((with_reducible apply go_box h); rfl; intro _ _ h)
 | ((with_reducible apply go_ix h); omega)
 | ((with_reducible first | apply go_elN h | apply go_f1 h | apply go_rf1 h | apply go_rel h); (case hi => omega); (try case hx => exact inferInstance); (try case hv => rfl))
 | ((with_reducible apply go_fa h); omega; omega)
))
  refine go_alloc h zR rfl fun p0 _ h => ?_
  (repeat (first
 | (simp (disch := omega) only [evA, evB, evC, bAdd_i64, bSub_i64])
 | (with_reducible apply go_ld1 h)
 | ((with_reducible first | apply go_ldA h | apply go_rd h | apply go_rdN h | apply go_rlen h); rfl)
 | (with_reducible first | apply go_ldN h | apply go_lenL h)
 | ((with_reducible apply go_st h); intro _ h)
 | ((with_reducible apply go_stA h); rfl; rfl; (first | rfl | simp [OneV.o]); intro _ h)
 | ((with_reducible apply go_stN h); rfl; (first | rfl | simp [OneV.o]); intro _ h)
 | ((with_reducible apply go_box h); rfl; intro _ _ h)
 | ((with_reducible apply go_ix h); omega)
 | ((with_reducible first | apply go_elN h | apply go_f1 h | apply go_rf1 h | apply go_rel h); (case hi => omega); (try case hx => exact inferInstance); (try case hv => rfl))
 | ((with_reducible apply go_fa h); omega; omega)
))
  refine go_alloc h zR rfl fun p1 _ h => ?_
  (repeat (first
 | (simp (disch := omega) only [evA, evB, evC, bAdd_i64, bSub_i64])
 | (with_reducible apply go_ld1 h)
 | ((with_reducible first | apply go_ldA h | apply go_rd h | apply go_rdN h | apply go_rlen h); rfl)
 | (with_reducible first | apply go_ldN h | apply go_lenL h)
 | ((with_reducible apply go_st h); intro _ h)
 | ((with_reducible apply go_stA h); rfl; rfl; (first | rfl | simp [OneV.o]); intro _ h)
 | ((with_reducible apply go_stN h); rfl; (first | rfl | simp [OneV.o]); intro _ h)
 | ((with_reducible apply go_box h); rfl; intro _ _ h)
 | ((with_reducible apply go_ix h); omega)
 | ((with_reducible first | apply go_elN h | apply go_f1 h | apply go_rf1 h | apply go_rel h); (case hi => omega); (try case hx => exact inferInstance); (try case hv => rfl))
 | ((with_reducible apply go_fa h); omega; omega)
))
  have fin : ∀ (r' : Row) (x : Int) (L2 : List HP) (w : World), Sat w0 (Cl p1 (cRow r').toArray 33 :: Cl p0 (cRow zeroR).toArray 33 :: Cl p #[.int .i64 n, .int .i64 next, s] 149 :: LsH cRow 11 33 s rs :: L) w →
      r' = (againP rs[i] e now).1 → x = (againP rs[i] e now).2 → F124_4 (ptr p) (.int .i64 (i : Nat)) (ptr p0) (ptr p1) (.int .i64 x) w K := by
    intro r' x L2 w h er ex
    unfold F124_4 F124_4b
    refine go_lit0 CR h u74 (by kernel_rfl) fun s2 w h => ?_
    (repeat (first
 | (simp (disch := omega) only [evA, evB, evC, bAdd_i64, bSub_i64])
 | (with_reducible apply go_ld1 h)
 | ((with_reducible first | apply go_ldA h | apply go_rd h | apply go_rdN h | apply go_rlen h); rfl)
 | (with_reducible first | apply go_ldN h | apply go_lenL h)
 | ((with_reducible apply go_st h); intro _ h)
 | ((with_reducible apply go_stA h); rfl; rfl; (first | rfl | simp [OneV.o]); intro _ h)
 | ((with_reducible apply go_stN h); rfl; (first | rfl | simp [OneV.o]); intro _ h)
 | ((with_reducible apply go_box h); rfl; intro _ _ h)
 | ((with_reducible apply go_ix h); omega)
 | ((with_reducible first | apply go_elN h | apply go_f1 h | apply go_rf1 h | apply go_rel h); (case hi => omega); (try case hx => exact inferInstance); (try case hv => rfl))
 | ((with_reducible apply go_fa h); omega; omega)
))
    refine ls_app (l := []) (m := rs) CR h sl74 ss74 (ls_of h (.refl _) inferInstance) (by simp; omega) fun s3 w h => ?_
    rw [List.nil_append] at h
    (repeat (first
 | (simp (disch := omega) only [evA, evB, evC, bAdd_i64, bSub_i64])
 | (with_reducible apply go_ld1 h)
 | ((with_reducible first | apply go_ldA h | apply go_rd h | apply go_rdN h | apply go_rlen h); rfl)
 | (with_reducible first | apply go_ldN h | apply go_lenL h)
 | ((with_reducible apply go_st h); intro _ h)
 | ((with_reducible apply go_stA h); rfl; rfl; (first | rfl | simp [OneV.o]); intro _ h)
 | ((with_reducible apply go_stN h); rfl; (first | rfl | simp [OneV.o]); intro _ h)
 | ((with_reducible apply go_box h); rfl; intro _ _ h)
 | ((with_reducible apply go_ix h); omega)
 | ((with_reducible first | apply go_elN h | apply go_f1 h | apply go_rf1 h | apply go_rel h); (case hi => omega); (try case hx => exact inferInstance); (try case hv => rfl))
 | ((with_reducible apply go_fa h); omega; omega)
))
    refine ls_st CR (h.frt (A := LsH cRow 11 33 s3 rs)) hi r' rfl fun w h => ?_
    have := ls_one h
    (repeat (first
 | (simp (disch := omega) only [evA, evB, evC, bAdd_i64, bSub_i64])
 | (with_reducible apply go_ld1 h)
 | ((with_reducible first | apply go_ldA h | apply go_rd h | apply go_rdN h | apply go_rlen h); rfl)
 | (with_reducible first | apply go_ldN h | apply go_lenL h)
 | ((with_reducible apply go_st h); intro _ h)
 | ((with_reducible apply go_stA h); rfl; rfl; (first | rfl | simp [OneV.o]); intro _ h)
 | ((with_reducible apply go_stN h); rfl; (first | rfl | simp [OneV.o]); intro _ h)
 | ((with_reducible apply go_box h); rfl; intro _ _ h)
 | ((with_reducible apply go_ix h); omega)
 | ((with_reducible first | apply go_elN h | apply go_f1 h | apply go_rf1 h | apply go_rel h); (case hi => omega); (try case hx => exact inferInstance); (try case hv => rfl))
 | ((with_reducible apply go_fa h); omega; omega)
))
    subst er ex
    exact hK _ (refB_iff.2 ⟨p, s3, rfl, h.got⟩)
  have mid : ∀ (T : Int) (pe : Nat) (w : World), T = min (rs[i].tally + 1) 1099511627776 → Sat w0 (Cl pe (cEv e).toArray 31 :: Cl p1 (cRow { rs[i] with tally := T }).toArray 33 :: Cl p0 (cRow zeroR).toArray 33 :: Cl p #[.int .i64 n, .int .i64 next, s] 149 :: LsH cRow 11 33 s rs :: L) w →
      F124_2 (ptr p) (.int .i64 (i : Nat)) (.int .i64 now) (ptr pe) (ptr p0) (ptr p1) (.int .i64 0) w K := by
    intro T pe w hT h
    unfold F124_2 F124_2b
    (repeat (first
 | (simp (disch := omega) only [evA, evB, evC, bAdd_i64, bSub_i64])
 | (with_reducible apply go_ld1 h)
 | ((with_reducible first | apply go_ldA h | apply go_rd h | apply go_rdN h | apply go_rlen h); rfl)
 | (with_reducible first | apply go_ldN h | apply go_lenL h)
 | ((with_reducible apply go_st h); intro _ h)
 | ((with_reducible apply go_stA h); rfl; rfl; (first | rfl | simp [OneV.o]); intro _ h)
 | ((with_reducible apply go_stN h); rfl; (first | rfl | simp [OneV.o]); intro _ h)
 | ((with_reducible apply go_box h); rfl; intro _ _ h)
 | ((with_reducible apply go_ix h); omega)
 | ((with_reducible first | apply go_elN h | apply go_f1 h | apply go_rf1 h | apply go_rel h); (case hi => omega); (try case hx => exact inferInstance); (try case hv => rfl))
 | ((with_reducible apply go_fa h); omega; omega)
))
    unfold F124_3
    by_cases g1 : e.level = rs[i].e.level
    · rw [decide_eq_true g1]
      (repeat (first
 | (simp (disch := omega) only [evA, evB, evC, bAdd_i64, bSub_i64])
 | (with_reducible apply go_ld1 h)
 | ((with_reducible first | apply go_ldA h | apply go_rd h | apply go_rdN h | apply go_rlen h); rfl)
 | (with_reducible first | apply go_ldN h | apply go_lenL h)
 | ((with_reducible apply go_st h); intro _ h)
 | ((with_reducible apply go_stA h); rfl; rfl; (first | rfl | simp [OneV.o]); intro _ h)
 | ((with_reducible apply go_stN h); rfl; (first | rfl | simp [OneV.o]); intro _ h)
 | ((with_reducible apply go_box h); rfl; intro _ _ h)
 | ((with_reducible apply go_ix h); omega)
 | ((with_reducible first | apply go_elN h | apply go_f1 h | apply go_rf1 h | apply go_rel h); (case hi => omega); (try case hx => exact inferInstance); (try case hv => rfl))
 | ((with_reducible apply go_fa h); omega; omega)
))
      unfold F124_7 F124_7b
      refine fin ⟨rs[i].id, ⟨rs[i].e.node, rs[i].e.cls, rs[i].e.key, rs[i].e.level, e.text⟩, T, rs[i].first, max rs[i].last now, rs[i].acked, rs[i].who⟩ 0 L _ (h.got) ?_ ?_
      · unfold againP; rw [if_pos g1.symm, hT]
      · unfold againP; rw [if_pos g1.symm]
    · have g1' : ¬ rs[i].e.level = e.level := fun h => g1 h.symm
      rw [decide_eq_false g1]
      (repeat (first
 | (simp (disch := omega) only [evA, evB, evC, bAdd_i64, bSub_i64])
 | (with_reducible apply go_ld1 h)
 | ((with_reducible first | apply go_ldA h | apply go_rd h | apply go_rdN h | apply go_rlen h); rfl)
 | (with_reducible first | apply go_ldN h | apply go_lenL h)
 | ((with_reducible apply go_st h); intro _ h)
 | ((with_reducible apply go_stA h); rfl; rfl; (first | rfl | simp [OneV.o]); intro _ h)
 | ((with_reducible apply go_stN h); rfl; (first | rfl | simp [OneV.o]); intro _ h)
 | ((with_reducible apply go_box h); rfl; intro _ _ h)
 | ((with_reducible apply go_ix h); omega)
 | ((with_reducible first | apply go_elN h | apply go_f1 h | apply go_rf1 h | apply go_rel h); (case hi => omega); (try case hx => exact inferInstance); (try case hv => rfl))
 | ((with_reducible apply go_fa h); omega; omega)
))
      unfold F124_5 F124_5b
      by_cases g2 : e.level > rs[i].e.level
      · have g2' : decide (e.level > rs[i].e.level) = true := by simpa using g2
        (repeat (first
 | (simp (disch := omega) only [evA, evB, evC, bAdd_i64, bSub_i64, g2'])
 | (with_reducible apply go_ld1 h)
 | ((with_reducible first | apply go_ldA h | apply go_rd h | apply go_rdN h | apply go_rlen h); rfl)
 | (with_reducible first | apply go_ldN h | apply go_lenL h)
 | ((with_reducible apply go_st h); intro _ h)
 | ((with_reducible apply go_stA h); rfl; rfl; (first | rfl | simp [OneV.o]); intro _ h)
 | ((with_reducible apply go_stN h); rfl; (first | rfl | simp [OneV.o]); intro _ h)
 | ((with_reducible apply go_box h); rfl; intro _ _ h)
 | ((with_reducible apply go_ix h); omega)
 | ((with_reducible first | apply go_elN h | apply go_f1 h | apply go_rf1 h | apply go_rel h); (case hi => omega); (try case hx => exact inferInstance); (try case hv => rfl))
 | ((with_reducible apply go_fa h); omega; omega)
))
        unfold F124_6 F124_6b
        (repeat (first
 | (simp (disch := omega) only [evA, evB, evC, bAdd_i64, bSub_i64])
 | (with_reducible apply go_ld1 h)
 | ((with_reducible first | apply go_ldA h | apply go_rd h | apply go_rdN h | apply go_rlen h); rfl)
 | (with_reducible first | apply go_ldN h | apply go_lenL h)
 | ((with_reducible apply go_st h); intro _ h)
 | ((with_reducible apply go_stA h); rfl; rfl; (first | rfl | simp [OneV.o]); intro _ h)
 | ((with_reducible apply go_stN h); rfl; (first | rfl | simp [OneV.o]); intro _ h)
 | ((with_reducible apply go_box h); rfl; intro _ _ h)
 | ((with_reducible apply go_ix h); omega)
 | ((with_reducible first | apply go_elN h | apply go_f1 h | apply go_rf1 h | apply go_rel h); (case hi => omega); (try case hx => exact inferInstance); (try case hv => rfl))
 | ((with_reducible apply go_fa h); omega; omega)
))
        refine fin ⟨rs[i].id, ⟨rs[i].e.node, rs[i].e.cls, rs[i].e.key, e.level, e.text⟩, T, rs[i].first, max rs[i].last now, false, []⟩ 2 L _ (h.got) ?_ ?_
        · unfold againP; rw [if_neg g1', if_pos (by omega), hT]
        · unfold againP; rw [if_neg g1', if_pos (by omega)]
      · have g2' : decide (e.level > rs[i].e.level) = false := by simpa using g2
        (repeat (first
 | (simp (disch := omega) only [evA, evB, evC, bAdd_i64, bSub_i64, g2'])
 | (with_reducible apply go_ld1 h)
 | ((with_reducible first | apply go_ldA h | apply go_rd h | apply go_rdN h | apply go_rlen h); rfl)
 | (with_reducible first | apply go_ldN h | apply go_lenL h)
 | ((with_reducible apply go_st h); intro _ h)
 | ((with_reducible apply go_stA h); rfl; rfl; (first | rfl | simp [OneV.o]); intro _ h)
 | ((with_reducible apply go_stN h); rfl; (first | rfl | simp [OneV.o]); intro _ h)
 | ((with_reducible apply go_box h); rfl; intro _ _ h)
 | ((with_reducible apply go_ix h); omega)
 | ((with_reducible first | apply go_elN h | apply go_f1 h | apply go_rf1 h | apply go_rel h); (case hi => omega); (try case hx => exact inferInstance); (try case hv => rfl))
 | ((with_reducible apply go_fa h); omega; omega)
))
        unfold F124_6 F124_6b
        (repeat (first
 | (simp (disch := omega) only [evA, evB, evC, bAdd_i64, bSub_i64])
 | (with_reducible apply go_ld1 h)
 | ((with_reducible first | apply go_ldA h | apply go_rd h | apply go_rdN h | apply go_rlen h); rfl)
 | (with_reducible first | apply go_ldN h | apply go_lenL h)
 | ((with_reducible apply go_st h); intro _ h)
 | ((with_reducible apply go_stA h); rfl; rfl; (first | rfl | simp [OneV.o]); intro _ h)
 | ((with_reducible apply go_stN h); rfl; (first | rfl | simp [OneV.o]); intro _ h)
 | ((with_reducible apply go_box h); rfl; intro _ _ h)
 | ((with_reducible apply go_ix h); omega)
 | ((with_reducible first | apply go_elN h | apply go_f1 h | apply go_rf1 h | apply go_rel h); (case hi => omega); (try case hx => exact inferInstance); (try case hv => rfl))
 | ((with_reducible apply go_fa h); omega; omega)
))
        refine fin ⟨rs[i].id, ⟨rs[i].e.node, rs[i].e.cls, rs[i].e.key, e.level, e.text⟩, T, rs[i].first, max rs[i].last now, rs[i].acked, rs[i].who⟩ 2 L _ (h.got) ?_ ?_
        · unfold againP; rw [if_neg g1', if_neg (by omega), hT]
        · unfold againP; rw [if_neg g1', if_neg (by omega)]
  by_cases g : rs[i].tally < 1099511627776
  · have g' : decide (rs[i].tally < 1099511627776) = true := by simpa using g
    (repeat (first
 | (simp (disch := omega) only [evA, evB, evC, bAdd_i64, bSub_i64, g'])
 | (with_reducible apply go_ld1 h)
 | ((with_reducible first | apply go_ldA h | apply go_rd h | apply go_rdN h | apply go_rlen h); rfl)
 | (with_reducible first | apply go_ldN h | apply go_lenL h)
 | ((with_reducible apply go_st h); intro _ h)
 | ((with_reducible apply go_stA h); rfl; rfl; (first | rfl | simp [OneV.o]); intro _ h)
 | ((with_reducible apply go_stN h); rfl; (first | rfl | simp [OneV.o]); intro _ h)
 | ((with_reducible apply go_box h); rfl; intro _ _ h)
 | ((with_reducible apply go_ix h); omega)
 | ((with_reducible first | apply go_elN h | apply go_f1 h | apply go_rf1 h | apply go_rel h); (case hi => omega); (try case hx => exact inferInstance); (try case hv => rfl))
 | ((with_reducible apply go_fa h); omega; omega)
))
    exact mid (rs[i].tally + 1) _ _ (by omega) (h.got)
  · have g' : decide (rs[i].tally < 1099511627776) = false := by simpa using g
    (repeat (first
 | (simp (disch := omega) only [evA, evB, evC, bAdd_i64, bSub_i64, g'])
 | (with_reducible apply go_ld1 h)
 | ((with_reducible first | apply go_ldA h | apply go_rd h | apply go_rdN h | apply go_rlen h); rfl)
 | (with_reducible first | apply go_ldN h | apply go_lenL h)
 | ((with_reducible apply go_st h); intro _ h)
 | ((with_reducible apply go_stA h); rfl; rfl; (first | rfl | simp [OneV.o]); intro _ h)
 | ((with_reducible apply go_stN h); rfl; (first | rfl | simp [OneV.o]); intro _ h)
 | ((with_reducible apply go_box h); rfl; intro _ _ h)
 | ((with_reducible apply go_ix h); omega)
 | ((with_reducible first | apply go_elN h | apply go_f1 h | apply go_rf1 h | apply go_rel h); (case hi => omega); (try case hx => exact inferInstance); (try case hv => rfl))
 | ((with_reducible apply go_fa h); omega; omega)
))
    exact mid rs[i].tally _ _ (by omega) (h.got)
end
end Go.Proofs.Gong
