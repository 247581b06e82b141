/- A part of the proofs: what stands below it, told in lemmas. No condition. -/
import Derived.Test.YtghckdlkdgaokaaGreatP1
set_option linter.all false

/- Norm -/
namespace Go.Proofs.Gong
open Go Go.Sx Go.Proofs
set_option linter.all false
set_option maxRecDepth 100000
variable {kn kr : ET} {ke : JT}
def T98 : List (Nat × FnT) := []
def F98 (x0 : Value) (w : World) (K : V1) : Prop :=
bindP (bLt x0 (.int .u8 128)) fun v1 =>
ifB v1 (
bindP (cInt .i64 x0) fun v2 =>
K (.tuple #[(.int .i64 1), v2]) w) (
bindP (bShr x0 (.int .u64 5)) fun v3 =>
bindP (bEq Tryz.prog 5 (.tmp 11) (.const (.int .u8 6)) v3 (.int .u8 6)) fun v4 =>
ifB v4 (
bindP (bBit .and x0 (.int .u8 31)) fun v5 =>
bindP (cInt .i64 v5) fun v6 =>
K (.tuple #[(.int .i64 2), v6]) w) (
bindP (bShr x0 (.int .u64 4)) fun v7 =>
bindP (bEq Tryz.prog 5 (.tmp 18) (.const (.int .u8 14)) v7 (.int .u8 14)) fun v8 =>
ifB v8 (
bindP (bBit .and x0 (.int .u8 15)) fun v9 =>
bindP (cInt .i64 v9) fun v10 =>
K (.tuple #[(.int .i64 3), v10]) w) (
bindP (bShr x0 (.int .u64 3)) fun v11 =>
bindP (bEq Tryz.prog 5 (.tmp 25) (.const (.int .u8 30)) v11 (.int .u8 30)) fun v12 =>
ifB v12 (
bindP (bBit .and x0 (.int .u8 7)) fun v13 =>
bindP (cInt .i64 v13) fun v14 =>
K (.tuple #[(.int .i64 4), v14]) w) (
K (.tuple #[(.int .i64 0), (.int .i64 0)]) w))))
def G98 : FnT := fun args w K => on1 (fun x0 => F98 x0 w K) args
theorem c98 {x0 : Value} {w : World} {K : V1} (h : F98 x0 w K) : callP G98 [x0] w K := callP_intro (on1_mk (p := fun x0 => F98 x0 w K) h)
theorem ok98 : OkF Tryz.prog 98 G98 := by
  refine okF_of (tab_ok (l := T98) trivial) mixed (n := fuel) Tryz.func98 Tryz.call98 fun args w K h => ?_
  obtain ⟨x0, rfl, hh⟩ := of_on1 h
  exact fnD_list (c := bodyOf Tryz.f98) (by kernel_rfl) (by kernel_rfl) (Eq.mp (by kernel_rfl) hh)
def T99 : List (Nat × FnT) := []
def F99 (x0 : Value) (w : World) (K : V1) : Prop :=
bindP (bGe x0 (.int .i64 0)) fun v1 =>
stepM (gd true v1) x0 fun v2 =>
Sx.stepG (gd true v1) (bLe v2 (.int .i64 1114111)) fun v3 =>
bindP (pPick v1 v3 (.bool false)) fun v4 =>
stepM (gd true v4) x0 fun v5 =>
Sx.stepG (gd true v4) (bLt v5 (.int .i64 55296)) fun v6 =>
stepM (gd true v4) v6 fun v7 =>
stepM (gd false v7) x0 fun v8 =>
Sx.stepG (gd false v7) (bGt v8 (.int .i64 57343)) fun v9 =>
Sx.stepG (gd true v4) (pPick v7 (.bool true) v9) fun v10 =>
bindP (pPick v4 v10 (.bool false)) fun v11 =>
K v11 w
def G99 : FnT := fun args w K => on1 (fun x0 => F99 x0 w K) args
theorem c99 {x0 : Value} {w : World} {K : V1} (h : F99 x0 w K) : callP G99 [x0] w K := callP_intro (on1_mk (p := fun x0 => F99 x0 w K) h)
theorem ok99 : OkF Tryz.prog 99 G99 := by
  refine okF_of (tab_ok (l := T99) trivial) mixed (n := fuel) Tryz.func99 Tryz.call99 fun args w K h => ?_
  obtain ⟨x0, rfl, hh⟩ := of_on1 h
  exact fnD_list (c := bodyOf Tryz.f99) (by kernel_rfl) (by kernel_rfl) (Eq.mp (by kernel_rfl) hh)
def T100 : List (Nat × FnT) := []
def F100 (x0 : Value) (w : World) (K : V1) : Prop :=
bindP (bEq Tryz.prog 3 (.tmp 3) (.const (.int .i64 2)) x0 (.int .i64 2)) fun v1 =>
ifB v1 (
K (.int .i64 128) w) (
bindP (bEq Tryz.prog 3 (.tmp 3) (.const (.int .i64 3)) x0 (.int .i64 3)) fun v2 =>
ifB v2 (
K (.int .i64 2048) w) (
bindP (bEq Tryz.prog 3 (.tmp 3) (.const (.int .i64 4)) x0 (.int .i64 4)) fun v3 =>
ifB v3 (
K (.int .i64 65536) w) (
K (.int .i64 0) w)))
def G100 : FnT := fun args w K => on1 (fun x0 => F100 x0 w K) args
theorem c100 {x0 : Value} {w : World} {K : V1} (h : F100 x0 w K) : callP G100 [x0] w K := callP_intro (on1_mk (p := fun x0 => F100 x0 w K) h)
theorem ok100 : OkF Tryz.prog 100 G100 := by
  refine okF_of (tab_ok (l := T100) trivial) mixed (n := fuel) Tryz.func100 Tryz.call100 fun args w K h => ?_
  obtain ⟨x0, rfl, hh⟩ := of_on1 h
  exact fnD_list (c := bodyOf Tryz.f100) (by kernel_rfl) (by kernel_rfl) (Eq.mp (by kernel_rfl) hh)
def T88 : List (Nat × FnT) := [(98, G98), (99, G99), (100, G100)]
def F88_3b (s2 s3 : Value) (w : World) (K : V1) : Prop :=
callP G99 [s2] w fun v2 w1 =>
bindP (uNot v2) fun v3 =>
stepM (gd false v3) s2 fun v4 =>
stepM (gd false v3) s3 fun v5 =>
stepE (gd false v3) (fun k => callP G100 [v5] w1 k) w1 fun v7 w6 =>
Sx.stepG (gd false v3) (bLt v4 v7) fun v8 =>
bindP (pPick v3 (.bool true) v8) fun v9 =>
ifB v9 (
K (.tuple #[(.int .i64 0), (.int .i64 0), (.int .i64 40)]) w6) (
K (.tuple #[s2, s3, (.int .i64 0)]) w6)
def F88_3 (s2 s3 : Value) (w : World) (K : V1) : Prop := F88_3b s2 s3 w K
theorem ok88_3 {K : V1}
    (hn : HN (fun e w => K (.tuple #[(e 2), (e 3), (e 4)]) w) kn) (hr : HR Tryz.prog [.tmp 2, .tmp 3, .tmp 4] K kr) (he : HE noE ke) :
    ∀ e w, F88_3 (e 2) (e 3) w K → denL Tryz.prog (tabOf T88) 51 fuel ((flat (bodyOf Tryz.f88)).drop 8) e w kn kr ke := by
  intro e w h
  unfold F88_3 at h
  have e1 : ∀ (_ : Unit), F88_3b (e 2) (e 3) w K = denL Tryz.prog (tabOf T88) 51 fuel ((flat (bodyOf Tryz.f88)).drop 8) e w (fun e w => K (.tuple #[(e 2), (e 3), (e 4)]) w) (endD Tryz.prog [.tmp 2, .tmp 3, .tmp 4] K) noE := by intro _; kernel_rfl
  exact seg_end (Eq.mp (e1 ()) h) hn hr he
def F88_2b (s0 s2 s3 s5 : Value) (w : World) (K : V1) (Y0 : V4) (Y1 : V2) : Prop :=
bindP (bLt s5 s3) fun v10 =>
ifB v10 (
bindP (pIndexS s0 s5) fun v11 =>
bindP (bShr v11 (.int .u64 6)) fun v12 =>
bindP (bNe Tryz.prog 5 (.tmp 30) (.const (.int .u8 2)) v12 (.int .u8 2)) fun v13 =>
ifB v13 (
K (.tuple #[(.int .i64 0), (.int .i64 0), (.int .i64 40)]) w) (
bindP (bShl s2 (.int .u64 6)) fun v14 =>
bindP (pIndexS s0 s5) fun v15 =>
bindP (bBit .and v15 (.int .u8 63)) fun v16 =>
bindP (cInt .i64 v16) fun v17 =>
bindP (bBit .or v14 v17) fun v18 =>
bindP (bAdd s5 (.int .i64 1)) fun v19 =>
Y0 s0 v18 s3 v19 w)) (
Y1 s2 s3 w)
def F88_2L : Nat → Value → Value → Value → Value → World → (V1) → Prop
  | 0, _, _, _, _, _, _ => False
  | n + 1, s0, s2, s3, s5, w, K => F88_2b s0 s2 s3 s5 w K (fun a0 a2 a3 a5 w => F88_2L n a0 a2 a3 a5 w K) (fun a2 a3 w => F88_3 a2 a3 w K)
def F88_2 (s0 s2 s3 s5 : Value) (w : World) (K : V1) : Prop := F88_2L fuel s0 s2 s3 s5 w K
theorem ok88_2 {K : V1}
    (hn : HN (fun e w => K (.tuple #[(e 2), (e 3), (e 4)]) w) kn) (hr : HR Tryz.prog [.tmp 2, .tmp 3, .tmp 4] K kr) (he : HE noE ke) :
    ∀ e w, F88_2 (e 0) (e 2) (e 3) (e 5) w K → denL Tryz.prog (tabOf T88) 51 fuel ((flat (bodyOf Tryz.f88)).drop 7) e w kn kr ke := by
  intro e w h
  unfold F88_2 at h
  refine seg_loop (id := 0) (body := (loopB (blkB (nthC (flat (bodyOf Tryz.f88)) 7)))) (l2 := (flat (bodyOf Tryz.f88)).drop 8) (by kernel_rfl) ?_
  refine loop_ok (FL := fun m e w => F88_2L m (e 0) (e 2) (e 3) (e 5) w K) (fr := endD Tryz.prog [.tmp 2, .tmp 3, .tmp 4] K) (fe := (blkK 0 (fun e w => F88_3 (e 2) (e 3) w K) noE)) (fun _ _ h => h) ?_ hr (blkK_mono (fun e w h => ok88_3 hn hr he e w h) he) fuel e w h
  intro m e w h
  have h : F88_2L (m + 1) (e 0) (e 2) (e 3) (e 5) w K := h
  rw [F88_2L] at h
  have e1 : ∀ (Y0 : V4) (Y1 : V2), F88_2b (e 0) (e 2) (e 3) (e 5) w K Y0 Y1 = denL Tryz.prog (tabOf T88) 51 fuel (flat (loopB (blkB (nthC (flat (bodyOf Tryz.f88)) 7)))) e w (fun e w => Y0 (e 0) (e 2) (e 3) (e 5) w) (endD Tryz.prog [.tmp 2, .tmp 3, .tmp 4] K) (blkK 0 (fun e w => Y1 (e 2) (e 3) w) noE) := by intro Y0 Y1; kernel_rfl
  exact Eq.mp (e1 (fun a0 a2 a3 a5 w => F88_2L m a0 a2 a3 a5 w K) (fun a2 a3 w => F88_3 a2 a3 w K)) h
def F88_1b (s0 : Value) (w : World) (K : V1) (Y0 : V4) : Prop :=
bindP (bEq Tryz.prog 9 (.tmp 6) (.const (.string ⟨#[]⟩)) s0 (.string ⟨#[]⟩)) fun v20 =>
ifB v20 (
K (.tuple #[(.int .i64 0), (.int .i64 0), (.int .i64 40)]) w) (
bindP (pIndexS s0 (.int .i64 0)) fun v21 =>
callP G98 [v21] w fun v23 w22 =>
bindP (pTuple v23 0) fun v24 =>
bindP (pTuple v23 1) fun v25 =>
bindP (bEq Tryz.prog 3 (.tmp 14) (.const (.int .i64 0)) v24 (.int .i64 0)) fun v26 =>
stepM (gd false v26) v24 fun v27 =>
stepM (gd false v26) s0 fun v28 =>
Sx.stepG (gd false v26) (lenS v28) fun v29 =>
Sx.stepG (gd false v26) (bGt v27 v29) fun v30 =>
bindP (pPick v26 (.bool true) v30) fun v31 =>
ifB v31 (
K (.tuple #[(.int .i64 0), (.int .i64 0), (.int .i64 40)]) w22) (
Y0 s0 v25 v24 (.int .i64 1) w22))
def F88_1 (s0 : Value) (w : World) (K : V1) : Prop := F88_1b s0 w K (fun a0 a2 a3 a5 w => F88_2 a0 a2 a3 a5 w K)
theorem ok88_1 {K : V1}
    (hn : HN (fun e w => K (.tuple #[(e 2), (e 3), (e 4)]) w) kn) (hr : HR Tryz.prog [.tmp 2, .tmp 3, .tmp 4] K kr) (he : HE noE ke) :
    ∀ e w, F88_1 (e 0) w K → denL Tryz.prog (tabOf T88) 51 fuel ((flat (bodyOf Tryz.f88)).drop 0) e w kn kr ke := by
  intro e w h
  unfold F88_1 at h
  have e1 : ∀ (Y0 : V4), F88_1b (e 0) w K Y0 = denL Tryz.prog (tabOf T88) 51 fuel (((flat (bodyOf Tryz.f88)).drop 0).take 7) e w (fun e w => Y0 (e 0) (e 2) (e 3) (e 5) w) (endD Tryz.prog [.tmp 2, .tmp 3, .tmp 4] K) noE := by intro Y0; kernel_rfl
  exact seg 7 (Eq.mp (e1 (fun a0 a2 a3 a5 w => F88_2 a0 a2 a3 a5 w K)) h) (fun e w h => ok88_2 hn hr he e w h) hr he
def F88 (x0 : Value) (w : World) (K : V1) : Prop := F88_1 x0 w K
def G88 : FnT := fun args w K => on1 (fun x0 => F88 x0 w K) args
theorem c88 {x0 : Value} {w : World} {K : V1} (h : F88 x0 w K) : callP G88 [x0] w K := callP_intro (on1_mk (p := fun x0 => F88 x0 w K) h)
theorem ok88 : OkF Tryz.prog 88 G88 := by
  refine okF_of (tab_ok (l := T88) ⟨ok98, ok99, ok100, trivial⟩) mixed (n := fuel) Tryz.func88 Tryz.call88 fun args w K h => ?_
  obtain ⟨x0, rfl, hh⟩ := of_on1 h
  unfold F88 at hh
  exact fnD_list (c := bodyOf Tryz.f88) (by kernel_rfl) (by kernel_rfl) (ok88_1 (fun _ _ h => h) (fun _ _ h => h) (fun _ _ _ h => h) (initE [x0]) w hh)
def T72 : List (Nat × FnT) := [(88, G88)]
def F72_3b (s4 : Value) (w : World) (K : V1) : Prop :=
K (.tuple #[s4, (.int .i64 0)]) w
def F72_3 (s4 : Value) (w : World) (K : V1) : Prop := F72_3b s4 w K
theorem ok72_3 {K : V1}
    (hn : HN (fun e w => K (.tuple #[(e 2), (e 3)]) w) kn) (hr : HR Tryz.prog [.tmp 2, .tmp 3] K kr) (he : HE noE ke) :
    ∀ e w, F72_3 (e 4) w K → denL Tryz.prog (tabOf T72) 27 fuel ((flat (bodyOf Tryz.f72)).drop 3) e w kn kr ke := by
  intro e w h
  unfold F72_3 at h
  have e1 : ∀ (_ : Unit), F72_3b (e 4) w K = denL Tryz.prog (tabOf T72) 27 fuel ((flat (bodyOf Tryz.f72)).drop 3) e w (fun e w => K (.tuple #[(e 2), (e 3)]) w) (endD Tryz.prog [.tmp 2, .tmp 3] K) noE := by intro _; kernel_rfl
  exact seg_end (Eq.mp (e1 ()) h) hn hr he
def F72_2b (s0 s4 : Value) (w : World) (K : V1) (Y0 : V2) (Y1 : V1) : Prop :=
bindP (bNe Tryz.prog 9 (.tmp 8) (.const (.string ⟨#[]⟩)) s0 (.string ⟨#[]⟩)) fun v1 =>
ifB v1 (
callP G88 [s0] w fun v3 w2 =>
bindP (pTuple v3 0) fun v4 =>
bindP (pTuple v3 1) fun v5 =>
bindP (pTuple v3 2) fun v6 =>
bindP (bNe Tryz.prog 24 (.tmp 16) (.const (.int .i64 0)) v6 (.int .i64 0)) fun v7 =>
ifB v7 (
K (.tuple #[(.slice none 0 0), v6]) w2) (
eBuildSl Tryz.prog 34 1 [(0, v4)] w2 fun v9 w8 =>
eAppend Tryz.prog 34 34 s4 v9 w8 fun v11 w10 =>
bindP (pSliceS s0 (some v5) none) fun v12 =>
Y0 v12 v11 w10)) (
Y1 s4 w)
def F72_2L : Nat → Value → Value → World → (V1) → Prop
  | 0, _, _, _, _ => False
  | n + 1, s0, s4, w, K => F72_2b s0 s4 w K (fun a0 a4 w => F72_2L n a0 a4 w K) (fun a4 w => F72_3 a4 w K)
def F72_2 (s0 s4 : Value) (w : World) (K : V1) : Prop := F72_2L fuel s0 s4 w K
theorem ok72_2 {K : V1}
    (hn : HN (fun e w => K (.tuple #[(e 2), (e 3)]) w) kn) (hr : HR Tryz.prog [.tmp 2, .tmp 3] K kr) (he : HE noE ke) :
    ∀ e w, F72_2 (e 0) (e 4) w K → denL Tryz.prog (tabOf T72) 27 fuel ((flat (bodyOf Tryz.f72)).drop 2) e w kn kr ke := by
  intro e w h
  unfold F72_2 at h
  refine seg_loop (id := 0) (body := (loopB (blkB (nthC (flat (bodyOf Tryz.f72)) 2)))) (l2 := (flat (bodyOf Tryz.f72)).drop 3) (by kernel_rfl) ?_
  refine loop_ok (FL := fun m e w => F72_2L m (e 0) (e 4) w K) (fr := endD Tryz.prog [.tmp 2, .tmp 3] K) (fe := (blkK 0 (fun e w => F72_3 (e 4) w K) noE)) (fun _ _ h => h) ?_ hr (blkK_mono (fun e w h => ok72_3 hn hr he e w h) he) fuel e w h
  intro m e w h
  have h : F72_2L (m + 1) (e 0) (e 4) w K := h
  rw [F72_2L] at h
  have e1 : ∀ (Y0 : V2) (Y1 : V1), F72_2b (e 0) (e 4) w K Y0 Y1 = denL Tryz.prog (tabOf T72) 27 fuel (flat (loopB (blkB (nthC (flat (bodyOf Tryz.f72)) 2)))) e w (fun e w => Y0 (e 0) (e 4) w) (endD Tryz.prog [.tmp 2, .tmp 3] K) (blkK 0 (fun e w => Y1 (e 4) w) noE) := by intro Y0 Y1; kernel_rfl
  exact Eq.mp (e1 (fun a0 a4 w => F72_2L m a0 a4 w K) (fun a4 w => F72_3 a4 w K)) h
def F72_1b (s0 : Value) (w : World) (_K : V1) (Y0 : V2) : Prop :=
Y0 s0 (.slice none 0 0) w
def F72_1 (s0 : Value) (w : World) (K : V1) : Prop := F72_1b s0 w K (fun a0 a4 w => F72_2 a0 a4 w K)
theorem ok72_1 {K : V1}
    (hn : HN (fun e w => K (.tuple #[(e 2), (e 3)]) w) kn) (hr : HR Tryz.prog [.tmp 2, .tmp 3] K kr) (he : HE noE ke) :
    ∀ e w, F72_1 (e 0) w K → denL Tryz.prog (tabOf T72) 27 fuel ((flat (bodyOf Tryz.f72)).drop 0) e w kn kr ke := by
  intro e w h
  unfold F72_1 at h
  have e1 : ∀ (Y0 : V2), F72_1b (e 0) w K Y0 = denL Tryz.prog (tabOf T72) 27 fuel (((flat (bodyOf Tryz.f72)).drop 0).take 2) e w (fun e w => Y0 (e 0) (e 4) w) (endD Tryz.prog [.tmp 2, .tmp 3] K) noE := by intro Y0; kernel_rfl
  exact seg 2 (Eq.mp (e1 (fun a0 a4 w => F72_2 a0 a4 w K)) h) (fun e w h => ok72_2 hn hr he e w h) hr he
def F72 (x0 : Value) (w : World) (K : V1) : Prop := F72_1 x0 w K
def G72 : FnT := fun args w K => on1 (fun x0 => F72 x0 w K) args
theorem c72 {x0 : Value} {w : World} {K : V1} (h : F72 x0 w K) : callP G72 [x0] w K := callP_intro (on1_mk (p := fun x0 => F72 x0 w K) h)
theorem ok72 : OkF Tryz.prog 72 G72 := by
  refine okF_of (tab_ok (l := T72) ⟨ok88, trivial⟩) mixed (n := fuel) Tryz.func72 Tryz.call72 fun args w K h => ?_
  obtain ⟨x0, rfl, hh⟩ := of_on1 h
  unfold F72 at hh
  exact fnD_list (c := bodyOf Tryz.f72) (by kernel_rfl) (by kernel_rfl) (ok72_1 (fun _ _ h => h) (fun _ _ h => h) (fun _ _ _ h => h) (initE [x0]) w hh)
def T74 : List (Nat × FnT) := []
def F74 (x0 : Value) (w : World) (K : V1) : Prop :=
bindP (bLt x0 (.int .i64 32)) fun v1 =>
stepM (gd false v1) x0 fun v2 =>
Sx.stepG (gd false v1) (bEq Tryz.prog 3 (.tmp 6) (.const (.int .i64 127)) v2 (.int .i64 127)) fun v3 =>
bindP (pPick v1 (.bool true) v3) fun v4 =>
K v4 w
def G74 : FnT := fun args w K => on1 (fun x0 => F74 x0 w K) args
theorem c74 {x0 : Value} {w : World} {K : V1} (h : F74 x0 w K) : callP G74 [x0] w K := callP_intro (on1_mk (p := fun x0 => F74 x0 w K) h)
theorem ok74 : OkF Tryz.prog 74 G74 := by
  refine okF_of (tab_ok (l := T74) trivial) mixed (n := fuel) Tryz.func74 Tryz.call74 fun args w K h => ?_
  obtain ⟨x0, rfl, hh⟩ := of_on1 h
  exact fnD_list (c := bodyOf Tryz.f74) (by kernel_rfl) (by kernel_rfl) (Eq.mp (by kernel_rfl) hh)
def T89 : List (Nat × FnT) := [(74, G74)]
def F89_3b (w : World) (K : V1) : Prop :=
K (.int .i64 (-1)) w
def F89_3 (w : World) (K : V1) : Prop := F89_3b w K
theorem ok89_3 {K : V1}
    (hn : HN (fun e w => K (e 4) w) kn) (hr : HR Tryz.prog [.tmp 4] K kr) (he : HE noE ke) :
    ∀ e w, F89_3 w K → denL Tryz.prog (tabOf T89) 19 fuel ((flat (bodyOf Tryz.f89)).drop 3) e w kn kr ke := by
  intro e w h
  unfold F89_3 at h
  have e1 : ∀ (_ : Unit), F89_3b w K = denL Tryz.prog (tabOf T89) 19 fuel ((flat (bodyOf Tryz.f89)).drop 3) e w (fun e w => K (e 4) w) (endD Tryz.prog [.tmp 4] K) noE := by intro _; kernel_rfl
  exact seg_end (Eq.mp (e1 ()) h) hn hr he
def F89_2b (s0 s1 s7 s8 : Value) (w : World) (K : V1) (Y0 : V4) (Y1 : V0) : Prop :=
bindP (bLt s8 s7) fun v1 =>
ifB v1 (
bindP (pIndexL 1 s0 s8) fun v2 =>
bindP (ld1 v2 w) fun v3 =>
eCallV (tabOf T89) s1 [v3] w fun v5 w4 =>
ifB v5 (
K s8 w4) (
bindP (bAdd s8 (.int .i64 1)) fun v6 =>
Y0 s0 s1 s7 v6 w4)) (
Y1 w)
def F89_2L : Nat → Value → Value → Value → Value → World → (V1) → Prop
  | 0, _, _, _, _, _, _ => False
  | n + 1, s0, s1, s7, s8, w, K => F89_2b s0 s1 s7 s8 w K (fun a0 a1 a7 a8 w => F89_2L n a0 a1 a7 a8 w K) (fun w => F89_3 w K)
def F89_2 (s0 s1 s7 s8 : Value) (w : World) (K : V1) : Prop := F89_2L fuel s0 s1 s7 s8 w K
theorem ok89_2 {K : V1}
    (hn : HN (fun e w => K (e 4) w) kn) (hr : HR Tryz.prog [.tmp 4] K kr) (he : HE noE ke) :
    ∀ e w, F89_2 (e 0) (e 1) (e 7) (e 8) w K → denL Tryz.prog (tabOf T89) 19 fuel ((flat (bodyOf Tryz.f89)).drop 2) e w kn kr ke := by
  intro e w h
  unfold F89_2 at h
  refine seg_loop (id := 0) (body := (loopB (blkB (nthC (flat (bodyOf Tryz.f89)) 2)))) (l2 := (flat (bodyOf Tryz.f89)).drop 3) (by kernel_rfl) ?_
  refine loop_ok (FL := fun m e w => F89_2L m (e 0) (e 1) (e 7) (e 8) w K) (fr := endD Tryz.prog [.tmp 4] K) (fe := (blkK 0 (fun e w => F89_3 w K) noE)) (fun _ _ h => h) ?_ hr (blkK_mono (fun e w h => ok89_3 hn hr he e w h) he) fuel e w h
  intro m e w h
  have h : F89_2L (m + 1) (e 0) (e 1) (e 7) (e 8) w K := h
  rw [F89_2L] at h
  have e1 : ∀ (Y0 : V4) (Y1 : V0), F89_2b (e 0) (e 1) (e 7) (e 8) w K Y0 Y1 = denL Tryz.prog (tabOf T89) 19 fuel (flat (loopB (blkB (nthC (flat (bodyOf Tryz.f89)) 2)))) e w (fun e w => Y0 (e 0) (e 1) (e 7) (e 8) w) (endD Tryz.prog [.tmp 4] K) (blkK 0 (fun e w => Y1 w) noE) := by intro Y0 Y1; kernel_rfl
  exact Eq.mp (e1 (fun a0 a1 a7 a8 w => F89_2L m a0 a1 a7 a8 w K) (fun w => F89_3 w K)) h
def F89_1b (s0 s1 : Value) (w : World) (_K : V1) (Y0 : V4) : Prop :=
bindP (lenL s0) fun v7 =>
Y0 s0 s1 v7 (.int .i64 0) w
def F89_1 (s0 s1 : Value) (w : World) (K : V1) : Prop := F89_1b s0 s1 w K (fun a0 a1 a7 a8 w => F89_2 a0 a1 a7 a8 w K)
theorem ok89_1 {K : V1}
    (hn : HN (fun e w => K (e 4) w) kn) (hr : HR Tryz.prog [.tmp 4] K kr) (he : HE noE ke) :
    ∀ e w, F89_1 (e 0) (e 1) w K → denL Tryz.prog (tabOf T89) 19 fuel ((flat (bodyOf Tryz.f89)).drop 0) e w kn kr ke := by
  intro e w h
  unfold F89_1 at h
  have e1 : ∀ (Y0 : V4), F89_1b (e 0) (e 1) w K Y0 = denL Tryz.prog (tabOf T89) 19 fuel (((flat (bodyOf Tryz.f89)).drop 0).take 2) e w (fun e w => Y0 (e 0) (e 1) (e 7) (e 8) w) (endD Tryz.prog [.tmp 4] K) noE := by intro Y0; kernel_rfl
  exact seg 2 (Eq.mp (e1 (fun a0 a1 a7 a8 w => F89_2 a0 a1 a7 a8 w K)) h) (fun e w h => ok89_2 hn hr he e w h) hr he
def F89 (x0 x1 : Value) (w : World) (K : V1) : Prop := F89_1 x0 x1 w K
def G89 : FnT := fun args w K => on2 (fun x0 x1 => F89 x0 x1 w K) args
theorem c89 {x0 x1 : Value} {w : World} {K : V1} (h : F89 x0 x1 w K) : callP G89 [x0, x1] w K := callP_intro (on2_mk (p := fun x0 x1 => F89 x0 x1 w K) h)
theorem ok89 : OkF Tryz.prog 89 G89 := by
  refine okF_of (tab_ok (l := T89) ⟨ok74, trivial⟩) mixed (n := fuel) Tryz.func89 Tryz.call89 fun args w K h => ?_
  obtain ⟨x0, x1, rfl, hh⟩ := of_on2 h
  unfold F89 at hh
  exact fnD_list (c := bodyOf Tryz.f89) (by kernel_rfl) (by kernel_rfl) (ok89_1 (fun _ _ h => h) (fun _ _ h => h) (fun _ _ _ h => h) (initE [x0, x1]) w hh)
def T73 : List (Nat × FnT) := [(89, G89)]
def F73 (x0 x1 : Value) (w : World) (K : V1) : Prop :=
callP G89 [x0, x1] w fun v2 w1 =>
bindP (bGe v2 (.int .i64 0)) fun v3 =>
K v3 w1
def G73 : FnT := fun args w K => on2 (fun x0 x1 => F73 x0 x1 w K) args
theorem c73 {x0 x1 : Value} {w : World} {K : V1} (h : F73 x0 x1 w K) : callP G73 [x0, x1] w K := callP_intro (on2_mk (p := fun x0 x1 => F73 x0 x1 w K) h)
theorem ok73 : OkF Tryz.prog 73 G73 := by
  refine okF_of (tab_ok (l := T73) ⟨ok89, trivial⟩) mixed (n := fuel) Tryz.func73 Tryz.call73 fun args w K h => ?_
  obtain ⟨x0, x1, rfl, hh⟩ := of_on2 h
  exact fnD_list (c := bodyOf Tryz.f73) (by kernel_rfl) (by kernel_rfl) (Eq.mp (by kernel_rfl) hh)
def T62 : List (Nat × FnT) := [(72, G72), (73, G73)]
def F62 (x0 x1 : Value) (w : World) (K : V1) : Prop :=
callP G72 [x0] w fun v2 w1 =>
bindP (pTuple v2 0) fun v3 =>
bindP (pTuple v2 1) fun v4 =>
callP G73 [v3, (.func (.func 74) #[] #[])] w1 fun v6 w5 =>
bindP (bEq Tryz.prog 24 (.tmp 15) (.const (.int .i64 0)) v4 (.int .i64 0)) fun v7 =>
stepM (gd true v7) v6 fun v8 =>
Sx.stepG (gd true v7) (uNot v8) fun v9 =>
bindP (pPick v7 v9 (.bool false)) fun v10 =>
stepM (gd true v10) x0 fun v11 =>
Sx.stepG (gd true v10) (lenS v11) fun v12 =>
stepM (gd true v10) x1 fun v13 =>
Sx.stepG (gd true v10) (bLe v12 v13) fun v14 =>
bindP (pPick v10 v14 (.bool false)) fun v15 =>
K v15 w5
def G62 : FnT := fun args w K => on2 (fun x0 x1 => F62 x0 x1 w K) args
theorem c62 {x0 x1 : Value} {w : World} {K : V1} (h : F62 x0 x1 w K) : callP G62 [x0, x1] w K := callP_intro (on2_mk (p := fun x0 x1 => F62 x0 x1 w K) h)
theorem ok62 : OkF Tryz.prog 62 G62 := by
  refine okF_of (tab_ok (l := T62) ⟨ok72, ok73, trivial⟩) mixed (n := fuel) Tryz.func62 Tryz.call62 fun args w K h => ?_
  obtain ⟨x0, x1, rfl, hh⟩ := of_on2 h
  exact fnD_list (c := bodyOf Tryz.f62) (by kernel_rfl) (by kernel_rfl) (Eq.mp (by kernel_rfl) hh)
def T47 : List (Nat × FnT) := [(62, G62)]
def F47 (x0 : Value) (w : World) (K : V1) : Prop :=
eBox 33 x0 w fun v2 w1 =>
bindP (pFieldAddr 0 v2) fun v3 =>
bindP (ld1 v3 w1) fun v4 =>
bindP (bNe Tryz.prog 9 (.tmp 5) (.const (.string ⟨#[]⟩)) v4 (.string ⟨#[]⟩)) fun v5 =>
Sx.stepG (gd true v5) (pFieldAddr 1 v2) fun v6 =>
Sx.stepG (gd true v5) (ld1 v6 w1) fun v7 =>
Sx.stepG (gd true v5) (bNe Tryz.prog 9 (.tmp 9) (.const (.string ⟨#[]⟩)) v7 (.string ⟨#[]⟩)) fun v8 =>
bindP (pPick v5 v8 (.bool false)) fun v9 =>
Sx.stepG (gd true v9) (pFieldAddr 0 v2) fun v10 =>
Sx.stepG (gd true v9) (ld1 v10 w1) fun v11 =>
stepE (gd true v9) (fun k => callP G62 [v11, (.int .i64 64)] w1 k) w1 fun v13 w12 =>
bindP (pPick v9 v13 (.bool false)) fun v14 =>
Sx.stepG (gd true v14) (pFieldAddr 1 v2) fun v15 =>
Sx.stepG (gd true v14) (ld1 v15 w12) fun v16 =>
stepE (gd true v14) (fun k => callP G62 [v16, (.int .i64 64)] w12 k) w12 fun v18 w17 =>
bindP (pPick v14 v18 (.bool false)) fun v19 =>
bindP (uNot v19) fun v20 =>
Sx.stepG (gd false v20) (pFieldAddr 2 v2) fun v21 =>
Sx.stepG (gd false v20) (ld1 v21 w17) fun v22 =>
stepE (gd false v20) (fun k => callP G62 [v22, (.int .i64 128)] w17 k) w17 fun v24 w23 =>
Sx.stepG (gd false v20) (uNot v24) fun v25 =>
bindP (pPick v20 (.bool true) v25) fun v26 =>
Sx.stepG (gd false v26) (pFieldAddr 4 v2) fun v27 =>
Sx.stepG (gd false v26) (ld1 v27 w23) fun v28 =>
stepE (gd false v26) (fun k => callP G62 [v28, (.int .i64 1024)] w23 k) w23 fun v30 w29 =>
Sx.stepG (gd false v26) (uNot v30) fun v31 =>
bindP (pPick v26 (.bool true) v31) fun v32 =>
Sx.stepG (gd false v32) (pFieldAddr 3 v2) fun v33 =>
Sx.stepG (gd false v32) (ld1 v33 w29) fun v34 =>
Sx.stepG (gd false v32) (bLt v34 (.int .i64 0)) fun v35 =>
bindP (pPick v32 (.bool true) v35) fun v36 =>
Sx.stepG (gd false v36) (pFieldAddr 3 v2) fun v37 =>
Sx.stepG (gd false v36) (ld1 v37 w29) fun v38 =>
Sx.stepG (gd false v36) (bGt v38 (.int .i64 5)) fun v39 =>
bindP (pPick v36 (.bool true) v39) fun v40 =>
ifB v40 (
K (.int .i64 180) w29) (
K (.int .i64 0) w29)
def G47 : FnT := fun args w K => on1 (fun x0 => F47 x0 w K) args
theorem c47 {x0 : Value} {w : World} {K : V1} (h : F47 x0 w K) : callP G47 [x0] w K := callP_intro (on1_mk (p := fun x0 => F47 x0 w K) h)
theorem ok47 : OkF Tryz.prog 47 G47 := by
  refine okF_of (tab_ok (l := T47) ⟨ok62, trivial⟩) mixed (n := fuel) Tryz.func47 Tryz.call47 fun args w K h => ?_
  obtain ⟨x0, rfl, hh⟩ := of_on1 h
  exact fnD_list (c := bodyOf Tryz.f47) (by kernel_rfl) (by kernel_rfl) (Eq.mp (by kernel_rfl) hh)
def T101 : List (Nat × FnT) := []
def F101_4b (s5 : Value) (w : World) (K : V1) : Prop :=
K s5 w
def F101_4 (s5 : Value) (w : World) (K : V1) : Prop := F101_4b s5 w K
theorem ok101_4 {K : V1}
    (hn : HN (fun e w => K (e 4) w) kn) (hr : HR Tryz.prog [.tmp 4] K kr) (he : HE noE ke) :
    ∀ e w, F101_4 (e 5) w K → denL Tryz.prog (tabOf T101) 38 fuel ((flat (bodyOf Tryz.f101)).drop 6) e w kn kr ke := by
  intro e w h
  unfold F101_4 at h
  have e1 : ∀ (_ : Unit), F101_4b (e 5) w K = denL Tryz.prog (tabOf T101) 38 fuel ((flat (bodyOf Tryz.f101)).drop 6) e w (fun e w => K (e 4) w) (endD Tryz.prog [.tmp 4] K) noE := by intro _; kernel_rfl
  exact seg_end (Eq.mp (e1 ()) h) hn hr he
def F101_3b (s0 s1 s5 s6 : Value) (w : World) (_K : V1) (Y0 : V4) (Y1 : V1) : Prop :=
bindP (bLt s6 s1) fun v1 =>
ifB v1 (
bindP (bMul s5 (.int .i64 64)) fun v2 =>
bindP (pIndexS s0 s6) fun v3 =>
bindP (bRem v3 (.int .u8 64)) fun v4 =>
bindP (cInt .i64 v4) fun v5 =>
bindP (bAdd v2 v5) fun v6 =>
bindP (bAdd s6 (.int .i64 1)) fun v7 =>
Y0 s0 s1 v6 v7 w) (
Y1 s5 w)
def F101_3L : Nat → Value → Value → Value → Value → World → (V1) → Prop
  | 0, _, _, _, _, _, _ => False
  | n + 1, s0, s1, s5, s6, w, K => F101_3b s0 s1 s5 s6 w K (fun a0 a1 a5 a6 w => F101_3L n a0 a1 a5 a6 w K) (fun a5 w => F101_4 a5 w K)
def F101_3 (s0 s1 s5 s6 : Value) (w : World) (K : V1) : Prop := F101_3L fuel s0 s1 s5 s6 w K
theorem ok101_3 {K : V1}
    (hn : HN (fun e w => K (e 4) w) kn) (hr : HR Tryz.prog [.tmp 4] K kr) (he : HE noE ke) :
    ∀ e w, F101_3 (e 0) (e 1) (e 5) (e 6) w K → denL Tryz.prog (tabOf T101) 38 fuel ((flat (bodyOf Tryz.f101)).drop 5) e w kn kr ke := by
  intro e w h
  unfold F101_3 at h
  refine seg_loop (id := 1) (body := (loopB (blkB (nthC (flat (bodyOf Tryz.f101)) 5)))) (l2 := (flat (bodyOf Tryz.f101)).drop 6) (by kernel_rfl) ?_
  refine loop_ok (FL := fun m e w => F101_3L m (e 0) (e 1) (e 5) (e 6) w K) (fr := endD Tryz.prog [.tmp 4] K) (fe := (blkK 1 (fun e w => F101_4 (e 5) w K) noE)) (fun _ _ h => h) ?_ hr (blkK_mono (fun e w h => ok101_4 hn hr he e w h) he) fuel e w h
  intro m e w h
  have h : F101_3L (m + 1) (e 0) (e 1) (e 5) (e 6) w K := h
  rw [F101_3L] at h
  have e1 : ∀ (Y0 : V4) (Y1 : V1), F101_3b (e 0) (e 1) (e 5) (e 6) w K Y0 Y1 = denL Tryz.prog (tabOf T101) 38 fuel (flat (loopB (blkB (nthC (flat (bodyOf Tryz.f101)) 5)))) e w (fun e w => Y0 (e 0) (e 1) (e 5) (e 6) w) (endD Tryz.prog [.tmp 4] K) (blkK 1 (fun e w => Y1 (e 5) w) noE) := by intro Y0 Y1; kernel_rfl
  exact Eq.mp (e1 (fun a0 a1 a5 a6 w => F101_3L m a0 a1 a5 a6 w K) (fun a5 w => F101_4 a5 w K)) h
def F101_2b (s0 s1 s5 : Value) (w : World) (_K : V1) (Y0 : V4) : Prop :=
Y0 s0 s1 s5 (.int .i64 1) w
def F101_2 (s0 s1 s5 : Value) (w : World) (K : V1) : Prop := F101_2b s0 s1 s5 w K (fun a0 a1 a5 a6 w => F101_3 a0 a1 a5 a6 w K)
theorem ok101_2 {K : V1}
    (hn : HN (fun e w => K (e 4) w) kn) (hr : HR Tryz.prog [.tmp 4] K kr) (he : HE noE ke) :
    ∀ e w, F101_2 (e 0) (e 1) (e 5) w K → denL Tryz.prog (tabOf T101) 38 fuel ((flat (bodyOf Tryz.f101)).drop 4) e w kn kr ke := by
  intro e w h
  unfold F101_2 at h
  have e1 : ∀ (Y0 : V4), F101_2b (e 0) (e 1) (e 5) w K Y0 = denL Tryz.prog (tabOf T101) 38 fuel (((flat (bodyOf Tryz.f101)).drop 4).take 1) e w (fun e w => Y0 (e 0) (e 1) (e 5) (e 6) w) (endD Tryz.prog [.tmp 4] K) noE := by intro Y0; kernel_rfl
  exact seg 1 (Eq.mp (e1 (fun a0 a1 a5 a6 w => F101_3 a0 a1 a5 a6 w K)) h) (fun e w h => ok101_3 hn hr he e w h) hr he
def F101_1b (s0 s1 : Value) (w : World) (K : V1) (Y0 : V3) : Prop :=
bindP (pIndexS s0 (.int .i64 0)) fun v8 =>
bindP (cInt .i64 v8) fun v9 =>
bindP (bEq Tryz.prog 3 (.tmp 10) (.const (.int .i64 1)) s1 (.int .i64 1)) fun v10 =>
ifB v10 (
K v9 w) (
bindP (bEq Tryz.prog 3 (.tmp 10) (.const (.int .i64 2)) s1 (.int .i64 2)) fun v11 =>
ifB v11 (
bindP (bRem v9 (.int .i64 32)) fun v12 =>
Y0 s0 s1 v12 w) (
bindP (bEq Tryz.prog 3 (.tmp 10) (.const (.int .i64 3)) s1 (.int .i64 3)) fun v13 =>
ifB v13 (
bindP (bRem v9 (.int .i64 16)) fun v14 =>
Y0 s0 s1 v14 w) (
bindP (bRem v9 (.int .i64 8)) fun v15 =>
Y0 s0 s1 v15 w)))
def F101_1 (s0 s1 : Value) (w : World) (K : V1) : Prop := F101_1b s0 s1 w K (fun a0 a1 a5 w => F101_2 a0 a1 a5 w K)
theorem ok101_1 {K : V1}
    (hn : HN (fun e w => K (e 4) w) kn) (hr : HR Tryz.prog [.tmp 4] K kr) (he : HE noE ke) :
    ∀ e w, F101_1 (e 0) (e 1) w K → denL Tryz.prog (tabOf T101) 38 fuel ((flat (bodyOf Tryz.f101)).drop 0) e w kn kr ke := by
  intro e w h
  unfold F101_1 at h
  have e1 : ∀ (Y0 : V3), F101_1b (e 0) (e 1) w K Y0 = denL Tryz.prog (tabOf T101) 38 fuel (((flat (bodyOf Tryz.f101)).drop 0).take 4) e w (fun e w => Y0 (e 0) (e 1) (e 5) w) (endD Tryz.prog [.tmp 4] K) noE := by intro Y0; kernel_rfl
  exact seg 4 (Eq.mp (e1 (fun a0 a1 a5 w => F101_2 a0 a1 a5 w K)) h) (fun e w h => ok101_2 hn hr he e w h) hr he
def F101 (x0 x1 : Value) (w : World) (K : V1) : Prop := F101_1 x0 x1 w K
def G101 : FnT := fun args w K => on2 (fun x0 x1 => F101 x0 x1 w K) args
theorem c101 {x0 x1 : Value} {w : World} {K : V1} (h : F101 x0 x1 w K) : callP G101 [x0, x1] w K := callP_intro (on2_mk (p := fun x0 x1 => F101 x0 x1 w K) h)
theorem ok101 : OkF Tryz.prog 101 G101 := by
  refine okF_of (tab_ok (l := T101) trivial) mixed (n := fuel) Tryz.func101 Tryz.call101 fun args w K h => ?_
  obtain ⟨x0, x1, rfl, hh⟩ := of_on2 h
  unfold F101 at hh
  exact fnD_list (c := bodyOf Tryz.f101) (by kernel_rfl) (by kernel_rfl) (ok101_1 (fun _ _ h => h) (fun _ _ h => h) (fun _ _ _ h => h) (initE [x0, x1]) w hh)
def T102 : List (Nat × FnT) := []
def F102 (x0 : Value) (w : World) (K : V1) : Prop :=
bindP (bGe x0 (.int .i64 0)) fun v1 =>
stepM (gd true v1) x0 fun v2 =>
Sx.stepG (gd true v1) (bLe v2 (.int .i64 1114111)) fun v3 =>
bindP (pPick v1 v3 (.bool false)) fun v4 =>
stepM (gd true v4) x0 fun v5 =>
Sx.stepG (gd true v4) (bLt v5 (.int .i64 55296)) fun v6 =>
stepM (gd true v4) v6 fun v7 =>
stepM (gd false v7) x0 fun v8 =>
Sx.stepG (gd false v7) (bGt v8 (.int .i64 57343)) fun v9 =>
Sx.stepG (gd true v4) (pPick v7 (.bool true) v9) fun v10 =>
bindP (pPick v4 v10 (.bool false)) fun v11 =>
K v11 w
def G102 : FnT := fun args w K => on1 (fun x0 => F102 x0 w K) args
theorem c102 {x0 : Value} {w : World} {K : V1} (h : F102 x0 w K) : callP G102 [x0] w K := callP_intro (on1_mk (p := fun x0 => F102 x0 w K) h)
theorem ok102 : OkF Tryz.prog 102 G102 := by
  refine okF_of (tab_ok (l := T102) trivial) mixed (n := fuel) Tryz.func102 Tryz.call102 fun args w K h => ?_
  obtain ⟨x0, rfl, hh⟩ := of_on1 h
  exact fnD_list (c := bodyOf Tryz.f102) (by kernel_rfl) (by kernel_rfl) (Eq.mp (by kernel_rfl) hh)
def T103 : List (Nat × FnT) := []
def F103 (x0 : Value) (w : World) (K : V1) : Prop :=
bindP (bLt x0 (.int .i64 128)) fun v1 =>
ifB v1 (
bindP (cInt .u8 x0) fun v2 =>
eBuildSl Tryz.prog 142 1 [(0, v2)] w fun v4 w3 =>
bindP (cBytes v4 w3) fun v5 =>
K v5 w3) (
bindP (bLt x0 (.int .i64 2048)) fun v6 =>
ifB v6 (
bindP (bQuo x0 (.int .i64 64)) fun v7 =>
bindP (bAdd (.int .i64 192) v7) fun v8 =>
bindP (cInt .u8 v8) fun v9 =>
bindP (bRem x0 (.int .i64 64)) fun v10 =>
bindP (bAdd (.int .i64 128) v10) fun v11 =>
bindP (cInt .u8 v11) fun v12 =>
eBuildSl Tryz.prog 142 2 [(0, v9), (1, v12)] w fun v14 w13 =>
bindP (cBytes v14 w13) fun v15 =>
K v15 w13) (
bindP (bLt x0 (.int .i64 65536)) fun v16 =>
ifB v16 (
bindP (bQuo x0 (.int .i64 4096)) fun v17 =>
bindP (bAdd (.int .i64 224) v17) fun v18 =>
bindP (cInt .u8 v18) fun v19 =>
bindP (bQuo x0 (.int .i64 64)) fun v20 =>
bindP (bRem v20 (.int .i64 64)) fun v21 =>
bindP (bAdd (.int .i64 128) v21) fun v22 =>
bindP (cInt .u8 v22) fun v23 =>
bindP (bRem x0 (.int .i64 64)) fun v24 =>
bindP (bAdd (.int .i64 128) v24) fun v25 =>
bindP (cInt .u8 v25) fun v26 =>
eBuildSl Tryz.prog 142 3 [(0, v19), (1, v23), (2, v26)] w fun v28 w27 =>
bindP (cBytes v28 w27) fun v29 =>
K v29 w27) (
bindP (bQuo x0 (.int .i64 262144)) fun v30 =>
bindP (bAdd (.int .i64 240) v30) fun v31 =>
bindP (cInt .u8 v31) fun v32 =>
bindP (bQuo x0 (.int .i64 4096)) fun v33 =>
bindP (bRem v33 (.int .i64 64)) fun v34 =>
bindP (bAdd (.int .i64 128) v34) fun v35 =>
bindP (cInt .u8 v35) fun v36 =>
bindP (bQuo x0 (.int .i64 64)) fun v37 =>
bindP (bRem v37 (.int .i64 64)) fun v38 =>
bindP (bAdd (.int .i64 128) v38) fun v39 =>
bindP (cInt .u8 v39) fun v40 =>
bindP (bRem x0 (.int .i64 64)) fun v41 =>
bindP (bAdd (.int .i64 128) v41) fun v42 =>
bindP (cInt .u8 v42) fun v43 =>
eBuildSl Tryz.prog 142 4 [(0, v32), (1, v36), (2, v40), (3, v43)] w fun v45 w44 =>
bindP (cBytes v45 w44) fun v46 =>
K v46 w44)))
def G103 : FnT := fun args w K => on1 (fun x0 => F103 x0 w K) args
theorem c103 {x0 : Value} {w : World} {K : V1} (h : F103 x0 w K) : callP G103 [x0] w K := callP_intro (on1_mk (p := fun x0 => F103 x0 w K) h)
theorem ok103 : OkF Tryz.prog 103 G103 := by
  refine okF_of (tab_ok (l := T103) trivial) mixed (n := fuel) Tryz.func103 Tryz.call103 fun args w K h => ?_
  obtain ⟨x0, rfl, hh⟩ := of_on1 h
  exact fnD_list (c := bodyOf Tryz.f103) (by kernel_rfl) (by kernel_rfl) (Eq.mp (by kernel_rfl) hh)
def T90 : List (Nat × FnT) := [(101, G101), (102, G102), (103, G103)]
def F90_3b (w : World) (K : V1) : Prop :=
K (.tuple #[(.int .i64 0), (.int .i64 0), (.int .i64 40)]) w
def F90_3 (w : World) (K : V1) : Prop := F90_3b w K
theorem ok90_3 {K : V1}
    (hn : HN (fun e w => K (.tuple #[(e 2), (e 3), (e 4)]) w) kn) (hr : HR Tryz.prog [.tmp 2, .tmp 3, .tmp 4] K kr) (he : HE noE ke) :
    ∀ e w, F90_3 w K → denL Tryz.prog (tabOf T90) 32 fuel ((flat (bodyOf Tryz.f90)).drop 3) e w kn kr ke := by
  intro e w h
  unfold F90_3 at h
  have e1 : ∀ (_ : Unit), F90_3b w K = denL Tryz.prog (tabOf T90) 32 fuel ((flat (bodyOf Tryz.f90)).drop 3) e w (fun e w => K (.tuple #[(e 2), (e 3), (e 4)]) w) (endD Tryz.prog [.tmp 2, .tmp 3, .tmp 4] K) noE := by intro _; kernel_rfl
  exact seg_end (Eq.mp (e1 ()) h) hn hr he
def F90_2b (s0 s5 : Value) (w : World) (K : V1) (Y0 : V2) (Y1 : V0) : Prop :=
bindP (bLe s5 (.int .i64 4)) fun v1 =>
stepM (gd true v1) s5 fun v2 =>
stepM (gd true v1) s0 fun v3 =>
Sx.stepG (gd true v1) (lenS v3) fun v4 =>
Sx.stepG (gd true v1) (bLe v2 v4) fun v5 =>
bindP (pPick v1 v5 (.bool false)) fun v6 =>
ifB v6 (
callP G101 [s0, s5] w fun v8 w7 =>
callP G102 [v8] w7.drew fun v10 w9 =>
stepM (gd true v10) v8 fun v11 =>
stepM (gd true v10) s0 fun v12 =>
stepM (gd true v10) s5 fun v13 =>
Sx.stepG (gd true v10) (pSliceS v12 none (some v13)) fun v14 =>
stepE (gd true v10) (fun k => callP G103 [v11] w9 k) w9 fun v16 w15 =>
Sx.stepG (gd true v10) (bEq Tryz.prog 9 (.tmp 24) (.tmp 27) v16 v14) fun v17 =>
bindP (pPick v10 v17 (.bool false)) fun v18 =>
ifB v18 (
K (.tuple #[v8, s5, (.int .i64 0)]) w15) (
bindP (bAdd s5 (.int .i64 1)) fun v19 =>
Y0 s0 v19 w15)) (
Y1 w)
def F90_2L : Nat → Value → Value → World → (V1) → Prop
  | 0, _, _, _, _ => False
  | n + 1, s0, s5, w, K => F90_2b s0 s5 w K (fun a0 a5 w => F90_2L n a0 a5 w K) (fun w => F90_3 w K)
def F90_2 (s0 s5 : Value) (w : World) (K : V1) : Prop := F90_2L fuel s0 s5 w K
theorem ok90_2 {K : V1}
    (hn : HN (fun e w => K (.tuple #[(e 2), (e 3), (e 4)]) w) kn) (hr : HR Tryz.prog [.tmp 2, .tmp 3, .tmp 4] K kr) (he : HE noE ke) :
    ∀ e w, F90_2 (e 0) (e 5) w K → denL Tryz.prog (tabOf T90) 32 fuel ((flat (bodyOf Tryz.f90)).drop 2) e w kn kr ke := by
  intro e w h
  unfold F90_2 at h
  refine seg_loop (id := 0) (body := (loopB (blkB (nthC (flat (bodyOf Tryz.f90)) 2)))) (l2 := (flat (bodyOf Tryz.f90)).drop 3) (by kernel_rfl) ?_
  refine loop_ok (FL := fun m e w => F90_2L m (e 0) (e 5) w K) (fr := endD Tryz.prog [.tmp 2, .tmp 3, .tmp 4] K) (fe := (blkK 0 (fun e w => F90_3 w K) noE)) (fun _ _ h => h) ?_ hr (blkK_mono (fun e w h => ok90_3 hn hr he e w h) he) fuel e w h
  intro m e w h
  have h : F90_2L (m + 1) (e 0) (e 5) w K := h
  rw [F90_2L] at h
  have e1 : ∀ (Y0 : V2) (Y1 : V0), F90_2b (e 0) (e 5) w K Y0 Y1 = denL Tryz.prog (tabOf T90) 32 fuel (flat (loopB (blkB (nthC (flat (bodyOf Tryz.f90)) 2)))) e w (fun e w => Y0 (e 0) (e 5) w) (endD Tryz.prog [.tmp 2, .tmp 3, .tmp 4] K) (blkK 0 (fun e w => Y1 w) noE) := by intro Y0 Y1; kernel_rfl
  exact Eq.mp (e1 (fun a0 a5 w => F90_2L m a0 a5 w K) (fun w => F90_3 w K)) h
def F90_1b (s0 : Value) (w : World) (_K : V1) (Y0 : V2) : Prop :=
Y0 s0 (.int .i64 1) w
def F90_1 (s0 : Value) (w : World) (K : V1) : Prop := F90_1b s0 w K (fun a0 a5 w => F90_2 a0 a5 w K)
theorem ok90_1 {K : V1}
    (hn : HN (fun e w => K (.tuple #[(e 2), (e 3), (e 4)]) w) kn) (hr : HR Tryz.prog [.tmp 2, .tmp 3, .tmp 4] K kr) (he : HE noE ke) :
    ∀ e w, F90_1 (e 0) w K → denL Tryz.prog (tabOf T90) 32 fuel ((flat (bodyOf Tryz.f90)).drop 0) e w kn kr ke := by
  intro e w h
  unfold F90_1 at h
  have e1 : ∀ (Y0 : V2), F90_1b (e 0) w K Y0 = denL Tryz.prog (tabOf T90) 32 fuel (((flat (bodyOf Tryz.f90)).drop 0).take 2) e w (fun e w => Y0 (e 0) (e 5) w) (endD Tryz.prog [.tmp 2, .tmp 3, .tmp 4] K) noE := by intro Y0; kernel_rfl
  exact seg 2 (Eq.mp (e1 (fun a0 a5 w => F90_2 a0 a5 w K)) h) (fun e w h => ok90_2 hn hr he e w h) hr he
def F90 (x0 : Value) (w : World) (K : V1) : Prop := F90_1 x0 w K
def G90 : FnT := fun args w K => on1 (fun x0 => F90 x0 w K) args
theorem c90 {x0 : Value} {w : World} {K : V1} (h : F90 x0 w K) : callP G90 [x0] w K := callP_intro (on1_mk (p := fun x0 => F90 x0 w K) h)
theorem ok90 : OkF Tryz.prog 90 G90 := by
  refine okF_of (tab_ok (l := T90) ⟨ok101, ok102, ok103, trivial⟩) mixed (n := fuel) Tryz.func90 Tryz.call90 fun args w K h => ?_
  obtain ⟨x0, rfl, hh⟩ := of_on1 h
  unfold F90 at hh
  exact fnD_list (c := bodyOf Tryz.f90) (by kernel_rfl) (by kernel_rfl) (ok90_1 (fun _ _ h => h) (fun _ _ h => h) (fun _ _ _ h => h) (initE [x0]) w hh)
def T76 : List (Nat × FnT) := [(90, G90)]
def F76_3b (s4 : Value) (w : World) (K : V1) : Prop :=
K (.tuple #[s4, (.int .i64 0)]) w
def F76_3 (s4 : Value) (w : World) (K : V1) : Prop := F76_3b s4 w K
theorem ok76_3 {K : V1}
    (hn : HN (fun e w => K (.tuple #[(e 2), (e 3)]) w) kn) (hr : HR Tryz.prog [.tmp 2, .tmp 3] K kr) (he : HE noE ke) :
    ∀ e w, F76_3 (e 4) w K → denL Tryz.prog (tabOf T76) 32 fuel ((flat (bodyOf Tryz.f76)).drop 4) e w kn kr ke := by
  intro e w h
  unfold F76_3 at h
  have e1 : ∀ (_ : Unit), F76_3b (e 4) w K = denL Tryz.prog (tabOf T76) 32 fuel ((flat (bodyOf Tryz.f76)).drop 4) e w (fun e w => K (.tuple #[(e 2), (e 3)]) w) (endD Tryz.prog [.tmp 2, .tmp 3] K) noE := by intro _; kernel_rfl
  exact seg_end (Eq.mp (e1 ()) h) hn hr he
def F76_2b (s0 s4 s5 : Value) (w : World) (K : V1) (Y0 : V3) (Y1 : V1) : Prop :=
bindP (lenS s0) fun v1 =>
bindP (bLt s5 v1) fun v2 =>
ifB v2 (
bindP (pSliceS s0 (some s5) none) fun v3 =>
callP G90 [v3] w fun v5 w4 =>
bindP (pTuple v5 0) fun v6 =>
bindP (pTuple v5 1) fun v7 =>
bindP (pTuple v5 2) fun v8 =>
bindP (bNe Tryz.prog 24 (.tmp 21) (.const (.int .i64 0)) v8 (.int .i64 0)) fun v9 =>
ifB v9 (
K (.tuple #[(.slice none 0 0), v8]) w4) (
eBuildSl Tryz.prog 34 1 [(0, v6)] w4 fun v11 w10 =>
eAppend Tryz.prog 34 34 s4 v11 w10 fun v13 w12 =>
bindP (bAdd s5 v7) fun v14 =>
Y0 s0 v13 v14 w12)) (
Y1 s4 w)
def F76_2L : Nat → Value → Value → Value → World → (V1) → Prop
  | 0, _, _, _, _, _ => False
  | n + 1, s0, s4, s5, w, K => F76_2b s0 s4 s5 w K (fun a0 a4 a5 w => F76_2L n a0 a4 a5 w K) (fun a4 w => F76_3 a4 w K)
def F76_2 (s0 s4 s5 : Value) (w : World) (K : V1) : Prop := F76_2L fuel s0 s4 s5 w K
theorem ok76_2 {K : V1}
    (hn : HN (fun e w => K (.tuple #[(e 2), (e 3)]) w) kn) (hr : HR Tryz.prog [.tmp 2, .tmp 3] K kr) (he : HE noE ke) :
    ∀ e w, F76_2 (e 0) (e 4) (e 5) w K → denL Tryz.prog (tabOf T76) 32 fuel ((flat (bodyOf Tryz.f76)).drop 3) e w kn kr ke := by
  intro e w h
  unfold F76_2 at h
  refine seg_loop (id := 0) (body := (loopB (blkB (nthC (flat (bodyOf Tryz.f76)) 3)))) (l2 := (flat (bodyOf Tryz.f76)).drop 4) (by kernel_rfl) ?_
  refine loop_ok (FL := fun m e w => F76_2L m (e 0) (e 4) (e 5) w K) (fr := endD Tryz.prog [.tmp 2, .tmp 3] K) (fe := (blkK 0 (fun e w => F76_3 (e 4) w K) noE)) (fun _ _ h => h) ?_ hr (blkK_mono (fun e w h => ok76_3 hn hr he e w h) he) fuel e w h
  intro m e w h
  have h : F76_2L (m + 1) (e 0) (e 4) (e 5) w K := h
  rw [F76_2L] at h
  have e1 : ∀ (Y0 : V3) (Y1 : V1), F76_2b (e 0) (e 4) (e 5) w K Y0 Y1 = denL Tryz.prog (tabOf T76) 32 fuel (flat (loopB (blkB (nthC (flat (bodyOf Tryz.f76)) 3)))) e w (fun e w => Y0 (e 0) (e 4) (e 5) w) (endD Tryz.prog [.tmp 2, .tmp 3] K) (blkK 0 (fun e w => Y1 (e 4) w) noE) := by intro Y0 Y1; kernel_rfl
  exact Eq.mp (e1 (fun a0 a4 a5 w => F76_2L m a0 a4 a5 w K) (fun a4 w => F76_3 a4 w K)) h
def F76_1b (s0 : Value) (w : World) (_K : V1) (Y0 : V3) : Prop :=
Y0 s0 (.slice none 0 0) (.int .i64 0) w
def F76_1 (s0 : Value) (w : World) (K : V1) : Prop := F76_1b s0 w K (fun a0 a4 a5 w => F76_2 a0 a4 a5 w K)
theorem ok76_1 {K : V1}
    (hn : HN (fun e w => K (.tuple #[(e 2), (e 3)]) w) kn) (hr : HR Tryz.prog [.tmp 2, .tmp 3] K kr) (he : HE noE ke) :
    ∀ e w, F76_1 (e 0) w K → denL Tryz.prog (tabOf T76) 32 fuel ((flat (bodyOf Tryz.f76)).drop 0) e w kn kr ke := by
  intro e w h
  unfold F76_1 at h
  have e1 : ∀ (Y0 : V3), F76_1b (e 0) w K Y0 = denL Tryz.prog (tabOf T76) 32 fuel (((flat (bodyOf Tryz.f76)).drop 0).take 3) e w (fun e w => Y0 (e 0) (e 4) (e 5) w) (endD Tryz.prog [.tmp 2, .tmp 3] K) noE := by intro Y0; kernel_rfl
  exact seg 3 (Eq.mp (e1 (fun a0 a4 a5 w => F76_2 a0 a4 a5 w K)) h) (fun e w h => ok76_2 hn hr he e w h) hr he
def F76 (x0 : Value) (w : World) (K : V1) : Prop := F76_1 x0 w K
def G76 : FnT := fun args w K => on1 (fun x0 => F76 x0 w K) args
theorem c76 {x0 : Value} {w : World} {K : V1} (h : F76 x0 w K) : callP G76 [x0] w K := callP_intro (on1_mk (p := fun x0 => F76 x0 w K) h)
theorem ok76 : OkF Tryz.prog 76 G76 := by
  refine okF_of (tab_ok (l := T76) ⟨ok90, trivial⟩) mixed (n := fuel) Tryz.func76 Tryz.call76 fun args w K h => ?_
  obtain ⟨x0, rfl, hh⟩ := of_on1 h
  unfold F76 at hh
  exact fnD_list (c := bodyOf Tryz.f76) (by kernel_rfl) (by kernel_rfl) (ok76_1 (fun _ _ h => h) (fun _ _ h => h) (fun _ _ _ h => h) (initE [x0]) w hh)
def T65 : List (Nat × FnT) := [(76, G76)]
def F65_3b (s0 s1 s6 : Value) (w : World) (K : V1) : Prop :=
bindP (bEq Tryz.prog 24 (.tmp 31) (.const (.int .i64 0)) s6 (.int .i64 0)) fun v1 =>
stepM (gd true v1) s0 fun v2 =>
Sx.stepG (gd true v1) (lenS v2) fun v3 =>
stepM (gd true v1) s1 fun v4 =>
Sx.stepG (gd true v1) (bLe v3 v4) fun v5 =>
bindP (pPick v1 v5 (.bool false)) fun v6 =>
K v6 w
def F65_3 (s0 s1 s6 : Value) (w : World) (K : V1) : Prop := F65_3b s0 s1 s6 w K
theorem ok65_3 {K : V1}
    (hn : HN (fun e w => K (e 4) w) kn) (hr : HR Tryz.prog [.tmp 4] K kr) (he : HE noE ke) :
    ∀ e w, F65_3 (e 0) (e 1) (e 6) w K → denL Tryz.prog (tabOf T65) 39 fuel ((flat (bodyOf Tryz.f65)).drop 4) e w kn kr ke := by
  intro e w h
  unfold F65_3 at h
  have e1 : ∀ (_ : Unit), F65_3b (e 0) (e 1) (e 6) w K = denL Tryz.prog (tabOf T65) 39 fuel ((flat (bodyOf Tryz.f65)).drop 4) e w (fun e w => K (e 4) w) (endD Tryz.prog [.tmp 4] K) noE := by intro _; kernel_rfl
  exact seg_end (Eq.mp (e1 ()) h) hn hr he
def F65_2b (s0 s1 s5 s6 s7 : Value) (w : World) (K : V1) (Y0 : V5) (Y1 : V3) : Prop :=
bindP (lenL s5) fun v7 =>
bindP (bLt s7 v7) fun v8 =>
ifB v8 (
bindP (pIndexL 1 s5 s7) fun v9 =>
bindP (ld1 v9 w) fun v10 =>
bindP (bLt v10 (.int .i64 32)) fun v11 =>
stepM (gd false v11) s5 fun v12 =>
stepM (gd false v11) s7 fun v13 =>
Sx.stepG (gd false v11) (pIndexL 1 v12 v13) fun v14 =>
Sx.stepG (gd false v11) (ld1 v14 w) fun v15 =>
Sx.stepG (gd false v11) (bEq Tryz.prog 3 (.tmp 28) (.const (.int .i64 127)) v15 (.int .i64 127)) fun v16 =>
bindP (pPick v11 (.bool true) v16) fun v17 =>
ifB v17 (
K (.bool false) w) (
bindP (bAdd s7 (.int .i64 1)) fun v18 =>
Y0 s0 s1 s5 s6 v18 w)) (
Y1 s0 s1 s6 w)
def F65_2L : Nat → Value → Value → Value → Value → Value → World → (V1) → Prop
  | 0, _, _, _, _, _, _, _ => False
  | n + 1, s0, s1, s5, s6, s7, w, K => F65_2b s0 s1 s5 s6 s7 w K (fun a0 a1 a5 a6 a7 w => F65_2L n a0 a1 a5 a6 a7 w K) (fun a0 a1 a6 w => F65_3 a0 a1 a6 w K)
def F65_2 (s0 s1 s5 s6 s7 : Value) (w : World) (K : V1) : Prop := F65_2L fuel s0 s1 s5 s6 s7 w K
theorem ok65_2 {K : V1}
    (hn : HN (fun e w => K (e 4) w) kn) (hr : HR Tryz.prog [.tmp 4] K kr) (he : HE noE ke) :
    ∀ e w, F65_2 (e 0) (e 1) (e 5) (e 6) (e 7) w K → denL Tryz.prog (tabOf T65) 39 fuel ((flat (bodyOf Tryz.f65)).drop 3) e w kn kr ke := by
  intro e w h
  unfold F65_2 at h
  refine seg_loop (id := 0) (body := (loopB (blkB (nthC (flat (bodyOf Tryz.f65)) 3)))) (l2 := (flat (bodyOf Tryz.f65)).drop 4) (by kernel_rfl) ?_
  refine loop_ok (FL := fun m e w => F65_2L m (e 0) (e 1) (e 5) (e 6) (e 7) w K) (fr := endD Tryz.prog [.tmp 4] K) (fe := (blkK 0 (fun e w => F65_3 (e 0) (e 1) (e 6) w K) noE)) (fun _ _ h => h) ?_ hr (blkK_mono (fun e w h => ok65_3 hn hr he e w h) he) fuel e w h
  intro m e w h
  have h : F65_2L (m + 1) (e 0) (e 1) (e 5) (e 6) (e 7) w K := h
  rw [F65_2L] at h
  have e1 : ∀ (Y0 : V5) (Y1 : V3), F65_2b (e 0) (e 1) (e 5) (e 6) (e 7) w K Y0 Y1 = denL Tryz.prog (tabOf T65) 39 fuel (flat (loopB (blkB (nthC (flat (bodyOf Tryz.f65)) 3)))) e w (fun e w => Y0 (e 0) (e 1) (e 5) (e 6) (e 7) w) (endD Tryz.prog [.tmp 4] K) (blkK 0 (fun e w => Y1 (e 0) (e 1) (e 6) w) noE) := by intro Y0 Y1; kernel_rfl
  exact Eq.mp (e1 (fun a0 a1 a5 a6 a7 w => F65_2L m a0 a1 a5 a6 a7 w K) (fun a0 a1 a6 w => F65_3 a0 a1 a6 w K)) h
def F65_1b (s0 s1 : Value) (w : World) (_K : V1) (Y0 : V5) : Prop :=
callP G76 [s0] w fun v20 w19 =>
bindP (pTuple v20 0) fun v21 =>
bindP (pTuple v20 1) fun v22 =>
Y0 s0 s1 v21 v22 (.int .i64 0) w19
def F65_1 (s0 s1 : Value) (w : World) (K : V1) : Prop := F65_1b s0 s1 w K (fun a0 a1 a5 a6 a7 w => F65_2 a0 a1 a5 a6 a7 w K)
theorem ok65_1 {K : V1}
    (hn : HN (fun e w => K (e 4) w) kn) (hr : HR Tryz.prog [.tmp 4] K kr) (he : HE noE ke) :
    ∀ e w, F65_1 (e 0) (e 1) w K → denL Tryz.prog (tabOf T65) 39 fuel ((flat (bodyOf Tryz.f65)).drop 0) e w kn kr ke := by
  intro e w h
  unfold F65_1 at h
  have e1 : ∀ (Y0 : V5), F65_1b (e 0) (e 1) w K Y0 = denL Tryz.prog (tabOf T65) 39 fuel (((flat (bodyOf Tryz.f65)).drop 0).take 3) e w (fun e w => Y0 (e 0) (e 1) (e 5) (e 6) (e 7) w) (endD Tryz.prog [.tmp 4] K) noE := by intro Y0; kernel_rfl
  exact seg 3 (Eq.mp (e1 (fun a0 a1 a5 a6 a7 w => F65_2 a0 a1 a5 a6 a7 w K)) h) (fun e w h => ok65_2 hn hr he e w h) hr he
def F65 (x0 x1 : Value) (w : World) (K : V1) : Prop := F65_1 x0 x1 w K
def G65 : FnT := fun args w K => on2 (fun x0 x1 => F65 x0 x1 w K) args
theorem c65 {x0 x1 : Value} {w : World} {K : V1} (h : F65 x0 x1 w K) : callP G65 [x0, x1] w K := callP_intro (on2_mk (p := fun x0 x1 => F65 x0 x1 w K) h)
theorem ok65 : OkF Tryz.prog 65 G65 := by
  refine okF_of (tab_ok (l := T65) ⟨ok76, trivial⟩) mixed (n := fuel) Tryz.func65 Tryz.call65 fun args w K h => ?_
  obtain ⟨x0, x1, rfl, hh⟩ := of_on2 h
  unfold F65 at hh
  exact fnD_list (c := bodyOf Tryz.f65) (by kernel_rfl) (by kernel_rfl) (ok65_1 (fun _ _ h => h) (fun _ _ h => h) (fun _ _ _ h => h) (initE [x0, x1]) w hh)
def T51 : List (Nat × FnT) := [(65, G65)]
def F51 (x0 : Value) (w : World) (K : V1) : Prop :=
eBox 33 x0 w fun v2 w1 =>
bindP (pFieldAddr 0 v2) fun v3 =>
bindP (ld1 v3 w1) fun v4 =>
bindP (bEq Tryz.prog 9 (.tmp 4) (.const (.string ⟨#[]⟩)) v4 (.string ⟨#[]⟩)) fun v5 =>
Sx.stepG (gd false v5) (pFieldAddr 1 v2) fun v6 =>
Sx.stepG (gd false v5) (ld1 v6 w1) fun v7 =>
Sx.stepG (gd false v5) (bEq Tryz.prog 9 (.tmp 8) (.const (.string ⟨#[]⟩)) v7 (.string ⟨#[]⟩)) fun v8 =>
bindP (pPick v5 (.bool true) v8) fun v9 =>
Sx.stepG (gd false v9) (pFieldAddr 0 v2) fun v10 =>
Sx.stepG (gd false v9) (ld1 v10 w1) fun v11 =>
stepE (gd false v9) (fun k => callP G65 [v11, (.int .i64 64)] w1 k) w1 fun v13 w12 =>
Sx.stepG (gd false v9) (uNot v13) fun v14 =>
bindP (pPick v9 (.bool true) v14) fun v15 =>
Sx.stepG (gd false v15) (pFieldAddr 1 v2) fun v16 =>
Sx.stepG (gd false v15) (ld1 v16 w12) fun v17 =>
stepE (gd false v15) (fun k => callP G65 [v17, (.int .i64 64)] w12 k) w12 fun v19 w18 =>
Sx.stepG (gd false v15) (uNot v19) fun v20 =>
bindP (pPick v15 (.bool true) v20) fun v21 =>
Sx.stepG (gd false v21) (pFieldAddr 2 v2) fun v22 =>
Sx.stepG (gd false v21) (ld1 v22 w18) fun v23 =>
stepE (gd false v21) (fun k => callP G65 [v23, (.int .i64 128)] w18 k) w18 fun v25 w24 =>
Sx.stepG (gd false v21) (uNot v25) fun v26 =>
bindP (pPick v21 (.bool true) v26) fun v27 =>
Sx.stepG (gd false v27) (pFieldAddr 4 v2) fun v28 =>
Sx.stepG (gd false v27) (ld1 v28 w24) fun v29 =>
stepE (gd false v27) (fun k => callP G65 [v29, (.int .i64 1024)] w24 k) w24 fun v31 w30 =>
Sx.stepG (gd false v27) (uNot v31) fun v32 =>
bindP (pPick v27 (.bool true) v32) fun v33 =>
Sx.stepG (gd false v33) (pFieldAddr 3 v2) fun v34 =>
Sx.stepG (gd false v33) (ld1 v34 w30) fun v35 =>
Sx.stepG (gd false v33) (bLt v35 (.int .i64 0)) fun v36 =>
bindP (pPick v33 (.bool true) v36) fun v37 =>
Sx.stepG (gd false v37) (pFieldAddr 3 v2) fun v38 =>
Sx.stepG (gd false v37) (ld1 v38 w30) fun v39 =>
Sx.stepG (gd false v37) (bGt v39 (.int .i64 5)) fun v40 =>
bindP (pPick v37 (.bool true) v40) fun v41 =>
ifB v41 (
K (.int .i64 180) w30) (
K (.int .i64 0) w30)
def G51 : FnT := fun args w K => on1 (fun x0 => F51 x0 w K) args
theorem c51 {x0 : Value} {w : World} {K : V1} (h : F51 x0 w K) : callP G51 [x0] w K := callP_intro (on1_mk (p := fun x0 => F51 x0 w K) h)
theorem ok51 : OkF Tryz.prog 51 G51 := by
  refine okF_of (tab_ok (l := T51) ⟨ok65, trivial⟩) mixed (n := fuel) Tryz.func51 Tryz.call51 fun args w K h => ?_
  obtain ⟨x0, rfl, hh⟩ := of_on1 h
  exact fnD_list (c := bodyOf Tryz.f51) (by kernel_rfl) (by kernel_rfl) (Eq.mp (by kernel_rfl) hh)
end Go.Proofs.Gong

/- Nm1 -/
namespace Go.Proofs.Gong
open Go Go.Sx Go.Proofs
set_option maxRecDepth 100000
theorem nil_b : (⟨#[]⟩ : ByteArray) = bs [] := by simp [bs]
theorem gd_undef (b : Bool) : gd b undef = false := by cases b <;> rfl
theorem and31 : ∀ n : Fin 256, bBits .and .u8 (n.val : Int) 31 = some ((n.val % 32 : Nat) : Int) := by decide +kernel
theorem and15 : ∀ n : Fin 256, bBits .and .u8 (n.val : Int) 15 = some ((n.val % 16 : Nat) : Int) := by decide +kernel
theorem and7 : ∀ n : Fin 256, bBits .and .u8 (n.val : Int) 7 = some ((n.val % 8 : Nat) : Int) := by decide +kernel
theorem and63 : ∀ n : Fin 256, bBits .and .u8 (n.val : Int) 63 = some ((n.val % 64 : Nat) : Int) := by decide +kernel
theorem bAnd_u8 {k m : Nat} (h : ∀ n : Fin 256, bBits .and .u8 (n.val : Int) (k : Int) = some ((n.val % m : Nat) : Int)) (b : UInt8) : bBit .and (.int .u8 b.toNat) (.int .u8 k) = some (.int .u8 ((b.toNat % m : Nat))) := by
  have := h ⟨b.toNat, b.toNat_lt⟩
  simp only at this
  simp only [bBit, if_true, this, Option.map_some]
theorem shr_u8 (n k : Nat) (h : k ≤ 8) : bShr (.int .u8 n) (.int .u64 k) = some (.int .u8 ((n / 2 ^ k : Nat))) := bShr_nat (j := .u8) (by exact h)
theorem to64 (n : Nat) (h : n < 9223372036854775808) : cInt .i64 (.int .u8 n) = some (.int .i64 n) := by
  simp only [cInt]; rw [wrap_id (by omega)]
theorem shl6 {n : Nat} (h : n < 72057594037927936) : bShl (.int .i64 n) (.int .u64 6) = some (.int .i64 ((n * 64 : Nat))) := by
  have e : min ((6 : Int).toNat) IntKind.i64.bits = 6 := by decide
  simp only [bShl]
  rw [if_neg (by decide), e, show ((n : Int) * 2 ^ 6) = ((n * 64 : Nat) : Int) by omega, wrap_id (by omega)]
theorem plus1 {a : Nat} (h : a + 1 < 9223372036854775808) : bAdd (.int .i64 a) (.int .i64 1) = some (.int .i64 ((a + 1 : Nat))) := by
  rw [bAdd_int, show ((a : Int) + 1) = ((a + 1 : Nat) : Int) by omega, wrap_id (by omega)]
section
variable {w : World} {K : Value → World → Prop}
theorem long_spec {b : UInt8} (hK : K (.tuple #[.int .i64 (longP b.toNat).1, .int .i64 (longP b.toNat).2]) w) : callP G98 [.int .u8 b.toNat] w K := by
  refine c98 ?_
  unfold F98
  have hb := b.toNat_lt
  unfold longP at hK
  by_cases h1 : b.toNat < 128
  · rw [if_pos h1] at hK
    have e : bLt (.int .u8 (b.toNat : Int)) (.int .u8 128) = some (.bool true) := by simp; omega
    simp only [e, bindP_some, ifB_true, to64 _ (show b.toNat < 9223372036854775808 by omega)]
    exact hK
  · rw [if_neg h1] at hK
    have e : bLt (.int .u8 (b.toNat : Int)) (.int .u8 128) = some (.bool false) := by simp; omega
    have s5 : bShr (.int .u8 (b.toNat : Int)) (.int .u64 5) = some (.int .u8 ((b.toNat / 32 : Nat))) := shr_u8 _ 5 (by omega)
    have s4 : bShr (.int .u8 (b.toNat : Int)) (.int .u64 4) = some (.int .u8 ((b.toNat / 16 : Nat))) := shr_u8 _ 4 (by omega)
    have s3 : bShr (.int .u8 (b.toNat : Int)) (.int .u64 3) = some (.int .u8 ((b.toNat / 8 : Nat))) := shr_u8 _ 3 (by omega)
    have a31 : bBit .and (.int .u8 (b.toNat : Int)) (.int .u8 31) = _ := bAnd_u8 (k := 31) and31 b
    have a15 : bBit .and (.int .u8 (b.toNat : Int)) (.int .u8 15) = _ := bAnd_u8 (k := 15) and15 b
    have a7 : bBit .and (.int .u8 (b.toNat : Int)) (.int .u8 7) = _ := bAnd_u8 (k := 7) and7 b
    simp only [e, bindP_some, ifB_false, s5, s4, s3, a31, a15, a7, bEq_int]
    by_cases h2 : b.toNat / 32 = 6
    · rw [if_pos h2] at hK
      have : decide (((b.toNat / 32 : Nat) : Int) = 6) = true := by rw [h2]; rfl
      simp only [this, ifB_true, to64 _ (show b.toNat % 32 < 9223372036854775808 by omega), bindP_some]
      exact hK
    · rw [if_neg h2] at hK
      have : decide (((b.toNat / 32 : Nat) : Int) = 6) = false := by rw [decide_eq_false_iff_not]; omega
      simp only [this, ifB_false]
      by_cases h3 : b.toNat / 16 = 14
      · rw [if_pos h3] at hK
        have : decide (((b.toNat / 16 : Nat) : Int) = 14) = true := by rw [h3]; rfl
        simp only [this, ifB_true, to64 _ (show b.toNat % 16 < 9223372036854775808 by omega), bindP_some]
        exact hK
      · rw [if_neg h3] at hK
        have : decide (((b.toNat / 16 : Nat) : Int) = 14) = false := by rw [decide_eq_false_iff_not]; omega
        simp only [this, ifB_false]
        by_cases h4 : b.toNat / 8 = 30
        · rw [if_pos h4] at hK
          have : decide (((b.toNat / 8 : Nat) : Int) = 30) = true := by rw [h4]; rfl
          simp only [this, ifB_true, to64 _ (show b.toNat % 8 < 9223372036854775808 by omega), bindP_some]
          exact hK
        · rw [if_neg h4] at hK
          have : decide (((b.toNat / 8 : Nat) : Int) = 30) = false := by rw [decide_eq_false_iff_not]; omega
          simp only [this, ifB_false]
          exact hK
theorem is_spec {c : Nat} (hK : K (.bool (isC c)) w) : callP G99 [.int .i64 c] w K := by
  refine c99 ?_
  unfold F99
  unfold isC at hK
  by_cases h1 : c ≤ 1114111
  · by_cases h2 : c < 55296
    · have e1 : decide ((c : Int) ≥ 0) = true := by simp
      have e2 : decide ((c : Int) ≤ 1114111) = true := by simp; omega
      have e3 : decide ((c : Int) < 55296) = true := by simp; omega
      simp only [bGe_int, bLe_int, bLt_int, e1, e2, e3, bindP_some, gd_true, gd_false, Bool.not_true, stepM_true, stepM_false, stepG_true, stepG_false, pPick_true]
      simpa [h1, h2] using hK
    · have e1 : decide ((c : Int) ≥ 0) = true := by simp
      have e2 : decide ((c : Int) ≤ 1114111) = true := by simp; omega
      have e3 : decide ((c : Int) < 55296) = false := by simp; omega
      have e4 : decide ((c : Int) > 57343) = decide (57343 < c) := by rw [decide_eq_decide]; omega
      simp only [bGe_int, bLe_int, bLt_int, bGt_int, e1, e2, e3, e4, bindP_some, gd_true, gd_false, Bool.not_false, stepM_true, stepG_true, pPick_true, pPick_false]
      simpa [h1, h2] using hK
  · have e1 : decide ((c : Int) ≥ 0) = true := by simp
    have e2 : decide ((c : Int) ≤ 1114111) = false := by simp; omega
    simp only [bGe_int, bLe_int, e1, e2, bindP_some, gd_true, gd_false, Bool.not_false, stepM_true, stepM_false, stepG_true, stepG_false, pPick_true, pPick_false, gd_undef]
    simpa [h1] using hK
theorem least_spec {n : Nat} (hK : K (.int .i64 (leastP n)) w) : callP G100 [.int .i64 n] w K := by
  refine c100 ?_
  unfold F100
  unfold leastP at hK
  by_cases h2 : n = 2
  · subst h2; simpa using hK
  · by_cases h3 : n = 3
    · subst h3; simpa using hK
    · by_cases h4 : n = 4
      · subst h4; simpa using hK
      · have e2 : decide ((n : Int) = 2) = false := by rw [decide_eq_false_iff_not]; omega
        have e3 : decide ((n : Int) = 3) = false := by rw [decide_eq_false_iff_not]; omega
        have e4 : decide ((n : Int) = 4) = false := by rw [decide_eq_false_iff_not]; omega
        simp only [bEq_int, e2, e3, e4, bindP_some, ifB_false]
        simpa [h2, h3, h4] using hK
def errV : Value := .tuple #[.int .i64 0, .int .i64 0, .int .i64 40]
def firstV (s : List UInt8) : Value := match firstP s with
  | some x => .tuple #[.int .i64 x.1, .int .i64 x.2, .int .i64 0]
  | none => errV
theorem cont_spec {s : List UInt8} {n : Nat} (hs : n ≤ s.length) (h4 : n ≤ 4) : ∀ (k i c m : Nat), k + i = n → k ≤ m → c < 256 * 64 ^ i → (match contP k c (s.drop i) with | none => K errV w | some c' => F88_3 (.int .i64 c') (.int .i64 n) w K) →
    F88_2L (m + 1) (.string (bs s)) (.int .i64 c) (.int .i64 n) (.int .i64 i) w K := by
  intro k
  induction k with
  | zero =>
    intro i c m hk hm hc hK
    rw [F88_2L]; unfold F88_2b
    obtain rfl : i = n := by omega
    rw [bLt_int]
    simp only [bindP_some, Int.lt_irrefl, decide_false, ifB_false]
    simpa [contP] using hK
  | succ k ih =>
    intro i c m hk hm hc hK
    obtain ⟨m, rfl⟩ : ∃ j, m = j + 1 := ⟨m - 1, by omega⟩
    rw [F88_2L]; unfold F88_2b
    have hi : i < s.length := by omega
    have e : bLt (.int .i64 (i : Int)) (.int .i64 n) = some (.bool true) := by simp; omega
    have hdr : s.drop i = s[i] :: s.drop (i + 1) := List.drop_eq_getElem_cons hi
    rw [hdr] at hK
    rw [e]
    simp only [bindP_some, ifB_true, ix_txt hi]
    generalize s[i] = b at hK
    have hb := b.toNat_lt
    have s6 : bShr (.int .u8 (b.toNat : Int)) (.int .u64 6) = some (.int .u8 ((b.toNat / 64 : Nat))) := shr_u8 _ 6 (by omega)
    simp only [s6, bindP_some, bNe_int]
    simp only [contP] at hK
    by_cases h2 : b.toNat / 64 = 2
    · rw [if_pos h2] at hK
      have : (!decide (((b.toNat / 64 : Nat) : Int) = 2)) = false := by rw [h2]; rfl
      have a63 : bBit .and (.int .u8 (b.toNat : Int)) (.int .u8 63) = _ := bAnd_u8 (k := 63) and63 b
      have hp : 64 ^ i ≤ 64 ^ 4 := Nat.pow_le_pow_right (by omega) (by omega)
      have e4 : 64 ^ 4 = 16777216 := by decide
      simp only [this, ifB_false, shl6 (show c < 72057594037927936 by omega), a63, to64 _ (show b.toNat % 64 < 9223372036854775808 by omega), bindP_some]
      rw [bOr_i64 (by omega) (by omega), or_add (a := c) (i := 6) (by omega)]
      simp only [bindP_some, plus1 (show i + 1 < 9223372036854775808 by omega)]
      refine ih (i + 1) (c * 64 + b.toNat % 64) m (by omega) (by omega) (by rw [Nat.pow_succ]; omega) hK
    · rw [if_neg h2] at hK
      have : (!decide (((b.toNat / 64 : Nat) : Int) = 2)) = true := by simp; omega
      simp only [this, ifB_true]
      exact hK
theorem first_spec4 {s : List UInt8} (hK : K (firstV s) w) : callP G88 [.string (bs s)] w K := by
  refine c88 ?_
  unfold F88 F88_1 F88_1b
  rw [nil_b]
  cases s with
  | nil =>
    simp only [bEq_str, bs_beq, decide_true, bindP_some, ifB_true]
    exact hK
  | cons b s =>
    have e : decide (bs (b :: s) = bs []) = false := by simp
    have ix := ix_txt (l := b :: s) (i := 0) (j := .i64) (by simp)
    simp only [List.getElem_cons_zero] at ix
    have ix0 : pIndexS (.string (bs (b :: s))) (.int .i64 0) = some (.int .u8 b.toNat) := ix
    simp only [bEq_str, bs_beq, e, bindP_some, ifB_false, ix0]
    refine long_spec ?_
    simp only [pTuple, List.getElem?_toArray, List.getElem?_cons_zero, List.getElem?_cons_succ, bindP_some, bEq_int]
    have hl4 : (longP b.toNat).1 ≤ 4 ∧ (longP b.toNat).2 < 256 := by
      have := b.toNat_lt
      unfold longP
      split
      · exact ⟨by simp, by simp; omega⟩
      · split
        · exact ⟨by simp, by simp; omega⟩
        · split
          · exact ⟨by simp, by simp; omega⟩
          · split
            · exact ⟨by simp, by simp; omega⟩
            · exact ⟨by simp, by simp⟩
    unfold firstV firstP at hK
    simp only at hK
    generalize longP b.toNat = x at hK hl4
    by_cases h0 : x.1 = 0
    · rw [if_pos (.inl h0)] at hK
      have : decide ((x.1 : Int) = 0) = true := by simp; omega
      simp only [this, gd_false, Bool.not_true, stepM_false, stepG_false, pPick_true, bindP_some, ifB_true]
      exact hK
    · have : decide ((x.1 : Int) = 0) = false := by simp; omega
      simp only [this, gd_false, Bool.not_false, stepM_true, stepG_true, lenS_mk, bs_size, bGt_int, pPick_false, bindP_some]
      by_cases h1 : s.length + 1 < x.1
      · rw [if_pos (.inr h1)] at hK
        have : decide ((x.1 : Int) > ((b :: s).length : Int)) = true := by simp; omega
        simp only [this, ifB_true]
        exact hK
      · rw [if_neg (by rintro (h | h) <;> omega)] at hK
        have : decide ((x.1 : Int) > ((b :: s).length : Int)) = false := by simp; omega
        simp only [this, ifB_false]
        unfold F88_2
        refine cont_spec (n := x.1) (by simp; omega) hl4.1 (x.1 - 1) 1 x.2 (fuel - 1) (by omega) (Nat.le_trans (show x.1 - 1 ≤ 4 by omega) (by decide)) (by omega) ?_
        simp only [List.drop_succ_cons, List.drop_zero]
        cases hc : contP (x.1 - 1) x.2 s with
        | none => rw [hc] at hK; exact hK
        | some c =>
          rw [hc] at hK
          simp only at hK ⊢
          unfold F88_3 F88_3b
          refine is_spec ?_
          by_cases h5 : isC c = true
          · simp only [h5, uNot_bool, Bool.not_true, bindP_some, gd_false, Bool.not_false, stepM_true, stepE_true]
            refine least_spec ?_
            by_cases h6 : leastP x.1 ≤ c
            · rw [if_pos ⟨h5, h6⟩] at hK
              have : decide ((c : Int) < (leastP x.1 : Int)) = false := by simp; omega
              simp only [bLt_int, this, stepG_true, bindP_some, pPick_false, ifB_false]
              exact hK
            · rw [if_neg (fun h => h6 h.2)] at hK
              have : decide ((c : Int) < (leastP x.1 : Int)) = true := by simp; omega
              simp only [bLt_int, this, stepG_true, bindP_some, pPick_false, ifB_true]
              exact hK
          · rw [if_neg (fun h => h5 h.1)] at hK
            have h5' : isC c = false := by simpa using h5
            simp only [h5', uNot_bool, Bool.not_false, bindP_some, gd_false, Bool.not_true, stepM_false, stepG_false, stepE_false, pPick_true, ifB_true]
            exact hK
end
end Go.Proofs.Gong

/- Nm2 -/
namespace Go.Proofs.Gong
open Go Go.Sx Go.Proofs
set_option maxRecDepth 100000
theorem to8n (n : Nat) : cInt .u8 (.int .i64 n) = some (.int .u8 (UInt8.ofNat n).toNat) := by
  simp only [cInt]; rw [wrap_u8]; congr 2
theorem quoN (n k : Nat) (hk : k ≠ 0) (h : n < 9223372036854775808) : bQuo (.int .i64 n) (.int .i64 k) = some (.int .i64 ((n / k : Nat))) := by
  rw [bQuo_int _ _ _ (by omega)]
  have e : (n : Int).tdiv k = ((n / k : Nat) : Int) := by rw [Int.tdiv_eq_ediv_of_nonneg (by omega)]; rfl
  have hq := Nat.div_le_self n k
  rw [e]
  generalize n / k = q at hq
  rw [wrap_id (by omega)]
theorem remN (j : IntKind) (n k : Nat) (hk : k ≠ 0) : bRem (.int j n) (.int j k) = some (.int j ((n % k : Nat))) := by
  rw [bRem_int _ _ _ (by omega)]
  have e : (n : Int).tmod k = ((n % k : Nat) : Int) := by rw [Int.tmod_eq_emod_of_nonneg (by omega)]; rfl
  rw [e]
theorem addN {a b : Nat} (h : a + b < 9223372036854775808) : bAdd (.int .i64 a) (.int .i64 b) = some (.int .i64 ((a + b : Nat))) := by
  rw [bAdd_int, show ((a : Int) + b) = ((a + b : Nat) : Int) by omega, wrap_id (by omega)]
theorem mul64 {n : Nat} (h : n < 72057594037927936) : bMul (.int .i64 n) (.int .i64 64) = some (.int .i64 ((n * 64 : Nat))) := by
  rw [bMul_int, show ((n : Int) * 64) = ((n * 64 : Nat) : Int) by omega, wrap_id (by omega)]
section
variable {w0 w : World} {L : List HP} {K : Value → World → Prop}
theorem fis_spec {c : Nat} (hK : K (.bool (isC c)) w) : callP G102 [.int .i64 c] w K := by
  refine c102 ?_
  unfold F102
  unfold isC at hK
  by_cases h1 : c ≤ 1114111
  · by_cases h2 : c < 55296
    · have e1 : decide ((c : Int) ≥ 0) = true := by simp
      have e2 : decide ((c : Int) ≤ 1114111) = true := by simp; omega
      have e3 : decide ((c : Int) < 55296) = true := by simp; omega
      simp only [bGe_int, bLe_int, bLt_int, e1, e2, e3, bindP_some, gd_true, gd_false, Bool.not_true, stepM_true, stepM_false, stepG_true, stepG_false, pPick_true]
      simpa [h1, h2] using hK
    · have e1 : decide ((c : Int) ≥ 0) = true := by simp
      have e2 : decide ((c : Int) ≤ 1114111) = true := by simp; omega
      have e3 : decide ((c : Int) < 55296) = false := by simp; omega
      have e4 : decide ((c : Int) > 57343) = decide (57343 < c) := by rw [decide_eq_decide]; omega
      simp only [bGe_int, bLe_int, bLt_int, bGt_int, e1, e2, e3, e4, bindP_some, gd_true, gd_false, Bool.not_false, stepM_true, stepG_true, pPick_true, pPick_false]
      simpa [h1, h2] using hK
  · have e1 : decide ((c : Int) ≥ 0) = true := by simp
    have e2 : decide ((c : Int) ≤ 1114111) = false := by simp; omega
    simp only [bGe_int, bLe_int, e1, e2, bindP_some, gd_true, gd_false, Bool.not_false, stepM_true, stepM_false, stepG_true, stepG_false, pPick_true, pPick_false, gd_undef]
    simpa [h1] using hK
theorem guessL_spec {s : List UInt8} {n : Nat} (hs : n ≤ s.length) (h4 : n ≤ 4) : ∀ (k i c m : Nat), k + i = n → k ≤ m → c < 256 * 64 ^ i → K (.int .i64 (foldP c ((s.drop i).take k))) w →
    F101_3L (m + 1) (.string (bs s)) (.int .i64 n) (.int .i64 c) (.int .i64 i) w K := by
  intro k
  induction k with
  | zero =>
    intro i c m hk hm hc hK
    rw [F101_3L]; unfold F101_3b F101_4 F101_4b
    obtain rfl : i = n := by omega
    rw [bLt_int]
    simp only [bindP_some, Int.lt_irrefl, decide_false, ifB_false]
    simpa [foldP] using hK
  | succ k ih =>
    intro i c m hk hm hc hK
    obtain ⟨m, rfl⟩ : ∃ j, m = j + 1 := ⟨m - 1, by omega⟩
    rw [F101_3L]; unfold F101_3b
    have hi : i < s.length := by omega
    have e : bLt (.int .i64 (i : Int)) (.int .i64 n) = some (.bool true) := by simp; omega
    have hdr : s.drop i = s[i] :: s.drop (i + 1) := List.drop_eq_getElem_cons hi
    rw [hdr, List.take_succ_cons] at hK
    have hp : 64 ^ i ≤ 64 ^ 4 := Nat.pow_le_pow_right (by omega) (by omega)
    have e4 : 64 ^ 4 = 16777216 := by decide
    rw [e]
    simp only [bindP_some, ifB_true, ix_txt hi]
    generalize s[i] = b at hK
    have hb := b.toNat_lt
    have r64 : bRem (.int .u8 (b.toNat : Int)) (.int .u8 64) = some (.int .u8 ((b.toNat % 64 : Nat))) := remN .u8 _ 64 (by omega)
    simp only [mul64 (show c < 72057594037927936 by omega), r64, bindP_some, to64 _ (show b.toNat % 64 < 9223372036854775808 by omega)]
    rw [addN (by omega)]
    simp only [bindP_some, plus1 (show i + 1 < 9223372036854775808 by omega)]
    exact ih (i + 1) (c * 64 + b.toNat % 64) m (by omega) (by omega) (by rw [Nat.pow_succ]; omega) hK
theorem guess_spec {s : List UInt8} {n : Nat} (hn : 1 ≤ n ∧ n ≤ 4) (hs : n ≤ s.length) (hK : K (.int .i64 (guessP s n)) w) : callP G101 [.string (bs s), .int .i64 n] w K := by
  refine c101 ?_
  unfold F101 F101_1 F101_1b
  cases s with
  | nil => simp at hs; omega
  | cons b t =>
    have ix : pIndexS (.string (bs (b :: t))) (.int .i64 0) = some (.int .u8 b.toNat) := ix_txt (l := b :: t) (i := 0) (j := .i64) (by simp)
    have hb := b.toNat_lt
    have r32 : bRem (.int .i64 (b.toNat : Int)) (.int .i64 32) = some (.int .i64 ((b.toNat % 32 : Nat))) := remN .i64 _ 32 (by omega)
    have r16 : bRem (.int .i64 (b.toNat : Int)) (.int .i64 16) = some (.int .i64 ((b.toNat % 16 : Nat))) := remN .i64 _ 16 (by omega)
    have r8 : bRem (.int .i64 (b.toNat : Int)) (.int .i64 8) = some (.int .i64 ((b.toNat % 8 : Nat))) := remN .i64 _ 8 (by omega)
    have go : ∀ c : Nat, c < 256 → n ≠ 1 → K (.int .i64 (foldP c (t.take (n - 1)))) w → F101_2 (.string (bs (b :: t))) (.int .i64 n) (.int .i64 c) w K := by
      intro c hc h1 hk
      unfold F101_2 F101_2b F101_3
      exact guessL_spec hs hn.2 (n - 1) 1 c (fuel - 1) (by omega) (Nat.le_trans (show n - 1 ≤ 4 by omega) (by decide)) (by omega) (by simpa using hk)
    simp only [ix, bindP_some, to64 _ (show b.toNat < 9223372036854775808 by omega), bEq_int, r32, r16, r8]
    unfold guessP at hK
    simp only at hK
    by_cases h1 : n = 1
    · rw [if_pos h1] at hK
      have e1 : decide ((n : Int) = 1) = true := by rw [h1]; rfl
      simp only [e1, ifB_true]
      exact hK
    · rw [if_neg h1] at hK
      have e1 : decide ((n : Int) = 1) = false := by rw [decide_eq_false_iff_not]; omega
      simp only [e1, ifB_false]
      by_cases h2 : n = 2
      · rw [if_pos h2] at hK
        have e2 : decide ((n : Int) = 2) = true := by simp; omega
        simp only [e2, ifB_true]
        exact go _ (by omega) h1 hK
      · rw [if_neg h2] at hK
        have e2 : decide ((n : Int) = 2) = false := by rw [decide_eq_false_iff_not]; omega
        simp only [e2, ifB_false]
        by_cases h3 : n = 3
        · rw [if_pos h3] at hK
          have e3 : decide ((n : Int) = 3) = true := by simp; omega
          simp only [e3, ifB_true]
          exact go _ (by omega) h1 hK
        · rw [if_neg h3] at hK
          have e3 : decide ((n : Int) = 3) = false := by rw [decide_eq_false_iff_not]; omega
          simp only [e3, ifB_false]
          exact go _ (by omega) h1 hK
theorem bytesOfN {l : List UInt8} {parts : List (Nat × Value)} {n : Nat} {k : Value → World → Prop} (h : Sat w0 L w) (hb : fBuildSl Tryz.prog 5 n parts = some (cellsB l).toArray) (hn : l.length = n) (h0 : 0 < n) (hK : ∀ sv w', Sat w0 L w' → cBytes sv w' = some (.string (bs l)) → k sv w') : eBuildSl Tryz.prog 142 n parts w k := by
  refine eBuildSl_sat (es := 1) h u142 hb (by simp [hn]) fun s w' h' => hK s w' h'.drop ?_
  have := h'.rd
  exact cBytes_rd this h0
theorem d65 {c : Nat} (h : c < 65536) : decide ((c : Int) < 65536) = true := by simp; omega
theorem n65 {c : Nat} (h : ¬ c < 65536) : decide ((c : Int) < 65536) = false := by simp; omega
theorem d128 {c : Nat} (h : c < 128) : decide ((c : Int) < 128) = true := by simp; omega
theorem n128 {c : Nat} (h : ¬ c < 128) : decide ((c : Int) < 128) = false := by simp; omega
theorem d2048 {c : Nat} (h : c < 2048) : decide ((c : Int) < 2048) = true := by simp; omega
theorem n2048 {c : Nat} (h : ¬ c < 2048) : decide ((c : Int) < 2048) = false := by simp; omega
theorem made_a {c : Nat} (h1 : c < 128) (h : Sat w0 L w) (hK : ∀ w', Sat w0 L w' → K (.string (bs (madeP c))) w') : callP G103 [.int .i64 c] w K := by
  refine c103 ?_
  unfold F103
  simp only [bLt_int, bindP_some, d128 h1, ifB_true, to8n]
  rw [made1 h1] at hK
  exact bytesOfN (l := [_]) h (by kernel_rfl) rfl (by omega) fun sv w1 h1 hb => by rw [hb]; exact hK _ h1
theorem made_b {c : Nat} (h1 : ¬ c < 128) (h2 : c < 2048) (h : Sat w0 L w) (hK : ∀ w', Sat w0 L w' → K (.string (bs (madeP c))) w') : callP G103 [.int .i64 c] w K := by
  have q64 : bQuo (.int .i64 (c : Int)) (.int .i64 64) = some (.int .i64 ((c / 64 : Nat))) := quoN _ 64 (by omega) (by omega)
  have r64 : ∀ n : Nat, bRem (.int .i64 (n : Int)) (.int .i64 64) = some (.int .i64 ((n % 64 : Nat))) := fun n => remN .i64 _ 64 (by omega)
  have a192 : ∀ n : Nat, n < 16777216 → bAdd (.int .i64 192) (.int .i64 (n : Int)) = some (.int .i64 ((192 + n : Nat))) := fun n hn => addN (a := 192) (by omega)
  have a128 : ∀ n : Nat, n < 16777216 → bAdd (.int .i64 128) (.int .i64 (n : Int)) = some (.int .i64 ((128 + n : Nat))) := fun n hn => addN (a := 128) (by omega)
  refine c103 ?_
  unfold F103
  simp only [bLt_int, bindP_some, n128 h1, d2048 h2, ifB_true, ifB_false, q64, r64, a192 (c / 64) (by omega), a128 (c % 64) (by omega), to8n]
  rw [made2 h1 h2] at hK
  exact bytesOfN (l := [_, _]) h (by kernel_rfl) rfl (by omega) fun sv w1 h1 hb => by rw [hb]; exact hK _ h1
theorem made_c {c : Nat} (h1 : ¬ c < 128) (h2 : ¬ c < 2048) (h3 : c < 65536) (h : Sat w0 L w) (hK : ∀ w', Sat w0 L w' → K (.string (bs (madeP c))) w') : callP G103 [.int .i64 c] w K := by
  have q64 : bQuo (.int .i64 (c : Int)) (.int .i64 64) = some (.int .i64 ((c / 64 : Nat))) := quoN _ 64 (by omega) (by omega)
  have q4096 : bQuo (.int .i64 (c : Int)) (.int .i64 4096) = some (.int .i64 ((c / 4096 : Nat))) := quoN _ 4096 (by omega) (by omega)
  have r64 : ∀ n : Nat, bRem (.int .i64 (n : Int)) (.int .i64 64) = some (.int .i64 ((n % 64 : Nat))) := fun n => remN .i64 _ 64 (by omega)
  have a128 : ∀ n : Nat, n < 16777216 → bAdd (.int .i64 128) (.int .i64 (n : Int)) = some (.int .i64 ((128 + n : Nat))) := fun n hn => addN (a := 128) (by omega)
  have a224 : ∀ n : Nat, n < 16777216 → bAdd (.int .i64 224) (.int .i64 (n : Int)) = some (.int .i64 ((224 + n : Nat))) := fun n hn => addN (a := 224) (by omega)
  refine c103 ?_
  unfold F103
  simp only [bLt_int, bindP_some, n128 h1, n2048 h2, d65 h3, ifB_true, ifB_false, q64, q4096, r64, a224 (c / 4096) (by omega), a128 (c / 64 % 64) (by omega), a128 (c % 64) (by omega), to8n]
  rw [made3 h1 h2 h3] at hK
  exact bytesOfN (l := [_, _, _]) h (by kernel_rfl) rfl (by omega) fun sv w1 h1 hb => by rw [hb]; exact hK _ h1
theorem made_d {c : Nat} (hc : c < 16777216) (h1 : ¬ c < 128) (h2 : ¬ c < 2048) (h3 : ¬ c < 65536) (h : Sat w0 L w) (hK : ∀ w', Sat w0 L w' → K (.string (bs (madeP c))) w') : callP G103 [.int .i64 c] w K := by
  have q64 : bQuo (.int .i64 (c : Int)) (.int .i64 64) = some (.int .i64 ((c / 64 : Nat))) := quoN _ 64 (by omega) (by omega)
  have q4096 : bQuo (.int .i64 (c : Int)) (.int .i64 4096) = some (.int .i64 ((c / 4096 : Nat))) := quoN _ 4096 (by omega) (by omega)
  have q26 : bQuo (.int .i64 (c : Int)) (.int .i64 262144) = some (.int .i64 ((c / 262144 : Nat))) := quoN _ 262144 (by omega) (by omega)
  have r64 : ∀ n : Nat, bRem (.int .i64 (n : Int)) (.int .i64 64) = some (.int .i64 ((n % 64 : Nat))) := fun n => remN .i64 _ 64 (by omega)
  have a128 : ∀ n : Nat, n < 16777216 → bAdd (.int .i64 128) (.int .i64 (n : Int)) = some (.int .i64 ((128 + n : Nat))) := fun n hn => addN (a := 128) (by omega)
  have a240 : ∀ n : Nat, n < 16777216 → bAdd (.int .i64 240) (.int .i64 (n : Int)) = some (.int .i64 ((240 + n : Nat))) := fun n hn => addN (a := 240) (by omega)
  refine c103 ?_
  unfold F103
  simp only [bLt_int, bindP_some, n128 h1, n2048 h2, n65 h3, ifB_false, q64, q4096, q26, r64, a240 (c / 262144) (by omega), a128 (c / 4096 % 64) (by omega), a128 (c / 64 % 64) (by omega), a128 (c % 64) (by omega), to8n]
  rw [made4 h1 h2 h3] at hK
  exact bytesOfN (l := [_, _, _, _]) h (by kernel_rfl) rfl (by omega) fun sv w1 h1 hb => by rw [hb]; exact hK _ h1
theorem made_spec {c : Nat} (hc : c < 16777216) (h : Sat w0 L w) (hK : ∀ w', Sat w0 L w' → K (.string (bs (madeP c))) w') : callP G103 [.int .i64 c] w K := by
  by_cases h1 : c < 128
  · exact made_a h1 h hK
  · by_cases h2 : c < 2048
    · exact made_b h1 h2 h hK
    · by_cases h3 : c < 65536
      · exact made_c h1 h2 h3 h hK
      · exact made_d hc h1 h2 h3 h hK
end
end Go.Proofs.Gong

/- Nm3 -/
namespace Go.Proofs.Gong
open Go Go.Sx Go.Proofs
set_option maxRecDepth 100000
def optV (o : Option (Nat × Nat)) : Value := match o with
  | some x => .tuple #[.int .i64 x.1, .int .i64 x.2, .int .i64 0]
  | none => errV
theorem isC_lt {c : Nat} (h : isC c = true) : c < 16777216 := by rw [isC_iff] at h; omega
section
variable {w0 w : World} {L : List HP} {K : Value → World → Prop}
theorem ffL_spec {s : List UInt8} : ∀ (k n m : Nat) (w : World), k + n = 5 → 1 ≤ n → k ≤ m → Sat w0 L w → (∀ w', Sat w0 L w' → K (optV (refP s k n)) w') → F90_2L (m + 1) (.string (bs s)) (.int .i64 n) w K := by
  intro k
  induction k with
  | zero =>
    intro n m w hk h1 hm hs hK
    rw [F90_2L]; unfold F90_2b F90_3 F90_3b
    have e : decide ((n : Int) ≤ 4) = false := by simp; omega
    simp only [bLe_int, e, bindP_some, gd_true, stepM_false, stepG_false, pPick_false, ifB_false]
    exact hK _ hs
  | succ k ih =>
    intro n m w hk h1 hm hs hK
    obtain ⟨m, rfl⟩ : ∃ j, m = j + 1 := ⟨m - 1, by omega⟩
    rw [F90_2L]; unfold F90_2b
    have e : decide ((n : Int) ≤ 4) = true := by simp; omega
    by_cases hl : n ≤ s.length
    · have e2 : decide ((n : Int) ≤ (s.length : Int)) = true := by simp; omega
      simp only [bLe_int, e, e2, bindP_some, gd_true, stepM_true, stepG_true, lenS_mk, bs_size, pPick_true, ifB_true]
      refine guess_spec ⟨h1, by omega⟩ hl ?_
      refine fis_spec ?_
      rw [refP_step hl] at hK
      have hs' := hs.drew
      have next : hitP s n = false → ∀ w2, Sat w0 L w2 → bindP (bAdd (.int .i64 (n : Int)) (.int .i64 1)) (fun v19 => F90_2L (m + 1) (.string (bs s)) v19 w2 K) := by
        intro hh w2 h2
        rw [if_neg (by rw [hh]; decide)] at hK
        rw [plus1 (by omega)]
        simp only [bindP_some]
        exact ih (n + 1) m w2 (by omega) (by omega) (by omega) h2 hK
      by_cases hi : isC (guessP s n) = true
      · simp only [hi, gd_true, stepM_true, stepG_true, stepE_true]
        have e3 : pSliceS (.string (bs s)) none (some (.int .i64 (n : Int))) = _ := sub_to hl
        rw [e3]
        simp only [bindP_some]
        refine made_spec (isC_lt hi) hs' fun w3 h3 => ?_
        simp only [bEq_str, bs_beq, bs_inj, bindP_some, pPick_true]
        by_cases hm2 : madeP (guessP s n) = s.take n
        · have hh : hitP s n = true := by simp [hitP, hi, hm2]
          rw [if_pos hh] at hK
          simp only [hm2, decide_true, ifB_true]
          exact hK _ h3
        · have hh : hitP s n = false := by simp [hitP, hm2]
          simp only [hm2, decide_false, ifB_false]
          exact next hh _ h3
      · have hi' : isC (guessP s n) = false := by simpa using hi
        have hh : hitP s n = false := by simp [hitP, hi']
        simp only [hi', gd_true, stepM_false, stepG_false, stepE_false, bindP_some, pPick_false, ifB_false]
        exact next hh _ hs'
    · have e2 : decide ((n : Int) ≤ (s.length : Int)) = false := by simp; omega
      simp only [bLe_int, e, e2, bindP_some, gd_true, stepM_true, stepG_true, lenS_mk, bs_size, pPick_true, ifB_false]
      unfold F90_3 F90_3b
      rw [refP_end (by omega)] at hK
      exact hK _ hs
theorem ffirst_spec {s : List UInt8} (h : Sat w0 L w) (hK : ∀ w', Sat w0 L w' → K (optV (firstP s)) w') : callP G90 [.string (bs s)] w K := by
  refine c90 ?_
  unfold F90 F90_1 F90_1b F90_2
  rw [← refP_first] at hK
  exact ffL_spec 4 1 (fuel - 1) w (by omega) (by omega) (by decide) h hK
def charsF : Nat → List UInt8 → Option (List Int)
  | _, [] => some []
  | 0, _ :: _ => none
  | k + 1, b :: s => match firstP (b :: s) with
    | none => none
    | some x => (charsF k ((b :: s).drop x.2)).map ((x.1 : Int) :: ·)
def charsP (s : List UInt8) : Option (List Int) := charsF s.length s
theorem firstP_len {s : List UInt8} {c n : Nat} (h : firstP s = some (c, n)) : 1 ≤ n ∧ n ≤ s.length := by
  cases s with
  | nil => simp [firstP] at h
  | cons b s =>
    unfold firstP at h
    simp only at h
    split at h
    · cases h
    · rename_i hn
      split at h
      · cases h
      · split at h
        · simp only [Option.some.injEq, Prod.mk.injEq] at h
          simp only [List.length_cons]
          omega
        · cases h
theorem one_lit {c : Int} {v : Value} {l : List Int} (h : Sat w0 (LsH cI 1 3 v l :: L) w) (hl : l.length < 1073741824) (hK : ∀ v' w', Sat w0 (LsH cI 1 3 v' (l ++ [c]) :: L) w' → K v' w') :
    eBuildSl Tryz.prog 34 1 [(0, .int .i64 c)] w fun v9 w8 => eAppend Tryz.prog 34 34 v v9 w8 K := by
  have hb : fBuildSl Tryz.prog 3 1 [(0, .int .i64 c)] = some #[.int .i64 c] := by kernel_rfl
  refine ls_lit (m := [c]) CI h u34 hb rfl fun sv w1 h1 => ?_
  exact ls_app (m := [c]) CI h1.f1 sl34 ss34 (ls_rd h1) (by simp; omega) fun s' w' h' => hK s' w' (h'.f1.drop)
theorem chL_spec : ∀ (k m : Nat) (s : List UInt8) (l : List Int) (v : Value) (w : World), s.length ≤ k → k ≤ m → l.length + s.length < 1073741824 → Sat w0 (LsH cI 1 3 v l :: L) w →
    (∀ w', Sat w0 L w' → charsF k s = none → K (.tuple #[.slice none 0 0, .int .i64 40]) w') → (∀ v' r w', charsF k s = some r → Sat w0 (LsH cI 1 3 v' (l ++ r) :: L) w' → K (.tuple #[v', .int .i64 0]) w') →
    F72_2L (m + 1) (.string (bs s)) v w K := by
  intro k
  induction k with
  | zero =>
    intro m s l v w hs hm hl h hN hK
    obtain rfl : s = [] := List.length_eq_zero_iff.1 (by omega)
    rw [F72_2L]; unfold F72_2b F72_3 F72_3b
    rw [nil_b]
    simp only [bNe_str, bs_beq, decide_true, Bool.not_true, bindP_some, ifB_false]
    exact hK v [] w rfl (by simpa using h)
  | succ k ih =>
    intro m s l v w hs hm hl h hN hK
    obtain ⟨m, rfl⟩ : ∃ j, m = j + 1 := ⟨m - 1, by omega⟩
    rw [F72_2L]; unfold F72_2b
    rw [nil_b]
    cases s with
    | nil =>
      unfold F72_3 F72_3b
      simp only [bNe_str, bs_beq, decide_true, Bool.not_true, bindP_some, ifB_false]
      exact hK v [] w rfl (by simpa using h)
    | cons b s =>
      have e : (!decide (bs (b :: s) = bs [])) = true := by simp
      simp only [bNe_str, bs_beq, e, bindP_some, ifB_true]
      refine first_spec4 ?_
      unfold firstV
      cases hf : firstP (b :: s) with
      | none =>
        have e1 : (!decide ((40 : Int) = 0)) = true := by decide
        simp only [errV, pTuple, List.getElem?_toArray, List.getElem?_cons_zero, List.getElem?_cons_succ, bindP_some, bNe_int, e1, ifB_true]
        exact hN w h.drop (by simp [charsF, hf])
      | some x =>
        obtain ⟨g1, g2⟩ := firstP_len (c := x.1) (n := x.2) hf
        simp only [pTuple, List.getElem?_toArray, List.getElem?_cons_zero, List.getElem?_cons_succ, bindP_some, bNe_int, decide_true, Bool.not_true, ifB_false]
        refine one_lit h (by omega) fun v' w' h' => ?_
        rw [sub_from g2]
        simp only [bindP_some]
        refine ih m ((b :: s).drop x.2) (l ++ [(x.1 : Int)]) v' w' (by simp at hs ⊢; omega) (by omega) (by simp at hl ⊢; omega) h' (fun w2 h2 hn => hN w2 h2 (by simp [charsF, hf, hn])) fun v2 r w2 hr h2 => ?_
        refine hK v2 ((x.1 : Int) :: r) w2 (by simp [charsF, hf, hr]) ?_
        simpa using h2
theorem chars_spec {s : List UInt8} (hs : s.length < 1073741824) (h : Sat w0 L w) (hN : ∀ w', Sat w0 L w' → charsP s = none → K (.tuple #[.slice none 0 0, .int .i64 40]) w')
    (hK : ∀ v' r w', charsP s = some r → Sat w0 (LsH cI 1 3 v' r :: L) w' → K (.tuple #[v', .int .i64 0]) w') : callP G72 [.string (bs s)] w K := by
  refine c72 ?_
  unfold F72 F72_1 F72_1b F72_2
  exact chL_spec s.length (fuel - 1) s [] _ w (Nat.le_refl _) (Nat.le_trans (show s.length ≤ 1073741824 by omega) (by decide)) (by simpa using hs) (ls_nil h) hN fun v' r w' hr h' => hK v' r w' hr (by simpa using h')
theorem fchL_spec {s : List UInt8} (hsl : s.length < 1073741824) : ∀ (k m a : Nat) (l : List Int) (v : Value) (w : World), a ≤ s.length → (s.drop a).length ≤ k → k ≤ m → l.length + (s.drop a).length < 1073741824 → Sat w0 (LsH cI 1 3 v l :: L) w →
    (∀ w', Sat w0 L w' → charsF k (s.drop a) = none → K (.tuple #[.slice none 0 0, .int .i64 40]) w') → (∀ v' r w', charsF k (s.drop a) = some r → Sat w0 (LsH cI 1 3 v' (l ++ r) :: L) w' → K (.tuple #[v', .int .i64 0]) w') →
    F76_2L (m + 1) (.string (bs s)) v (.int .i64 a) w K := by
  intro k
  induction k with
  | zero =>
    intro m a l v w ha hs hm hl h hN hK
    rw [F76_2L]; unfold F76_2b F76_3 F76_3b
    have hal : a = s.length := by simp at hs; omega
    have e : decide ((a : Int) < (s.length : Int)) = false := by simp; omega
    simp only [lenS_mk, bs_size, bLt_int, e, bindP_some, ifB_false]
    exact hK v [] w (by rw [List.drop_of_length_le (by omega)]; rfl) (by simpa using h)
  | succ k ih =>
    intro m a l v w ha hs hm hl h hN hK
    obtain ⟨m, rfl⟩ : ∃ j, m = j + 1 := ⟨m - 1, by omega⟩
    rw [F76_2L]; unfold F76_2b
    by_cases hal : a = s.length
    · unfold F76_3 F76_3b
      have e : decide ((a : Int) < (s.length : Int)) = false := by simp; omega
      simp only [lenS_mk, bs_size, bLt_int, e, bindP_some, ifB_false]
      exact hK v [] w (by rw [List.drop_of_length_le (by omega)]; rfl) (by simpa using h)
    · have e : decide ((a : Int) < (s.length : Int)) = true := by simp; omega
      simp only [lenS_mk, bs_size, bLt_int, e, bindP_some, ifB_true, sub_from ha]
      have hdl : (s.drop a).length = s.length - a := by simp
      generalize hd : s.drop a = t at *
      refine ffirst_spec h fun w1 h1 => ?_
      cases t with
      | nil => simp at hdl; omega
      | cons b t =>
      cases hf : firstP (b :: t) with
      | none =>
        have e1 : (!decide ((40 : Int) = 0)) = true := by decide
        simp only [optV, errV, pTuple, List.getElem?_toArray, List.getElem?_cons_zero, List.getElem?_cons_succ, bindP_some, bNe_int, e1, ifB_true]
        exact hN w1 h1.drop (by simp [charsF, hf])
      | some x =>
        obtain ⟨g1, g2⟩ := firstP_len (c := x.1) (n := x.2) hf
        simp only [optV, pTuple, List.getElem?_toArray, List.getElem?_cons_zero, List.getElem?_cons_succ, bindP_some, bNe_int, decide_true, Bool.not_true, ifB_false]
        refine one_lit h1 (by omega) fun v' w' h' => ?_
        have ea : bAdd (.int .i64 (a : Int)) (.int .i64 (x.2 : Int)) = some (.int .i64 ((a + x.2 : Nat))) := addN (by omega)
        rw [ea]
        simp only [bindP_some]
        have hd2 : s.drop (a + x.2) = (b :: t).drop x.2 := by rw [← List.drop_drop, hd]
        refine ih m (a + x.2) (l ++ [(x.1 : Int)]) v' w' (by omega) (by rw [hd2]; simp at hs ⊢; omega) (by omega) (by rw [hd2]; simp at hl ⊢; omega) h' (fun w2 h2 hn => hN w2 h2 (by rw [hd2] at hn; simp [charsF, hf, hn])) fun v2 r w2 hr h2 => ?_
        refine hK v2 ((x.1 : Int) :: r) w2 (by rw [hd2] at hr; simp [charsF, hf, hr]) ?_
        simpa using h2
theorem fchars_spec {s : List UInt8} (hs : s.length < 1073741824) (h : Sat w0 L w) (hN : ∀ w', Sat w0 L w' → charsP s = none → K (.tuple #[.slice none 0 0, .int .i64 40]) w')
    (hK : ∀ v' r w', charsP s = some r → Sat w0 (LsH cI 1 3 v' r :: L) w' → K (.tuple #[v', .int .i64 0]) w') : callP G76 [.string (bs s)] w K := by
  refine c76 ?_
  unfold F76 F76_1 F76_1b F76_2
  exact fchL_spec hs s.length (fuel - 1) 0 [] _ w (by omega) (by simp) (Nat.le_trans (show s.length ≤ 1073741824 by omega) (by decide)) (by simpa using hs) (ls_nil h) hN fun v' r w' hr h' => hK v' r w' hr (by simpa using h')
end
end Go.Proofs.Gong

/- Nm4 -/
namespace Go.Proofs.Gong
open Go Go.Sx Go.Proofs
set_option maxRecDepth 100000
def ctlP (c : Int) : Bool := decide (c < 32) || decide (c = 127)
def plainP (s : List UInt8) (most : Nat) : Bool := match charsP s with
  | none => false
  | some l => !(l.any ctlP) && decide (s.length ≤ most)
section
variable {w0 w : World} {L : List HP} {K : Value → World → Prop}
theorem ctl_spec {c : Int} (hK : K (.bool (ctlP c)) w) : callP G74 [.int .i64 c] w K := by
  refine c74 ?_
  unfold F74
  unfold ctlP at hK
  by_cases h : c < 32
  · simp [h] at hK ⊢; exact hK
  · simp [h] at hK ⊢; exact hK
def fnV : Value := .func (.func 74) #[] #[]
theorem ixL_spec {l : List Int} {v : Value} (h : Rd w 1 v l.length (l.flatMap cI)) (hl : l.length ≤ 1073741824) : ∀ (k i m : Nat), k + i = l.length → k ≤ m → (∀ j : Int, (decide (j ≥ 0) = (l.drop i).any ctlP) → K (.int .i64 j) w) →
    F89_2L (m + 1) v fnV (.int .i64 l.length) (.int .i64 i) w K := by
  intro k
  induction k with
  | zero =>
    intro i m hk hm hK
    rw [F89_2L]; unfold F89_2b F89_3 F89_3b
    obtain rfl : i = l.length := by omega
    rw [bLt_int]
    simp only [bindP_some, Int.lt_irrefl, decide_false, ifB_false]
    exact hK (-1) (by simp)
  | succ k ih =>
    intro i m hk hm hK
    obtain ⟨m, rfl⟩ : ∃ j, m = j + 1 := ⟨m - 1, by omega⟩
    rw [F89_2L]; unfold F89_2b
    have hi : i < l.length := by omega
    have e : bLt (.int .i64 (i : Int)) (.int .i64 l.length) = some (.bool true) := by simp; omega
    have e1 := ix_el h hi
    have e2 := rd_ld1 (g := fun c : Int => Value.int .i64 c) h hi
    have hdr : l.drop i = l[i] :: l.drop (i + 1) := List.drop_eq_getElem_cons hi
    rw [hdr, List.any_cons] at hK
    rw [e]
    simp only [bindP_some, ifB_true, e1, e2]
    generalize l[i] = c at hK
    have call : ∀ k : Value → World → Prop, callP G74 [.int .i64 c] w k → eCallV (tabOf T89) fnV [.int .i64 c] w k := by
      intro k h
      show callP (tabOf T89 74) _ _ _
      exact h
    refine call _ (ctl_spec ?_)
    by_cases hc : ctlP c = true
    · simp only [hc, ifB_true]
      exact hK i (by simp [hc])
    · have hc' : ctlP c = false := by simpa using hc
      simp only [hc', ifB_false, plus1 (show i + 1 < 9223372036854775808 by omega), bindP_some]
      exact ih (i + 1) m (by omega) (by omega) fun j hj => hK j (by rw [hj, hc']; simp)
theorem contains_spec {l : List Int} {v : Value} (h : Rd w 1 v l.length (l.flatMap cI)) (hl : l.length ≤ 1073741824) (hK : K (.bool (l.any ctlP)) w) : callP G73 [v, fnV] w K := by
  refine c73 ?_
  unfold F73
  refine c89 ?_
  unfold F89 F89_1 F89_1b
  rw [h.len]
  simp only [bindP_some]
  unfold F89_2
  refine ixL_spec h hl l.length 0 (fuel - 1) (by omega) (Nat.le_trans hl (by decide)) fun j hj => ?_
  simp only [bGe_int, bindP_some]
  rw [hj, List.drop_zero]
  exact hK
theorem charsF_len : ∀ (k : Nat) (s : List UInt8) (r : List Int), charsF k s = some r → r.length ≤ s.length
  | _, [], r, h => by
    have : some r = some [] := by rw [← h]; cases ‹Nat› <;> rfl
    simp at this; subst this; simp
  | 0, _ :: _, r, h => by simp [charsF] at h
  | k + 1, b :: s, r, h => by
    unfold charsF at h
    split at h
    · cases h
    · rename_i x hf
      obtain ⟨g1, g2⟩ := firstP_len (c := x.1) (n := x.2) hf
      simp only [Option.map_eq_some_iff] at h
      obtain ⟨r', h1, rfl⟩ := h
      have := charsF_len k _ r' h1
      simp at this ⊢
      simp at g2
      omega
theorem plain_spec {s : List UInt8} {most : Nat} (hs : s.length < 1073741824) (h : Sat w0 L w) (hK : ∀ w', Sat w0 L w' → K (.bool (plainP s most)) w') : callP G62 [.string (bs s), .int .i64 most] w K := by
  refine c62 ?_
  unfold F62
  unfold plainP at hK
  refine chars_spec hs h (fun w1 h1 hn => ?_) fun v r w1 hr h1 => ?_
  · rw [hn] at hK
    simp only [pTuple, List.getElem?_toArray, List.getElem?_cons_zero, List.getElem?_cons_succ, bindP_some]
    refine contains_spec (l := []) (.emp _ _) (by simp) ?_
    have e : decide ((40 : Int) = 0) = false := by decide
    simp only [bEq_int, e, bindP_some, gd_true, stepM_false, stepG_false, pPick_false]
    exact hK _ h1
  · rw [hr] at hK
    have hl := charsF_len _ _ _ hr
    simp only [pTuple, List.getElem?_toArray, List.getElem?_cons_zero, List.getElem?_cons_succ, bindP_some]
    refine contains_spec (ls_rd h1) (by omega) ?_
    have hk := hK _ h1.drop
    simp only at hk
    by_cases hc : r.any ctlP = true
    · simp only [hc, Bool.not_true, Bool.false_and] at hk
      simp only [bEq_int, decide_true, bindP_some, gd_true, stepM_true, stepG_true, hc, uNot_bool, Bool.not_true, pPick_true, stepM_false, stepG_false, pPick_false]
      exact hk
    · have hc' : r.any ctlP = false := by simpa using hc
      simp only [hc', Bool.not_false, Bool.true_and] at hk
      have e : decide ((s.length : Int) ≤ (most : Int)) = decide (s.length ≤ most) := by rw [decide_eq_decide]; omega
      simp only [bEq_int, decide_true, bindP_some, gd_true, stepM_true, stepG_true, hc', uNot_bool, Bool.not_false, pPick_true, lenS_mk, bs_size, bLe_int, e]
      exact hk
theorem fpL_spec {s : List UInt8} {most : Nat} {l : List Int} {v : Value} (h : Rd w 1 v l.length (l.flatMap cI)) (hl : l.length ≤ 1073741824) (hK : K (.bool (!(l.any ctlP) && decide (s.length ≤ most))) w) : ∀ (k i m : Nat), k + i = l.length → k ≤ m → (l.take i).any ctlP = false →
    F65_2L (m + 1) (.string (bs s)) (.int .i64 most) v (.int .i64 0) (.int .i64 i) w K := by
  intro k
  have e0 : decide ((s.length : Int) ≤ (most : Int)) = decide (s.length ≤ most) := by rw [decide_eq_decide]; omega
  induction k with
  | zero =>
    intro i m hk hm hi
    rw [F65_2L]; unfold F65_2b F65_3 F65_3b
    obtain rfl : i = l.length := by omega
    rw [List.take_length] at hi
    rw [hi] at hK
    rw [h.len]
    simp only [bLt_int, bindP_some, Int.lt_irrefl, decide_false, ifB_false, bEq_int, decide_true, gd_true, stepM_true, stepG_true, lenS_mk, bs_size, bLe_int, e0, pPick_true]
    simpa using hK
  | succ k ih =>
    intro i m hk hm hi0
    obtain ⟨m, rfl⟩ : ∃ j, m = j + 1 := ⟨m - 1, by omega⟩
    rw [F65_2L]; unfold F65_2b
    have hi : i < l.length := by omega
    have e : bLt (.int .i64 (i : Int)) (.int .i64 l.length) = some (.bool true) := by simp; omega
    have e1 := ix_el h hi
    have e2 := rd_ld1 (g := fun c : Int => Value.int .i64 c) h hi
    rw [h.len]
    simp only [bindP_some, e, ifB_true, e1, e2]
    have htk : (l.take (i + 1)).any ctlP = ctlP l[i] := by
      rw [List.take_succ_eq_append_getElem hi, List.any_append, hi0]; simp
    have hany : ctlP l[i] = true → l.any ctlP = true := fun h => List.any_eq_true.2 ⟨l[i], List.getElem_mem hi, h⟩
    generalize l[i] = c at htk hany e2 ⊢
    unfold ctlP at htk hany
    have out : ctlP c = true → K (.bool false) w := by
      intro hc
      have := hany hc
      rw [show (fun c => decide (c < 32) || decide (c = 127)) = ctlP from rfl] at this
      rw [this] at hK
      simpa using hK
    have step : ctlP c = false → bindP (bAdd (.int .i64 (i : Int)) (.int .i64 1)) (fun v18 => F65_2L (m + 1) (.string (bs s)) (.int .i64 most) v (.int .i64 0) v18 w K) := by
      intro hc
      rw [plus1 (by omega)]
      simp only [bindP_some]
      refine ih (i + 1) m (by omega) (by omega) ?_
      rw [show ctlP = (fun c => decide (c < 32) || decide (c = 127)) from rfl] at hc ⊢
      rw [htk]; exact hc
    by_cases h1 : c < 32
    · simp only [bLt_int, h1, decide_true, bindP_some, gd_false, Bool.not_true, stepM_false, stepG_false, pPick_true, ifB_true]
      exact out (by simp [ctlP, h1])
    · simp only [bLt_int, h1, decide_false, bindP_some, gd_false, Bool.not_false, stepM_true, stepG_true, e1, e2, bEq_int, pPick_false]
      by_cases h2 : c = 127
      · simp only [h2, decide_true, ifB_true]
        exact out (by simp [ctlP, h2])
      · simp only [h2, decide_false, ifB_false]
        exact step (by simp [ctlP, h1, h2])
theorem fplain_spec {s : List UInt8} {most : Nat} (hs : s.length < 1073741824) (h : Sat w0 L w) (hK : ∀ w', Sat w0 L w' → K (.bool (plainP s most)) w') : callP G65 [.string (bs s), .int .i64 most] w K := by
  refine c65 ?_
  unfold F65 F65_1 F65_1b
  unfold plainP at hK
  refine fchars_spec hs h (fun w1 h1 hn => ?_) fun v r w1 hr h1 => ?_
  · rw [hn] at hK
    simp only [pTuple, List.getElem?_toArray, List.getElem?_cons_zero, List.getElem?_cons_succ, bindP_some]
    unfold F65_2
    obtain ⟨m, hm⟩ : ∃ m, fuel = m + 1 := ⟨fuel - 1, by decide⟩
    rw [hm, F65_2L]
    unfold F65_2b F65_3 F65_3b
    have e : decide ((40 : Int) = 0) = false := by decide
    have e1 : bLt (.int .i64 0) (.int .i64 ((0 : Nat) : Int)) = some (.bool false) := by simp
    simp only [lenL_mk, e1, bEq_int, e, bindP_some, ifB_false, gd_true, stepM_false, stepG_false, pPick_false]
    exact hK _ h1
  · rw [hr] at hK
    have hl := charsF_len _ _ _ hr
    simp only [pTuple, List.getElem?_toArray, List.getElem?_cons_zero, List.getElem?_cons_succ, bindP_some]
    unfold F65_2
    exact fpL_spec (ls_rd h1) (by omega) (hK _ h1.drop) r.length 0 (fuel - 1) (by omega) (Nat.le_trans (show r.length ≤ 1073741824 by omega) (by decide)) (by simp)
end
end Go.Proofs.Gong

/- Nm5 -/
namespace Go.Proofs.Gong
open Go Go.Sx Go.Proofs
set_option maxRecDepth 100000
structure Evt where
  node : List UInt8
  cls : List UInt8
  key : List UInt8
  level : Int
  text : List UInt8
  deriving DecidableEq
@[reducible] def cEv (e : Evt) : List Value := [.string (bs e.node), .string (bs e.cls), .string (bs e.key), .int .i64 e.level, .string (bs e.text)]
abbrev evV (e : Evt) : Value := .agg (cEv e).toArray
def Evt.fits (e : Evt) : Prop := e.node.length < 1073741824 ∧ e.cls.length < 1073741824 ∧ e.key.length < 1073741824 ∧ e.text.length < 1073741824
def okE (e : Evt) : Bool := !decide (e.node = []) && !decide (e.cls = []) && plainP e.node 64 && plainP e.cls 64 && plainP e.key 128 && plainP e.text 1024 && decide (0 ≤ e.level) && decide (e.level ≤ 5)
def chkE (e : Evt) : Int := if okE e = true then 0 else 180
section
variable {w0 w : World} {L : List HP} {K : Value → World → Prop} {e : Evt}
theorem ncheck_spec (he : e.fits) (h : Sat w0 L w) (hK : ∀ w', Sat w0 L w' → K (.int .i64 (chkE e)) w') : callP G47 [evV e] w K := by
  refine c47 ?_
  unfold F47
  refine eBox_sat h fun p w1 h1 => ?_
  have e0 : (evV e).cells = (cEv e).toArray := rfl
  rw [e0] at h1
  have cs : ∀ {w' : World}, Sat w0 (Cl p (cEv e).toArray 33 :: L) w' → ∀ i, w'.cell? ⟨p, i, none⟩ = (cEv e)[i]? := fun h i => by rw [cell_of h.cl, List.getElem?_toArray]
  have k0 : (cEv e)[0]? = some (.string (bs e.node)) := rfl
  have k1 : (cEv e)[1]? = some (.string (bs e.cls)) := rfl
  have k2 : (cEv e)[2]? = some (.string (bs e.key)) := rfl
  have k3 : (cEv e)[3]? = some (.int .i64 e.level) := rfl
  have k4 : (cEv e)[4]? = some (.string (bs e.text)) := rfl
  obtain ⟨f1, f2, f3, f4⟩ := he
  unfold chkE okE at hK
  rw [nil_b]
  simp only [ptr, pFieldAddr_ptr, bindP_some, Nat.zero_add, ld1_ptr, cs h1, k0, k1, bNe_str, bs_beq, bs_inj]
  have bad : ∀ w', Sat w0 (Cl p (cEv e).toArray 33 :: L) w' → okE e = false → K (.int .i64 180) w' := by
    intro w' hs ho
    have := hK _ hs.drop
    unfold okE at ho
    rw [ho] at this
    exact this
  by_cases n1 : e.node = []
  · have ho : okE e = false := by simp [okE, n1]
    simp only [ld1_ptr, k0, k1, k2, k3, k4, bNe_str, bs_beq, bs_inj, cs h1, n1, decide_true, Bool.not_true, gd_true, stepG_false, stepE_false, pPick_false, bindP_some, uNot_bool, Bool.not_false, gd_false, pPick_true, ifB_true]
    exact bad _ h1 ho
  · by_cases n2 : e.cls = []
    · have ho : okE e = false := by simp [okE, n2]
      simp only [ld1_ptr, k0, k1, k2, k3, k4, bNe_str, bs_beq, bs_inj, cs h1, n1, n2, decide_true, decide_false, Bool.not_true, Bool.not_false, gd_true, stepG_true, stepG_false, stepE_false, pPick_true, pPick_false, bindP_some, uNot_bool, gd_false, ifB_true]
      exact bad _ h1 ho
    · simp only [ld1_ptr, k0, k1, k2, k3, k4, bNe_str, bs_beq, bs_inj, cs h1, n1, n2, decide_false, Bool.not_false, gd_true, stepG_true, stepE_true, pPick_true, bindP_some]
      refine plain_spec (most := 64) f1 h1 fun w2 h2 => ?_
      by_cases p1 : plainP e.node 64 = true
      · simp only [ld1_ptr, k0, k1, k2, k3, k4, bNe_str, bs_beq, bs_inj, p1, pPick_true, bindP_some, gd_true, stepG_true, stepE_true, cs h2, k1]
        refine plain_spec (most := 64) f2 h2 fun w3 h3 => ?_
        by_cases p2 : plainP e.cls 64 = true
        · simp only [ld1_ptr, k0, k1, k2, k3, k4, bNe_str, bs_beq, bs_inj, p2, pPick_true, bindP_some, uNot_bool, Bool.not_true, gd_false, Bool.not_false, stepG_true, stepE_true, cs h3, k2]
          refine plain_spec (most := 128) f3 h3 fun w4 h4 => ?_
          by_cases p3 : plainP e.key 128 = true
          · simp only [ld1_ptr, k0, k1, k2, k3, k4, bNe_str, bs_beq, bs_inj, p3, uNot_bool, Bool.not_true, pPick_false, bindP_some, gd_false, Bool.not_false, stepG_true, stepE_true, cs h4, k4]
            refine plain_spec (most := 1024) f4 h4 fun w5 h5 => ?_
            by_cases p4 : plainP e.text 1024 = true
            · simp only [ld1_ptr, k0, k1, k2, k3, k4, bNe_str, bs_beq, bs_inj, p4, uNot_bool, Bool.not_true, pPick_false, bindP_some, gd_false, Bool.not_false, stepG_true, cs h5, k3, bLt_int]
              by_cases l1 : e.level < 0
              · have ho : okE e = false := by
                  have : ¬ (0 ≤ e.level) := by omega
                  simp [okE, this]
                simp only [ld1_ptr, k0, k1, k2, k3, k4, bNe_str, bs_beq, bs_inj, l1, decide_true, pPick_true, bindP_some, gd_false, Bool.not_true, stepG_false, ifB_true]
                exact bad _ h5 ho
              · by_cases l2 : e.level > 5
                · have ho : okE e = false := by
                    have : ¬ (e.level ≤ 5) := by omega
                    simp [okE, this]
                  simp only [ld1_ptr, k0, k1, k2, k3, k4, bNe_str, bs_beq, bs_inj, cs h5, l1, l2, bGt_int, decide_true, decide_false, pPick_false, bindP_some, gd_false, Bool.not_false, stepG_true, ifB_true]
                  exact bad _ h5 ho
                · have hk := hK _ h5.drop
                  have g1 : 0 ≤ e.level := by omega
                  have g2 : e.level ≤ 5 := by omega
                  simp only [n1, n2, p1, p2, p3, p4, g1, g2, decide_true, decide_false, Bool.not_false, Bool.and_self, if_true] at hk
                  simp only [ld1_ptr, k0, k1, k2, k3, k4, bNe_str, bs_beq, bs_inj, cs h5, l1, l2, bGt_int, decide_false, pPick_false, bindP_some, gd_false, Bool.not_false, stepG_true, ifB_false]
                  exact hk
            · have p4' : plainP e.text 1024 = false := by simpa using p4
              have ho : okE e = false := by simp [okE, p4']
              simp only [ld1_ptr, k0, k1, k2, k3, k4, bNe_str, bs_beq, bs_inj, p4', uNot_bool, Bool.not_false, pPick_false, pPick_true, bindP_some, gd_false, Bool.not_true, stepG_false, ifB_true]
              exact bad _ h5 ho
          · have p3' : plainP e.key 128 = false := by simpa using p3
            have ho : okE e = false := by simp [okE, p3']
            simp only [ld1_ptr, k0, k1, k2, k3, k4, bNe_str, bs_beq, bs_inj, p3', uNot_bool, Bool.not_false, pPick_false, pPick_true, bindP_some, gd_false, Bool.not_true, stepG_false, stepE_false, ifB_true]
            exact bad _ h4 ho
        · have p2' : plainP e.cls 64 = false := by simpa using p2
          have ho : okE e = false := by simp [okE, p2']
          simp only [ld1_ptr, k0, k1, k2, k3, k4, bNe_str, bs_beq, bs_inj, p2', uNot_bool, Bool.not_false, pPick_false, pPick_true, bindP_some, gd_false, Bool.not_true, stepG_false, stepE_false, ifB_true]
          exact bad _ h3 ho
      · have p1' : plainP e.node 64 = false := by simpa using p1
        have ho : okE e = false := by simp [okE, p1']
        simp only [ld1_ptr, k0, k1, k2, k3, k4, bNe_str, bs_beq, bs_inj, p1', gd_true, uNot_bool, Bool.not_false, pPick_false, pPick_true, bindP_some, gd_false, Bool.not_true, stepG_false, stepE_false, ifB_true]
        exact bad _ h2 ho
theorem nfcheck_spec (he : e.fits) (h : Sat w0 L w) (hK : ∀ w', Sat w0 L w' → K (.int .i64 (chkE e)) w') : callP G51 [evV e] w K := by
  refine c51 ?_
  unfold F51
  refine eBox_sat h fun p w1 h1 => ?_
  have e0 : (evV e).cells = (cEv e).toArray := rfl
  rw [e0] at h1
  have cs : ∀ {w' : World}, Sat w0 (Cl p (cEv e).toArray 33 :: L) w' → ∀ i, w'.cell? ⟨p, i, none⟩ = (cEv e)[i]? := fun h i => by rw [cell_of h.cl, List.getElem?_toArray]
  have k0 : (cEv e)[0]? = some (.string (bs e.node)) := rfl
  have k1 : (cEv e)[1]? = some (.string (bs e.cls)) := rfl
  have k2 : (cEv e)[2]? = some (.string (bs e.key)) := rfl
  have k3 : (cEv e)[3]? = some (.int .i64 e.level) := rfl
  have k4 : (cEv e)[4]? = some (.string (bs e.text)) := rfl
  obtain ⟨f1, f2, f3, f4⟩ := he
  unfold chkE okE at hK
  rw [nil_b]
  simp only [ptr, pFieldAddr_ptr, bindP_some, Nat.zero_add, ld1_ptr, cs h1, k0, k1, bEq_str, bs_beq, bs_inj]
  have bad : ∀ w', Sat w0 (Cl p (cEv e).toArray 33 :: L) w' → okE e = false → K (.int .i64 180) w' := by
    intro w' hs ho
    have := hK _ hs.drop
    unfold okE at ho
    rw [ho] at this
    exact this
  by_cases n1 : e.node = []
  · have ho : okE e = false := by simp [okE, n1]
    simp only [cs h1, n1, ld1_ptr, k0, k1, k2, k3, k4, bEq_str, bs_beq, bs_inj, gd_undef, uNot_bool, decide_true, decide_false, Bool.not_true, Bool.not_false, gd_true, gd_false, stepG_true, stepG_false, stepE_true, stepE_false, stepM_true, stepM_false, pPick_true, pPick_false, bindP_some, ifB_true, ifB_false, bLt_int, bGt_int]
    exact bad _ h1 ho
  · by_cases n2 : e.cls = []
    · have ho : okE e = false := by simp [okE, n2]
      simp only [cs h1, n1, n2, ld1_ptr, k0, k1, k2, k3, k4, bEq_str, bs_beq, bs_inj, gd_undef, uNot_bool, decide_true, decide_false, Bool.not_true, Bool.not_false, gd_true, gd_false, stepG_true, stepG_false, stepE_true, stepE_false, stepM_true, stepM_false, pPick_true, pPick_false, bindP_some, ifB_true, ifB_false, bLt_int, bGt_int]
      exact bad _ h1 ho
    · simp only [cs h1, n1, n2, ld1_ptr, k0, k1, k2, k3, k4, bEq_str, bs_beq, bs_inj, gd_undef, uNot_bool, decide_true, decide_false, Bool.not_true, Bool.not_false, gd_true, gd_false, stepG_true, stepG_false, stepE_true, stepE_false, stepM_true, stepM_false, pPick_true, pPick_false, bindP_some, ifB_true, ifB_false, bLt_int, bGt_int]
      refine fplain_spec (most := 64) f1 h1 fun w2 h2 => ?_
      by_cases p1 : plainP e.node 64 = true
      · simp only [p1, cs h2, ld1_ptr, k0, k1, k2, k3, k4, bEq_str, bs_beq, bs_inj, gd_undef, uNot_bool, decide_true, decide_false, Bool.not_true, Bool.not_false, gd_true, gd_false, stepG_true, stepG_false, stepE_true, stepE_false, stepM_true, stepM_false, pPick_true, pPick_false, bindP_some, ifB_true, ifB_false, bLt_int, bGt_int]
        refine fplain_spec (most := 64) f2 h2 fun w3 h3 => ?_
        by_cases p2 : plainP e.cls 64 = true
        · simp only [p2, cs h3, ld1_ptr, k0, k1, k2, k3, k4, bEq_str, bs_beq, bs_inj, gd_undef, uNot_bool, decide_true, decide_false, Bool.not_true, Bool.not_false, gd_true, gd_false, stepG_true, stepG_false, stepE_true, stepE_false, stepM_true, stepM_false, pPick_true, pPick_false, bindP_some, ifB_true, ifB_false, bLt_int, bGt_int]
          refine fplain_spec (most := 128) f3 h3 fun w4 h4 => ?_
          by_cases p3 : plainP e.key 128 = true
          · simp only [p3, cs h4, ld1_ptr, k0, k1, k2, k3, k4, bEq_str, bs_beq, bs_inj, gd_undef, uNot_bool, decide_true, decide_false, Bool.not_true, Bool.not_false, gd_true, gd_false, stepG_true, stepG_false, stepE_true, stepE_false, stepM_true, stepM_false, pPick_true, pPick_false, bindP_some, ifB_true, ifB_false, bLt_int, bGt_int]
            refine fplain_spec (most := 1024) f4 h4 fun w5 h5 => ?_
            by_cases p4 : plainP e.text 1024 = true
            · simp only [p4, cs h5, ld1_ptr, k0, k1, k2, k3, k4, bEq_str, bs_beq, bs_inj, gd_undef, uNot_bool, decide_true, decide_false, Bool.not_true, Bool.not_false, gd_true, gd_false, stepG_true, stepG_false, stepE_true, stepE_false, stepM_true, stepM_false, pPick_true, pPick_false, bindP_some, ifB_true, ifB_false, bLt_int, bGt_int]
              by_cases l1 : e.level < 0
              · have ho : okE e = false := by
                  have : ¬ (0 ≤ e.level) := by omega
                  simp [okE, this]
                simp only [l1, cs h5, ld1_ptr, k0, k1, k2, k3, k4, bEq_str, bs_beq, bs_inj, gd_undef, uNot_bool, decide_true, decide_false, Bool.not_true, Bool.not_false, gd_true, gd_false, stepG_true, stepG_false, stepE_true, stepE_false, stepM_true, stepM_false, pPick_true, pPick_false, bindP_some, ifB_true, ifB_false, bLt_int, bGt_int]
                exact bad _ h5 ho
              · by_cases l2 : e.level > 5
                · have ho : okE e = false := by
                    have : ¬ (e.level ≤ 5) := by omega
                    simp [okE, this]
                  simp only [l1, l2, cs h5, ld1_ptr, k0, k1, k2, k3, k4, bEq_str, bs_beq, bs_inj, gd_undef, uNot_bool, decide_true, decide_false, Bool.not_true, Bool.not_false, gd_true, gd_false, stepG_true, stepG_false, stepE_true, stepE_false, stepM_true, stepM_false, pPick_true, pPick_false, bindP_some, ifB_true, ifB_false, bLt_int, bGt_int]
                  exact bad _ h5 ho
                · have hk := hK _ h5.drop
                  have g1 : 0 ≤ e.level := by omega
                  have g2 : e.level ≤ 5 := by omega
                  simp only [n1, n2, p1, p2, p3, p4, g1, g2, decide_true, decide_false, Bool.not_false, Bool.and_self, if_true] at hk
                  simp only [l1, l2, cs h5, ld1_ptr, k0, k1, k2, k3, k4, bEq_str, bs_beq, bs_inj, gd_undef, uNot_bool, decide_true, decide_false, Bool.not_true, Bool.not_false, gd_true, gd_false, stepG_true, stepG_false, stepE_true, stepE_false, stepM_true, stepM_false, pPick_true, pPick_false, bindP_some, ifB_true, ifB_false, bLt_int, bGt_int]
                  exact hk
            · have p4' : plainP e.text 1024 = false := by simpa using p4
              have ho : okE e = false := by simp [okE, p4']
              simp only [p4', cs h5, ld1_ptr, k0, k1, k2, k3, k4, bEq_str, bs_beq, bs_inj, gd_undef, uNot_bool, decide_true, decide_false, Bool.not_true, Bool.not_false, gd_true, gd_false, stepG_true, stepG_false, stepE_true, stepE_false, stepM_true, stepM_false, pPick_true, pPick_false, bindP_some, ifB_true, ifB_false, bLt_int, bGt_int]
              exact bad _ h5 ho
          · have p3' : plainP e.key 128 = false := by simpa using p3
            have ho : okE e = false := by simp [okE, p3']
            simp only [p3', cs h4, ld1_ptr, k0, k1, k2, k3, k4, bEq_str, bs_beq, bs_inj, gd_undef, uNot_bool, decide_true, decide_false, Bool.not_true, Bool.not_false, gd_true, gd_false, stepG_true, stepG_false, stepE_true, stepE_false, stepM_true, stepM_false, pPick_true, pPick_false, bindP_some, ifB_true, ifB_false, bLt_int, bGt_int]
            exact bad _ h4 ho
        · have p2' : plainP e.cls 64 = false := by simpa using p2
          have ho : okE e = false := by simp [okE, p2']
          simp only [p2', cs h3, ld1_ptr, k0, k1, k2, k3, k4, bEq_str, bs_beq, bs_inj, gd_undef, uNot_bool, decide_true, decide_false, Bool.not_true, Bool.not_false, gd_true, gd_false, stepG_true, stepG_false, stepE_true, stepE_false, stepM_true, stepM_false, pPick_true, pPick_false, bindP_some, ifB_true, ifB_false, bLt_int, bGt_int]
          exact bad _ h3 ho
      · have p1' : plainP e.node 64 = false := by simpa using p1
        have ho : okE e = false := by simp [okE, p1']
        simp only [p1', cs h2, ld1_ptr, k0, k1, k2, k3, k4, bEq_str, bs_beq, bs_inj, gd_undef, uNot_bool, decide_true, decide_false, Bool.not_true, Bool.not_false, gd_true, gd_false, stepG_true, stepG_false, stepE_true, stepE_false, stepM_true, stepM_false, pPick_true, pPick_false, bindP_some, ifB_true, ifB_false, bLt_int, bGt_int]
        exact bad _ h2 ho
end
end Go.Proofs.Gong

/- Board1 -/

/- Bd0 -/
namespace Go.Proofs.Gong
open Go Go.Sx Go.Proofs
set_option maxRecDepth 100000
def timeP (t : Int) : Bool := decide (0 ≤ t) && decide (t ≤ 2305843009213693952)
def whoP (s : List UInt8) : Bool := !decide (s = []) && plainP s 64
section
variable {w0 w : World} {L : List HP} {K : Value → World → Prop}
theorem fbistime_spec {t : Int} (hK : K (.bool (timeP t)) w) : callP G52 [.int .i64 t] w K := by
  refine c52 ?_
  unfold F52
  unfold timeP at hK
  by_cases g1 : 0 ≤ t <;> simp [g1] at hK ⊢ <;> exact hK
end
structure Row where
  id : Int
  e : Evt
  tally : Int
  first : Int
  last : Int
  acked : Bool
  who : List UInt8
  deriving DecidableEq
@[reducible] def cRow (r : Row) : List Value := [.int .i64 r.id, .string (bs r.e.node), .string (bs r.e.cls), .string (bs r.e.key), .int .i64 r.e.level, .string (bs r.e.text), .int .i64 r.tally, .int .i64 r.first, .int .i64 r.last, .bool r.acked, .string (bs r.who)]
def timesR (r : Row) : Bool := timeP r.first && timeP r.last && decide (r.first ≤ r.last)
def whoR (r : Row) : Bool := if r.acked = true then whoP r.who else decide (r.who = [])
def okR (r : Row) : Bool := decide (1 ≤ r.id) && decide (1 ≤ r.e.level) && decide (1 ≤ r.tally) && decide (r.tally ≤ 1099511627776) && timesR r && whoR r && okE r.e
end Go.Proofs.Gong

/- Hold1 -/
namespace Go.Proofs.Gong
open Go Go.Sx Go.Proofs
set_option linter.all false
set_option maxRecDepth 100000
variable {kn kr : ET} {ke : JT}
def T21 : List (Nat × FnT) := []
def F21_3b (w : World) (K : V1) : Prop :=
K (.bool true) w
def F21_3 (w : World) (K : V1) : Prop := F21_3b w K
theorem ok21_3 {K : V1}
    (hn : HN (fun e w => K (e 4) w) kn) (hr : HR Tryz.prog [.tmp 4] K kr) (he : HE noE ke) :
    ∀ e w, F21_3 w K → denL Tryz.prog (tabOf T21) 73 fuel ((flat (bodyOf Tryz.f21)).drop 5) e w kn kr ke := by
  intro e w h
  unfold F21_3 at h
  have e1 : ∀ (_ : Unit), F21_3b w K = denL Tryz.prog (tabOf T21) 73 fuel ((flat (bodyOf Tryz.f21)).drop 5) e w (fun e w => K (e 4) w) (endD Tryz.prog [.tmp 4] K) noE := by intro _; kernel_rfl
  exact seg_end (Eq.mp (e1 ()) h) hn hr he
def F21_2b (s2 s3 s5 : Value) (w : World) (K : V1) (Y0 : V3) (Y1 : V0) : Prop :=
bindP (pFieldAddr 10 s2) fun v1 =>
bindP (ld1 v1 w) fun v2 =>
bindP (lenL v2) fun v3 =>
bindP (bLt s5 v3) fun v4 =>
ifB v4 (
bindP (pFieldAddr 10 s2) fun v5 =>
bindP (ld1 v5 w.drew) fun v6 =>
bindP (pIndexL 1 v6 s5) fun v7 =>
bindP (ld1 v7 w.drew) fun v8 =>
bindP (pFieldAddr 10 s3) fun v9 =>
bindP (ld1 v9 w.drew) fun v10 =>
bindP (pIndexL 1 v10 s5) fun v11 =>
bindP (ld1 v11 w.drew) fun v12 =>
bindP (bNe Tryz.prog 3 (.tmp 66) (.tmp 71) v8 v12) fun v13 =>
ifB v13 (
K (.bool false) w.drew) (
bindP (bAdd s5 (.int .i64 1)) fun v14 =>
Y0 s2 s3 v14 w.drew)) (
Y1 w)
def F21_2L : Nat → Value → Value → Value → World → (V1) → Prop
  | 0, _, _, _, _, _ => False
  | n + 1, s2, s3, s5, w, K => F21_2b s2 s3 s5 w K (fun a2 a3 a5 w => F21_2L n a2 a3 a5 w K) (fun w => F21_3 w K)
def F21_2 (s2 s3 s5 : Value) (w : World) (K : V1) : Prop := F21_2L fuel s2 s3 s5 w K
theorem ok21_2 {K : V1}
    (hn : HN (fun e w => K (e 4) w) kn) (hr : HR Tryz.prog [.tmp 4] K kr) (he : HE noE ke) :
    ∀ e w, F21_2 (e 2) (e 3) (e 5) w K → denL Tryz.prog (tabOf T21) 73 fuel ((flat (bodyOf Tryz.f21)).drop 4) e w kn kr ke := by
  intro e w h
  unfold F21_2 at h
  refine seg_loop (id := 0) (body := (loopB (blkB (nthC (flat (bodyOf Tryz.f21)) 4)))) (l2 := (flat (bodyOf Tryz.f21)).drop 5) (by kernel_rfl) ?_
  refine loop_ok (FL := fun m e w => F21_2L m (e 2) (e 3) (e 5) w K) (fr := endD Tryz.prog [.tmp 4] K) (fe := (blkK 0 (fun e w => F21_3 w K) noE)) (fun _ _ h => h) ?_ hr (blkK_mono (fun e w h => ok21_3 hn hr he e w h) he) fuel e w h
  intro m e w h
  have h : F21_2L (m + 1) (e 2) (e 3) (e 5) w K := h
  rw [F21_2L] at h
  have e1 : ∀ (Y0 : V3) (Y1 : V0), F21_2b (e 2) (e 3) (e 5) w K Y0 Y1 = denL Tryz.prog (tabOf T21) 73 fuel (flat (loopB (blkB (nthC (flat (bodyOf Tryz.f21)) 4)))) e w (fun e w => Y0 (e 2) (e 3) (e 5) w) (endD Tryz.prog [.tmp 4] K) (blkK 0 (fun e w => Y1 w) noE) := by intro Y0 Y1; kernel_rfl
  exact Eq.mp (e1 (fun a2 a3 a5 w => F21_2L m a2 a3 a5 w K) (fun w => F21_3 w K)) h
def F21_1b (s0 s1 : Value) (w : World) (K : V1) (Y0 : V3) : Prop :=
eBox 36 s0 w fun v16 w15 =>
eBox 36 s1 w15 fun v18 w17 =>
bindP (pFieldAddr 0 v16) fun v19 =>
bindP (ld1 v19 w17) fun v20 =>
bindP (pFieldAddr 0 v18) fun v21 =>
bindP (ld1 v21 w17) fun v22 =>
bindP (bNe Tryz.prog 3 (.tmp 7) (.tmp 9) v20 v22) fun v23 =>
Sx.stepG (gd false v23) (pFieldAddr 1 v16) fun v24 =>
Sx.stepG (gd false v23) (ld1 v24 w17) fun v25 =>
Sx.stepG (gd false v23) (pFieldAddr 1 v18) fun v26 =>
Sx.stepG (gd false v23) (ld1 v26 w17) fun v27 =>
Sx.stepG (gd false v23) (bNe Tryz.prog 3 (.tmp 13) (.tmp 15) v25 v27) fun v28 =>
bindP (pPick v23 (.bool true) v28) fun v29 =>
Sx.stepG (gd false v29) (pFieldAddr 2 v16) fun v30 =>
Sx.stepG (gd false v29) (ld1 v30 w17) fun v31 =>
Sx.stepG (gd false v29) (pFieldAddr 2 v18) fun v32 =>
Sx.stepG (gd false v29) (ld1 v32 w17) fun v33 =>
Sx.stepG (gd false v29) (bNe Tryz.prog 9 (.tmp 20) (.tmp 22) v31 v33) fun v34 =>
bindP (pPick v29 (.bool true) v34) fun v35 =>
Sx.stepG (gd false v35) (pFieldAddr 3 v16) fun v36 =>
Sx.stepG (gd false v35) (ld1 v36 w17) fun v37 =>
Sx.stepG (gd false v35) (pFieldAddr 3 v18) fun v38 =>
Sx.stepG (gd false v35) (ld1 v38 w17) fun v39 =>
Sx.stepG (gd false v35) (bNe Tryz.prog 9 (.tmp 27) (.tmp 29) v37 v39) fun v40 =>
bindP (pPick v35 (.bool true) v40) fun v41 =>
Sx.stepG (gd false v41) (pFieldAddr 4 v16) fun v42 =>
Sx.stepG (gd false v41) (ld1 v42 w17) fun v43 =>
Sx.stepG (gd false v41) (pFieldAddr 4 v18) fun v44 =>
Sx.stepG (gd false v41) (ld1 v44 w17) fun v45 =>
Sx.stepG (gd false v41) (bNe Tryz.prog 3 (.tmp 34) (.tmp 36) v43 v45) fun v46 =>
bindP (pPick v41 (.bool true) v46) fun v47 =>
Sx.stepG (gd false v47) (pFieldAddr 5 v16) fun v48 =>
Sx.stepG (gd false v47) (ldN 5 v48 w17) fun v49 =>
Sx.stepG (gd false v47) (pFieldAddr 5 v18) fun v50 =>
Sx.stepG (gd false v47) (ldN 5 v50 w17) fun v51 =>
Sx.stepG (gd false v47) (bNe Tryz.prog 33 (.tmp 41) (.tmp 43) v49 v51) fun v52 =>
bindP (pPick v47 (.bool true) v52) fun v53 =>
Sx.stepG (gd false v53) (pFieldAddr 10 v16) fun v54 =>
Sx.stepG (gd false v53) (ld1 v54 w17) fun v55 =>
Sx.stepG (gd false v53) (lenL v55) fun v56 =>
Sx.stepG (gd false v53) (pFieldAddr 10 v18) fun v57 =>
Sx.stepG (gd false v53) (ld1 v57 w17) fun v58 =>
Sx.stepG (gd false v53) (lenL v58) fun v59 =>
Sx.stepG (gd false v53) (bNe Tryz.prog 3 (.tmp 49) (.tmp 52) v56 v59) fun v60 =>
bindP (pPick v53 (.bool true) v60) fun v61 =>
ifB v61 (
K (.bool false) w17) (
Y0 v16 v18 (.int .i64 0) w17)
def F21_1 (s0 s1 : Value) (w : World) (K : V1) : Prop := F21_1b s0 s1 w K (fun a2 a3 a5 w => F21_2 a2 a3 a5 w K)
theorem ok21_1 {K : V1}
    (hn : HN (fun e w => K (e 4) w) kn) (hr : HR Tryz.prog [.tmp 4] K kr) (he : HE noE ke) :
    ∀ e w, F21_1 (e 0) (e 1) w K → denL Tryz.prog (tabOf T21) 73 fuel ((flat (bodyOf Tryz.f21)).drop 0) e w kn kr ke := by
  intro e w h
  unfold F21_1 at h
  have e1 : ∀ (Y0 : V3), F21_1b (e 0) (e 1) w K Y0 = denL Tryz.prog (tabOf T21) 73 fuel (((flat (bodyOf Tryz.f21)).drop 0).take 4) e w (fun e w => Y0 (e 2) (e 3) (e 5) w) (endD Tryz.prog [.tmp 4] K) noE := by intro Y0; kernel_rfl
  exact seg 4 (Eq.mp (e1 (fun a2 a3 a5 w => F21_2 a2 a3 a5 w K)) h) (fun e w h => ok21_2 hn hr he e w h) hr he
def F21 (x0 x1 : Value) (w : World) (K : V1) : Prop := F21_1 x0 x1 w K
def G21 : FnT := fun args w K => on2 (fun x0 x1 => F21 x0 x1 w K) args
theorem c21 {x0 x1 : Value} {w : World} {K : V1} (h : F21 x0 x1 w K) : callP G21 [x0, x1] w K := callP_intro (on2_mk (p := fun x0 x1 => F21 x0 x1 w K) h)
theorem ok21 : OkF Tryz.prog 21 G21 := by
  refine okF_of (tab_ok (l := T21) trivial) mixed (n := fuel) Tryz.func21 Tryz.call21 fun args w K h => ?_
  obtain ⟨x0, x1, rfl, hh⟩ := of_on2 h
  unfold F21 at hh
  exact fnD_list (c := bodyOf Tryz.f21) (by kernel_rfl) (by kernel_rfl) (ok21_1 (fun _ _ h => h) (fun _ _ h => h) (fun _ _ _ h => h) (initE [x0, x1]) w hh)
def T7 : List (Nat × FnT) := []
def F7 (x0 : Value) (w : World) (K : V1) : Prop :=
eBox 36 x0 w fun v2 w1 =>
bindP (pFieldAddr 2 v2) fun v3 =>
bindP (ld1 v3 w1) fun v4 =>
bindP (lenS v4) fun v5 =>
bindP (pFieldAddr 3 v2) fun v6 =>
bindP (ld1 v6 w1) fun v7 =>
bindP (lenS v7) fun v8 =>
bindP (bAdd v5 v8) fun v9 =>
bindP (pFieldAddr 5 v2) fun v10 =>
bindP (pFieldAddr 0 v10) fun v11 =>
bindP (ld1 v11 w1) fun v12 =>
bindP (lenS v12) fun v13 =>
bindP (bAdd v9 v13) fun v14 =>
bindP (pFieldAddr 5 v2) fun v15 =>
bindP (pFieldAddr 1 v15) fun v16 =>
bindP (ld1 v16 w1) fun v17 =>
bindP (lenS v17) fun v18 =>
bindP (bAdd v14 v18) fun v19 =>
bindP (pFieldAddr 5 v2) fun v20 =>
bindP (pFieldAddr 2 v20) fun v21 =>
bindP (ld1 v21 w1) fun v22 =>
bindP (lenS v22) fun v23 =>
bindP (bAdd v19 v23) fun v24 =>
bindP (pFieldAddr 5 v2) fun v25 =>
bindP (pFieldAddr 4 v25) fun v26 =>
bindP (ld1 v26 w1) fun v27 =>
bindP (lenS v27) fun v28 =>
bindP (bAdd v24 v28) fun v29 =>
bindP (bLt v29 (.int .i64 3000)) fun v30 =>
Sx.stepG (gd true v30) (pFieldAddr 10 v2) fun v31 =>
Sx.stepG (gd true v30) (ld1 v31 w1) fun v32 =>
Sx.stepG (gd true v30) (lenL v32) fun v33 =>
Sx.stepG (gd true v30) (bLt v33 (.int .i64 1100)) fun v34 =>
bindP (pPick v30 v34 (.bool false)) fun v35 =>
K v35 w1
def G7 : FnT := fun args w K => on1 (fun x0 => F7 x0 w K) args
theorem c7 {x0 : Value} {w : World} {K : V1} (h : F7 x0 w K) : callP G7 [x0] w K := callP_intro (on1_mk (p := fun x0 => F7 x0 w K) h)
theorem ok7 : OkF Tryz.prog 7 G7 := by
  refine okF_of (tab_ok (l := T7) trivial) mixed (n := fuel) Tryz.func7 Tryz.call7 fun args w K h => ?_
  obtain ⟨x0, rfl, hh⟩ := of_on1 h
  exact fnD_list (c := bodyOf Tryz.f7) (by kernel_rfl) (by kernel_rfl) (Eq.mp (by kernel_rfl) hh)
def T63 : List (Nat × FnT) := [(75, G75)]
def F63 (x0 x1 : Value) (w : World) (K : V1) : Prop :=
callP G75 [x0] w fun v2 w1 =>
stepM (gd true v2) x1 fun v3 =>
stepE (gd true v2) (fun k => callP G75 [v3] w1 k) w1 fun v5 w4 =>
Sx.stepG (gd true v2) (uNot v5) fun v6 =>
bindP (pPick v2 v6 (.bool false)) fun v7 =>
stepM (gd false v7) x0 fun v8 =>
stepM (gd false v7) x1 fun v9 =>
Sx.stepG (gd false v7) (bLt v8 v9) fun v10 =>
bindP (pPick v7 (.bool true) v10) fun v11 =>
K v11 w4
def G63 : FnT := fun args w K => on2 (fun x0 x1 => F63 x0 x1 w K) args
theorem c63 {x0 x1 : Value} {w : World} {K : V1} (h : F63 x0 x1 w K) : callP G63 [x0, x1] w K := callP_intro (on2_mk (p := fun x0 x1 => F63 x0 x1 w K) h)
theorem ok63 : OkF Tryz.prog 63 G63 := by
  refine okF_of (tab_ok (l := T63) ⟨ok75, trivial⟩) mixed (n := fuel) Tryz.func63 Tryz.call63 fun args w K h => ?_
  obtain ⟨x0, x1, rfl, hh⟩ := of_on2 h
  exact fnD_list (c := bodyOf Tryz.f63) (by kernel_rfl) (by kernel_rfl) (Eq.mp (by kernel_rfl) hh)
def T48 : List (Nat × FnT) := [(63, G63)]
def F48_3b (w : World) (K : V1) : Prop :=
K (.bool true) w
def F48_3 (w : World) (K : V1) : Prop := F48_3b w K
theorem ok48_3 {K : V1}
    (hn : HN (fun e w => K (e 2) w) kn) (hr : HR Tryz.prog [.tmp 2] K kr) (he : HE noE ke) :
    ∀ e w, F48_3 w K → denL Tryz.prog (tabOf T48) 21 fuel ((flat (bodyOf Tryz.f48)).drop 3) e w kn kr ke := by
  intro e w h
  unfold F48_3 at h
  have e1 : ∀ (_ : Unit), F48_3b w K = denL Tryz.prog (tabOf T48) 21 fuel ((flat (bodyOf Tryz.f48)).drop 3) e w (fun e w => K (e 2) w) (endD Tryz.prog [.tmp 2] K) noE := by intro _; kernel_rfl
  exact seg_end (Eq.mp (e1 ()) h) hn hr he
def F48_2b (s0 s3 : Value) (w : World) (K : V1) (Y0 : V2) (Y1 : V0) : Prop :=
bindP (bGt s3 (.int .i64 0)) fun v1 =>
ifB v1 (
bindP (pIndexL 1 s0 s3) fun v2 =>
bindP (ld1 v2 w.drew) fun v3 =>
bindP (bSub s3 (.int .i64 1)) fun v4 =>
bindP (pIndexL 1 s0 v4) fun v5 =>
bindP (ld1 v5 w.drew) fun v6 =>
callP G63 [v3, v6] w.drew fun v8 w7 =>
ifB v8 (
K (.bool false) w7) (
bindP (bSub s3 (.int .i64 1)) fun v9 =>
Y0 s0 v9 w7)) (
Y1 w)
def F48_2L : Nat → Value → Value → World → (V1) → Prop
  | 0, _, _, _, _ => False
  | n + 1, s0, s3, w, K => F48_2b s0 s3 w K (fun a0 a3 w => F48_2L n a0 a3 w K) (fun w => F48_3 w K)
def F48_2 (s0 s3 : Value) (w : World) (K : V1) : Prop := F48_2L fuel s0 s3 w K
theorem ok48_2 {K : V1}
    (hn : HN (fun e w => K (e 2) w) kn) (hr : HR Tryz.prog [.tmp 2] K kr) (he : HE noE ke) :
    ∀ e w, F48_2 (e 0) (e 3) w K → denL Tryz.prog (tabOf T48) 21 fuel ((flat (bodyOf Tryz.f48)).drop 2) e w kn kr ke := by
  intro e w h
  unfold F48_2 at h
  refine seg_loop (id := 0) (body := (loopB (blkB (nthC (flat (bodyOf Tryz.f48)) 2)))) (l2 := (flat (bodyOf Tryz.f48)).drop 3) (by kernel_rfl) ?_
  refine loop_ok (FL := fun m e w => F48_2L m (e 0) (e 3) w K) (fr := endD Tryz.prog [.tmp 2] K) (fe := (blkK 0 (fun e w => F48_3 w K) noE)) (fun _ _ h => h) ?_ hr (blkK_mono (fun e w h => ok48_3 hn hr he e w h) he) fuel e w h
  intro m e w h
  have h : F48_2L (m + 1) (e 0) (e 3) w K := h
  rw [F48_2L] at h
  have e1 : ∀ (Y0 : V2) (Y1 : V0), F48_2b (e 0) (e 3) w K Y0 Y1 = denL Tryz.prog (tabOf T48) 21 fuel (flat (loopB (blkB (nthC (flat (bodyOf Tryz.f48)) 2)))) e w (fun e w => Y0 (e 0) (e 3) w) (endD Tryz.prog [.tmp 2] K) (blkK 0 (fun e w => Y1 w) noE) := by intro Y0 Y1; kernel_rfl
  exact Eq.mp (e1 (fun a0 a3 w => F48_2L m a0 a3 w K) (fun w => F48_3 w K)) h
def F48_1b (s0 : Value) (w : World) (_K : V1) (Y0 : V2) : Prop :=
bindP (lenL s0) fun v10 =>
bindP (bSub v10 (.int .i64 1)) fun v11 =>
Y0 s0 v11 w
def F48_1 (s0 : Value) (w : World) (K : V1) : Prop := F48_1b s0 w K (fun a0 a3 w => F48_2 a0 a3 w K)
theorem ok48_1 {K : V1}
    (hn : HN (fun e w => K (e 2) w) kn) (hr : HR Tryz.prog [.tmp 2] K kr) (he : HE noE ke) :
    ∀ e w, F48_1 (e 0) w K → denL Tryz.prog (tabOf T48) 21 fuel ((flat (bodyOf Tryz.f48)).drop 0) e w kn kr ke := by
  intro e w h
  unfold F48_1 at h
  have e1 : ∀ (Y0 : V2), F48_1b (e 0) w K Y0 = denL Tryz.prog (tabOf T48) 21 fuel (((flat (bodyOf Tryz.f48)).drop 0).take 2) e w (fun e w => Y0 (e 0) (e 3) w) (endD Tryz.prog [.tmp 2] K) noE := by intro Y0; kernel_rfl
  exact seg 2 (Eq.mp (e1 (fun a0 a3 w => F48_2 a0 a3 w K)) h) (fun e w h => ok48_2 hn hr he e w h) hr he
def F48 (x0 : Value) (w : World) (K : V1) : Prop := F48_1 x0 w K
def G48 : FnT := fun args w K => on1 (fun x0 => F48 x0 w K) args
theorem c48 {x0 : Value} {w : World} {K : V1} (h : F48 x0 w K) : callP G48 [x0] w K := callP_intro (on1_mk (p := fun x0 => F48 x0 w K) h)
theorem ok48 : OkF Tryz.prog 48 G48 := by
  refine okF_of (tab_ok (l := T48) ⟨ok63, trivial⟩) mixed (n := fuel) Tryz.func48 Tryz.call48 fun args w K h => ?_
  obtain ⟨x0, rfl, hh⟩ := of_on1 h
  unfold F48 at hh
  exact fnD_list (c := bodyOf Tryz.f48) (by kernel_rfl) (by kernel_rfl) (ok48_1 (fun _ _ h => h) (fun _ _ h => h) (fun _ _ _ h => h) (initE [x0]) w hh)
def T49 : List (Nat × FnT) := []
def F49 (x0 : Value) (w : World) (K : V1) : Prop :=
bindP (bGe x0 (.int .i64 0)) fun v1 =>
stepM (gd true v1) x0 fun v2 =>
Sx.stepG (gd true v1) (bLe v2 (.int .i64 2305843009213693952)) fun v3 =>
bindP (pPick v1 v3 (.bool false)) fun v4 =>
K v4 w
def G49 : FnT := fun args w K => on1 (fun x0 => F49 x0 w K) args
theorem c49 {x0 : Value} {w : World} {K : V1} (h : F49 x0 w K) : callP G49 [x0] w K := callP_intro (on1_mk (p := fun x0 => F49 x0 w K) h)
theorem ok49 : OkF Tryz.prog 49 G49 := by
  refine okF_of (tab_ok (l := T49) trivial) mixed (n := fuel) Tryz.func49 Tryz.call49 fun args w K h => ?_
  obtain ⟨x0, rfl, hh⟩ := of_on1 h
  exact fnD_list (c := bodyOf Tryz.f49) (by kernel_rfl) (by kernel_rfl) (Eq.mp (by kernel_rfl) hh)
def T34 : List (Nat × FnT) := [(47, G47), (48, G48), (49, G49)]
def F34_2b (s1 s3 s4 s5 : Value) (w : World) (K : V1) : Prop :=
bindP (pFieldAddr 1 s1) fun v1 =>
bindP (ld1 v1 w) fun v2 =>
bindP (bLt v2 (.int .i64 0)) fun v3 =>
Sx.stepG (gd false v3) (pFieldAddr 1 s1) fun v4 =>
Sx.stepG (gd false v3) (ld1 v4 w) fun v5 =>
Sx.stepG (gd false v3) (bGt v5 (.int .i64 63)) fun v6 =>
bindP (pPick v3 (.bool true) v6) fun v7 =>
stepM (gd false v7) s3 fun v8 =>
Sx.stepG (gd false v7) (uNot v8) fun v9 =>
bindP (pPick v7 (.bool true) v9) fun v10 =>
stepM (gd false v10) s4 fun v11 =>
Sx.stepG (gd false v10) (uNot v11) fun v12 =>
bindP (pPick v10 (.bool true) v12) fun v13 =>
stepM (gd false v13) s5 fun v14 =>
Sx.stepG (gd false v13) (uNot v14) fun v15 =>
bindP (pPick v13 (.bool true) v15) fun v16 =>
Sx.stepG (gd false v16) (pFieldAddr 4 s1) fun v17 =>
Sx.stepG (gd false v16) (ld1 v17 w) fun v18 =>
stepE (gd false v16) (fun k => callP G49 [v18] w k) w fun v20 w19 =>
Sx.stepG (gd false v16) (uNot v20) fun v21 =>
bindP (pPick v16 (.bool true) v21) fun v22 =>
ifB v22 (
K (.int .i64 4) w19) (
K (.int .i64 0) w19)
def F34_2 (s1 s3 s4 s5 : Value) (w : World) (K : V1) : Prop := F34_2b s1 s3 s4 s5 w K
theorem ok34_2 {K : V1}
    (hn : HN (fun e w => K (e 2) w) kn) (hr : HR Tryz.prog [.tmp 2] K kr) (he : HE noE ke) :
    ∀ e w, F34_2 (e 1) (e 3) (e 4) (e 5) w K → denL Tryz.prog (tabOf T34) 81 fuel ((flat (bodyOf Tryz.f34)).drop 6) e w kn kr ke := by
  intro e w h
  unfold F34_2 at h
  have e1 : ∀ (_ : Unit), F34_2b (e 1) (e 3) (e 4) (e 5) w K = denL Tryz.prog (tabOf T34) 81 fuel ((flat (bodyOf Tryz.f34)).drop 6) e w (fun e w => K (e 2) w) (endD Tryz.prog [.tmp 2] K) noE := by intro _; kernel_rfl
  exact seg_end (Eq.mp (e1 ()) h) hn hr he
def F34_1b (s0 : Value) (w : World) (_K : V1) (Y0 : V4) : Prop :=
eBox 36 s0 w fun v24 w23 =>
bindP (pFieldAddr 2 v24) fun v25 =>
bindP (ld1 v25 w23) fun v26 =>
bindP (pFieldAddr 3 v24) fun v27 =>
bindP (ld1 v27 w23) fun v28 =>
bindP (fBuild Tryz.prog 33 [(0, v26), (1, (.string ⟨#[99]⟩)), (2, v28)]) fun v29 =>
callP G47 [v29] w23 fun v31 w30 =>
bindP (bEq Tryz.prog 24 (.tmp 11) (.const (.int .i64 0)) v31 (.int .i64 0)) fun v32 =>
bindP (pFieldAddr 5 v24) fun v33 =>
bindP (ldN 5 v33 w30) fun v34 =>
bindP (fBuild Tryz.prog 33 []) fun v35 =>
bindP (bEq Tryz.prog 33 (.tmp 14) (.tmp 15) v34 v35) fun v36 =>
Sx.stepG (gd false v36) (pFieldAddr 5 v24) fun v37 =>
Sx.stepG (gd false v36) (ldN 5 v37 w30) fun v38 =>
stepE (gd false v36) (fun k => callP G47 [v38] w30 k) w30 fun v40 w39 =>
Sx.stepG (gd false v36) (bEq Tryz.prog 24 (.tmp 20) (.const (.int .i64 0)) v40 (.int .i64 0)) fun v41 =>
bindP (pPick v36 (.bool true) v41) fun v42 =>
bindP (pFieldAddr 10 v24) fun v43 =>
bindP (ld1 v43 w39) fun v44 =>
bindP (lenL v44) fun v45 =>
bindP (bLe v45 (.int .i64 1000)) fun v46 =>
Sx.stepG (gd true v46) (pFieldAddr 10 v24) fun v47 =>
Sx.stepG (gd true v46) (ld1 v47 w39) fun v48 =>
stepE (gd true v46) (fun k => callP G48 [v48] w39 k) w39 fun v50 w49 =>
bindP (pPick v46 v50 (.bool false)) fun v51 =>
Sx.stepG (gd true v51) (pFieldAddr 10 v24) fun v52 =>
Sx.stepG (gd true v51) (ld1 v52 w49) fun v53 =>
Sx.stepG (gd true v51) (lenL v53) fun v54 =>
Sx.stepG (gd true v51) (bGt v54 (.int .i64 0)) fun v55 =>
bindP (pPick v51 v55 (.bool false)) fun v56 =>
ifB v56 (
bindP (pFieldAddr 10 v24) fun v57 =>
bindP (ld1 v57 w49) fun v58 =>
bindP (pIndexL 1 v58 (.int .i64 0)) fun v59 =>
bindP (ld1 v59 w49) fun v60 =>
callP G49 [v60] w49 fun v62 w61 =>
Sx.stepG (gd true v62) (pFieldAddr 10 v24) fun v63 =>
Sx.stepG (gd true v62) (ld1 v63 w61) fun v64 =>
Sx.stepG (gd true v62) (pFieldAddr 10 v24) fun v65 =>
Sx.stepG (gd true v62) (ld1 v65 w61) fun v66 =>
Sx.stepG (gd true v62) (lenL v66) fun v67 =>
Sx.stepG (gd true v62) (bSub v67 (.int .i64 1)) fun v68 =>
Sx.stepG (gd true v62) (pIndexL 1 v64 v68) fun v69 =>
Sx.stepG (gd true v62) (ld1 v69 w61) fun v70 =>
stepE (gd true v62) (fun k => callP G49 [v70] w61 k) w61 fun v72 w71 =>
bindP (pPick v62 v72 (.bool false)) fun v73 =>
Y0 v24 v32 v42 v73 w71) (
Y0 v24 v32 v42 v51 w49)
def F34_1 (s0 : Value) (w : World) (K : V1) : Prop := F34_1b s0 w K (fun a1 a3 a4 a5 w => F34_2 a1 a3 a4 a5 w K)
theorem ok34_1 {K : V1}
    (hn : HN (fun e w => K (e 2) w) kn) (hr : HR Tryz.prog [.tmp 2] K kr) (he : HE noE ke) :
    ∀ e w, F34_1 (e 0) w K → denL Tryz.prog (tabOf T34) 81 fuel ((flat (bodyOf Tryz.f34)).drop 0) e w kn kr ke := by
  intro e w h
  unfold F34_1 at h
  have e1 : ∀ (Y0 : V4), F34_1b (e 0) w K Y0 = denL Tryz.prog (tabOf T34) 81 fuel (((flat (bodyOf Tryz.f34)).drop 0).take 6) e w (fun e w => Y0 (e 1) (e 3) (e 4) (e 5) w) (endD Tryz.prog [.tmp 2] K) noE := by intro Y0; kernel_rfl
  exact seg 6 (Eq.mp (e1 (fun a1 a3 a4 a5 w => F34_2 a1 a3 a4 a5 w K)) h) (fun e w h => ok34_2 hn hr he e w h) hr he
def F34 (x0 : Value) (w : World) (K : V1) : Prop := F34_1 x0 w K
def G34 : FnT := fun args w K => on1 (fun x0 => F34 x0 w K) args
theorem c34 {x0 : Value} {w : World} {K : V1} (h : F34 x0 w K) : callP G34 [x0] w K := callP_intro (on1_mk (p := fun x0 => F34 x0 w K) h)
theorem ok34 : OkF Tryz.prog 34 G34 := by
  refine okF_of (tab_ok (l := T34) ⟨ok47, ok48, ok49, trivial⟩) mixed (n := fuel) Tryz.func34 Tryz.call34 fun args w K h => ?_
  obtain ⟨x0, rfl, hh⟩ := of_on1 h
  unfold F34 at hh
  exact fnD_list (c := bodyOf Tryz.f34) (by kernel_rfl) (by kernel_rfl) (ok34_1 (fun _ _ h => h) (fun _ _ h => h) (fun _ _ _ h => h) (initE [x0]) w hh)
def T36 : List (Nat × FnT) := [(51, G51), (52, G52)]
def F36_3b (w : World) (K : V1) : Prop :=
K (.int .i64 0) w
def F36_3 (w : World) (K : V1) : Prop := F36_3b w K
theorem ok36_3 {K : V1}
    (hn : HN (fun e w => K (e 2) w) kn) (hr : HR Tryz.prog [.tmp 2] K kr) (he : HE noE ke) :
    ∀ e w, F36_3 w K → denL Tryz.prog (tabOf T36) 83 fuel ((flat (bodyOf Tryz.f36)).drop 7) e w kn kr ke := by
  intro e w h
  unfold F36_3 at h
  have e1 : ∀ (_ : Unit), F36_3b w K = denL Tryz.prog (tabOf T36) 83 fuel ((flat (bodyOf Tryz.f36)).drop 7) e w (fun e w => K (e 2) w) (endD Tryz.prog [.tmp 2] K) noE := by intro _; kernel_rfl
  exact seg_end (Eq.mp (e1 ()) h) hn hr he
def F36_2b (s1 s5 : Value) (w : World) (K : V1) (Y0 : V2) (Y1 : V0) : Prop :=
bindP (pFieldAddr 10 s1) fun v1 =>
bindP (ld1 v1 w) fun v2 =>
bindP (lenL v2) fun v3 =>
bindP (bLt s5 v3) fun v4 =>
ifB v4 (
bindP (pFieldAddr 10 s1) fun v5 =>
bindP (ld1 v5 w.drew) fun v6 =>
bindP (pIndexL 1 v6 s5) fun v7 =>
bindP (ld1 v7 w.drew) fun v8 =>
callP G52 [v8] w.drew fun v10 w9 =>
bindP (uNot v10) fun v11 =>
stepM (gd false v11) s5 fun v12 =>
Sx.stepG (gd false v11) (bGt v12 (.int .i64 0)) fun v13 =>
stepM (gd false v11) v13 fun v14 =>
Sx.stepG (gd true v14) (pFieldAddr 10 s1) fun v15 =>
Sx.stepG (gd true v14) (ld1 v15 w9) fun v16 =>
stepM (gd true v14) s5 fun v17 =>
Sx.stepG (gd true v14) (bSub v17 (.int .i64 1)) fun v18 =>
Sx.stepG (gd true v14) (pIndexL 1 v16 v18) fun v19 =>
Sx.stepG (gd true v14) (ld1 v19 w9) fun v20 =>
Sx.stepG (gd true v14) (pFieldAddr 10 s1) fun v21 =>
Sx.stepG (gd true v14) (ld1 v21 w9) fun v22 =>
stepM (gd true v14) s5 fun v23 =>
Sx.stepG (gd true v14) (pIndexL 1 v22 v23) fun v24 =>
Sx.stepG (gd true v14) (ld1 v24 w9) fun v25 =>
Sx.stepG (gd true v14) (bGt v20 v25) fun v26 =>
Sx.stepG (gd false v11) (pPick v14 v26 (.bool false)) fun v27 =>
bindP (pPick v11 (.bool true) v27) fun v28 =>
ifB v28 (
K (.int .i64 4) w9) (
bindP (bAdd s5 (.int .i64 1)) fun v29 =>
Y0 s1 v29 w9)) (
Y1 w)
def F36_2L : Nat → Value → Value → World → (V1) → Prop
  | 0, _, _, _, _ => False
  | n + 1, s1, s5, w, K => F36_2b s1 s5 w K (fun a1 a5 w => F36_2L n a1 a5 w K) (fun w => F36_3 w K)
def F36_2 (s1 s5 : Value) (w : World) (K : V1) : Prop := F36_2L fuel s1 s5 w K
theorem ok36_2 {K : V1}
    (hn : HN (fun e w => K (e 2) w) kn) (hr : HR Tryz.prog [.tmp 2] K kr) (he : HE noE ke) :
    ∀ e w, F36_2 (e 1) (e 5) w K → denL Tryz.prog (tabOf T36) 83 fuel ((flat (bodyOf Tryz.f36)).drop 6) e w kn kr ke := by
  intro e w h
  unfold F36_2 at h
  refine seg_loop (id := 0) (body := (loopB (blkB (nthC (flat (bodyOf Tryz.f36)) 6)))) (l2 := (flat (bodyOf Tryz.f36)).drop 7) (by kernel_rfl) ?_
  refine loop_ok (FL := fun m e w => F36_2L m (e 1) (e 5) w K) (fr := endD Tryz.prog [.tmp 2] K) (fe := (blkK 0 (fun e w => F36_3 w K) noE)) (fun _ _ h => h) ?_ hr (blkK_mono (fun e w h => ok36_3 hn hr he e w h) he) fuel e w h
  intro m e w h
  have h : F36_2L (m + 1) (e 1) (e 5) w K := h
  rw [F36_2L] at h
  have e1 : ∀ (Y0 : V2) (Y1 : V0), F36_2b (e 1) (e 5) w K Y0 Y1 = denL Tryz.prog (tabOf T36) 83 fuel (flat (loopB (blkB (nthC (flat (bodyOf Tryz.f36)) 6)))) e w (fun e w => Y0 (e 1) (e 5) w) (endD Tryz.prog [.tmp 2] K) (blkK 0 (fun e w => Y1 w) noE) := by intro Y0 Y1; kernel_rfl
  exact Eq.mp (e1 (fun a1 a5 w => F36_2L m a1 a5 w K) (fun w => F36_3 w K)) h
def F36_1b (s0 : Value) (w : World) (K : V1) (Y0 : V2) : Prop :=
eBox 36 s0 w fun v31 w30 =>
bindP (pFieldAddr 2 v31) fun v32 =>
bindP (ld1 v32 w30) fun v33 =>
bindP (pFieldAddr 3 v31) fun v34 =>
bindP (ld1 v34 w30) fun v35 =>
bindP (fBuild Tryz.prog 33 [(0, v33), (1, (.string ⟨#[120]⟩)), (2, v35)]) fun v36 =>
callP G51 [v36] w30 fun v38 w37 =>
bindP (bEq Tryz.prog 24 (.tmp 11) (.const (.int .i64 0)) v38 (.int .i64 0)) fun v39 =>
bindP (pFieldAddr 5 v31) fun v40 =>
bindP (ldN 5 v40 w37) fun v41 =>
bindP (fBuild Tryz.prog 33 []) fun v42 =>
bindP (bEq Tryz.prog 33 (.tmp 14) (.tmp 15) v41 v42) fun v43 =>
Sx.stepG (gd false v43) (pFieldAddr 5 v31) fun v44 =>
Sx.stepG (gd false v43) (ldN 5 v44 w37) fun v45 =>
stepE (gd false v43) (fun k => callP G51 [v45] w37 k) w37 fun v47 w46 =>
Sx.stepG (gd false v43) (bEq Tryz.prog 24 (.tmp 20) (.const (.int .i64 0)) v47 (.int .i64 0)) fun v48 =>
bindP (pPick v43 (.bool true) v48) fun v49 =>
bindP (pFieldAddr 1 v31) fun v50 =>
bindP (ld1 v50 w46) fun v51 =>
bindP (bLt v51 (.int .i64 0)) fun v52 =>
Sx.stepG (gd false v52) (pFieldAddr 1 v31) fun v53 =>
Sx.stepG (gd false v52) (ld1 v53 w46) fun v54 =>
Sx.stepG (gd false v52) (bGt v54 (.int .i64 63)) fun v55 =>
bindP (pPick v52 (.bool true) v55) fun v56 =>
stepM (gd false v56) v39 fun v57 =>
Sx.stepG (gd false v56) (uNot v57) fun v58 =>
bindP (pPick v56 (.bool true) v58) fun v59 =>
Sx.stepG (gd false v59) (pFieldAddr 4 v31) fun v60 =>
Sx.stepG (gd false v59) (ld1 v60 w46) fun v61 =>
stepE (gd false v59) (fun k => callP G52 [v61] w46 k) w46 fun v63 w62 =>
Sx.stepG (gd false v59) (uNot v63) fun v64 =>
bindP (pPick v59 (.bool true) v64) fun v65 =>
stepM (gd false v65) v49 fun v66 =>
Sx.stepG (gd false v65) (uNot v66) fun v67 =>
bindP (pPick v65 (.bool true) v67) fun v68 =>
Sx.stepG (gd false v68) (pFieldAddr 10 v31) fun v69 =>
Sx.stepG (gd false v68) (ld1 v69 w62) fun v70 =>
Sx.stepG (gd false v68) (lenL v70) fun v71 =>
Sx.stepG (gd false v68) (bGt v71 (.int .i64 1000)) fun v72 =>
bindP (pPick v68 (.bool true) v72) fun v73 =>
ifB v73 (
K (.int .i64 4) w62) (
Y0 v31 (.int .i64 0) w62)
def F36_1 (s0 : Value) (w : World) (K : V1) : Prop := F36_1b s0 w K (fun a1 a5 w => F36_2 a1 a5 w K)
theorem ok36_1 {K : V1}
    (hn : HN (fun e w => K (e 2) w) kn) (hr : HR Tryz.prog [.tmp 2] K kr) (he : HE noE ke) :
    ∀ e w, F36_1 (e 0) w K → denL Tryz.prog (tabOf T36) 83 fuel ((flat (bodyOf Tryz.f36)).drop 0) e w kn kr ke := by
  intro e w h
  unfold F36_1 at h
  have e1 : ∀ (Y0 : V2), F36_1b (e 0) w K Y0 = denL Tryz.prog (tabOf T36) 83 fuel (((flat (bodyOf Tryz.f36)).drop 0).take 6) e w (fun e w => Y0 (e 1) (e 5) w) (endD Tryz.prog [.tmp 2] K) noE := by intro Y0; kernel_rfl
  exact seg 6 (Eq.mp (e1 (fun a1 a5 w => F36_2 a1 a5 w K)) h) (fun e w h => ok36_2 hn hr he e w h) hr he
def F36 (x0 : Value) (w : World) (K : V1) : Prop := F36_1 x0 w K
def G36 : FnT := fun args w K => on1 (fun x0 => F36 x0 w K) args
theorem c36 {x0 : Value} {w : World} {K : V1} (h : F36 x0 w K) : callP G36 [x0] w K := callP_intro (on1_mk (p := fun x0 => F36 x0 w K) h)
theorem ok36 : OkF Tryz.prog 36 G36 := by
  refine okF_of (tab_ok (l := T36) ⟨ok51, ok52, trivial⟩) mixed (n := fuel) Tryz.func36 Tryz.call36 fun args w K h => ?_
  obtain ⟨x0, rfl, hh⟩ := of_on1 h
  unfold F36 at hh
  exact fnD_list (c := bodyOf Tryz.f36) (by kernel_rfl) (by kernel_rfl) (ok36_1 (fun _ _ h => h) (fun _ _ h => h) (fun _ _ _ h => h) (initE [x0]) w hh)
def T10 : List (Nat × FnT) := [(32, G32)]
def F10 (x0 x1 : Value) (w : World) (K : V1) : Prop :=
callP G32 [x0] w fun v2 w1 =>
bindP (pTuple v2 0) fun v3 =>
bindP (pTuple v2 1) fun _ =>
bindP (fBuild Tryz.prog 67 [(0, v3)]) fun v5 =>
eMakeMap none w1 fun v7 w6 =>
eMakeMap none w6 fun v9 w8 =>
bindP (fBuild Tryz.prog 71 [(0, v5), (1, x0), (2, x1), (3, v7), (4, v9)]) fun v10 =>
eBox 71 v10 w8 fun v12 w11 =>
K v12 w11
def G10 : FnT := fun args w K => on2 (fun x0 x1 => F10 x0 x1 w K) args
theorem c10 {x0 x1 : Value} {w : World} {K : V1} (h : F10 x0 x1 w K) : callP G10 [x0, x1] w K := callP_intro (on2_mk (p := fun x0 x1 => F10 x0 x1 w K) h)
theorem ok10 : OkF Tryz.prog 10 G10 := by
  refine okF_of (tab_ok (l := T10) ⟨ok32, trivial⟩) mixed (n := fuel) Tryz.func10 Tryz.call10 fun args w K h => ?_
  obtain ⟨x0, x1, rfl, hh⟩ := of_on2 h
  exact fnD_list (c := bodyOf Tryz.f10) (by kernel_rfl) (by kernel_rfl) (Eq.mp (by kernel_rfl) hh)
def T4 : List (Nat × FnT) := [(10, G10)]
def F4 (x0 : Value) (w : World) (K : V1) : Prop :=
bindP (bLt x0 (.int .i64 1)) fun v1 =>
stepM (gd false v1) x0 fun v2 =>
Sx.stepG (gd false v1) (bGt v2 (.int .i64 65536)) fun v3 =>
bindP (pPick v1 (.bool true) v3) fun v4 =>
ifB v4 (
K (.tuple #[(.pointer none), (.int .i64 1)]) w) (
callP G10 [x0, (.int .i64 1)] w fun v6 w5 =>
K (.tuple #[v6, (.int .i64 0)]) w5)
def G4 : FnT := fun args w K => on1 (fun x0 => F4 x0 w K) args
theorem c4 {x0 : Value} {w : World} {K : V1} (h : F4 x0 w K) : callP G4 [x0] w K := callP_intro (on1_mk (p := fun x0 => F4 x0 w K) h)
theorem ok4 : OkF Tryz.prog 4 G4 := by
  refine okF_of (tab_ok (l := T4) ⟨ok10, trivial⟩) mixed (n := fuel) Tryz.func4 Tryz.call4 fun args w K h => ?_
  obtain ⟨x0, rfl, hh⟩ := of_on1 h
  exact fnD_list (c := bodyOf Tryz.f4) (by kernel_rfl) (by kernel_rfl) (Eq.mp (by kernel_rfl) hh)
def T33 : List (Nat × FnT) := []
def F33 (x0 : Value) (w : World) (K : V1) : Prop :=
eBox 36 x0 w fun v2 w1 =>
eAlloc Tryz.prog 74 w1 fun v4 w3 =>
bindP (pFieldAddr 1 v2) fun v5 =>
bindP (ld1 v5 w3) fun v6 =>
bindP (pFieldAddr 2 v2) fun v7 =>
bindP (ld1 v7 w3) fun v8 =>
bindP (pFieldAddr 3 v2) fun v9 =>
bindP (ld1 v9 w3) fun v10 =>
bindP (fBuild Tryz.prog 74 [(0, v6), (1, v8), (2, v10)]) fun v11 =>
bindW (st 3 v4 v11 w3) fun w12 =>
bindP (ldN 3 v4 w12) fun v14 =>
K v14 w12
def G33 : FnT := fun args w K => on1 (fun x0 => F33 x0 w K) args
theorem c33 {x0 : Value} {w : World} {K : V1} (h : F33 x0 w K) : callP G33 [x0] w K := callP_intro (on1_mk (p := fun x0 => F33 x0 w K) h)
theorem ok33 : OkF Tryz.prog 33 G33 := by
  refine okF_of (tab_ok (l := T33) trivial) mixed (n := fuel) Tryz.func33 Tryz.call33 fun args w K h => ?_
  obtain ⟨x0, rfl, hh⟩ := of_on1 h
  exact fnD_list (c := bodyOf Tryz.f33) (by kernel_rfl) (by kernel_rfl) (Eq.mp (by kernel_rfl) hh)
def T57 : List (Nat × FnT) := []
def F57 (x0 : Value) (w : World) (K : V1) : Prop :=
bindP (bEq Tryz.prog 34 (.tmp 3) (.const (.slice none 0 0)) x0 (.slice none 0 0)) fun v1 =>
ifB v1 (
K (.slice none 0 0) w) (
eBuildSl Tryz.prog 34 0 [] w fun v3 w2 =>
eAppend Tryz.prog 34 34 v3 x0 w2 fun v5 w4 =>
K v5 w4)
def G57 : FnT := fun args w K => on1 (fun x0 => F57 x0 w K) args
theorem c57 {x0 : Value} {w : World} {K : V1} (h : F57 x0 w K) : callP G57 [x0] w K := callP_intro (on1_mk (p := fun x0 => F57 x0 w K) h)
theorem ok57 : OkF Tryz.prog 57 G57 := by
  refine okF_of (tab_ok (l := T57) trivial) mixed (n := fuel) Tryz.func57 Tryz.call57 fun args w K h => ?_
  obtain ⟨x0, rfl, hh⟩ := of_on1 h
  exact fnD_list (c := bodyOf Tryz.f57) (by kernel_rfl) (by kernel_rfl) (Eq.mp (by kernel_rfl) hh)
def T43 : List (Nat × FnT) := [(57, G57)]
def F43 (x0 : Value) (w : World) (K : V1) : Prop :=
eBox 36 x0 w fun v2 w1 =>
eAlloc Tryz.prog 36 w1 fun v4 w3 =>
bindP (pFieldAddr 10 v2) fun v5 =>
bindP (ld1 v5 w3) fun v6 =>
callP G57 [v6] w3 fun v8 w7 =>
bindP (pFieldAddr 10 v2) fun v9 =>
bindW (st 1 v9 v8 w7) fun w10 =>
bindP (ldN 11 v2 w10) fun v12 =>
bindW (st 11 v4 v12 w10) fun w13 =>
bindP (ldN 11 v4 w13) fun v15 =>
K v15 w13
def G43 : FnT := fun args w K => on1 (fun x0 => F43 x0 w K) args
theorem c43 {x0 : Value} {w : World} {K : V1} (h : F43 x0 w K) : callP G43 [x0] w K := callP_intro (on1_mk (p := fun x0 => F43 x0 w K) h)
theorem ok43 : OkF Tryz.prog 43 G43 := by
  refine okF_of (tab_ok (l := T43) ⟨ok57, trivial⟩) mixed (n := fuel) Tryz.func43 Tryz.call43 fun args w K h => ?_
  obtain ⟨x0, rfl, hh⟩ := of_on1 h
  exact fnD_list (c := bodyOf Tryz.f43) (by kernel_rfl) (by kernel_rfl) (Eq.mp (by kernel_rfl) hh)
def T50 : List (Nat × FnT) := [(64, G64)]
def F50 (x0 x1 : Value) (w : World) (K : V1) : Prop :=
eBox 67 x0 w fun v2 w1 =>
eBox 36 x1 w1 fun v4 w3 =>
bindP (pFieldAddr 0 v2) fun v5 =>
bindP (ld1 v5 w3) fun v6 =>
bindP (pFieldAddr 0 v4) fun v7 =>
bindP (ld1 v7 w3) fun v8 =>
bindP (pFieldAddr 4 v4) fun v9 =>
bindP (ld1 v9 w3) fun v10 =>
callP G64 [v6, v8, v10] w3 fun _ w11 =>
K (.tuple #[]) w11
def G50 : FnT := fun args w K => on2 (fun x0 x1 => F50 x0 x1 w K) args
theorem c50 {x0 x1 : Value} {w : World} {K : V1} (h : F50 x0 x1 w K) : callP G50 [x0, x1] w K := callP_intro (on2_mk (p := fun x0 x1 => F50 x0 x1 w K) h)
theorem ok50 : OkF Tryz.prog 50 G50 := by
  refine okF_of (tab_ok (l := T50) ⟨ok64, trivial⟩) mixed (n := fuel) Tryz.func50 Tryz.call50 fun args w K h => ?_
  obtain ⟨x0, x1, rfl, hh⟩ := of_on2 h
  exact fnD_list (c := bodyOf Tryz.f50) (by kernel_rfl) (by kernel_rfl) (Eq.mp (by kernel_rfl) hh)
def T35 : List (Nat × FnT) := [(33, G33), (43, G43), (50, G50)]
def F35 (x0 x1 : Value) (w : World) (K : V1) : Prop :=
eBox 36 x1 w fun v2 w1 =>
bindP (pNil x0) fun v3 =>
bindP (pFieldAddr 3 v3) fun v4 =>
bindP (ld1 v4 w1.drew) fun v5 =>
bindP (pFieldAddr 0 v2) fun v6 =>
bindP (ld1 v6 w1.drew) fun v7 =>
bindP (ldN 11 v2 w1.drew) fun v8 =>
callP G43 [v8] w1.drew fun v10 w9 =>
(fok true (ld1 v4 w9) v5 ∧ fok true (ld1 v6 w9) v7) ∧ (eMapSet Tryz.prog 68 v5 v7 v10 w9 fun _ w11 =>
bindP (pNil x0) fun v13 =>
bindP (pFieldAddr 4 v13) fun v14 =>
bindP (ld1 v14 w11.drew) fun v15 =>
bindP (ldN 11 v2 w11.drew) fun v16 =>
bindP (pFieldAddr 0 v2) fun v17 =>
bindP (ld1 v17 w11.drew) fun v18 =>
callP G33 [v16] w11.drew fun v20 w19 =>
(fok true (ld1 v14 w19) v15 ∧ fok true (ld1 v17 w19) v18) ∧ (eMapSet Tryz.prog 69 v15 v20 v18 w19 fun _ w21 =>
bindP (pNil x0) fun v23 =>
bindP (pFieldAddr 0 v23) fun v24 =>
bindP (ldN 1 v24 w21.drew) fun v25 =>
bindP (ldN 11 v2 w21.drew) fun v26 =>
callP G50 [v25, v26] w21.drew fun _ w27 =>
K (.tuple #[]) w27))
def G35 : FnT := fun args w K => on2 (fun x0 x1 => F35 x0 x1 w K) args
theorem c35 {x0 x1 : Value} {w : World} {K : V1} (h : F35 x0 x1 w K) : callP G35 [x0, x1] w K := callP_intro (on2_mk (p := fun x0 x1 => F35 x0 x1 w K) h)
theorem ok35 : OkF Tryz.prog 35 G35 := by
  refine okF_of (tab_ok (l := T35) ⟨ok33, ok43, ok50, trivial⟩) mixed (n := fuel) Tryz.func35 Tryz.call35 fun args w K h => ?_
  obtain ⟨x0, x1, rfl, hh⟩ := of_on2 h
  exact fnD_list (c := bodyOf Tryz.f35) (by kernel_rfl) (by kernel_rfl) (Eq.mp (by kernel_rfl) hh)
def T11 : List (Nat × FnT) := [(33, G33), (34, G34), (35, G35)]
def F11 (x0 x1 : Value) (w : World) (K : V1) : Prop :=
eBox 36 x1 w fun v2 w1 =>
bindP (pNil x0) fun v3 =>
bindP (pFieldAddr 4 v3) fun v4 =>
bindP (ld1 v4 w1.drew) fun v5 =>
bindP (ldN 11 v2 w1.drew) fun v6 =>
callP G33 [v6] w1.drew fun v8 w7 =>
fok true (ld1 v4 w7) v5 ∧ (bindP (fLook Tryz.prog 69 v5 v8 true w7) fun v9 =>
bindP (pTuple v9 0) fun _ =>
bindP (pTuple v9 1) fun v11 =>
bindP (ldN 11 v2 w7) fun v12 =>
callP G34 [v12] w7 fun v14 w13 =>
bindP (bNe Tryz.prog 24 (.tmp 20) (.const (.int .i64 0)) v14 (.int .i64 0)) fun v15 =>
ifB v15 (
K (.tuple #[(.int .i64 0), (.int .i64 4)]) w13) (
ifB v11 (
K (.tuple #[(.int .i64 0), (.int .i64 6)]) w13) (
bindP (pNil x0) fun v16 =>
bindP (pFieldAddr 3 v16) fun v17 =>
bindP (ld1 v17 w13.drew) fun v18 =>
bindP (lenM v18 w13.drew) fun v19 =>
bindP (pNil x0) fun v20 =>
bindP (pFieldAddr 1 v20) fun v21 =>
bindP (ld1 v21 w13.drew) fun v22 =>
bindP (bGe v19 v22) fun v23 =>
ifB v23 (
K (.tuple #[(.int .i64 0), (.int .i64 200)]) w13.drew) (
bindP (pNil x0) fun v24 =>
bindP (pFieldAddr 2 v24) fun v25 =>
bindP (ld1 v25 w13.drew) fun v26 =>
bindP (pFieldAddr 0 v2) fun v27 =>
bindW (st 1 v27 v26 w13.drew) fun w28 =>
bindP (pNil x0) fun v30 =>
bindP (pFieldAddr 2 v30) fun v31 =>
bindP (ld1 v31 w28) fun v32 =>
bindP (bAdd v32 (.int .i64 1)) fun v33 =>
bindP (pNil x0) fun v34 =>
bindP (pFieldAddr 2 v34) fun v35 =>
bindW (st 1 v35 v33 w28) fun w36 =>
bindP (ldN 11 v2 w36) fun v38 =>
callP G35 [x0, v38] w36 fun _ w39 =>
bindP (pFieldAddr 0 v2) fun v41 =>
bindP (ld1 v41 w39) fun v42 =>
K (.tuple #[v42, (.int .i64 0)]) w39))))
def G11 : FnT := fun args w K => on2 (fun x0 x1 => F11 x0 x1 w K) args
theorem c11 {x0 x1 : Value} {w : World} {K : V1} (h : F11 x0 x1 w K) : callP G11 [x0, x1] w K := callP_intro (on2_mk (p := fun x0 x1 => F11 x0 x1 w K) h)
theorem ok11 : OkF Tryz.prog 11 G11 := by
  refine okF_of (tab_ok (l := T11) ⟨ok33, ok34, ok35, trivial⟩) mixed (n := fuel) Tryz.func11 Tryz.call11 fun args w K h => ?_
  obtain ⟨x0, x1, rfl, hh⟩ := of_on2 h
  exact fnD_list (c := bodyOf Tryz.f11) (by kernel_rfl) (by kernel_rfl) (Eq.mp (by kernel_rfl) hh)
def T12 : List (Nat × FnT) := []
def F12 (x0 : Value) (w : World) (K : V1) : Prop :=
bindP (pNil x0) fun v1 =>
bindP (pFieldAddr 3 v1) fun v2 =>
bindP (ld1 v2 w) fun v3 =>
bindP (lenM v3 w) fun v4 =>
K v4 w
def G12 : FnT := fun args w K => on1 (fun x0 => F12 x0 w K) args
theorem c12 {x0 : Value} {w : World} {K : V1} (h : F12 x0 w K) : callP G12 [x0] w K := callP_intro (on1_mk (p := fun x0 => F12 x0 w K) h)
theorem ok12 : OkF Tryz.prog 12 G12 := by
  refine okF_of (tab_ok (l := T12) trivial) mixed (n := fuel) Tryz.func12 Tryz.call12 fun args w K h => ?_
  obtain ⟨x0, rfl, hh⟩ := of_on1 h
  exact fnD_list (c := bodyOf Tryz.f12) (by kernel_rfl) (by kernel_rfl) (Eq.mp (by kernel_rfl) hh)
def T6 : List (Nat × FnT) := [(4, G4), (11, G11), (12, G12)]
def F6 (w : World) (K : V1) : Prop :=
callP G4 [(.int .i64 9)] w fun v2 w1 =>
bindP (pTuple v2 0) fun v3 =>
bindP (pTuple v2 1) fun v4 =>
bindP (bEq Tryz.prog 23 (.tmp 12) (.const (.pointer none)) v3 (.pointer none)) fun v5 =>
stepM (gd false v5) v4 fun v6 =>
Sx.stepG (gd false v5) (bNe Tryz.prog 24 (.tmp 15) (.const (.int .i64 0)) v6 (.int .i64 0)) fun v7 =>
bindP (pPick v5 (.bool true) v7) fun v8 =>
ifB v8 (
K (.bool false) w1) (
bindP (fBuild Tryz.prog 36 [(2, (.string ⟨#[97]⟩))]) fun v9 =>
callP G11 [v3, v9] w1 fun v11 w10 =>
bindP (pTuple v11 0) fun v12 =>
bindP (pTuple v11 1) fun v13 =>
bindP (fBuild Tryz.prog 36 [(2, (.string ⟨#[98]⟩))]) fun v14 =>
callP G11 [v3, v14] w10 fun v16 w15 =>
bindP (pTuple v16 0) fun v17 =>
bindP (pTuple v16 1) fun v18 =>
bindP (fBuild Tryz.prog 36 [(2, (.string ⟨#[97]⟩))]) fun v19 =>
callP G11 [v3, v19] w15 fun v21 w20 =>
bindP (pTuple v21 0) fun _ =>
bindP (pTuple v21 1) fun v23 =>
bindP (bEq Tryz.prog 3 (.tmp 36) (.const (.int .i64 1)) v12 (.int .i64 1)) fun v24 =>
stepM (gd true v24) v13 fun v25 =>
Sx.stepG (gd true v24) (bEq Tryz.prog 24 (.tmp 39) (.const (.int .i64 0)) v25 (.int .i64 0)) fun v26 =>
bindP (pPick v24 v26 (.bool false)) fun v27 =>
stepM (gd true v27) v17 fun v28 =>
Sx.stepG (gd true v27) (bEq Tryz.prog 3 (.tmp 43) (.const (.int .i64 2)) v28 (.int .i64 2)) fun v29 =>
bindP (pPick v27 v29 (.bool false)) fun v30 =>
stepM (gd true v30) v18 fun v31 =>
Sx.stepG (gd true v30) (bEq Tryz.prog 24 (.tmp 47) (.const (.int .i64 0)) v31 (.int .i64 0)) fun v32 =>
bindP (pPick v30 v32 (.bool false)) fun v33 =>
stepM (gd true v33) v23 fun v34 =>
Sx.stepG (gd true v33) (bEq Tryz.prog 24 (.tmp 51) (.const (.int .i64 6)) v34 (.int .i64 6)) fun v35 =>
bindP (pPick v33 v35 (.bool false)) fun v36 =>
stepM (gd true v36) v3 fun v37 =>
stepE (gd true v36) (fun k => callP G12 [v37] w20 k) w20 fun v39 w38 =>
Sx.stepG (gd true v36) (bEq Tryz.prog 3 (.tmp 56) (.const (.int .i64 2)) v39 (.int .i64 2)) fun v40 =>
bindP (pPick v36 v40 (.bool false)) fun v41 =>
K v41 w38)
def G6 : FnT := fun args w K => on0 (F6 w K) args
theorem c6 {w : World} {K : V1} (h : F6 w K) : callP G6 [] w K := callP_intro (on0_mk (p := F6 w K) h)
theorem ok6 : OkF Tryz.prog 6 G6 := by
  refine okF_of (tab_ok (l := T6) ⟨ok4, ok11, ok12, trivial⟩) mixed (n := fuel) Tryz.func6 Tryz.call6 fun args w K h => ?_
  obtain ⟨rfl, hh⟩ := of_on0 h
  exact fnD_list (c := bodyOf Tryz.f6) (by kernel_rfl) (by kernel_rfl) (Eq.mp (by kernel_rfl) hh)
end Go.Proofs.Gong

/- Ho0 -/
namespace Go.Proofs.Gong
open Go Go.Sx Go.Proofs
set_option maxRecDepth 100000
attribute [local irreducible] fBuild fLook fZero eqv bEqv Cl MapH LsH SlH ld1 ldN st callP eBox eAlloc lenM lenL eMapSet eDelete eAppend eBuildSl eRange eNext
instance : CodC cI 1 := ⟨CI⟩
theorem bs_sEq' (a b : List UInt8) : sEq (bs a) (bs b) = decide (a = b) := by rw [sEq_eq, bs_beq]; simp
def RdL {α : Type} (w0 : World) (L : List HP) (f : α → List Value) (es : Nat) (v : Value) (l : List α) : Prop := ∀ w, Sat w0 L w → Rd w es v l.length (l.flatMap f)
theorem RdL.of_arg {α : Type} {w0 : World} {L : List HP} {f : α → List Value} {es : Nat} {v : Value} {l : List α} (h : Rd w0 es v l.length (l.flatMap f)) : RdL w0 L f es v l := fun _ hs => h.sat hs
theorem RdL.get {α : Type} {w0 : World} {L L' : List HP} {f : α → List Value} {es : Nat} {v : Value} {l : List α} (h : RdL w0 L f es v l) (g : Get L' L) : RdL w0 L' f es v l := fun w hs => h w (hs.get g)
theorem RdL.got {α : Type} {w0 : World} {L L' : List HP} {f : α → List Value} {es : Nat} {v : Value} {l : List α} (h : RdL w0 L f es v l) (g : Get L' L := by repeat (first | exact .done | (refine .pick (by repeat (first | exact .here | apply Fnt.there)) ?_) | refine .skip ?_)) : RdL w0 L' f es v l := fun w hs => h w (hs.get g)
theorem RdL.cons {α : Type} {w0 : World} {L : List HP} {X : HP} {f : α → List Value} {es : Nat} {v : Value} {l : List α} (h : RdL w0 L f es v l) : RdL w0 (X :: L) f es v l := h.get (.skip .done)
theorem RdL.of_ls {α : Type} {w0 : World} {L : List HP} {f : α → List Value} {es : Nat} {ty : TypeId} {v : Value} {l : List α} (m : LsIn v L α f es ty l) : RdL w0 L f es v l := fun _ hs => ls_of hs (.refl _) m
def ascI : List Int → Bool
  | a :: b :: r => decide (a ≤ b) && ascI (b :: r)
  | _ => true
theorem ascI_drop : ∀ (k : Nat) (l : List Int), ascI l = true → ascI (l.drop k) = true
  | 0, l, h => h
  | k + 1, [], _ => by simp [ascI]
  | k + 1, [a], _ => by simp [ascI]
  | k + 1, a :: b :: r, h => by
    simp only [ascI, Bool.and_eq_true] at h
    exact ascI_drop k (b :: r) h.2
theorem ascI_at {l : List Int} {i : Nat} (h : i + 1 < l.length) : ascI (l.drop i) = (decide (l[i] ≤ l[i + 1]) && ascI (l.drop (i + 1))) := by
  rw [List.drop_eq_getElem_cons (by omega : i < l.length), List.drop_eq_getElem_cons h]; rfl
section
variable {w0 w : World} {L : List HP} {K : Value → World → Prop}
theorem nanI_spec {a : Int} (hK : K (.bool false) w) : callP G75 [.int .i64 a] w K := by
  refine c75 ?_
  unfold F75
  (repeat (first
 | (simp (disch := omega) only [evA, evB, evC, bAdd_i64, bSub_i64, ne_eq, not_true_eq_false])
 | (with_reducible apply go_ld1 h)
 | ((with_reducible first | apply go_ldA h | apply go_rd h | apply go_rdN h | apply go_rlen h); rfl)
 | (with_reducible first | apply go_ldN h | apply go_lenL h)
 | ((with_reducible apply go_st h); intro _ h)
 | ((with_reducible apply go_stA h); rfl; rfl; (first | rfl | simp [OneV.o]); intro _ h)
 | ((with_reducible apply go_stN h); rfl; (first | rfl | simp [OneV.o]); intro _ h)
 | ((with_reducible apply go_box h); rfl; intro _ _ h)
 | ((with_reducible apply go_ix h); omega)
 | ((with_reducible first | apply go_elN h | apply go_f1 h | apply go_rf1 h | apply go_rel h); (case hi => omega); (try case hx => exact inferInstance); (try case hv => rfl))
 | ((with_reducible apply go_fa h); omega; omega)
))
  exact hK
theorem less_spec {a b : Int} (hK : K (.bool (decide (a < b))) w) : callP G63 [.int .i64 a, .int .i64 b] w K := by
  refine c63 ?_
  unfold F63
  refine nanI_spec ?_
  (repeat (first
 | (simp (disch := omega) only [evA, evB, evC, bAdd_i64, bSub_i64])
 | (with_reducible apply go_ld1 h)
 | ((with_reducible first | apply go_ldA h | apply go_rd h | apply go_rdN h | apply go_rlen h); rfl)
 | (with_reducible first | apply go_ldN h | apply go_lenL h)
 | ((with_reducible apply go_st h); intro _ h)
 | ((with_reducible apply go_stA h); rfl; rfl; (first | rfl | simp [OneV.o]); intro _ h)
 | ((with_reducible apply go_stN h); rfl; (first | rfl | simp [OneV.o]); intro _ h)
 | ((with_reducible apply go_box h); rfl; intro _ _ h)
 | ((with_reducible apply go_ix h); omega)
 | ((with_reducible first | apply go_elN h | apply go_f1 h | apply go_rf1 h | apply go_rel h); (case hi => omega); (try case hx => exact inferInstance); (try case hv => rfl))
 | ((with_reducible apply go_fa h); omega; omega)
))
  exact hK
theorem htime_spec {t : Int} (hK : K (.bool (timeP t)) w) : callP G49 [.int .i64 t] w K := by
  refine c49 ?_
  unfold F49
  unfold timeP at hK
  by_cases g1 : 0 ≤ t <;> simp [g1] at hK ⊢ <;> exact hK
theorem i_at {s : Value} {l : List Int} {i : Nat} (h : Rd w 1 s l.length (l.flatMap cI)) (hi : i < l.length) : pIndexL 1 s (.int .i64 i) = some (elP 1 s i) ∧ ld1 (elP 1 s i) w = some (.int .i64 l[i]) := ⟨ix_el h hi, rd_ld1 h hi⟩
theorem sorted_loop {v : Value} {l : List Int} (hl : l.length ≤ 4611686018427387904) (hr : RdL w0 L cI 1 v l) (hK : ∀ w', Sat w0 L w' → K (.bool (ascI l)) w') : ∀ (i d : Nat) (w : World), i < d → i < l.length → ascI (l.drop i) = true → Sat w0 L w → F48_2L d v (.int .i64 i) w K := by
  intro i
  induction i with
  | zero =>
    intro d w hd hi ha h
    obtain ⟨d, rfl⟩ : ∃ d', d = d' + 1 := ⟨d - 1, by omega⟩
    rw [F48_2L]
    unfold F48_2b F48_3 F48_3b
    have g' : decide (((0 : Nat) : Int) > 0) = false := by simp
    (repeat (first
 | (simp (disch := omega) only [evA, evB, evC, bAdd_i64, bSub_i64, g'])
 | (with_reducible apply go_ld1 h)
 | ((with_reducible first | apply go_ldA h | apply go_rd h | apply go_rdN h | apply go_rlen h); rfl)
 | (with_reducible first | apply go_ldN h | apply go_lenL h)
 | ((with_reducible apply go_st h); intro _ h)
 | ((with_reducible apply go_stA h); rfl; rfl; (first | rfl | simp [OneV.o]); intro _ h)
 | ((with_reducible apply go_stN h); rfl; (first | rfl | simp [OneV.o]); intro _ h)
 | ((with_reducible apply go_box h); rfl; intro _ _ h)
 | ((with_reducible apply go_ix h); omega)
 | ((with_reducible first | apply go_elN h | apply go_f1 h | apply go_rf1 h | apply go_rel h); (case hi => omega); (try case hx => exact inferInstance); (try case hv => rfl))
 | ((with_reducible apply go_fa h); omega; omega)
))
    have := hK _ h
    rw [List.drop_zero] at ha
    rw [ha] at this; exact this
  | succ i ih =>
    intro d w hd hi ha h
    obtain ⟨d, rfl⟩ : ∃ d', d = d' + 1 := ⟨d - 1, by omega⟩
    rw [F48_2L]
    unfold F48_2b F48_3 F48_3b
    have g' : decide (((i + 1 : Nat) : Int) > 0) = true := by rw [decide_eq_true_eq]; omega
    have e1 : (((i + 1 : Nat) : Int) - 1) = (i : Int) := by omega
    have hrw := hr w h
    (repeat (first
 | (simp (disch := omega) only [evA, evB, evC, bAdd_i64, bSub_i64, g', (i_at hrw hi), e1, (i_at hrw (show i < l.length by omega))])
 | (with_reducible apply go_ld1 h)
 | ((with_reducible first | apply go_ldA h | apply go_rd h | apply go_rdN h | apply go_rlen h); rfl)
 | (with_reducible first | apply go_ldN h | apply go_lenL h)
 | ((with_reducible apply go_st h); intro _ h)
 | ((with_reducible apply go_stA h); rfl; rfl; (first | rfl | simp [OneV.o]); intro _ h)
 | ((with_reducible apply go_stN h); rfl; (first | rfl | simp [OneV.o]); intro _ h)
 | ((with_reducible apply go_box h); rfl; intro _ _ h)
 | ((with_reducible apply go_ix h); omega)
 | ((with_reducible first | apply go_elN h | apply go_f1 h | apply go_rf1 h | apply go_rel h); (case hi => omega); (try case hx => exact inferInstance); (try case hv => rfl))
 | ((with_reducible apply go_fa h); omega; omega)
))
    refine less_spec ?_
    by_cases g : l[i + 1] < l[i]
    · have g2 : decide (l[i + 1] < l[i]) = true := by simpa using g
      (repeat (first
 | (simp (disch := omega) only [evA, evB, evC, bAdd_i64, bSub_i64, g2])
 | (with_reducible apply go_ld1 h)
 | ((with_reducible first | apply go_ldA h | apply go_rd h | apply go_rdN h | apply go_rlen h); rfl)
 | (with_reducible first | apply go_ldN h | apply go_lenL h)
 | ((with_reducible apply go_st h); intro _ h)
 | ((with_reducible apply go_stA h); rfl; rfl; (first | rfl | simp [OneV.o]); intro _ h)
 | ((with_reducible apply go_stN h); rfl; (first | rfl | simp [OneV.o]); intro _ h)
 | ((with_reducible apply go_box h); rfl; intro _ _ h)
 | ((with_reducible apply go_ix h); omega)
 | ((with_reducible first | apply go_elN h | apply go_f1 h | apply go_rf1 h | apply go_rel h); (case hi => omega); (try case hx => exact inferInstance); (try case hv => rfl))
 | ((with_reducible apply go_fa h); omega; omega)
))
      have := hK _ h.drew
      have e : ascI l = false := by
        rw [Bool.eq_false_iff]
        intro hl
        have := ascI_drop i l hl
        rw [ascI_at hi] at this
        simp only [Bool.and_eq_true, decide_eq_true_eq] at this
        omega
      rw [e] at this; exact this
    · have g2 : decide (l[i + 1] < l[i]) = false := by simpa using g
      (repeat (first
 | (simp (disch := omega) only [evA, evB, evC, bAdd_i64, bSub_i64, g2, e1])
 | (with_reducible apply go_ld1 h)
 | ((with_reducible first | apply go_ldA h | apply go_rd h | apply go_rdN h | apply go_rlen h); rfl)
 | (with_reducible first | apply go_ldN h | apply go_lenL h)
 | ((with_reducible apply go_st h); intro _ h)
 | ((with_reducible apply go_stA h); rfl; rfl; (first | rfl | simp [OneV.o]); intro _ h)
 | ((with_reducible apply go_stN h); rfl; (first | rfl | simp [OneV.o]); intro _ h)
 | ((with_reducible apply go_box h); rfl; intro _ _ h)
 | ((with_reducible apply go_ix h); omega)
 | ((with_reducible first | apply go_elN h | apply go_f1 h | apply go_rf1 h | apply go_rel h); (case hi => omega); (try case hx => exact inferInstance); (try case hv => rfl))
 | ((with_reducible apply go_fa h); omega; omega)
))
      refine ih d _ (by omega) (by omega) ?_ h.drew
      rw [ascI_at hi, ha, Bool.and_true]; simp; omega
theorem sorted_spec {v : Value} {l : List Int} (hl : l.length ≤ 4611686018427387904) (hr : RdL w0 L cI 1 v l) (h : Sat w0 L w) (hK : ∀ w', Sat w0 L w' → K (.bool (ascI l)) w') : callP G48 [v] w K := by
  refine c48 ?_
  unfold F48 F48_1 F48_1b F48_2
  (repeat (first
 | (simp (disch := omega) only [evA, evB, evC, bAdd_i64, bSub_i64, (hr w h).len])
 | (with_reducible apply go_ld1 h)
 | ((with_reducible first | apply go_ldA h | apply go_rd h | apply go_rdN h | apply go_rlen h); rfl)
 | (with_reducible first | apply go_ldN h | apply go_lenL h)
 | ((with_reducible apply go_st h); intro _ h)
 | ((with_reducible apply go_stA h); rfl; rfl; (first | rfl | simp [OneV.o]); intro _ h)
 | ((with_reducible apply go_stN h); rfl; (first | rfl | simp [OneV.o]); intro _ h)
 | ((with_reducible apply go_box h); rfl; intro _ _ h)
 | ((with_reducible apply go_ix h); omega)
 | ((with_reducible first | apply go_elN h | apply go_f1 h | apply go_rf1 h | apply go_rel h); (case hi => omega); (try case hx => exact inferInstance); (try case hv => rfl))
 | ((with_reducible apply go_fa h); omega; omega)
))
  cases l with
  | nil =>
    show F48_2L (fuel - 1 + 1) _ _ _ _
    rw [F48_2L]
    unfold F48_2b F48_3 F48_3b
    have g' : decide ((([] : List Int).length : Int) - 1 > 0) = false := by simp
    (repeat (first
 | (simp (disch := omega) only [evA, evB, evC, bAdd_i64, bSub_i64, g'])
 | (with_reducible apply go_ld1 h)
 | ((with_reducible first | apply go_ldA h | apply go_rd h | apply go_rdN h | apply go_rlen h); rfl)
 | (with_reducible first | apply go_ldN h | apply go_lenL h)
 | ((with_reducible apply go_st h); intro _ h)
 | ((with_reducible apply go_stA h); rfl; rfl; (first | rfl | simp [OneV.o]); intro _ h)
 | ((with_reducible apply go_stN h); rfl; (first | rfl | simp [OneV.o]); intro _ h)
 | ((with_reducible apply go_box h); rfl; intro _ _ h)
 | ((with_reducible apply go_ix h); omega)
 | ((with_reducible first | apply go_elN h | apply go_f1 h | apply go_rf1 h | apply go_rel h); (case hi => omega); (try case hx => exact inferInstance); (try case hv => rfl))
 | ((with_reducible apply go_fa h); omega; omega)
))
    exact hK _ h
  | cons a l =>
    have e1 : (((a :: l).length : Int) - 1) = ((l.length : Nat) : Int) := by simp
    rw [e1]
    exact sorted_loop hl hr hK l.length fuel w (by unfold fuel; simp at hl; omega) (by simp) (by rw [List.drop_eq_getElem_cons (by simp : l.length < (a :: l).length)]; simp [ascI]) h
theorem clI_spec {v : Value} {l : List Int} (hl : l.length ≤ 1073741824) (hr : RdL w0 L cI 1 v l) (h : Sat w0 L w) (hK : ∀ s w', Sat w0 (LsH cI 1 3 s l :: L) w' → K s w') : callP G57 [v] w K := by
  refine c57 ?_
  unfold F57
  obtain ⟨a, c, rfl, _⟩ := (hr w h).cap
  rw [bEq_nils u34]
  cases a with
  | none =>
    (repeat (first
 | (simp (disch := omega) only [evA, evB, evC, bAdd_i64, bSub_i64])
 | (with_reducible apply go_ld1 h)
 | ((with_reducible first | apply go_ldA h | apply go_rd h | apply go_rdN h | apply go_rlen h); rfl)
 | (with_reducible first | apply go_ldN h | apply go_lenL h)
 | ((with_reducible apply go_st h); intro _ h)
 | ((with_reducible apply go_stA h); rfl; rfl; (first | rfl | simp [OneV.o]); intro _ h)
 | ((with_reducible apply go_stN h); rfl; (first | rfl | simp [OneV.o]); intro _ h)
 | ((with_reducible apply go_box h); rfl; intro _ _ h)
 | ((with_reducible apply go_ix h); omega)
 | ((with_reducible first | apply go_elN h | apply go_f1 h | apply go_rf1 h | apply go_rel h); (case hi => omega); (try case hx => exact inferInstance); (try case hv => rfl))
 | ((with_reducible apply go_fa h); omega; omega)
))
    have : l = [] := by
      have hr := hr w h
      generalize hcs : l.flatMap cI = cs at hr
      generalize hn : l.length = k at hr
      cases hr with
      | emp => exact List.eq_nil_of_length_eq_zero hn
    subst this
    exact hK _ _ (ls_nil h)
  | some a =>
    (repeat (first
 | (simp (disch := omega) only [evA, evB, evC, bAdd_i64, bSub_i64])
 | (with_reducible apply go_ld1 h)
 | ((with_reducible first | apply go_ldA h | apply go_rd h | apply go_rdN h | apply go_rlen h); rfl)
 | (with_reducible first | apply go_ldN h | apply go_lenL h)
 | ((with_reducible apply go_st h); intro _ h)
 | ((with_reducible apply go_stA h); rfl; rfl; (first | rfl | simp [OneV.o]); intro _ h)
 | ((with_reducible apply go_stN h); rfl; (first | rfl | simp [OneV.o]); intro _ h)
 | ((with_reducible apply go_box h); rfl; intro _ _ h)
 | ((with_reducible apply go_ix h); omega)
 | ((with_reducible first | apply go_elN h | apply go_f1 h | apply go_rf1 h | apply go_rel h); (case hi => omega); (try case hx => exact inferInstance); (try case hv => rfl))
 | ((with_reducible apply go_fa h); omega; omega)
))
    refine go_lit0 CI h u34 (by kernel_rfl) fun s1 w1 h1 => ?_
    refine ls_app (l := []) (m := l) CI h1 sl34 ss34 (hr.cons _ h1) (by simp; omega) fun s2 w2 h2 => ?_
    exact hK _ _ (by simpa using h2)
end
end Go.Proofs.Gong

/- Ho1 -/
namespace Go.Proofs.Gong
open Go Go.Sx Go.Proofs
set_option maxRecDepth 100000
attribute [local irreducible] fBuild fLook fZero eqv bEqv Cl MapH LsH SlH ld1 ldN st callP eBox eAlloc lenM lenL eMapSet eDelete eAppend eBuildSl eRange eNext
structure Ctx where
  id : Int
  watch : Int
  node : List UInt8
  key : List UInt8
  at' : Int
  e : Evt
  times : List Int
  deriving DecidableEq
@[reducible] def cCtx (c : Ctx) (tv : Value) : List Value := [.int .i64 c.id, .int .i64 c.watch, .string (bs c.node), .string (bs c.key), .int .i64 c.at', .string (bs c.e.node), .string (bs c.e.cls), .string (bs c.e.key), .int .i64 c.e.level, .string (bs c.e.text), tv]
abbrev ctxV (c : Ctx) (tv : Value) : Value := .agg (cCtx c tv).toArray
def zeroE : Evt := ⟨[], [], [], 0, []⟩
def okSign (node key : List UInt8) : Bool := okE ⟨node, [99], key, 0, []⟩
def okEv (e : Evt) : Bool := decide (e = zeroE) || okE e
def okTimes (l : List Int) : Bool := decide (l.length ≤ 1000) && (ascI l && l.all timeP)
def okC (c : Ctx) : Bool := decide (0 ≤ c.watch) && decide (c.watch ≤ 63) && okSign c.node c.key && okEv c.e && okTimes c.times && timeP c.at'
def chkC (c : Ctx) : Int := if okC c = true then 0 else 4
def Ctx.fits (c : Ctx) : Prop := c.node.length < 1073741824 ∧ c.key.length < 1073741824 ∧ c.e.fits ∧ c.times.length < 1073741824
theorem chkE_dec (e : Evt) : decide (chkE e = 0) = okE e := by unfold chkE; cases okE e <;> simp
theorem okSign_x (node key : List UInt8) : okE ⟨node, [120], key, 0, []⟩ = okSign node key := by
  have h1 : plainP [120] 64 = true := by decide +kernel
  have h2 : plainP [99] 64 = true := by decide +kernel
  unfold okSign okE
  simp [h1, h2]
theorem eqE (x y : Operand) (a b : Evt) : bEq Tryz.prog 33 x y (evV a) (evV b) = some (.bool (decide (a = b))) := by
  obtain ⟨n1, c1, k1, l1, t1⟩ := a
  obtain ⟨n1', c1', k1', l1', t1'⟩ := b
  rw [eq33]
  simp only [bs_sEq', Option.some.injEq, Value.bool.injEq]
  rw [Bool.eq_iff_iff]
  simp
theorem neE (x y : Operand) (a b : Evt) : bNe Tryz.prog 33 x y (evV a) (evV b) = some (.bool (!decide (a = b))) := by
  obtain ⟨n1, c1, k1, l1, t1⟩ := a
  obtain ⟨n1', c1', k1', l1', t1'⟩ := b
  rw [ne33]
  simp only [bs_sEq', Option.some.injEq, Value.bool.injEq]
  rw [Bool.eq_iff_iff]
  simp
theorem asc_mono : ∀ {l : List Int} {i j : Nat} (hj : j < l.length) (hij : i ≤ j), ascI l = true → l[i] ≤ l[j]
  | [], _, _, hj, _, _ => by simp at hj
  | [a], i, j, hj, hij, _ => by
    have : i = 0 := by simp at hj; omega
    have : j = 0 := by simp at hj; omega
    subst_vars; simp
  | a :: b :: r, i, j, hj, hij, h => by
    simp only [ascI, Bool.and_eq_true, decide_eq_true_eq] at h
    cases j with
    | zero =>
      obtain rfl : i = 0 := by omega
      simp
    | succ j =>
      cases i with
      | zero =>
        have := asc_mono (l := b :: r) (i := 0) (j := j) (by simpa using hj) (by omega) h.2
        simp only [List.getElem_cons_zero, List.getElem_cons_succ] at *
        omega
      | succ i =>
        have := asc_mono (l := b :: r) (i := i) (j := j) (by simpa using hj) (by omega) h.2
        simpa using this
theorem times_ends {l : List Int} (h : ascI l = true) (h0 : 0 < l.length) : (timeP l[0] && timeP l[l.length - 1]) = l.all timeP := by
  rw [Bool.eq_iff_iff]
  simp only [Bool.and_eq_true, List.all_eq_true]
  constructor
  · rintro ⟨h1, h2⟩ x hx
    obtain ⟨i, hi, rfl⟩ := List.getElem_of_mem hx
    have a1 := asc_mono (i := 0) hi (by omega) h
    have a2 := asc_mono (i := i) (j := l.length - 1) (by omega) (by omega) h
    unfold timeP at *
    simp only [Bool.and_eq_true, decide_eq_true_eq] at *
    omega
  · intro h
    exact ⟨h _ (List.getElem_mem _), h _ (List.getElem_mem _)⟩
section
variable {w0 w : World} {L : List HP} {K : Value → World → Prop} {c : Ctx} {tv : Value}
theorem chk2_spec {b : Nat} {s e t : Bool} (h : Sat w0 (Cl b (cCtx c tv).toArray 36 :: L) w) (hK : ∀ w', Sat w0 L w' → K (.int .i64 (if (decide (0 ≤ c.watch) && decide (c.watch ≤ 63) && s && e && t && timeP c.at') = true then 0 else 4)) w') :
    F34_2 (.pointer (some ⟨b, 0, none⟩)) (.bool s) (.bool e) (.bool t) w K := by
  unfold F34_2 F34_2b
  by_cases g1 : c.watch < 0
  · have g1' : decide (c.watch < 0) = true := by simpa using g1
    have e1 : decide (0 ≤ c.watch) = false := by simp; omega
    have := hK _ h.drop
    rw [e1] at this
    (repeat (first
 | (simp (disch := omega) only [evA, evB, evC, bAdd_i64, bSub_i64, g1'])
 | (with_reducible apply go_ld1 h)
 | ((with_reducible first | apply go_ldA h | apply go_rd h | apply go_rdN h | apply go_rlen h); rfl)
 | (with_reducible first | apply go_ldN h | apply go_lenL h)
 | ((with_reducible apply go_st h); intro _ h)
 | ((with_reducible apply go_stA h); rfl; rfl; (first | rfl | simp [OneV.o]); intro _ h)
 | ((with_reducible apply go_stN h); rfl; (first | rfl | simp [OneV.o]); intro _ h)
 | ((with_reducible apply go_box h); rfl; intro _ _ h)
 | ((with_reducible apply go_ix h); omega)
 | ((with_reducible first | apply go_elN h | apply go_f1 h | apply go_rf1 h | apply go_rel h); (case hi => omega); (try case hx => exact inferInstance); (try case hv => rfl))
 | ((with_reducible apply go_fa h); omega; omega)
))
    simpa using this
  have g1' : decide (c.watch < 0) = false := by simpa using g1
  have e1 : decide (0 ≤ c.watch) = true := by simp; omega
  by_cases g2 : c.watch > 63
  · have g2' : decide (c.watch > 63) = true := by simpa using g2
    have e2 : decide (c.watch ≤ 63) = false := by simp; omega
    have := hK _ h.drop
    rw [e1, e2] at this
    (repeat (first
 | (simp (disch := omega) only [evA, evB, evC, bAdd_i64, bSub_i64, g1', g2'])
 | (with_reducible apply go_ld1 h)
 | ((with_reducible first | apply go_ldA h | apply go_rd h | apply go_rdN h | apply go_rlen h); rfl)
 | (with_reducible first | apply go_ldN h | apply go_lenL h)
 | ((with_reducible apply go_st h); intro _ h)
 | ((with_reducible apply go_stA h); rfl; rfl; (first | rfl | simp [OneV.o]); intro _ h)
 | ((with_reducible apply go_stN h); rfl; (first | rfl | simp [OneV.o]); intro _ h)
 | ((with_reducible apply go_box h); rfl; intro _ _ h)
 | ((with_reducible apply go_ix h); omega)
 | ((with_reducible first | apply go_elN h | apply go_f1 h | apply go_rf1 h | apply go_rel h); (case hi => omega); (try case hx => exact inferInstance); (try case hv => rfl))
 | ((with_reducible apply go_fa h); omega; omega)
))
    simpa using this
  have g2' : decide (c.watch > 63) = false := by simpa using g2
  have e2 : decide (c.watch ≤ 63) = true := by simp; omega
  rw [e1, e2] at hK
  cases s
  · have := hK _ h.drop
    (repeat (first
 | (simp (disch := omega) only [evA, evB, evC, bAdd_i64, bSub_i64, g1', g2'])
 | (with_reducible apply go_ld1 h)
 | ((with_reducible first | apply go_ldA h | apply go_rd h | apply go_rdN h | apply go_rlen h); rfl)
 | (with_reducible first | apply go_ldN h | apply go_lenL h)
 | ((with_reducible apply go_st h); intro _ h)
 | ((with_reducible apply go_stA h); rfl; rfl; (first | rfl | simp [OneV.o]); intro _ h)
 | ((with_reducible apply go_stN h); rfl; (first | rfl | simp [OneV.o]); intro _ h)
 | ((with_reducible apply go_box h); rfl; intro _ _ h)
 | ((with_reducible apply go_ix h); omega)
 | ((with_reducible first | apply go_elN h | apply go_f1 h | apply go_rf1 h | apply go_rel h); (case hi => omega); (try case hx => exact inferInstance); (try case hv => rfl))
 | ((with_reducible apply go_fa h); omega; omega)
))
    simpa using this
  cases e
  · have := hK _ h.drop
    (repeat (first
 | (simp (disch := omega) only [evA, evB, evC, bAdd_i64, bSub_i64, g1', g2'])
 | (with_reducible apply go_ld1 h)
 | ((with_reducible first | apply go_ldA h | apply go_rd h | apply go_rdN h | apply go_rlen h); rfl)
 | (with_reducible first | apply go_ldN h | apply go_lenL h)
 | ((with_reducible apply go_st h); intro _ h)
 | ((with_reducible apply go_stA h); rfl; rfl; (first | rfl | simp [OneV.o]); intro _ h)
 | ((with_reducible apply go_stN h); rfl; (first | rfl | simp [OneV.o]); intro _ h)
 | ((with_reducible apply go_box h); rfl; intro _ _ h)
 | ((with_reducible apply go_ix h); omega)
 | ((with_reducible first | apply go_elN h | apply go_f1 h | apply go_rf1 h | apply go_rel h); (case hi => omega); (try case hx => exact inferInstance); (try case hv => rfl))
 | ((with_reducible apply go_fa h); omega; omega)
))
    simpa using this
  cases t
  · have := hK _ h.drop
    (repeat (first
 | (simp (disch := omega) only [evA, evB, evC, bAdd_i64, bSub_i64, g1', g2'])
 | (with_reducible apply go_ld1 h)
 | ((with_reducible first | apply go_ldA h | apply go_rd h | apply go_rdN h | apply go_rlen h); rfl)
 | (with_reducible first | apply go_ldN h | apply go_lenL h)
 | ((with_reducible apply go_st h); intro _ h)
 | ((with_reducible apply go_stA h); rfl; rfl; (first | rfl | simp [OneV.o]); intro _ h)
 | ((with_reducible apply go_stN h); rfl; (first | rfl | simp [OneV.o]); intro _ h)
 | ((with_reducible apply go_box h); rfl; intro _ _ h)
 | ((with_reducible apply go_ix h); omega)
 | ((with_reducible first | apply go_elN h | apply go_f1 h | apply go_rf1 h | apply go_rel h); (case hi => omega); (try case hx => exact inferInstance); (try case hv => rfl))
 | ((with_reducible apply go_fa h); omega; omega)
))
    simpa using this
  (repeat (first
 | (simp (disch := omega) only [evA, evB, evC, bAdd_i64, bSub_i64, g1', g2'])
 | (with_reducible apply go_ld1 h)
 | ((with_reducible first | apply go_ldA h | apply go_rd h | apply go_rdN h | apply go_rlen h); rfl)
 | (with_reducible first | apply go_ldN h | apply go_lenL h)
 | ((with_reducible apply go_st h); intro _ h)
 | ((with_reducible apply go_stA h); rfl; rfl; (first | rfl | simp [OneV.o]); intro _ h)
 | ((with_reducible apply go_stN h); rfl; (first | rfl | simp [OneV.o]); intro _ h)
 | ((with_reducible apply go_box h); rfl; intro _ _ h)
 | ((with_reducible apply go_ix h); omega)
 | ((with_reducible first | apply go_elN h | apply go_f1 h | apply go_rf1 h | apply go_rel h); (case hi => omega); (try case hx => exact inferInstance); (try case hv => rfl))
 | ((with_reducible apply go_fa h); omega; omega)
))
  refine htime_spec ?_
  have := hK _ h.drop
  cases hT : timeP c.at'
  · rw [hT] at this
    (repeat (first
 | (simp (disch := omega) only [evA, evB, evC, bAdd_i64, bSub_i64])
 | (with_reducible apply go_ld1 h)
 | ((with_reducible first | apply go_ldA h | apply go_rd h | apply go_rdN h | apply go_rlen h); rfl)
 | (with_reducible first | apply go_ldN h | apply go_lenL h)
 | ((with_reducible apply go_st h); intro _ h)
 | ((with_reducible apply go_stA h); rfl; rfl; (first | rfl | simp [OneV.o]); intro _ h)
 | ((with_reducible apply go_stN h); rfl; (first | rfl | simp [OneV.o]); intro _ h)
 | ((with_reducible apply go_box h); rfl; intro _ _ h)
 | ((with_reducible apply go_ix h); omega)
 | ((with_reducible first | apply go_elN h | apply go_f1 h | apply go_rf1 h | apply go_rel h); (case hi => omega); (try case hx => exact inferInstance); (try case hv => rfl))
 | ((with_reducible apply go_fa h); omega; omega)
))
    simpa using this
  · rw [hT] at this
    (repeat (first
 | (simp (disch := omega) only [evA, evB, evC, bAdd_i64, bSub_i64])
 | (with_reducible apply go_ld1 h)
 | ((with_reducible first | apply go_ldA h | apply go_rd h | apply go_rdN h | apply go_rlen h); rfl)
 | (with_reducible first | apply go_ldN h | apply go_lenL h)
 | ((with_reducible apply go_st h); intro _ h)
 | ((with_reducible apply go_stA h); rfl; rfl; (first | rfl | simp [OneV.o]); intro _ h)
 | ((with_reducible apply go_stN h); rfl; (first | rfl | simp [OneV.o]); intro _ h)
 | ((with_reducible apply go_box h); rfl; intro _ _ h)
 | ((with_reducible apply go_ix h); omega)
 | ((with_reducible first | apply go_elN h | apply go_f1 h | apply go_rf1 h | apply go_rel h); (case hi => omega); (try case hx => exact inferInstance); (try case hv => rfl))
 | ((with_reducible apply go_fa h); omega; omega)
))
    simpa using this
theorem hcheck_spec (hf : c.fits) (hr : RdL w0 L cI 1 tv c.times) (h : Sat w0 L w) (hK : ∀ w', Sat w0 L w' → K (.int .i64 (chkC c)) w') : callP G34 [ctxV c tv] w K := by
  refine c34 ?_
  unfold F34 F34_1 F34_1b
  obtain ⟨f1, f2, f3, f4⟩ := hf
  have fs : Evt.fits ⟨c.node, [99], c.key, 0, []⟩ := ⟨f1, by simp, f2, by simp⟩
  have hsg : okE ⟨c.node, [99], c.key, 0, []⟩ = okSign c.node c.key := rfl
  (repeat (first
 | (simp (disch := omega) only [evA, evB, evC, bAdd_i64, bSub_i64])
 | (refine go_some (fb33_0_1_2 ..) ?_)
 | (with_reducible apply go_ld1 h)
 | ((with_reducible first | apply go_ldA h | apply go_rd h | apply go_rdN h | apply go_rlen h); rfl)
 | (with_reducible first | apply go_ldN h | apply go_lenL h)
 | ((with_reducible apply go_st h); intro _ h)
 | ((with_reducible apply go_stA h); rfl; rfl; (first | rfl | simp [OneV.o]); intro _ h)
 | ((with_reducible apply go_stN h); rfl; (first | rfl | simp [OneV.o]); intro _ h)
 | ((with_reducible apply go_box h); rfl; intro _ _ h)
 | ((with_reducible apply go_ix h); omega)
 | ((with_reducible first | apply go_elN h | apply go_f1 h | apply go_rf1 h | apply go_rel h); (case hi => omega); (try case hx => exact inferInstance); (try case hv => rfl))
 | ((with_reducible apply go_fa h); omega; omega)
))
  refine ncheck_spec (e := ⟨c.node, [99], c.key, 0, []⟩) fs h fun w h => ?_
  (repeat (first
 | (simp (disch := omega) only [evA, evB, evC, bAdd_i64, bSub_i64, chkE_dec, hsg])
 | (refine go_some (fb33 ..) ?_)
 | (with_reducible apply go_ld1 h)
 | ((with_reducible first | apply go_ldA h | apply go_rd h | apply go_rdN h | apply go_rlen h); rfl)
 | (with_reducible first | apply go_ldN h | apply go_lenL h)
 | ((with_reducible apply go_st h); intro _ h)
 | ((with_reducible apply go_stA h); rfl; rfl; (first | rfl | simp [OneV.o]); intro _ h)
 | ((with_reducible apply go_stN h); rfl; (first | rfl | simp [OneV.o]); intro _ h)
 | ((with_reducible apply go_box h); rfl; intro _ _ h)
 | ((with_reducible apply go_ix h); omega)
 | ((with_reducible first | apply go_elN h | apply go_f1 h | apply go_rf1 h | apply go_rel h); (case hi => omega); (try case hx => exact inferInstance); (try case hv => rfl))
 | ((with_reducible apply go_fa h); omega; omega)
))
  refine go_some (eqE _ _ c.e zeroE) ?_
  have fin : ∀ (b : Nat) (w : World) (t : Bool), Sat w0 (Cl b (cCtx c tv).toArray 36 :: L) w → t = okTimes c.times → F34_2 (.pointer (some ⟨b, 0, none⟩)) (.bool (okSign c.node c.key)) (.bool (okEv c.e)) (.bool t) w K := by
    intro b w t h ht
    subst ht
    exact chk2_spec h hK
  have hev : okEv c.e = (decide (c.e = zeroE) || okE c.e) := rfl
  have hti : okTimes c.times = (decide (c.times.length ≤ 1000) && (ascI c.times && c.times.all timeP)) := rfl
  cases g1 : decide (c.e = zeroE)
  all_goals rw [g1] at hev
  · (repeat (first
 | (simp (disch := omega) only [evA, evB, evC, bAdd_i64, bSub_i64])
 | (with_reducible apply go_ld1 h)
 | ((with_reducible first | apply go_ldA h | apply go_rd h | apply go_rdN h | apply go_rlen h); rfl)
 | (with_reducible first | apply go_ldN h | apply go_lenL h)
 | ((with_reducible apply go_st h); intro _ h)
 | ((with_reducible apply go_stA h); rfl; rfl; (first | rfl | simp [OneV.o]); intro _ h)
 | ((with_reducible apply go_stN h); rfl; (first | rfl | simp [OneV.o]); intro _ h)
 | ((with_reducible apply go_box h); rfl; intro _ _ h)
 | ((with_reducible apply go_ix h); omega)
 | ((with_reducible first | apply go_elN h | apply go_f1 h | apply go_rf1 h | apply go_rel h); (case hi => omega); (try case hx => exact inferInstance); (try case hv => rfl))
 | ((with_reducible apply go_fa h); omega; omega)
))
    refine ncheck_spec (e := c.e) f3 h fun w h => ?_
    rw [Bool.false_or] at hev
    (repeat (first
 | (simp (disch := omega) only [evA, evB, evC, bAdd_i64, bSub_i64, chkE_dec, hev.symm])
 | (with_reducible apply go_ld1 h)
 | ((with_reducible first | apply go_ldA h | apply go_rd h | apply go_rdN h | apply go_rlen h); rfl)
 | (with_reducible first | apply go_ldN h | apply go_lenL h)
 | ((with_reducible apply go_st h); intro _ h)
 | ((with_reducible apply go_stA h); rfl; rfl; (first | rfl | simp [OneV.o]); intro _ h)
 | ((with_reducible apply go_stN h); rfl; (first | rfl | simp [OneV.o]); intro _ h)
 | ((with_reducible apply go_box h); rfl; intro _ _ h)
 | ((with_reducible apply go_ix h); omega)
 | ((with_reducible first | apply go_elN h | apply go_f1 h | apply go_rf1 h | apply go_rel h); (case hi => omega); (try case hx => exact inferInstance); (try case hv => rfl))
 | ((with_reducible apply go_fa h); omega; omega)
))
    have hl := (hr w h.drop).len
    by_cases g2 : c.times.length ≤ 1000
    · have g2' : decide ((c.times.length : Int) ≤ 1000) = true := by simp; omega
      have g2d : decide (c.times.length ≤ 1000) = true := by simpa using g2
      rw [g2d, Bool.true_and] at hti
      (repeat (first
 | (simp (disch := omega) only [evA, evB, evC, bAdd_i64, bSub_i64, hl, g2'])
 | (with_reducible apply go_ld1 h)
 | ((with_reducible first | apply go_ldA h | apply go_rd h | apply go_rdN h | apply go_rlen h); rfl)
 | (with_reducible first | apply go_ldN h | apply go_lenL h)
 | ((with_reducible apply go_st h); intro _ h)
 | ((with_reducible apply go_stA h); rfl; rfl; (first | rfl | simp [OneV.o]); intro _ h)
 | ((with_reducible apply go_stN h); rfl; (first | rfl | simp [OneV.o]); intro _ h)
 | ((with_reducible apply go_box h); rfl; intro _ _ h)
 | ((with_reducible apply go_ix h); omega)
 | ((with_reducible first | apply go_elN h | apply go_f1 h | apply go_rf1 h | apply go_rel h); (case hi => omega); (try case hx => exact inferInstance); (try case hv => rfl))
 | ((with_reducible apply go_fa h); omega; omega)
))
      refine sorted_spec (l := c.times) (by omega) hr.cons h fun w h => ?_
      cases g3 : ascI c.times
      · rw [g3] at hti
        (repeat (first
 | (simp (disch := omega) only [evA, evB, evC, bAdd_i64, bSub_i64])
 | (with_reducible apply go_ld1 h)
 | ((with_reducible first | apply go_ldA h | apply go_rd h | apply go_rdN h | apply go_rlen h); rfl)
 | (with_reducible first | apply go_ldN h | apply go_lenL h)
 | ((with_reducible apply go_st h); intro _ h)
 | ((with_reducible apply go_stA h); rfl; rfl; (first | rfl | simp [OneV.o]); intro _ h)
 | ((with_reducible apply go_stN h); rfl; (first | rfl | simp [OneV.o]); intro _ h)
 | ((with_reducible apply go_box h); rfl; intro _ _ h)
 | ((with_reducible apply go_ix h); omega)
 | ((with_reducible first | apply go_elN h | apply go_f1 h | apply go_rf1 h | apply go_rel h); (case hi => omega); (try case hx => exact inferInstance); (try case hv => rfl))
 | ((with_reducible apply go_fa h); omega; omega)
))
        exact fin _ _ false h hti.symm
      · rw [g3, Bool.true_and] at hti
        by_cases g4 : 0 < c.times.length
        · have g4' : decide ((c.times.length : Int) > 0) = true := by rw [decide_eq_true_eq]; omega
          have hte := times_ends g3 g4
          have hx := i_at (hr w h.drop) g4
          have e0 : ((c.times.length : Int) - 1) = ((c.times.length - 1 : Nat) : Int) := by omega
          have hlt : c.times.length - 1 < c.times.length := by omega
          (repeat (first
 | (simp (disch := omega) only [evA, evB, evC, bAdd_i64, bSub_i64, hl, g4'])
 | (with_reducible apply go_ld1 h)
 | ((with_reducible first | apply go_ldA h | apply go_rd h | apply go_rdN h | apply go_rlen h); rfl)
 | (with_reducible first | apply go_ldN h | apply go_lenL h)
 | ((with_reducible apply go_st h); intro _ h)
 | ((with_reducible apply go_stA h); rfl; rfl; (first | rfl | simp [OneV.o]); intro _ h)
 | ((with_reducible apply go_stN h); rfl; (first | rfl | simp [OneV.o]); intro _ h)
 | ((with_reducible apply go_box h); rfl; intro _ _ h)
 | ((with_reducible apply go_ix h); omega)
 | ((with_reducible first | apply go_elN h | apply go_f1 h | apply go_rf1 h | apply go_rel h); (case hi => omega); (try case hx => exact inferInstance); (try case hv => rfl))
 | ((with_reducible apply go_fa h); omega; omega)
))
          refine go_some hx.1 ?_
          refine go_some hx.2 ?_
          refine htime_spec ?_
          cases g5 : timeP c.times[0]
          · rw [g5] at hte
            (repeat (first
 | (simp (disch := omega) only [evA, evB, evC, bAdd_i64, bSub_i64])
 | (with_reducible apply go_ld1 h)
 | ((with_reducible first | apply go_ldA h | apply go_rd h | apply go_rdN h | apply go_rlen h); rfl)
 | (with_reducible first | apply go_ldN h | apply go_lenL h)
 | ((with_reducible apply go_st h); intro _ h)
 | ((with_reducible apply go_stA h); rfl; rfl; (first | rfl | simp [OneV.o]); intro _ h)
 | ((with_reducible apply go_stN h); rfl; (first | rfl | simp [OneV.o]); intro _ h)
 | ((with_reducible apply go_box h); rfl; intro _ _ h)
 | ((with_reducible apply go_ix h); omega)
 | ((with_reducible first | apply go_elN h | apply go_f1 h | apply go_rf1 h | apply go_rel h); (case hi => omega); (try case hx => exact inferInstance); (try case hv => rfl))
 | ((with_reducible apply go_fa h); omega; omega)
))
            exact fin _ _ false h (by rw [hti, ← hte]; rfl)
          · rw [g5, Bool.true_and] at hte
            (repeat (first
 | (simp (disch := omega) only [evA, evB, evC, bAdd_i64, bSub_i64, hl, e0, (i_at (hr w h.drop) hlt)])
 | (with_reducible apply go_ld1 h)
 | ((with_reducible first | apply go_ldA h | apply go_rd h | apply go_rdN h | apply go_rlen h); rfl)
 | (with_reducible first | apply go_ldN h | apply go_lenL h)
 | ((with_reducible apply go_st h); intro _ h)
 | ((with_reducible apply go_stA h); rfl; rfl; (first | rfl | simp [OneV.o]); intro _ h)
 | ((with_reducible apply go_stN h); rfl; (first | rfl | simp [OneV.o]); intro _ h)
 | ((with_reducible apply go_box h); rfl; intro _ _ h)
 | ((with_reducible apply go_ix h); omega)
 | ((with_reducible first | apply go_elN h | apply go_f1 h | apply go_rf1 h | apply go_rel h); (case hi => omega); (try case hx => exact inferInstance); (try case hv => rfl))
 | ((with_reducible apply go_fa h); omega; omega)
))
            refine htime_spec ?_
            (repeat (first
 | (simp (disch := omega) only [evA, evB, evC, bAdd_i64, bSub_i64])
 | (with_reducible apply go_ld1 h)
 | ((with_reducible first | apply go_ldA h | apply go_rd h | apply go_rdN h | apply go_rlen h); rfl)
 | (with_reducible first | apply go_ldN h | apply go_lenL h)
 | ((with_reducible apply go_st h); intro _ h)
 | ((with_reducible apply go_stA h); rfl; rfl; (first | rfl | simp [OneV.o]); intro _ h)
 | ((with_reducible apply go_stN h); rfl; (first | rfl | simp [OneV.o]); intro _ h)
 | ((with_reducible apply go_box h); rfl; intro _ _ h)
 | ((with_reducible apply go_ix h); omega)
 | ((with_reducible first | apply go_elN h | apply go_f1 h | apply go_rf1 h | apply go_rel h); (case hi => omega); (try case hx => exact inferInstance); (try case hv => rfl))
 | ((with_reducible apply go_fa h); omega; omega)
))
            exact fin _ _ _ h (by rw [hti, ← hte])
        · have g4' : decide ((c.times.length : Int) > 0) = false := by rw [decide_eq_false_iff_not]; omega
          have : c.times = [] := List.eq_nil_of_length_eq_zero (by omega)
          (repeat (first
 | (simp (disch := omega) only [evA, evB, evC, bAdd_i64, bSub_i64, hl, g4'])
 | (with_reducible apply go_ld1 h)
 | ((with_reducible first | apply go_ldA h | apply go_rd h | apply go_rdN h | apply go_rlen h); rfl)
 | (with_reducible first | apply go_ldN h | apply go_lenL h)
 | ((with_reducible apply go_st h); intro _ h)
 | ((with_reducible apply go_stA h); rfl; rfl; (first | rfl | simp [OneV.o]); intro _ h)
 | ((with_reducible apply go_stN h); rfl; (first | rfl | simp [OneV.o]); intro _ h)
 | ((with_reducible apply go_box h); rfl; intro _ _ h)
 | ((with_reducible apply go_ix h); omega)
 | ((with_reducible first | apply go_elN h | apply go_f1 h | apply go_rf1 h | apply go_rel h); (case hi => omega); (try case hx => exact inferInstance); (try case hv => rfl))
 | ((with_reducible apply go_fa h); omega; omega)
))
          exact fin _ _ true h (by rw [hti, this]; rfl)
    · have g2' : decide ((c.times.length : Int) ≤ 1000) = false := by simp; omega
      have g2d : decide (c.times.length ≤ 1000) = false := by simpa using g2
      rw [g2d, Bool.false_and] at hti
      (repeat (first
 | (simp (disch := omega) only [evA, evB, evC, bAdd_i64, bSub_i64, hl, g2'])
 | (with_reducible apply go_ld1 h)
 | ((with_reducible first | apply go_ldA h | apply go_rd h | apply go_rdN h | apply go_rlen h); rfl)
 | (with_reducible first | apply go_ldN h | apply go_lenL h)
 | ((with_reducible apply go_st h); intro _ h)
 | ((with_reducible apply go_stA h); rfl; rfl; (first | rfl | simp [OneV.o]); intro _ h)
 | ((with_reducible apply go_stN h); rfl; (first | rfl | simp [OneV.o]); intro _ h)
 | ((with_reducible apply go_box h); rfl; intro _ _ h)
 | ((with_reducible apply go_ix h); omega)
 | ((with_reducible first | apply go_elN h | apply go_f1 h | apply go_rf1 h | apply go_rel h); (case hi => omega); (try case hx => exact inferInstance); (try case hv => rfl))
 | ((with_reducible apply go_fa h); omega; omega)
))
      exact fin _ _ false h hti.symm
  · rw [Bool.true_or] at hev
    rw [hev] at fin
    (repeat (first
 | (simp (disch := omega) only [evA, evB, evC, bAdd_i64, bSub_i64])
 | (with_reducible apply go_ld1 h)
 | ((with_reducible first | apply go_ldA h | apply go_rd h | apply go_rdN h | apply go_rlen h); rfl)
 | (with_reducible first | apply go_ldN h | apply go_lenL h)
 | ((with_reducible apply go_st h); intro _ h)
 | ((with_reducible apply go_stA h); rfl; rfl; (first | rfl | simp [OneV.o]); intro _ h)
 | ((with_reducible apply go_stN h); rfl; (first | rfl | simp [OneV.o]); intro _ h)
 | ((with_reducible apply go_box h); rfl; intro _ _ h)
 | ((with_reducible apply go_ix h); omega)
 | ((with_reducible first | apply go_elN h | apply go_f1 h | apply go_rf1 h | apply go_rel h); (case hi => omega); (try case hx => exact inferInstance); (try case hv => rfl))
 | ((with_reducible apply go_fa h); omega; omega)
))
    have hl := (hr w h.drop).len
    by_cases g2 : c.times.length ≤ 1000
    · have g2' : decide ((c.times.length : Int) ≤ 1000) = true := by simp; omega
      have g2d : decide (c.times.length ≤ 1000) = true := by simpa using g2
      rw [g2d, Bool.true_and] at hti
      (repeat (first
 | (simp (disch := omega) only [evA, evB, evC, bAdd_i64, bSub_i64, hl, g2'])
 | (with_reducible apply go_ld1 h)
 | ((with_reducible first | apply go_ldA h | apply go_rd h | apply go_rdN h | apply go_rlen h); rfl)
 | (with_reducible first | apply go_ldN h | apply go_lenL h)
 | ((with_reducible apply go_st h); intro _ h)
 | ((with_reducible apply go_stA h); rfl; rfl; (first | rfl | simp [OneV.o]); intro _ h)
 | ((with_reducible apply go_stN h); rfl; (first | rfl | simp [OneV.o]); intro _ h)
 | ((with_reducible apply go_box h); rfl; intro _ _ h)
 | ((with_reducible apply go_ix h); omega)
 | ((with_reducible first | apply go_elN h | apply go_f1 h | apply go_rf1 h | apply go_rel h); (case hi => omega); (try case hx => exact inferInstance); (try case hv => rfl))
 | ((with_reducible apply go_fa h); omega; omega)
))
      refine sorted_spec (l := c.times) (by omega) hr.cons h fun w h => ?_
      cases g3 : ascI c.times
      · rw [g3] at hti
        (repeat (first
 | (simp (disch := omega) only [evA, evB, evC, bAdd_i64, bSub_i64])
 | (with_reducible apply go_ld1 h)
 | ((with_reducible first | apply go_ldA h | apply go_rd h | apply go_rdN h | apply go_rlen h); rfl)
 | (with_reducible first | apply go_ldN h | apply go_lenL h)
 | ((with_reducible apply go_st h); intro _ h)
 | ((with_reducible apply go_stA h); rfl; rfl; (first | rfl | simp [OneV.o]); intro _ h)
 | ((with_reducible apply go_stN h); rfl; (first | rfl | simp [OneV.o]); intro _ h)
 | ((with_reducible apply go_box h); rfl; intro _ _ h)
 | ((with_reducible apply go_ix h); omega)
 | ((with_reducible first | apply go_elN h | apply go_f1 h | apply go_rf1 h | apply go_rel h); (case hi => omega); (try case hx => exact inferInstance); (try case hv => rfl))
 | ((with_reducible apply go_fa h); omega; omega)
))
        exact fin _ _ false h hti.symm
      · rw [g3, Bool.true_and] at hti
        by_cases g4 : 0 < c.times.length
        · have g4' : decide ((c.times.length : Int) > 0) = true := by rw [decide_eq_true_eq]; omega
          have hte := times_ends g3 g4
          have hx := i_at (hr w h.drop) g4
          have e0 : ((c.times.length : Int) - 1) = ((c.times.length - 1 : Nat) : Int) := by omega
          have hlt : c.times.length - 1 < c.times.length := by omega
          (repeat (first
 | (simp (disch := omega) only [evA, evB, evC, bAdd_i64, bSub_i64, hl, g4'])
 | (with_reducible apply go_ld1 h)
 | ((with_reducible first | apply go_ldA h | apply go_rd h | apply go_rdN h | apply go_rlen h); rfl)
 | (with_reducible first | apply go_ldN h | apply go_lenL h)
 | ((with_reducible apply go_st h); intro _ h)
 | ((with_reducible apply go_stA h); rfl; rfl; (first | rfl | simp [OneV.o]); intro _ h)
 | ((with_reducible apply go_stN h); rfl; (first | rfl | simp [OneV.o]); intro _ h)
 | ((with_reducible apply go_box h); rfl; intro _ _ h)
 | ((with_reducible apply go_ix h); omega)
 | ((with_reducible first | apply go_elN h | apply go_f1 h | apply go_rf1 h | apply go_rel h); (case hi => omega); (try case hx => exact inferInstance); (try case hv => rfl))
 | ((with_reducible apply go_fa h); omega; omega)
))
          refine go_some hx.1 ?_
          refine go_some hx.2 ?_
          refine htime_spec ?_
          cases g5 : timeP c.times[0]
          · rw [g5] at hte
            (repeat (first
 | (simp (disch := omega) only [evA, evB, evC, bAdd_i64, bSub_i64])
 | (with_reducible apply go_ld1 h)
 | ((with_reducible first | apply go_ldA h | apply go_rd h | apply go_rdN h | apply go_rlen h); rfl)
 | (with_reducible first | apply go_ldN h | apply go_lenL h)
 | ((with_reducible apply go_st h); intro _ h)
 | ((with_reducible apply go_stA h); rfl; rfl; (first | rfl | simp [OneV.o]); intro _ h)
 | ((with_reducible apply go_stN h); rfl; (first | rfl | simp [OneV.o]); intro _ h)
 | ((with_reducible apply go_box h); rfl; intro _ _ h)
 | ((with_reducible apply go_ix h); omega)
 | ((with_reducible first | apply go_elN h | apply go_f1 h | apply go_rf1 h | apply go_rel h); (case hi => omega); (try case hx => exact inferInstance); (try case hv => rfl))
 | ((with_reducible apply go_fa h); omega; omega)
))
            exact fin _ _ false h (by rw [hti, ← hte]; rfl)
          · rw [g5, Bool.true_and] at hte
            (repeat (first
 | (simp (disch := omega) only [evA, evB, evC, bAdd_i64, bSub_i64, hl, e0, (i_at (hr w h.drop) hlt)])
 | (with_reducible apply go_ld1 h)
 | ((with_reducible first | apply go_ldA h | apply go_rd h | apply go_rdN h | apply go_rlen h); rfl)
 | (with_reducible first | apply go_ldN h | apply go_lenL h)
 | ((with_reducible apply go_st h); intro _ h)
 | ((with_reducible apply go_stA h); rfl; rfl; (first | rfl | simp [OneV.o]); intro _ h)
 | ((with_reducible apply go_stN h); rfl; (first | rfl | simp [OneV.o]); intro _ h)
 | ((with_reducible apply go_box h); rfl; intro _ _ h)
 | ((with_reducible apply go_ix h); omega)
 | ((with_reducible first | apply go_elN h | apply go_f1 h | apply go_rf1 h | apply go_rel h); (case hi => omega); (try case hx => exact inferInstance); (try case hv => rfl))
 | ((with_reducible apply go_fa h); omega; omega)
))
            refine htime_spec ?_
            (repeat (first
 | (simp (disch := omega) only [evA, evB, evC, bAdd_i64, bSub_i64])
 | (with_reducible apply go_ld1 h)
 | ((with_reducible first | apply go_ldA h | apply go_rd h | apply go_rdN h | apply go_rlen h); rfl)
 | (with_reducible first | apply go_ldN h | apply go_lenL h)
 | ((with_reducible apply go_st h); intro _ h)
 | ((with_reducible apply go_stA h); rfl; rfl; (first | rfl | simp [OneV.o]); intro _ h)
 | ((with_reducible apply go_stN h); rfl; (first | rfl | simp [OneV.o]); intro _ h)
 | ((with_reducible apply go_box h); rfl; intro _ _ h)
 | ((with_reducible apply go_ix h); omega)
 | ((with_reducible first | apply go_elN h | apply go_f1 h | apply go_rf1 h | apply go_rel h); (case hi => omega); (try case hx => exact inferInstance); (try case hv => rfl))
 | ((with_reducible apply go_fa h); omega; omega)
))
            exact fin _ _ _ h (by rw [hti, ← hte])
        · have g4' : decide ((c.times.length : Int) > 0) = false := by rw [decide_eq_false_iff_not]; omega
          have : c.times = [] := List.eq_nil_of_length_eq_zero (by omega)
          (repeat (first
 | (simp (disch := omega) only [evA, evB, evC, bAdd_i64, bSub_i64, hl, g4'])
 | (with_reducible apply go_ld1 h)
 | ((with_reducible first | apply go_ldA h | apply go_rd h | apply go_rdN h | apply go_rlen h); rfl)
 | (with_reducible first | apply go_ldN h | apply go_lenL h)
 | ((with_reducible apply go_st h); intro _ h)
 | ((with_reducible apply go_stA h); rfl; rfl; (first | rfl | simp [OneV.o]); intro _ h)
 | ((with_reducible apply go_stN h); rfl; (first | rfl | simp [OneV.o]); intro _ h)
 | ((with_reducible apply go_box h); rfl; intro _ _ h)
 | ((with_reducible apply go_ix h); omega)
 | ((with_reducible first | apply go_elN h | apply go_f1 h | apply go_rf1 h | apply go_rel h); (case hi => omega); (try case hx => exact inferInstance); (try case hv => rfl))
 | ((with_reducible apply go_fa h); omega; omega)
))
          exact fin _ _ true h (by rw [hti, this]; rfl)
    · have g2' : decide ((c.times.length : Int) ≤ 1000) = false := by simp; omega
      have g2d : decide (c.times.length ≤ 1000) = false := by simpa using g2
      rw [g2d, Bool.false_and] at hti
      (repeat (first
 | (simp (disch := omega) only [evA, evB, evC, bAdd_i64, bSub_i64, hl, g2'])
 | (with_reducible apply go_ld1 h)
 | ((with_reducible first | apply go_ldA h | apply go_rd h | apply go_rdN h | apply go_rlen h); rfl)
 | (with_reducible first | apply go_ldN h | apply go_lenL h)
 | ((with_reducible apply go_st h); intro _ h)
 | ((with_reducible apply go_stA h); rfl; rfl; (first | rfl | simp [OneV.o]); intro _ h)
 | ((with_reducible apply go_stN h); rfl; (first | rfl | simp [OneV.o]); intro _ h)
 | ((with_reducible apply go_box h); rfl; intro _ _ h)
 | ((with_reducible apply go_ix h); omega)
 | ((with_reducible first | apply go_elN h | apply go_f1 h | apply go_rf1 h | apply go_rel h); (case hi => omega); (try case hx => exact inferInstance); (try case hv => rfl))
 | ((with_reducible apply go_fa h); omega; omega)
))
      exact fin _ _ false h hti.symm
def okFrom : Option Int → List Int → Bool
  | _, [] => true
  | p, a :: r => timeP a && ((match p with | none => true | some q => decide (q ≤ a)) && okFrom (some a) r)
def leO (p : Option Int) (a : Int) : Bool := match p with | none => true | some q => decide (q ≤ a)
theorem okFrom_cons (p : Option Int) (a : Int) (r : List Int) : okFrom p (a :: r) = (timeP a && (leO p a && okFrom (some a) r)) := by cases p <;> simp [okFrom, leO]
theorem okFrom_some : ∀ (l : List Int) (q : Int), okFrom (some q) l = (ascI (q :: l) && l.all timeP)
  | [], q => by simp [okFrom, ascI]
  | a :: r, q => by
    simp only [okFrom, okFrom_some r a, ascI, List.all_cons]
    cases timeP a <;> cases decide (q ≤ a) <;> cases ascI (a :: r) <;> simp
theorem okFrom_none (l : List Int) : okFrom none l = (ascI l && l.all timeP) := by
  cases l with
  | nil => simp [okFrom, ascI]
  | cons a r =>
    simp only [okFrom, okFrom_some, List.all_cons]
    cases timeP a <;> cases ascI (a :: r) <;> simp
def prevAt (l : List Int) (i : Nat) : Option Int := if i = 0 then none else l[i - 1]?
theorem fchk_loop {b : Nat} (hl : c.times.length ≤ 1073741824) (hr : RdL w0 L cI 1 tv c.times) (hK : ∀ w', Sat w0 L w' → K (.int .i64 (if okFrom none c.times = true then 0 else 4)) w') :
    ∀ (d i : Nat) (w : World), c.times.length - i < d → i ≤ c.times.length → okFrom none c.times = okFrom (prevAt c.times i) (c.times.drop i) → Sat w0 (Cl b (cCtx c tv).toArray 36 :: L) w →
      F36_2L d (.pointer (some ⟨b, 0, none⟩)) (.int .i64 i) w K := by
  intro d
  induction d with
  | zero => intro i w hd; omega
  | succ d ih =>
    intro i w hd hi ho h
    rw [F36_2L]
    unfold F36_2b F36_3 F36_3b
    have h1 := hr w h.drop
    by_cases g : i < c.times.length
    · have g' : decide ((i : Int) < (c.times.length : Int)) = true := by rw [decide_eq_true_eq]; omega
      rw [List.drop_eq_getElem_cons g, okFrom_cons] at ho
      (repeat (first
 | (simp (disch := omega) only [evA, evB, evC, bAdd_i64, bSub_i64, h1.len, g', (i_at h1 g)])
 | (with_reducible apply go_ld1 h)
 | ((with_reducible first | apply go_ldA h | apply go_rd h | apply go_rdN h | apply go_rlen h); rfl)
 | (with_reducible first | apply go_ldN h | apply go_lenL h)
 | ((with_reducible apply go_st h); intro _ h)
 | ((with_reducible apply go_stA h); rfl; rfl; (first | rfl | simp [OneV.o]); intro _ h)
 | ((with_reducible apply go_stN h); rfl; (first | rfl | simp [OneV.o]); intro _ h)
 | ((with_reducible apply go_box h); rfl; intro _ _ h)
 | ((with_reducible apply go_ix h); omega)
 | ((with_reducible first | apply go_elN h | apply go_f1 h | apply go_rf1 h | apply go_rel h); (case hi => omega); (try case hx => exact inferInstance); (try case hv => rfl))
 | ((with_reducible apply go_fa h); omega; omega)
))
      refine fbistime_spec ?_
      cases g2 : timeP c.times[i]
      · rw [g2] at ho
        have := hK _ h.drew.drop
        rw [ho] at this
        (repeat (first
 | (simp (disch := omega) only [evA, evB, evC, bAdd_i64, bSub_i64])
 | (with_reducible apply go_ld1 h)
 | ((with_reducible first | apply go_ldA h | apply go_rd h | apply go_rdN h | apply go_rlen h); rfl)
 | (with_reducible first | apply go_ldN h | apply go_lenL h)
 | ((with_reducible apply go_st h); intro _ h)
 | ((with_reducible apply go_stA h); rfl; rfl; (first | rfl | simp [OneV.o]); intro _ h)
 | ((with_reducible apply go_stN h); rfl; (first | rfl | simp [OneV.o]); intro _ h)
 | ((with_reducible apply go_box h); rfl; intro _ _ h)
 | ((with_reducible apply go_ix h); omega)
 | ((with_reducible first | apply go_elN h | apply go_f1 h | apply go_rf1 h | apply go_rel h); (case hi => omega); (try case hx => exact inferInstance); (try case hv => rfl))
 | ((with_reducible apply go_fa h); omega; omega)
))
        simpa using this
      · rw [g2, Bool.true_and] at ho
        by_cases g3 : i = 0
        · subst g3
          have g3' : decide (((0 : Nat) : Int) > 0) = false := by simp
          have e : okFrom none c.times = okFrom (prevAt c.times 1) (c.times.drop 1) := by
            rw [ho]; simp [prevAt, leO, g]
          (repeat (first
 | (simp (disch := omega) only [evA, evB, evC, bAdd_i64, bSub_i64, g3'])
 | (with_reducible apply go_ld1 h)
 | ((with_reducible first | apply go_ldA h | apply go_rd h | apply go_rdN h | apply go_rlen h); rfl)
 | (with_reducible first | apply go_ldN h | apply go_lenL h)
 | ((with_reducible apply go_st h); intro _ h)
 | ((with_reducible apply go_stA h); rfl; rfl; (first | rfl | simp [OneV.o]); intro _ h)
 | ((with_reducible apply go_stN h); rfl; (first | rfl | simp [OneV.o]); intro _ h)
 | ((with_reducible apply go_box h); rfl; intro _ _ h)
 | ((with_reducible apply go_ix h); omega)
 | ((with_reducible first | apply go_elN h | apply go_f1 h | apply go_rf1 h | apply go_rel h); (case hi => omega); (try case hx => exact inferInstance); (try case hv => rfl))
 | ((with_reducible apply go_fa h); omega; omega)
))
          exact ih 1 _ (by omega) (by omega) e h.drew
        · have g3' : decide ((i : Int) > 0) = true := by rw [decide_eq_true_eq]; omega
          have e1 : ((i : Int) - 1) = ((i - 1 : Nat) : Int) := by omega
          have hp : prevAt c.times i = some c.times[i - 1] := by simp [prevAt, g3]
          rw [hp] at ho
          simp only [leO] at ho
          (repeat (first
 | (simp (disch := omega) only [evA, evB, evC, bAdd_i64, bSub_i64, g3', e1, h1.len, (i_at h1 g), (i_at h1 (show i - 1 < c.times.length by omega))])
 | (with_reducible apply go_ld1 h)
 | ((with_reducible first | apply go_ldA h | apply go_rd h | apply go_rdN h | apply go_rlen h); rfl)
 | (with_reducible first | apply go_ldN h | apply go_lenL h)
 | ((with_reducible apply go_st h); intro _ h)
 | ((with_reducible apply go_stA h); rfl; rfl; (first | rfl | simp [OneV.o]); intro _ h)
 | ((with_reducible apply go_stN h); rfl; (first | rfl | simp [OneV.o]); intro _ h)
 | ((with_reducible apply go_box h); rfl; intro _ _ h)
 | ((with_reducible apply go_ix h); omega)
 | ((with_reducible first | apply go_elN h | apply go_f1 h | apply go_rf1 h | apply go_rel h); (case hi => omega); (try case hx => exact inferInstance); (try case hv => rfl))
 | ((with_reducible apply go_fa h); omega; omega)
))
          by_cases g4 : c.times[i - 1] ≤ c.times[i]
          · have g4' : decide (c.times[i - 1] > c.times[i]) = false := by rw [decide_eq_false_iff_not]; omega
            have g5 : decide (c.times[i - 1] ≤ c.times[i]) = true := by simpa using g4
            rw [g5, Bool.true_and] at ho
            (repeat (first
 | (simp (disch := omega) only [evA, evB, evC, bAdd_i64, bSub_i64, g4'])
 | (with_reducible apply go_ld1 h)
 | ((with_reducible first | apply go_ldA h | apply go_rd h | apply go_rdN h | apply go_rlen h); rfl)
 | (with_reducible first | apply go_ldN h | apply go_lenL h)
 | ((with_reducible apply go_st h); intro _ h)
 | ((with_reducible apply go_stA h); rfl; rfl; (first | rfl | simp [OneV.o]); intro _ h)
 | ((with_reducible apply go_stN h); rfl; (first | rfl | simp [OneV.o]); intro _ h)
 | ((with_reducible apply go_box h); rfl; intro _ _ h)
 | ((with_reducible apply go_ix h); omega)
 | ((with_reducible first | apply go_elN h | apply go_f1 h | apply go_rf1 h | apply go_rel h); (case hi => omega); (try case hx => exact inferInstance); (try case hv => rfl))
 | ((with_reducible apply go_fa h); omega; omega)
))
            exact ih (i + 1) _ (by omega) (by omega) (by rw [ho]; simp [prevAt, g]) h.drew
          · have g4' : decide (c.times[i - 1] > c.times[i]) = true := by rw [decide_eq_true_eq]; omega
            have g5 : decide (c.times[i - 1] ≤ c.times[i]) = false := by simpa using g4
            rw [g5, Bool.false_and] at ho
            have := hK _ h.drew.drop
            rw [ho] at this
            (repeat (first
 | (simp (disch := omega) only [evA, evB, evC, bAdd_i64, bSub_i64, g4'])
 | (with_reducible apply go_ld1 h)
 | ((with_reducible first | apply go_ldA h | apply go_rd h | apply go_rdN h | apply go_rlen h); rfl)
 | (with_reducible first | apply go_ldN h | apply go_lenL h)
 | ((with_reducible apply go_st h); intro _ h)
 | ((with_reducible apply go_stA h); rfl; rfl; (first | rfl | simp [OneV.o]); intro _ h)
 | ((with_reducible apply go_stN h); rfl; (first | rfl | simp [OneV.o]); intro _ h)
 | ((with_reducible apply go_box h); rfl; intro _ _ h)
 | ((with_reducible apply go_ix h); omega)
 | ((with_reducible first | apply go_elN h | apply go_f1 h | apply go_rf1 h | apply go_rel h); (case hi => omega); (try case hx => exact inferInstance); (try case hv => rfl))
 | ((with_reducible apply go_fa h); omega; omega)
))
            simpa using this
    · have g' : decide ((i : Int) < (c.times.length : Int)) = false := by rw [decide_eq_false_iff_not]; omega
      rw [List.drop_of_length_le (by omega)] at ho
      have := hK _ h.drop
      rw [ho] at this
      (repeat (first
 | (simp (disch := omega) only [evA, evB, evC, bAdd_i64, bSub_i64, h1.len, g'])
 | (with_reducible apply go_ld1 h)
 | ((with_reducible first | apply go_ldA h | apply go_rd h | apply go_rdN h | apply go_rlen h); rfl)
 | (with_reducible first | apply go_ldN h | apply go_lenL h)
 | ((with_reducible apply go_st h); intro _ h)
 | ((with_reducible apply go_stA h); rfl; rfl; (first | rfl | simp [OneV.o]); intro _ h)
 | ((with_reducible apply go_stN h); rfl; (first | rfl | simp [OneV.o]); intro _ h)
 | ((with_reducible apply go_box h); rfl; intro _ _ h)
 | ((with_reducible apply go_ix h); omega)
 | ((with_reducible first | apply go_elN h | apply go_f1 h | apply go_rf1 h | apply go_rel h); (case hi => omega); (try case hx => exact inferInstance); (try case hv => rfl))
 | ((with_reducible apply go_fa h); omega; omega)
))
      simpa [okFrom] using this
theorem fhcheck_spec (hf : c.fits) (hr : RdL w0 L cI 1 tv c.times) (h : Sat w0 L w) (hK : ∀ w', Sat w0 L w' → K (.int .i64 (chkC c)) w') : callP G36 [ctxV c tv] w K := by
  refine c36 ?_
  unfold F36 F36_1 F36_1b
  obtain ⟨f1, f2, f3, f4⟩ := hf
  have fs : Evt.fits ⟨c.node, [120], c.key, 0, []⟩ := ⟨f1, by simp, f2, by simp⟩
  (repeat (first
 | (simp (disch := omega) only [evA, evB, evC, bAdd_i64, bSub_i64])
 | (refine go_some (fb33_0_1_2 ..) ?_)
 | (with_reducible apply go_ld1 h)
 | ((with_reducible first | apply go_ldA h | apply go_rd h | apply go_rdN h | apply go_rlen h); rfl)
 | (with_reducible first | apply go_ldN h | apply go_lenL h)
 | ((with_reducible apply go_st h); intro _ h)
 | ((with_reducible apply go_stA h); rfl; rfl; (first | rfl | simp [OneV.o]); intro _ h)
 | ((with_reducible apply go_stN h); rfl; (first | rfl | simp [OneV.o]); intro _ h)
 | ((with_reducible apply go_box h); rfl; intro _ _ h)
 | ((with_reducible apply go_ix h); omega)
 | ((with_reducible first | apply go_elN h | apply go_f1 h | apply go_rf1 h | apply go_rel h); (case hi => omega); (try case hx => exact inferInstance); (try case hv => rfl))
 | ((with_reducible apply go_fa h); omega; omega)
))
  refine nfcheck_spec (e := ⟨c.node, [120], c.key, 0, []⟩) fs h fun w h => ?_
  (repeat (first
 | (simp (disch := omega) only [evA, evB, evC, bAdd_i64, bSub_i64, chkE_dec, okSign_x])
 | (refine go_some (fb33 ..) ?_)
 | (with_reducible apply go_ld1 h)
 | ((with_reducible first | apply go_ldA h | apply go_rd h | apply go_rdN h | apply go_rlen h); rfl)
 | (with_reducible first | apply go_ldN h | apply go_lenL h)
 | ((with_reducible apply go_st h); intro _ h)
 | ((with_reducible apply go_stA h); rfl; rfl; (first | rfl | simp [OneV.o]); intro _ h)
 | ((with_reducible apply go_stN h); rfl; (first | rfl | simp [OneV.o]); intro _ h)
 | ((with_reducible apply go_box h); rfl; intro _ _ h)
 | ((with_reducible apply go_ix h); omega)
 | ((with_reducible first | apply go_elN h | apply go_f1 h | apply go_rf1 h | apply go_rel h); (case hi => omega); (try case hx => exact inferInstance); (try case hv => rfl))
 | ((with_reducible apply go_fa h); omega; omega)
))
  refine go_some (eqE _ _ c.e zeroE) ?_
  have hev : okEv c.e = (decide (c.e = zeroE) || okE c.e) := rfl
  have hti : okTimes c.times = (decide (c.times.length ≤ 1000) && (ascI c.times && c.times.all timeP)) := rfl
  have hc : chkC c = if (decide (0 ≤ c.watch) && decide (c.watch ≤ 63) && okSign c.node c.key && okEv c.e && okTimes c.times && timeP c.at') = true then 0 else 4 := rfl
  rw [hc] at hK
  have bad : ∀ (w' : World), Sat w0 L w' → (decide (0 ≤ c.watch) && decide (c.watch ≤ 63) && okSign c.node c.key && okEv c.e && okTimes c.times && timeP c.at') = false → K (.int .i64 4) w' := by
    intro w' h hb
    have := hK w' h
    rw [hb] at this
    simpa using this
  cases g1 : decide (c.e = zeroE)
  all_goals rw [g1] at hev
  · (repeat (first
 | (simp (disch := omega) only [evA, evB, evC, bAdd_i64, bSub_i64])
 | (with_reducible apply go_ld1 h)
 | ((with_reducible first | apply go_ldA h | apply go_rd h | apply go_rdN h | apply go_rlen h); rfl)
 | (with_reducible first | apply go_ldN h | apply go_lenL h)
 | ((with_reducible apply go_st h); intro _ h)
 | ((with_reducible apply go_stA h); rfl; rfl; (first | rfl | simp [OneV.o]); intro _ h)
 | ((with_reducible apply go_stN h); rfl; (first | rfl | simp [OneV.o]); intro _ h)
 | ((with_reducible apply go_box h); rfl; intro _ _ h)
 | ((with_reducible apply go_ix h); omega)
 | ((with_reducible first | apply go_elN h | apply go_f1 h | apply go_rf1 h | apply go_rel h); (case hi => omega); (try case hx => exact inferInstance); (try case hv => rfl))
 | ((with_reducible apply go_fa h); omega; omega)
))
    refine nfcheck_spec (e := c.e) f3 h fun w h => ?_
    rw [Bool.false_or] at hev
    (repeat (first
 | (simp (disch := omega) only [evA, evB, evC, bAdd_i64, bSub_i64, chkE_dec, hev.symm])
 | (with_reducible apply go_ld1 h)
 | ((with_reducible first | apply go_ldA h | apply go_rd h | apply go_rdN h | apply go_rlen h); rfl)
 | (with_reducible first | apply go_ldN h | apply go_lenL h)
 | ((with_reducible apply go_st h); intro _ h)
 | ((with_reducible apply go_stA h); rfl; rfl; (first | rfl | simp [OneV.o]); intro _ h)
 | ((with_reducible apply go_stN h); rfl; (first | rfl | simp [OneV.o]); intro _ h)
 | ((with_reducible apply go_box h); rfl; intro _ _ h)
 | ((with_reducible apply go_ix h); omega)
 | ((with_reducible first | apply go_elN h | apply go_f1 h | apply go_rf1 h | apply go_rel h); (case hi => omega); (try case hx => exact inferInstance); (try case hv => rfl))
 | ((with_reducible apply go_fa h); omega; omega)
))
    generalize okEv c.e = ev at bad hK
    have hl := (hr w h.drop).len
    by_cases k1 : c.watch < 0
    · have k1' : decide (c.watch < 0) = true := by simpa using k1
      have e1 : decide (0 ≤ c.watch) = false := by simp; omega
      (repeat (first
 | (simp (disch := omega) only [evA, evB, evC, bAdd_i64, bSub_i64, k1'])
 | (with_reducible apply go_ld1 h)
 | ((with_reducible first | apply go_ldA h | apply go_rd h | apply go_rdN h | apply go_rlen h); rfl)
 | (with_reducible first | apply go_ldN h | apply go_lenL h)
 | ((with_reducible apply go_st h); intro _ h)
 | ((with_reducible apply go_stA h); rfl; rfl; (first | rfl | simp [OneV.o]); intro _ h)
 | ((with_reducible apply go_stN h); rfl; (first | rfl | simp [OneV.o]); intro _ h)
 | ((with_reducible apply go_box h); rfl; intro _ _ h)
 | ((with_reducible apply go_ix h); omega)
 | ((with_reducible first | apply go_elN h | apply go_f1 h | apply go_rf1 h | apply go_rel h); (case hi => omega); (try case hx => exact inferInstance); (try case hv => rfl))
 | ((with_reducible apply go_fa h); omega; omega)
))
      exact bad _ h.drop (by rw [e1]; simp)
    have k1' : decide (c.watch < 0) = false := by simpa using k1
    by_cases k2 : c.watch > 63
    · have k2' : decide (c.watch > 63) = true := by simpa using k2
      have e1 : decide (c.watch ≤ 63) = false := by simp; omega
      (repeat (first
 | (simp (disch := omega) only [evA, evB, evC, bAdd_i64, bSub_i64, k1', k2'])
 | (with_reducible apply go_ld1 h)
 | ((with_reducible first | apply go_ldA h | apply go_rd h | apply go_rdN h | apply go_rlen h); rfl)
 | (with_reducible first | apply go_ldN h | apply go_lenL h)
 | ((with_reducible apply go_st h); intro _ h)
 | ((with_reducible apply go_stA h); rfl; rfl; (first | rfl | simp [OneV.o]); intro _ h)
 | ((with_reducible apply go_stN h); rfl; (first | rfl | simp [OneV.o]); intro _ h)
 | ((with_reducible apply go_box h); rfl; intro _ _ h)
 | ((with_reducible apply go_ix h); omega)
 | ((with_reducible first | apply go_elN h | apply go_f1 h | apply go_rf1 h | apply go_rel h); (case hi => omega); (try case hx => exact inferInstance); (try case hv => rfl))
 | ((with_reducible apply go_fa h); omega; omega)
))
      exact bad _ h.drop (by rw [e1]; simp)
    have k2' : decide (c.watch > 63) = false := by simpa using k2
    have e1 : decide (0 ≤ c.watch) = true := by simp; omega
    have e2 : decide (c.watch ≤ 63) = true := by simp; omega
    cases k3 : okSign c.node c.key
    · (repeat (first
 | (simp (disch := omega) only [evA, evB, evC, bAdd_i64, bSub_i64, k1', k2', k3])
 | (with_reducible apply go_ld1 h)
 | ((with_reducible first | apply go_ldA h | apply go_rd h | apply go_rdN h | apply go_rlen h); rfl)
 | (with_reducible first | apply go_ldN h | apply go_lenL h)
 | ((with_reducible apply go_st h); intro _ h)
 | ((with_reducible apply go_stA h); rfl; rfl; (first | rfl | simp [OneV.o]); intro _ h)
 | ((with_reducible apply go_stN h); rfl; (first | rfl | simp [OneV.o]); intro _ h)
 | ((with_reducible apply go_box h); rfl; intro _ _ h)
 | ((with_reducible apply go_ix h); omega)
 | ((with_reducible first | apply go_elN h | apply go_f1 h | apply go_rf1 h | apply go_rel h); (case hi => omega); (try case hx => exact inferInstance); (try case hv => rfl))
 | ((with_reducible apply go_fa h); omega; omega)
))
      exact bad _ h.drop (by rw [k3]; simp)
    (repeat (first
 | (simp (disch := omega) only [evA, evB, evC, bAdd_i64, bSub_i64, k1', k2', k3])
 | (with_reducible apply go_ld1 h)
 | ((with_reducible first | apply go_ldA h | apply go_rd h | apply go_rdN h | apply go_rlen h); rfl)
 | (with_reducible first | apply go_ldN h | apply go_lenL h)
 | ((with_reducible apply go_st h); intro _ h)
 | ((with_reducible apply go_stA h); rfl; rfl; (first | rfl | simp [OneV.o]); intro _ h)
 | ((with_reducible apply go_stN h); rfl; (first | rfl | simp [OneV.o]); intro _ h)
 | ((with_reducible apply go_box h); rfl; intro _ _ h)
 | ((with_reducible apply go_ix h); omega)
 | ((with_reducible first | apply go_elN h | apply go_f1 h | apply go_rf1 h | apply go_rel h); (case hi => omega); (try case hx => exact inferInstance); (try case hv => rfl))
 | ((with_reducible apply go_fa h); omega; omega)
))
    refine fbistime_spec ?_
    cases k4 : timeP c.at'
    · (repeat (first
 | (simp (disch := omega) only [evA, evB, evC, bAdd_i64, bSub_i64])
 | (with_reducible apply go_ld1 h)
 | ((with_reducible first | apply go_ldA h | apply go_rd h | apply go_rdN h | apply go_rlen h); rfl)
 | (with_reducible first | apply go_ldN h | apply go_lenL h)
 | ((with_reducible apply go_st h); intro _ h)
 | ((with_reducible apply go_stA h); rfl; rfl; (first | rfl | simp [OneV.o]); intro _ h)
 | ((with_reducible apply go_stN h); rfl; (first | rfl | simp [OneV.o]); intro _ h)
 | ((with_reducible apply go_box h); rfl; intro _ _ h)
 | ((with_reducible apply go_ix h); omega)
 | ((with_reducible first | apply go_elN h | apply go_f1 h | apply go_rf1 h | apply go_rel h); (case hi => omega); (try case hx => exact inferInstance); (try case hv => rfl))
 | ((with_reducible apply go_fa h); omega; omega)
))
      exact bad _ h.drop (by rw [k4]; simp)
    (repeat (first
 | (simp (disch := omega) only [evA, evB, evC, bAdd_i64, bSub_i64])
 | (with_reducible apply go_ld1 h)
 | ((with_reducible first | apply go_ldA h | apply go_rd h | apply go_rdN h | apply go_rlen h); rfl)
 | (with_reducible first | apply go_ldN h | apply go_lenL h)
 | ((with_reducible apply go_st h); intro _ h)
 | ((with_reducible apply go_stA h); rfl; rfl; (first | rfl | simp [OneV.o]); intro _ h)
 | ((with_reducible apply go_stN h); rfl; (first | rfl | simp [OneV.o]); intro _ h)
 | ((with_reducible apply go_box h); rfl; intro _ _ h)
 | ((with_reducible apply go_ix h); omega)
 | ((with_reducible first | apply go_elN h | apply go_f1 h | apply go_rf1 h | apply go_rel h); (case hi => omega); (try case hx => exact inferInstance); (try case hv => rfl))
 | ((with_reducible apply go_fa h); omega; omega)
))
    cases ev
    · (repeat (first
 | (simp (disch := omega) only [evA, evB, evC, bAdd_i64, bSub_i64])
 | (with_reducible apply go_ld1 h)
 | ((with_reducible first | apply go_ldA h | apply go_rd h | apply go_rdN h | apply go_rlen h); rfl)
 | (with_reducible first | apply go_ldN h | apply go_lenL h)
 | ((with_reducible apply go_st h); intro _ h)
 | ((with_reducible apply go_stA h); rfl; rfl; (first | rfl | simp [OneV.o]); intro _ h)
 | ((with_reducible apply go_stN h); rfl; (first | rfl | simp [OneV.o]); intro _ h)
 | ((with_reducible apply go_box h); rfl; intro _ _ h)
 | ((with_reducible apply go_ix h); omega)
 | ((with_reducible first | apply go_elN h | apply go_f1 h | apply go_rf1 h | apply go_rel h); (case hi => omega); (try case hx => exact inferInstance); (try case hv => rfl))
 | ((with_reducible apply go_fa h); omega; omega)
))
      exact bad _ h.drop (by simp)
    (repeat (first
 | (simp (disch := omega) only [evA, evB, evC, bAdd_i64, bSub_i64])
 | (with_reducible apply go_ld1 h)
 | ((with_reducible first | apply go_ldA h | apply go_rd h | apply go_rdN h | apply go_rlen h); rfl)
 | (with_reducible first | apply go_ldN h | apply go_lenL h)
 | ((with_reducible apply go_st h); intro _ h)
 | ((with_reducible apply go_stA h); rfl; rfl; (first | rfl | simp [OneV.o]); intro _ h)
 | ((with_reducible apply go_stN h); rfl; (first | rfl | simp [OneV.o]); intro _ h)
 | ((with_reducible apply go_box h); rfl; intro _ _ h)
 | ((with_reducible apply go_ix h); omega)
 | ((with_reducible first | apply go_elN h | apply go_f1 h | apply go_rf1 h | apply go_rel h); (case hi => omega); (try case hx => exact inferInstance); (try case hv => rfl))
 | ((with_reducible apply go_fa h); omega; omega)
))
    by_cases k6 : c.times.length ≤ 1000
    · have k6' : decide ((c.times.length : Int) > 1000) = false := by rw [decide_eq_false_iff_not]; omega
      have k6d : decide (c.times.length ≤ 1000) = true := by simpa using k6
      rw [k6d, Bool.true_and] at hti
      (repeat (first
 | (simp (disch := omega) only [evA, evB, evC, bAdd_i64, bSub_i64, hl, k6'])
 | (with_reducible apply go_ld1 h)
 | ((with_reducible first | apply go_ldA h | apply go_rd h | apply go_rdN h | apply go_rlen h); rfl)
 | (with_reducible first | apply go_ldN h | apply go_lenL h)
 | ((with_reducible apply go_st h); intro _ h)
 | ((with_reducible apply go_stA h); rfl; rfl; (first | rfl | simp [OneV.o]); intro _ h)
 | ((with_reducible apply go_stN h); rfl; (first | rfl | simp [OneV.o]); intro _ h)
 | ((with_reducible apply go_box h); rfl; intro _ _ h)
 | ((with_reducible apply go_ix h); omega)
 | ((with_reducible first | apply go_elN h | apply go_f1 h | apply go_rf1 h | apply go_rel h); (case hi => omega); (try case hx => exact inferInstance); (try case hv => rfl))
 | ((with_reducible apply go_fa h); omega; omega)
))
      refine fchk_loop (by omega) hr (fun w' h => ?_) fuel 0 w (by have : fuel = 4611686018427387904 := rfl; omega) (by omega) rfl h
      have := hK _ h
      rw [e1, e2, k3, k4, hti] at this
      rw [okFrom_none]
      simpa using this
    · have k6' : decide ((c.times.length : Int) > 1000) = true := by rw [decide_eq_true_eq]; omega
      have k6d : decide (c.times.length ≤ 1000) = false := by simpa using k6
      rw [k6d, Bool.false_and] at hti
      (repeat (first
 | (simp (disch := omega) only [evA, evB, evC, bAdd_i64, bSub_i64, hl, k6'])
 | (with_reducible apply go_ld1 h)
 | ((with_reducible first | apply go_ldA h | apply go_rd h | apply go_rdN h | apply go_rlen h); rfl)
 | (with_reducible first | apply go_ldN h | apply go_lenL h)
 | ((with_reducible apply go_st h); intro _ h)
 | ((with_reducible apply go_stA h); rfl; rfl; (first | rfl | simp [OneV.o]); intro _ h)
 | ((with_reducible apply go_stN h); rfl; (first | rfl | simp [OneV.o]); intro _ h)
 | ((with_reducible apply go_box h); rfl; intro _ _ h)
 | ((with_reducible apply go_ix h); omega)
 | ((with_reducible first | apply go_elN h | apply go_f1 h | apply go_rf1 h | apply go_rel h); (case hi => omega); (try case hx => exact inferInstance); (try case hv => rfl))
 | ((with_reducible apply go_fa h); omega; omega)
))
      exact bad _ h.drop (by rw [hti]; simp)
  · rw [Bool.true_or] at hev
    rw [hev] at bad hK
    (repeat (first
 | (simp (disch := omega) only [evA, evB, evC, bAdd_i64, bSub_i64])
 | (with_reducible apply go_ld1 h)
 | ((with_reducible first | apply go_ldA h | apply go_rd h | apply go_rdN h | apply go_rlen h); rfl)
 | (with_reducible first | apply go_ldN h | apply go_lenL h)
 | ((with_reducible apply go_st h); intro _ h)
 | ((with_reducible apply go_stA h); rfl; rfl; (first | rfl | simp [OneV.o]); intro _ h)
 | ((with_reducible apply go_stN h); rfl; (first | rfl | simp [OneV.o]); intro _ h)
 | ((with_reducible apply go_box h); rfl; intro _ _ h)
 | ((with_reducible apply go_ix h); omega)
 | ((with_reducible first | apply go_elN h | apply go_f1 h | apply go_rf1 h | apply go_rel h); (case hi => omega); (try case hx => exact inferInstance); (try case hv => rfl))
 | ((with_reducible apply go_fa h); omega; omega)
))
    obtain ⟨ev, hev2⟩ : ∃ ev : Bool, true = ev := ⟨_, rfl⟩
    have hl := (hr w h.drop).len
    by_cases k1 : c.watch < 0
    · have k1' : decide (c.watch < 0) = true := by simpa using k1
      have e1 : decide (0 ≤ c.watch) = false := by simp; omega
      (repeat (first
 | (simp (disch := omega) only [evA, evB, evC, bAdd_i64, bSub_i64, k1'])
 | (with_reducible apply go_ld1 h)
 | ((with_reducible first | apply go_ldA h | apply go_rd h | apply go_rdN h | apply go_rlen h); rfl)
 | (with_reducible first | apply go_ldN h | apply go_lenL h)
 | ((with_reducible apply go_st h); intro _ h)
 | ((with_reducible apply go_stA h); rfl; rfl; (first | rfl | simp [OneV.o]); intro _ h)
 | ((with_reducible apply go_stN h); rfl; (first | rfl | simp [OneV.o]); intro _ h)
 | ((with_reducible apply go_box h); rfl; intro _ _ h)
 | ((with_reducible apply go_ix h); omega)
 | ((with_reducible first | apply go_elN h | apply go_f1 h | apply go_rf1 h | apply go_rel h); (case hi => omega); (try case hx => exact inferInstance); (try case hv => rfl))
 | ((with_reducible apply go_fa h); omega; omega)
))
      exact bad _ h.drop (by rw [e1]; simp)
    have k1' : decide (c.watch < 0) = false := by simpa using k1
    by_cases k2 : c.watch > 63
    · have k2' : decide (c.watch > 63) = true := by simpa using k2
      have e1 : decide (c.watch ≤ 63) = false := by simp; omega
      (repeat (first
 | (simp (disch := omega) only [evA, evB, evC, bAdd_i64, bSub_i64, k1', k2'])
 | (with_reducible apply go_ld1 h)
 | ((with_reducible first | apply go_ldA h | apply go_rd h | apply go_rdN h | apply go_rlen h); rfl)
 | (with_reducible first | apply go_ldN h | apply go_lenL h)
 | ((with_reducible apply go_st h); intro _ h)
 | ((with_reducible apply go_stA h); rfl; rfl; (first | rfl | simp [OneV.o]); intro _ h)
 | ((with_reducible apply go_stN h); rfl; (first | rfl | simp [OneV.o]); intro _ h)
 | ((with_reducible apply go_box h); rfl; intro _ _ h)
 | ((with_reducible apply go_ix h); omega)
 | ((with_reducible first | apply go_elN h | apply go_f1 h | apply go_rf1 h | apply go_rel h); (case hi => omega); (try case hx => exact inferInstance); (try case hv => rfl))
 | ((with_reducible apply go_fa h); omega; omega)
))
      exact bad _ h.drop (by rw [e1]; simp)
    have k2' : decide (c.watch > 63) = false := by simpa using k2
    have e1 : decide (0 ≤ c.watch) = true := by simp; omega
    have e2 : decide (c.watch ≤ 63) = true := by simp; omega
    cases k3 : okSign c.node c.key
    · (repeat (first
 | (simp (disch := omega) only [evA, evB, evC, bAdd_i64, bSub_i64, k1', k2', k3])
 | (with_reducible apply go_ld1 h)
 | ((with_reducible first | apply go_ldA h | apply go_rd h | apply go_rdN h | apply go_rlen h); rfl)
 | (with_reducible first | apply go_ldN h | apply go_lenL h)
 | ((with_reducible apply go_st h); intro _ h)
 | ((with_reducible apply go_stA h); rfl; rfl; (first | rfl | simp [OneV.o]); intro _ h)
 | ((with_reducible apply go_stN h); rfl; (first | rfl | simp [OneV.o]); intro _ h)
 | ((with_reducible apply go_box h); rfl; intro _ _ h)
 | ((with_reducible apply go_ix h); omega)
 | ((with_reducible first | apply go_elN h | apply go_f1 h | apply go_rf1 h | apply go_rel h); (case hi => omega); (try case hx => exact inferInstance); (try case hv => rfl))
 | ((with_reducible apply go_fa h); omega; omega)
))
      exact bad _ h.drop (by rw [k3]; simp)
    (repeat (first
 | (simp (disch := omega) only [evA, evB, evC, bAdd_i64, bSub_i64, k1', k2', k3])
 | (with_reducible apply go_ld1 h)
 | ((with_reducible first | apply go_ldA h | apply go_rd h | apply go_rdN h | apply go_rlen h); rfl)
 | (with_reducible first | apply go_ldN h | apply go_lenL h)
 | ((with_reducible apply go_st h); intro _ h)
 | ((with_reducible apply go_stA h); rfl; rfl; (first | rfl | simp [OneV.o]); intro _ h)
 | ((with_reducible apply go_stN h); rfl; (first | rfl | simp [OneV.o]); intro _ h)
 | ((with_reducible apply go_box h); rfl; intro _ _ h)
 | ((with_reducible apply go_ix h); omega)
 | ((with_reducible first | apply go_elN h | apply go_f1 h | apply go_rf1 h | apply go_rel h); (case hi => omega); (try case hx => exact inferInstance); (try case hv => rfl))
 | ((with_reducible apply go_fa h); omega; omega)
))
    refine fbistime_spec ?_
    cases k4 : timeP c.at'
    · (repeat (first
 | (simp (disch := omega) only [evA, evB, evC, bAdd_i64, bSub_i64])
 | (with_reducible apply go_ld1 h)
 | ((with_reducible first | apply go_ldA h | apply go_rd h | apply go_rdN h | apply go_rlen h); rfl)
 | (with_reducible first | apply go_ldN h | apply go_lenL h)
 | ((with_reducible apply go_st h); intro _ h)
 | ((with_reducible apply go_stA h); rfl; rfl; (first | rfl | simp [OneV.o]); intro _ h)
 | ((with_reducible apply go_stN h); rfl; (first | rfl | simp [OneV.o]); intro _ h)
 | ((with_reducible apply go_box h); rfl; intro _ _ h)
 | ((with_reducible apply go_ix h); omega)
 | ((with_reducible first | apply go_elN h | apply go_f1 h | apply go_rf1 h | apply go_rel h); (case hi => omega); (try case hx => exact inferInstance); (try case hv => rfl))
 | ((with_reducible apply go_fa h); omega; omega)
))
      exact bad _ h.drop (by rw [k4]; simp)
    (repeat (first
 | (simp (disch := omega) only [evA, evB, evC, bAdd_i64, bSub_i64])
 | (with_reducible apply go_ld1 h)
 | ((with_reducible first | apply go_ldA h | apply go_rd h | apply go_rdN h | apply go_rlen h); rfl)
 | (with_reducible first | apply go_ldN h | apply go_lenL h)
 | ((with_reducible apply go_st h); intro _ h)
 | ((with_reducible apply go_stA h); rfl; rfl; (first | rfl | simp [OneV.o]); intro _ h)
 | ((with_reducible apply go_stN h); rfl; (first | rfl | simp [OneV.o]); intro _ h)
 | ((with_reducible apply go_box h); rfl; intro _ _ h)
 | ((with_reducible apply go_ix h); omega)
 | ((with_reducible first | apply go_elN h | apply go_f1 h | apply go_rf1 h | apply go_rel h); (case hi => omega); (try case hx => exact inferInstance); (try case hv => rfl))
 | ((with_reducible apply go_fa h); omega; omega)
))
    subst hev2
    (repeat (first
 | (simp (disch := omega) only [evA, evB, evC, bAdd_i64, bSub_i64])
 | (with_reducible apply go_ld1 h)
 | ((with_reducible first | apply go_ldA h | apply go_rd h | apply go_rdN h | apply go_rlen h); rfl)
 | (with_reducible first | apply go_ldN h | apply go_lenL h)
 | ((with_reducible apply go_st h); intro _ h)
 | ((with_reducible apply go_stA h); rfl; rfl; (first | rfl | simp [OneV.o]); intro _ h)
 | ((with_reducible apply go_stN h); rfl; (first | rfl | simp [OneV.o]); intro _ h)
 | ((with_reducible apply go_box h); rfl; intro _ _ h)
 | ((with_reducible apply go_ix h); omega)
 | ((with_reducible first | apply go_elN h | apply go_f1 h | apply go_rf1 h | apply go_rel h); (case hi => omega); (try case hx => exact inferInstance); (try case hv => rfl))
 | ((with_reducible apply go_fa h); omega; omega)
))
    by_cases k6 : c.times.length ≤ 1000
    · have k6' : decide ((c.times.length : Int) > 1000) = false := by rw [decide_eq_false_iff_not]; omega
      have k6d : decide (c.times.length ≤ 1000) = true := by simpa using k6
      rw [k6d, Bool.true_and] at hti
      (repeat (first
 | (simp (disch := omega) only [evA, evB, evC, bAdd_i64, bSub_i64, hl, k6'])
 | (with_reducible apply go_ld1 h)
 | ((with_reducible first | apply go_ldA h | apply go_rd h | apply go_rdN h | apply go_rlen h); rfl)
 | (with_reducible first | apply go_ldN h | apply go_lenL h)
 | ((with_reducible apply go_st h); intro _ h)
 | ((with_reducible apply go_stA h); rfl; rfl; (first | rfl | simp [OneV.o]); intro _ h)
 | ((with_reducible apply go_stN h); rfl; (first | rfl | simp [OneV.o]); intro _ h)
 | ((with_reducible apply go_box h); rfl; intro _ _ h)
 | ((with_reducible apply go_ix h); omega)
 | ((with_reducible first | apply go_elN h | apply go_f1 h | apply go_rf1 h | apply go_rel h); (case hi => omega); (try case hx => exact inferInstance); (try case hv => rfl))
 | ((with_reducible apply go_fa h); omega; omega)
))
      refine fchk_loop (by omega) hr (fun w' h => ?_) fuel 0 w (by have : fuel = 4611686018427387904 := rfl; omega) (by omega) rfl h
      have := hK _ h
      rw [e1, e2, k3, k4, hti] at this
      rw [okFrom_none]
      simpa using this
    · have k6' : decide ((c.times.length : Int) > 1000) = true := by rw [decide_eq_true_eq]; omega
      have k6d : decide (c.times.length ≤ 1000) = false := by simpa using k6
      rw [k6d, Bool.false_and] at hti
      (repeat (first
 | (simp (disch := omega) only [evA, evB, evC, bAdd_i64, bSub_i64, hl, k6'])
 | (with_reducible apply go_ld1 h)
 | ((with_reducible first | apply go_ldA h | apply go_rd h | apply go_rdN h | apply go_rlen h); rfl)
 | (with_reducible first | apply go_ldN h | apply go_lenL h)
 | ((with_reducible apply go_st h); intro _ h)
 | ((with_reducible apply go_stA h); rfl; rfl; (first | rfl | simp [OneV.o]); intro _ h)
 | ((with_reducible apply go_stN h); rfl; (first | rfl | simp [OneV.o]); intro _ h)
 | ((with_reducible apply go_box h); rfl; intro _ _ h)
 | ((with_reducible apply go_ix h); omega)
 | ((with_reducible first | apply go_elN h | apply go_f1 h | apply go_rf1 h | apply go_rel h); (case hi => omega); (try case hx => exact inferInstance); (try case hv => rfl))
 | ((with_reducible apply go_fa h); omega; omega)
))
      exact bad _ h.drop (by rw [hti]; simp)
end
end Go.Proofs.Gong
