/- A part of the proofs: what stands below it, told in lemmas. No condition. -/
import Derived.Test.YtjjnkobkjdopbaaGreatDoorP1
import Derived.Test.YtjjnkobkjdopbaaGreatDoorP2
import Derived.Test.YtjjnkobkjdopbaaGreatDoorP3
set_option linter.all false

/- Jr -/
namespace Go.Proofs.Gong
open Go Go.Sx Go.Proofs
set_option linter.all false
set_option maxRecDepth 100000
variable {kn kr : ET} {ke : JT}
def T17 : List (Nat × FnT) := []
def F17 (x0 : Value) (w : World) (K : V1) : Prop :=
bindP (pNil x0) fun v1 =>
bindP (pFieldAddr 2 v1) fun v2 =>
bindP (ld1 v2 w.drew) fun v3 =>
bindP (pNil x0) fun v4 =>
bindP (pFieldAddr 4 v4) fun v5 =>
bindP (ld1 v5 w.drew) fun v6 =>
bindP (lenL v6) fun v7 =>
bindP (bAdd v3 v7) fun v8 =>
bindP (bAdd v8 (.int .i64 1)) fun v9 =>
K v9 w.drew
def G17 : FnT := fun args w K => on1 (fun x0 => F17 x0 w K) args
theorem c17 {x0 : Value} {w : World} {K : V1} (h : F17 x0 w K) : callP G17 [x0] w K := callP_intro (on1_mk (p := fun x0 => F17 x0 w K) h)
theorem ok17 : OkF Tryz.prog 17 G17 := by
  refine okF_of (tab_ok (l := T17) trivial) mixed (n := fuel) Tryz.func17 Tryz.call17 fun args w K h => ?_
  obtain ⟨x0, rfl, hh⟩ := of_on1 h
  exact fnD_list (c := bodyOf Tryz.f17) (by kernel_rfl) (by kernel_rfl) (Eq.mp (by kernel_rfl) hh)
def T12 : List (Nat × FnT) := [(17, G17), (33, G33)]
def F12_2b (s3 : Value) (w : World) (K : V1) : Prop :=
K s3 w
def F12_2 (s3 : Value) (w : World) (K : V1) : Prop := F12_2b s3 w K
theorem ok12_2 {K : V1}
    (hn : HN (fun e w => K (e 2) w) kn) (hr : HR Tryz.prog [.tmp 2] K kr) (he : HE noE ke) :
    ∀ e w, F12_2 (e 3) w K → denL Tryz.prog (tabOf T12) 22 fuel ((flat (bodyOf Tryz.f12)).drop 4) e w kn kr ke := by
  intro e w h
  unfold F12_2 at h
  have e1 : ∀ (_ : Unit), F12_2b (e 3) w K = denL Tryz.prog (tabOf T12) 22 fuel ((flat (bodyOf Tryz.f12)).drop 4) e w (fun e w => K (e 2) w) (endD Tryz.prog [.tmp 2] K) noE := by intro _; kernel_rfl
  exact seg_end (Eq.mp (e1 ()) h) hn hr he
def F12_1b (s0 : Value) (w : World) (_K : V1) (Y0 : V1) : Prop :=
bindP (pNil s0) fun v1 =>
bindP (pFieldAddr 0 v1) fun v2 =>
bindP (ld1 v2 w.drew) fun v3 =>
bindP (pNil s0) fun v4 =>
bindP (pFieldAddr 6 v4) fun v5 =>
bindP (ld1 v5 w.drew) fun v6 =>
callP G33 [v3, v6] w.drew fun v8 w7 =>
bindP (bEq Tryz.prog 26 (.tmp 13) (.const (.int .i64 0)) v8 (.int .i64 0)) fun v9 =>
ifB v9 (
callP G17 [s0] w7 fun v11 w10 =>
bindP (bSub v11 (.int .i64 1)) fun v12 =>
bindP (pNil s0) fun v13 =>
bindP (pFieldAddr 5 v13) fun v14 =>
bindW (st 1 v14 v12 w10) fun w15 =>
Y0 v8 w15) (
Y0 v8 w7)
def F12_1 (s0 : Value) (w : World) (K : V1) : Prop := F12_1b s0 w K (fun a3 w => F12_2 a3 w K)
theorem ok12_1 {K : V1}
    (hn : HN (fun e w => K (e 2) w) kn) (hr : HR Tryz.prog [.tmp 2] K kr) (he : HE noE ke) :
    ∀ e w, F12_1 (e 0) w K → denL Tryz.prog (tabOf T12) 22 fuel ((flat (bodyOf Tryz.f12)).drop 0) e w kn kr ke := by
  intro e w h
  unfold F12_1 at h
  have e1 : ∀ (Y0 : V1), F12_1b (e 0) w K Y0 = denL Tryz.prog (tabOf T12) 22 fuel (((flat (bodyOf Tryz.f12)).drop 0).take 4) e w (fun e w => Y0 (e 3) w) (endD Tryz.prog [.tmp 2] K) noE := by intro Y0; kernel_rfl
  exact seg 4 (Eq.mp (e1 (fun a3 w => F12_2 a3 w K)) h) (fun e w h => ok12_2 hn hr he e w h) hr he
def F12 (x0 : Value) (w : World) (K : V1) : Prop := F12_1 x0 w K
def G12 : FnT := fun args w K => on1 (fun x0 => F12 x0 w K) args
theorem c12 {x0 : Value} {w : World} {K : V1} (h : F12 x0 w K) : callP G12 [x0] w K := callP_intro (on1_mk (p := fun x0 => F12 x0 w K) h)
theorem ok12 : OkF Tryz.prog 12 G12 := by
  refine okF_of (tab_ok (l := T12) ⟨ok17, ok33, trivial⟩) mixed (n := fuel) Tryz.func12 Tryz.call12 fun args w K h => ?_
  obtain ⟨x0, rfl, hh⟩ := of_on1 h
  unfold F12 at hh
  exact fnD_list (c := bodyOf Tryz.f12) (by kernel_rfl) (by kernel_rfl) (ok12_1 (fun _ _ h => h) (fun _ _ h => h) (fun _ _ _ h => h) (initE [x0]) w hh)
def T37 : List (Nat × FnT) := [(34, G34), (63, G63)]
def F37 (x0 x1 : Value) (w : World) (K : V1) : Prop :=
bindP (pNil x0) fun v1 =>
bindP (pFieldAddr 0 v1) fun v2 =>
bindP (ld1 v2 w) fun v3 =>
callP G34 [v3] w fun v5 w4 =>
callP G63 [v5, x1] w4 fun v7 w6 =>
K v7 w6
def G37 : FnT := fun args w K => on2 (fun x0 x1 => F37 x0 x1 w K) args
theorem c37 {x0 x1 : Value} {w : World} {K : V1} (h : F37 x0 x1 w K) : callP G37 [x0, x1] w K := callP_intro (on2_mk (p := fun x0 x1 => F37 x0 x1 w K) h)
theorem ok37 : OkF Tryz.prog 37 G37 := by
  refine okF_of (tab_ok (l := T37) ⟨ok34, ok63, trivial⟩) mixed (n := fuel) Tryz.func37 Tryz.call37 fun args w K h => ?_
  obtain ⟨x0, x1, rfl, hh⟩ := of_on2 h
  exact fnD_list (c := bodyOf Tryz.f37) (by kernel_rfl) (by kernel_rfl) (Eq.mp (by kernel_rfl) hh)
def T21 : List (Nat × FnT) := [(37, G37), (38, G38)]
def F21 (x0 x1 : Value) (w : World) (K : V1) : Prop :=
callP G37 [x0, x1] w fun v2 w1 =>
bindP (uNot v2) fun v3 =>
ifB v3 (
K (.int .i64 0) w1) (
bindP (pNil x0) fun v4 =>
bindP (pFieldAddr 0 v4) fun v5 =>
bindP (ld1 v5 w1) fun v6 =>
callP G38 [v6, x1] w1 fun v8 w7 =>
K v8 w7)
def G21 : FnT := fun args w K => on2 (fun x0 x1 => F21 x0 x1 w K) args
theorem c21 {x0 x1 : Value} {w : World} {K : V1} (h : F21 x0 x1 w K) : callP G21 [x0, x1] w K := callP_intro (on2_mk (p := fun x0 x1 => F21 x0 x1 w K) h)
theorem ok21 : OkF Tryz.prog 21 G21 := by
  refine okF_of (tab_ok (l := T21) ⟨ok37, ok38, trivial⟩) mixed (n := fuel) Tryz.func21 Tryz.call21 fun args w K h => ?_
  obtain ⟨x0, x1, rfl, hh⟩ := of_on2 h
  exact fnD_list (c := bodyOf Tryz.f21) (by kernel_rfl) (by kernel_rfl) (Eq.mp (by kernel_rfl) hh)
def T20 : List (Nat × FnT) := [(21, G21)]
def F20 (x0 : Value) (w : World) (K : V1) : Prop :=
bindP (ld1 x0 w) fun v1 =>
callP G21 [v1, (.string ⟨#[115, 110, 97, 112, 46, 110, 101, 119]⟩)] w fun v3 w2 =>
K v3 w2
def G20 : FnT := fun args w K => on1 (fun x0 => F20 x0 w K) args
theorem c20 {x0 : Value} {w : World} {K : V1} (h : F20 x0 w K) : callP G20 [x0] w K := callP_intro (on1_mk (p := fun x0 => F20 x0 w K) h)
theorem ok20 : OkF Tryz.prog 20 G20 := by
  refine okF_of (tab_ok (l := T20) ⟨ok21, trivial⟩) mixed (n := fuel) Tryz.func20 Tryz.call20 fun args w K h => ?_
  obtain ⟨x0, rfl, hh⟩ := of_on1 h
  exact fnD_list (c := bodyOf Tryz.f20) (by kernel_rfl) (by kernel_rfl) (Eq.mp (by kernel_rfl) hh)
def T22 : List (Nat × FnT) := [(39, G39), (40, G40), (41, G41), (42, G42), (43, G43), (44, G44), (45, G45)]
def F22 (x0 : Value) (w : World) (K : V1) : Prop :=
bindP (pNil x0) fun v1 =>
bindP (pFieldAddr 0 v1) fun v2 =>
bindP (ld1 v2 w) fun v3 =>
callP G39 [v3, (.string ⟨#[115, 110, 97, 112]⟩)] w fun v5 w4 =>
bindP (pTuple v5 0) fun v6 =>
bindP (pTuple v5 1) fun v7 =>
bindP (bNe Tryz.prog 26 (.tmp 16) (.const (.int .i64 0)) v7 (.int .i64 0)) fun v8 =>
ifB v8 (
K (.int .i64 0) w4) (
callP G40 [v6] w4 fun v10 w9 =>
bindP (pTuple v10 0) fun v11 =>
bindP (pTuple v10 1) fun v12 =>
bindP (pTuple v10 2) fun v13 =>
callP G41 [v11] w9 fun v15 w14 =>
callP G42 [v15, (.int .i64 8)] w14 fun v17 w16 =>
bindP (pNil x0) fun v18 =>
bindP (pFieldAddr 2 v18) fun v19 =>
bindW (st 1 v19 v17 w16) fun w20 =>
callP G44 [v15] w20 fun v23 w22 =>
callP G43 [v15, v23] w22 fun v25 w24 =>
bindP (pNil x0) fun v26 =>
bindP (pFieldAddr 3 v26) fun v27 =>
bindW (st 1 v27 v25 w24) fun w28 =>
bindP (bNe Tryz.prog 26 (.tmp 38) (.const (.int .i64 0)) v13 (.int .i64 0)) fun v30 =>
stepM (gd false v30) v12 fun v31 =>
Sx.stepG (gd false v30) (bNe Tryz.prog 9 (.tmp 41) (.const (.string ⟨#[]⟩)) v31 (.string ⟨#[]⟩)) fun v32 =>
bindP (pPick v30 (.bool true) v32) fun v33 =>
stepM (gd false v33) v15 fun v34 =>
stepE (gd false v33) (fun k => callP G45 [v34] w28 k) w28 fun v36 w35 =>
Sx.stepG (gd false v33) (bNe Tryz.prog 26 (.tmp 46) (.const (.int .i64 0)) v36 (.int .i64 0)) fun v37 =>
bindP (pPick v33 (.bool true) v37) fun v38 =>
ifB v38 (
K (.int .i64 270) w35) (
K (.int .i64 0) w35))
def G22 : FnT := fun args w K => on1 (fun x0 => F22 x0 w K) args
theorem c22 {x0 : Value} {w : World} {K : V1} (h : F22 x0 w K) : callP G22 [x0] w K := callP_intro (on1_mk (p := fun x0 => F22 x0 w K) h)
theorem ok22 : OkF Tryz.prog 22 G22 := by
  refine okF_of (tab_ok (l := T22) ⟨ok39, ok40, ok41, ok42, ok43, ok44, ok45, trivial⟩) mixed (n := fuel) Tryz.func22 Tryz.call22 fun args w K h => ?_
  obtain ⟨x0, rfl, hh⟩ := of_on1 h
  exact fnD_list (c := bodyOf Tryz.f22) (by kernel_rfl) (by kernel_rfl) (Eq.mp (by kernel_rfl) hh)
def T48 : List (Nat × FnT) := [(73, G73), (74, G74)]
def F48 (x0 : Value) (w : World) (K : V1) : Prop :=
callP G73 [x0, (.int .i64 16)] w fun v2 w1 =>
bindP (lenS v2) fun v3 =>
bindP (bSub (.int .i64 8) v3) fun v4 =>
bindP (pMax (.int .i64 0) v4) fun v5 =>
callP G74 [(.string ⟨#[48]⟩), v5] w1 fun v7 w6 =>
bindP (bAdd (.string ⟨#[108, 111, 103, 46]⟩) v7) fun v8 =>
bindP (bAdd v8 v2) fun v9 =>
K v9 w6
def G48 : FnT := fun args w K => on1 (fun x0 => F48 x0 w K) args
theorem c48 {x0 : Value} {w : World} {K : V1} (h : F48 x0 w K) : callP G48 [x0] w K := callP_intro (on1_mk (p := fun x0 => F48 x0 w K) h)
theorem ok48 : OkF Tryz.prog 48 G48 := by
  refine okF_of (tab_ok (l := T48) ⟨ok73, ok74, trivial⟩) mixed (n := fuel) Tryz.func48 Tryz.call48 fun args w K h => ?_
  obtain ⟨x0, rfl, hh⟩ := of_on1 h
  exact fnD_list (c := bodyOf Tryz.f48) (by kernel_rfl) (by kernel_rfl) (Eq.mp (by kernel_rfl) hh)
def T69 : List (Nat × FnT) := [(48, G48), (84, G84), (85, G85)]
def F69 (x0 : Value) (w : World) (K : V1) : Prop :=
callP G84 [x0, (.string ⟨#[108, 111, 103, 46]⟩)] w fun v2 w1 =>
bindP (pTuple v2 0) fun v3 =>
bindP (pTuple v2 1) fun v4 =>
callP G85 [v3, (.int .i64 16), (.int .i64 64)] w1 fun v6 w5 =>
bindP (pTuple v6 0) fun v7 =>
bindP (pTuple v6 1) fun v8 =>
bindP (uNot v4) fun v9 =>
stepM (gd false v9) v8 fun v10 =>
Sx.stepG (gd false v9) (bNe Tryz.prog 99 (.tmp 20) (.const .nilIface) v10 .nilIface) fun v11 =>
bindP (pPick v9 (.bool true) v11) fun v12 =>
stepM (gd false v12) v7 fun v13 =>
Sx.stepG (gd false v12) (bLt v13 (.int .i64 1)) fun v14 =>
bindP (pPick v12 (.bool true) v14) fun v15 =>
stepM (gd false v15) v7 fun v16 =>
stepE (gd false v15) (fun k => callP G48 [v16] w5 k) w5 fun v18 w17 =>
stepM (gd false v15) x0 fun v19 =>
Sx.stepG (gd false v15) (bNe Tryz.prog 9 (.tmp 29) (.tmp 30) v18 v19) fun v20 =>
bindP (pPick v15 (.bool true) v20) fun v21 =>
ifB v21 (
K (.int .i64 0) w17) (
K v7 w17)
def G69 : FnT := fun args w K => on1 (fun x0 => F69 x0 w K) args
theorem c69 {x0 : Value} {w : World} {K : V1} (h : F69 x0 w K) : callP G69 [x0] w K := callP_intro (on1_mk (p := fun x0 => F69 x0 w K) h)
theorem ok69 : OkF Tryz.prog 69 G69 := by
  refine okF_of (tab_ok (l := T69) ⟨ok48, ok84, ok85, trivial⟩) mixed (n := fuel) Tryz.func69 Tryz.call69 fun args w K h => ?_
  obtain ⟨x0, rfl, hh⟩ := of_on1 h
  exact fnD_list (c := bodyOf Tryz.f69) (by kernel_rfl) (by kernel_rfl) (Eq.mp (by kernel_rfl) hh)
def T46 : List (Nat × FnT) := [(34, G34), (69, G69), (70, G70)]
def F46_3b (s3 : Value) (w : World) (K : V1) : Prop :=
callP G70 [s3] w fun _ w1 =>
K s3 w1
def F46_3 (s3 : Value) (w : World) (K : V1) : Prop := F46_3b s3 w K
theorem ok46_3 {K : V1}
    (hn : HN (fun e w => K (e 2) w) kn) (hr : HR Tryz.prog [.tmp 2] K kr) (he : HE noE ke) :
    ∀ e w, F46_3 (e 3) w K → denL Tryz.prog (tabOf T46) 29 fuel ((flat (bodyOf Tryz.f46)).drop 4) e w kn kr ke := by
  intro e w h
  unfold F46_3 at h
  have e1 : ∀ (_ : Unit), F46_3b (e 3) w K = denL Tryz.prog (tabOf T46) 29 fuel ((flat (bodyOf Tryz.f46)).drop 4) e w (fun e w => K (e 2) w) (endD Tryz.prog [.tmp 2] K) noE := by intro _; kernel_rfl
  exact seg_end (Eq.mp (e1 ()) h) hn hr he
def F46_5b (s3 s11 s12 s13 : Value) (w : World) (_K : V1) (R3 : V4) : Prop :=
bindP (bAdd s13 (.int .i64 1)) fun v3 =>
R3 s3 s11 s12 v3 w
def F46_5 (s3 s11 s12 s13 : Value) (w : World) (K : V1) (R3 : V4) : Prop := F46_5b s3 s11 s12 s13 w K R3
theorem ok46_5 (R3 : V4) {K : V1}
    (hn : HN (fun e w => R3 (e 3) (e 11) (e 12) (e 13) w) kn) (hr : HR Tryz.prog [.tmp 2] K kr) (he : HE (blkK 0 (fun e w => F46_3 (e 3) w K) noE) ke) :
    ∀ e w, F46_5 (e 3) (e 11) (e 12) (e 13) w K R3 → denL Tryz.prog (tabOf T46) 29 fuel ((flat (loopB (blkB (nthC (flat (bodyOf Tryz.f46)) 3)))).drop 3) e w kn kr ke := by
  intro e w h
  unfold F46_5 at h
  have e1 : ∀ (_ : Unit), F46_5b (e 3) (e 11) (e 12) (e 13) w K R3 = denL Tryz.prog (tabOf T46) 29 fuel ((flat (loopB (blkB (nthC (flat (bodyOf Tryz.f46)) 3)))).drop 3) e w (fun e w => R3 (e 3) (e 11) (e 12) (e 13) w) (endD Tryz.prog [.tmp 2] K) (blkK 0 (fun e w => F46_3 (e 3) w K) noE) := by intro _; kernel_rfl
  exact seg_end (Eq.mp (e1 ()) h) hn hr he
def F46_4b (s3 s11 s12 s13 : Value) (w : World) (_K : V1) (R3 : V4) (Y0 : V4) (Y1 : V1) : Prop :=
bindP (bLt s13 s12) fun v4 =>
ifB v4 (
bindP (pIndexL 1 s11 s13) fun v5 =>
bindP (ld1 v5 w) fun v6 =>
callP G69 [v6] w fun v8 w7 =>
bindP (bGt v8 (.int .i64 0)) fun v9 =>
ifB v9 (
eBuildSl Tryz.prog 45 1 [(0, v8)] w7 fun v11 w10 =>
eAppend Tryz.prog 45 45 s3 v11 w10 fun v13 w12 =>
Y0 v13 s11 s12 s13 w12) (
Y0 s3 s11 s12 s13 w7)) (
Y1 s3 w)
def F46_4 (s3 s11 s12 s13 : Value) (w : World) (K : V1) (R3 : V4) : Prop := F46_4b s3 s11 s12 s13 w K R3 (fun a3 a11 a12 a13 w => F46_5 a3 a11 a12 a13 w K R3) (fun a3 w => F46_3 a3 w K)
theorem ok46_4 (R3 : V4) {K : V1}
    (hn : HN (fun e w => R3 (e 3) (e 11) (e 12) (e 13) w) kn) (hr : HR Tryz.prog [.tmp 2] K kr) (he : HE (blkK 0 (fun e w => F46_3 (e 3) w K) noE) ke) :
    ∀ e w, F46_4 (e 3) (e 11) (e 12) (e 13) w K R3 → denL Tryz.prog (tabOf T46) 29 fuel ((flat (loopB (blkB (nthC (flat (bodyOf Tryz.f46)) 3)))).drop 0) e w kn kr ke := by
  intro e w h
  unfold F46_4 at h
  have e1 : ∀ (Y0 : V4) (Y1 : V1), F46_4b (e 3) (e 11) (e 12) (e 13) w K R3 Y0 Y1 = denL Tryz.prog (tabOf T46) 29 fuel (((flat (loopB (blkB (nthC (flat (bodyOf Tryz.f46)) 3)))).drop 0).take 3) e w (fun e w => Y0 (e 3) (e 11) (e 12) (e 13) w) (endD Tryz.prog [.tmp 2] K) (blkK 0 (fun e w => Y1 (e 3) w) noE) := by intro Y0 Y1; kernel_rfl
  exact seg 3 (Eq.mp (e1 (fun a3 a11 a12 a13 w => F46_5 a3 a11 a12 a13 w K R3) (fun a3 w => F46_3 a3 w K)) h) (fun e w h => ok46_5 R3 hn hr he e w h) hr he
def F46_2L : Nat → Value → Value → Value → Value → World → (V1) → Prop
  | 0, _, _, _, _, _, _ => False
  | n + 1, s3, s11, s12, s13, w, K => F46_4 s3 s11 s12 s13 w K (fun a3 a11 a12 a13 w => F46_2L n a3 a11 a12 a13 w K)
def F46_2 (s3 s11 s12 s13 : Value) (w : World) (K : V1) : Prop := F46_2L fuel s3 s11 s12 s13 w K
theorem ok46_2 {K : V1}
    (hn : HN (fun e w => K (e 2) w) kn) (hr : HR Tryz.prog [.tmp 2] K kr) (he : HE noE ke) :
    ∀ e w, F46_2 (e 3) (e 11) (e 12) (e 13) w K → denL Tryz.prog (tabOf T46) 29 fuel ((flat (bodyOf Tryz.f46)).drop 3) e w kn kr ke := by
  intro e w h
  unfold F46_2 at h
  refine seg_loop (id := 0) (body := (loopB (blkB (nthC (flat (bodyOf Tryz.f46)) 3)))) (l2 := (flat (bodyOf Tryz.f46)).drop 4) (by kernel_rfl) ?_
  refine loop_ok (FL := fun m e w => F46_2L m (e 3) (e 11) (e 12) (e 13) w K) (fr := endD Tryz.prog [.tmp 2] K) (fe := (blkK 0 (fun e w => F46_3 (e 3) w K) noE)) (fun _ _ h => h) ?_ hr (blkK_mono (fun e w h => ok46_3 hn hr he e w h) he) fuel e w h
  intro m e w h
  have h : F46_2L (m + 1) (e 3) (e 11) (e 12) (e 13) w K := h
  rw [F46_2L] at h
  exact ok46_4 (fun a3 a11 a12 a13 w => F46_2L m a3 a11 a12 a13 w K) (fun _ _ h => h) (fun _ _ h => h) (fun _ _ _ h => h) e w h
def F46_1b (s0 : Value) (w : World) (_K : V1) (Y0 : V4) : Prop :=
bindP (pNil s0) fun v14 =>
bindP (pFieldAddr 0 v14) fun v15 =>
bindP (ld1 v15 w) fun v16 =>
callP G34 [v16] w fun v18 w17 =>
bindP (lenL v18) fun v19 =>
Y0 (.slice none 0 0) v18 v19 (.int .i64 0) w17
def F46_1 (s0 : Value) (w : World) (K : V1) : Prop := F46_1b s0 w K (fun a3 a11 a12 a13 w => F46_2 a3 a11 a12 a13 w K)
theorem ok46_1 {K : V1}
    (hn : HN (fun e w => K (e 2) w) kn) (hr : HR Tryz.prog [.tmp 2] K kr) (he : HE noE ke) :
    ∀ e w, F46_1 (e 0) w K → denL Tryz.prog (tabOf T46) 29 fuel ((flat (bodyOf Tryz.f46)).drop 0) e w kn kr ke := by
  intro e w h
  unfold F46_1 at h
  have e1 : ∀ (Y0 : V4), F46_1b (e 0) w K Y0 = denL Tryz.prog (tabOf T46) 29 fuel (((flat (bodyOf Tryz.f46)).drop 0).take 3) e w (fun e w => Y0 (e 3) (e 11) (e 12) (e 13) w) (endD Tryz.prog [.tmp 2] K) noE := by intro Y0; kernel_rfl
  exact seg 3 (Eq.mp (e1 (fun a3 a11 a12 a13 w => F46_2 a3 a11 a12 a13 w K)) h) (fun e w h => ok46_2 hn hr he e w h) hr he
def F46 (x0 : Value) (w : World) (K : V1) : Prop := F46_1 x0 w K
def G46 : FnT := fun args w K => on1 (fun x0 => F46 x0 w K) args
theorem c46 {x0 : Value} {w : World} {K : V1} (h : F46 x0 w K) : callP G46 [x0] w K := callP_intro (on1_mk (p := fun x0 => F46 x0 w K) h)
theorem ok46 : OkF Tryz.prog 46 G46 := by
  refine okF_of (tab_ok (l := T46) ⟨ok34, ok69, ok70, trivial⟩) mixed (n := fuel) Tryz.func46 Tryz.call46 fun args w K h => ?_
  obtain ⟨x0, rfl, hh⟩ := of_on1 h
  unfold F46 at hh
  exact fnD_list (c := bodyOf Tryz.f46) (by kernel_rfl) (by kernel_rfl) (ok46_1 (fun _ _ h => h) (fun _ _ h => h) (fun _ _ _ h => h) (initE [x0]) w hh)
def T47 : List (Nat × FnT) := [(17, G17), (33, G33), (38, G38), (39, G39), (48, G48), (71, G71), (72, G72)]
def F47_3b (s0 s8 s9 s12 : Value) (w : World) (K : V1) : Prop :=
bindP (lenS s9) fun v1 =>
bindP (bEq Tryz.prog 3 (.tmp 81) (.tmp 83) s12 v1) fun v2 =>
bindP (pNil s0) fun v3 =>
bindP (pFieldAddr 0 v3) fun v4 =>
bindP (ld1 v4 w) fun v5 =>
callP G33 [v5, s8] w fun v7 w6 =>
K (.tuple #[v2, v7]) w6
def F47_3 (s0 s8 s9 s12 : Value) (w : World) (K : V1) : Prop := F47_3b s0 s8 s9 s12 w K
theorem ok47_3 {K : V1}
    (hn : HN (fun e w => K (.tuple #[(e 6), (e 7)]) w) kn) (hr : HR Tryz.prog [.tmp 6, .tmp 7] K kr) (he : HE noE ke) :
    ∀ e w, F47_3 (e 0) (e 8) (e 9) (e 12) w K → denL Tryz.prog (tabOf T47) 91 fuel ((flat (bodyOf Tryz.f47)).drop 11) e w kn kr ke := by
  intro e w h
  unfold F47_3 at h
  have e1 : ∀ (_ : Unit), F47_3b (e 0) (e 8) (e 9) (e 12) w K = denL Tryz.prog (tabOf T47) 91 fuel ((flat (bodyOf Tryz.f47)).drop 11) e w (fun e w => K (.tuple #[(e 6), (e 7)]) w) (endD Tryz.prog [.tmp 6, .tmp 7] K) noE := by intro _; kernel_rfl
  exact seg_end (Eq.mp (e1 ()) h) hn hr he
def F47_2b (s0 s1 s8 s9 s11 s12 : Value) (w : World) (_K : V1) (Y0 : V4) : Prop :=
callP G17 [s0] w fun v9 w8 =>
bindP (bSub v9 s1) fun v10 =>
bindP (lenL s11) fun v11 =>
bindP (bLe v10 v11) fun v12 =>
ifB v12 (
bindP (pNil s0) fun v13 =>
bindP (pFieldAddr 4 v13) fun v14 =>
bindP (ld1 v14 w8.drew) fun v15 =>
bindP (pSliceL 1 s11 (some v10) none none) fun v16 =>
eAppend Tryz.prog 22 22 v15 v16 w8.drew fun v18 w17 =>
bindP (pNil s0) fun v19 =>
bindP (pFieldAddr 4 v19) fun v20 =>
bindW (st 1 v20 v18 w17) fun w21 =>
bindP (pNil s0) fun v23 =>
bindP (pFieldAddr 6 v23) fun v24 =>
bindW (st 1 v24 s8 w21) fun w25 =>
Y0 s0 s8 s9 s12 w25) (
Y0 s0 s8 s9 s12 w8)
def F47_2 (s0 s1 s8 s9 s11 s12 : Value) (w : World) (K : V1) : Prop := F47_2b s0 s1 s8 s9 s11 s12 w K (fun a0 a8 a9 a12 w => F47_3 a0 a8 a9 a12 w K)
theorem ok47_2 {K : V1}
    (hn : HN (fun e w => K (.tuple #[(e 6), (e 7)]) w) kn) (hr : HR Tryz.prog [.tmp 6, .tmp 7] K kr) (he : HE noE ke) :
    ∀ e w, F47_2 (e 0) (e 1) (e 8) (e 9) (e 11) (e 12) w K → denL Tryz.prog (tabOf T47) 91 fuel ((flat (bodyOf Tryz.f47)).drop 8) e w kn kr ke := by
  intro e w h
  unfold F47_2 at h
  have e1 : ∀ (Y0 : V4), F47_2b (e 0) (e 1) (e 8) (e 9) (e 11) (e 12) w K Y0 = denL Tryz.prog (tabOf T47) 91 fuel (((flat (bodyOf Tryz.f47)).drop 8).take 3) e w (fun e w => Y0 (e 0) (e 8) (e 9) (e 12) w) (endD Tryz.prog [.tmp 6, .tmp 7] K) noE := by intro Y0; kernel_rfl
  exact seg 3 (Eq.mp (e1 (fun a0 a8 a9 a12 w => F47_3 a0 a8 a9 a12 w K)) h) (fun e w h => ok47_3 hn hr he e w h) hr he
def F47_1b (s0 s1 s2 : Value) (w : World) (K : V1) (Y0 : V6) : Prop :=
callP G48 [s1] w fun v28 w27 =>
bindP (pNil s0) fun v29 =>
bindP (pFieldAddr 0 v29) fun v30 =>
bindP (ld1 v30 w27) fun v31 =>
callP G39 [v31, v28] w27 fun v33 w32 =>
bindP (pTuple v33 0) fun v34 =>
bindP (pTuple v33 1) fun _ =>
callP G71 [v34] w32 fun v37 w36 =>
bindP (pTuple v37 0) fun v38 =>
bindP (pTuple v37 1) fun v39 =>
stepM (gd false s2) s1 fun v40 =>
stepM (gd false s2) s0 fun v41 =>
stepE (gd false s2) (fun k => callP G17 [v41] w36 k) w36 fun v43 w42 =>
Sx.stepG (gd false s2) (bGt v40 v43) fun v44 =>
bindP (pPick s2 (.bool true) v44) fun v45 =>
ifB v45 (
bindP (pNil s0) fun v46 =>
bindP (pFieldAddr 0 v46) fun v47 =>
bindP (ld1 v47 w42) fun v48 =>
callP G38 [v48, v28] w42 fun v50 w49 =>
K (.tuple #[(.bool false), v50]) w49) (
bindP (lenS v34) fun v51 =>
bindP (bLt v39 v51) fun v52 =>
ifB v52 (
bindP (pNil s0) fun v53 =>
bindP (pFieldAddr 0 v53) fun v54 =>
bindP (ld1 v54 w42) fun v55 =>
callP G72 [v55, v28, v39] w42 fun v57 w56 =>
bindP (bNe Tryz.prog 26 (.tmp 55) (.const (.int .i64 0)) v57 (.int .i64 0)) fun v58 =>
ifB v58 (
K (.tuple #[(.bool false), v57]) w56) (
Y0 s0 s1 v28 v34 v38 v39 w56)) (
Y0 s0 s1 v28 v34 v38 v39 w42))
def F47_1 (s0 s1 s2 : Value) (w : World) (K : V1) : Prop := F47_1b s0 s1 s2 w K (fun a0 a1 a8 a9 a11 a12 w => F47_2 a0 a1 a8 a9 a11 a12 w K)
theorem ok47_1 {K : V1}
    (hn : HN (fun e w => K (.tuple #[(e 6), (e 7)]) w) kn) (hr : HR Tryz.prog [.tmp 6, .tmp 7] K kr) (he : HE noE ke) :
    ∀ e w, F47_1 (e 0) (e 1) (e 2) w K → denL Tryz.prog (tabOf T47) 91 fuel ((flat (bodyOf Tryz.f47)).drop 0) e w kn kr ke := by
  intro e w h
  unfold F47_1 at h
  have e1 : ∀ (Y0 : V6), F47_1b (e 0) (e 1) (e 2) w K Y0 = denL Tryz.prog (tabOf T47) 91 fuel (((flat (bodyOf Tryz.f47)).drop 0).take 8) e w (fun e w => Y0 (e 0) (e 1) (e 8) (e 9) (e 11) (e 12) w) (endD Tryz.prog [.tmp 6, .tmp 7] K) noE := by intro Y0; kernel_rfl
  exact seg 8 (Eq.mp (e1 (fun a0 a1 a8 a9 a11 a12 w => F47_2 a0 a1 a8 a9 a11 a12 w K)) h) (fun e w h => ok47_2 hn hr he e w h) hr he
def F47 (x0 x1 x2 : Value) (w : World) (K : V1) : Prop := F47_1 x0 x1 x2 w K
def G47 : FnT := fun args w K => on3 (fun x0 x1 x2 => F47 x0 x1 x2 w K) args
theorem c47 {x0 x1 x2 : Value} {w : World} {K : V1} (h : F47 x0 x1 x2 w K) : callP G47 [x0, x1, x2] w K := callP_intro (on3_mk (p := fun x0 x1 x2 => F47 x0 x1 x2 w K) h)
theorem ok47 : OkF Tryz.prog 47 G47 := by
  refine okF_of (tab_ok (l := T47) ⟨ok17, ok33, ok38, ok39, ok48, ok71, ok72, trivial⟩) mixed (n := fuel) Tryz.func47 Tryz.call47 fun args w K h => ?_
  obtain ⟨x0, x1, x2, rfl, hh⟩ := of_on3 h
  unfold F47 at hh
  exact fnD_list (c := bodyOf Tryz.f47) (by kernel_rfl) (by kernel_rfl) (ok47_1 (fun _ _ h => h) (fun _ _ h => h) (fun _ _ _ h => h) (initE [x0, x1, x2]) w hh)
def T23 : List (Nat × FnT) := [(46, G46), (47, G47)]
def F23_3b (w : World) (K : V1) : Prop :=
K (.int .i64 0) w
def F23_3 (w : World) (K : V1) : Prop := F23_3b w K
theorem ok23_3 {K : V1}
    (hn : HN (fun e w => K (e 2) w) kn) (hr : HR Tryz.prog [.tmp 2] K kr) (he : HE noE ke) :
    ∀ e w, F23_3 w K → denL Tryz.prog (tabOf T23) 31 fuel ((flat (bodyOf Tryz.f23)).drop 4) e w kn kr ke := by
  intro e w h
  unfold F23_3 at h
  have e1 : ∀ (_ : Unit), F23_3b w K = denL Tryz.prog (tabOf T23) 31 fuel ((flat (bodyOf Tryz.f23)).drop 4) e w (fun e w => K (e 2) w) (endD Tryz.prog [.tmp 2] K) noE := by intro _; kernel_rfl
  exact seg_end (Eq.mp (e1 ()) h) hn hr he
def F23_2b (s0 s3 s9 s10 s11 : Value) (w : World) (K : V1) (Y0 : V5) (Y1 : V0) : Prop :=
bindP (bLt s11 s10) fun v1 =>
ifB v1 (
bindP (pIndexL 1 s9 s11) fun v2 =>
bindP (ld1 v2 w) fun v3 =>
callP G47 [s0, v3, s3] w fun v5 w4 =>
bindP (pTuple v5 0) fun v6 =>
bindP (pTuple v5 1) fun v7 =>
bindP (bNe Tryz.prog 26 (.tmp 22) (.const (.int .i64 0)) v7 (.int .i64 0)) fun v8 =>
ifB v8 (
K v7 w4) (
stepM (gd false s3) v6 fun v9 =>
Sx.stepG (gd false s3) (uNot v9) fun v10 =>
bindP (pPick s3 (.bool true) v10) fun v11 =>
bindP (bAdd s11 (.int .i64 1)) fun v12 =>
Y0 s0 v11 s9 s10 v12 w4)) (
Y1 w)
def F23_2L : Nat → Value → Value → Value → Value → Value → World → (V1) → Prop
  | 0, _, _, _, _, _, _, _ => False
  | n + 1, s0, s3, s9, s10, s11, w, K => F23_2b s0 s3 s9 s10 s11 w K (fun a0 a3 a9 a10 a11 w => F23_2L n a0 a3 a9 a10 a11 w K) (fun w => F23_3 w K)
def F23_2 (s0 s3 s9 s10 s11 : Value) (w : World) (K : V1) : Prop := F23_2L fuel s0 s3 s9 s10 s11 w K
theorem ok23_2 {K : V1}
    (hn : HN (fun e w => K (e 2) w) kn) (hr : HR Tryz.prog [.tmp 2] K kr) (he : HE noE ke) :
    ∀ e w, F23_2 (e 0) (e 3) (e 9) (e 10) (e 11) w K → denL Tryz.prog (tabOf T23) 31 fuel ((flat (bodyOf Tryz.f23)).drop 3) e w kn kr ke := by
  intro e w h
  unfold F23_2 at h
  refine seg_loop (id := 0) (body := (loopB (blkB (nthC (flat (bodyOf Tryz.f23)) 3)))) (l2 := (flat (bodyOf Tryz.f23)).drop 4) (by kernel_rfl) ?_
  refine loop_ok (FL := fun m e w => F23_2L m (e 0) (e 3) (e 9) (e 10) (e 11) w K) (fr := endD Tryz.prog [.tmp 2] K) (fe := (blkK 0 (fun e w => F23_3 w K) noE)) (fun _ _ h => h) ?_ hr (blkK_mono (fun e w h => ok23_3 hn hr he e w h) he) fuel e w h
  intro m e w h
  have h : F23_2L (m + 1) (e 0) (e 3) (e 9) (e 10) (e 11) w K := h
  rw [F23_2L] at h
  have e1 : ∀ (Y0 : V5) (Y1 : V0), F23_2b (e 0) (e 3) (e 9) (e 10) (e 11) w K Y0 Y1 = denL Tryz.prog (tabOf T23) 31 fuel (flat (loopB (blkB (nthC (flat (bodyOf Tryz.f23)) 3)))) e w (fun e w => Y0 (e 0) (e 3) (e 9) (e 10) (e 11) w) (endD Tryz.prog [.tmp 2] K) (blkK 0 (fun e w => Y1 w) noE) := by intro Y0 Y1; kernel_rfl
  exact Eq.mp (e1 (fun a0 a3 a9 a10 a11 w => F23_2L m a0 a3 a9 a10 a11 w K) (fun w => F23_3 w K)) h
def F23_1b (s0 : Value) (w : World) (_K : V1) (Y0 : V5) : Prop :=
callP G46 [s0] w fun v14 w13 =>
bindP (lenL v14) fun v15 =>
Y0 s0 (.bool false) v14 v15 (.int .i64 0) w13
def F23_1 (s0 : Value) (w : World) (K : V1) : Prop := F23_1b s0 w K (fun a0 a3 a9 a10 a11 w => F23_2 a0 a3 a9 a10 a11 w K)
theorem ok23_1 {K : V1}
    (hn : HN (fun e w => K (e 2) w) kn) (hr : HR Tryz.prog [.tmp 2] K kr) (he : HE noE ke) :
    ∀ e w, F23_1 (e 0) w K → denL Tryz.prog (tabOf T23) 31 fuel ((flat (bodyOf Tryz.f23)).drop 0) e w kn kr ke := by
  intro e w h
  unfold F23_1 at h
  have e1 : ∀ (Y0 : V5), F23_1b (e 0) w K Y0 = denL Tryz.prog (tabOf T23) 31 fuel (((flat (bodyOf Tryz.f23)).drop 0).take 3) e w (fun e w => Y0 (e 0) (e 3) (e 9) (e 10) (e 11) w) (endD Tryz.prog [.tmp 2] K) noE := by intro Y0; kernel_rfl
  exact seg 3 (Eq.mp (e1 (fun a0 a3 a9 a10 a11 w => F23_2 a0 a3 a9 a10 a11 w K)) h) (fun e w h => ok23_2 hn hr he e w h) hr he
def F23 (x0 : Value) (w : World) (K : V1) : Prop := F23_1 x0 w K
def G23 : FnT := fun args w K => on1 (fun x0 => F23 x0 w K) args
theorem c23 {x0 : Value} {w : World} {K : V1} (h : F23 x0 w K) : callP G23 [x0] w K := callP_intro (on1_mk (p := fun x0 => F23 x0 w K) h)
theorem ok23 : OkF Tryz.prog 23 G23 := by
  refine okF_of (tab_ok (l := T23) ⟨ok46, ok47, trivial⟩) mixed (n := fuel) Tryz.func23 Tryz.call23 fun args w K h => ?_
  obtain ⟨x0, rfl, hh⟩ := of_on1 h
  unfold F23 at hh
  exact fnD_list (c := bodyOf Tryz.f23) (by kernel_rfl) (by kernel_rfl) (ok23_1 (fun _ _ h => h) (fun _ _ h => h) (fun _ _ _ h => h) (initE [x0]) w hh)
def T32 : List (Nat × FnT) := [(17, G17), (37, G37), (48, G48), (57, G57)]
def F32_2b (s0 s3 : Value) (w : World) (K : V1) : Prop :=
bindP (pNil s0) fun v1 =>
bindP (pFieldAddr 6 v1) fun v2 =>
bindW (st 1 v2 s3 w) fun w3 =>
K (.int .i64 0) w3
def F32_2 (s0 s3 : Value) (w : World) (K : V1) : Prop := F32_2b s0 s3 w K
theorem ok32_2 {K : V1}
    (hn : HN (fun e w => K (e 2) w) kn) (hr : HR Tryz.prog [.tmp 2] K kr) (he : HE noE ke) :
    ∀ e w, F32_2 (e 0) (e 3) w K → denL Tryz.prog (tabOf T32) 25 fuel ((flat (bodyOf Tryz.f32)).drop 4) e w kn kr ke := by
  intro e w h
  unfold F32_2 at h
  have e1 : ∀ (_ : Unit), F32_2b (e 0) (e 3) w K = denL Tryz.prog (tabOf T32) 25 fuel ((flat (bodyOf Tryz.f32)).drop 4) e w (fun e w => K (e 2) w) (endD Tryz.prog [.tmp 2] K) noE := by intro _; kernel_rfl
  exact seg_end (Eq.mp (e1 ()) h) hn hr he
def F32_1b (s0 : Value) (w : World) (K : V1) (Y0 : V2) : Prop :=
callP G17 [s0] w fun v6 w5 =>
callP G48 [v6] w5 fun v8 w7 =>
callP G37 [s0, v8] w7 fun v10 w9 =>
bindP (uNot v10) fun v11 =>
ifB v11 (
bindP (pNil s0) fun v12 =>
bindP (pFieldAddr 0 v12) fun v13 =>
bindP (ld1 v13 w9) fun v14 =>
callP G57 [v14, v8] w9 fun v16 w15 =>
bindP (bNe Tryz.prog 26 (.tmp 18) (.const (.int .i64 0)) v16 (.int .i64 0)) fun v17 =>
ifB v17 (
K v16 w15) (
Y0 s0 v8 w15)) (
Y0 s0 v8 w9)
def F32_1 (s0 : Value) (w : World) (K : V1) : Prop := F32_1b s0 w K (fun a0 a3 w => F32_2 a0 a3 w K)
theorem ok32_1 {K : V1}
    (hn : HN (fun e w => K (e 2) w) kn) (hr : HR Tryz.prog [.tmp 2] K kr) (he : HE noE ke) :
    ∀ e w, F32_1 (e 0) w K → denL Tryz.prog (tabOf T32) 25 fuel ((flat (bodyOf Tryz.f32)).drop 0) e w kn kr ke := by
  intro e w h
  unfold F32_1 at h
  have e1 : ∀ (Y0 : V2), F32_1b (e 0) w K Y0 = denL Tryz.prog (tabOf T32) 25 fuel (((flat (bodyOf Tryz.f32)).drop 0).take 4) e w (fun e w => Y0 (e 0) (e 3) w) (endD Tryz.prog [.tmp 2] K) noE := by intro Y0; kernel_rfl
  exact seg 4 (Eq.mp (e1 (fun a0 a3 w => F32_2 a0 a3 w K)) h) (fun e w h => ok32_2 hn hr he e w h) hr he
def F32 (x0 : Value) (w : World) (K : V1) : Prop := F32_1 x0 w K
def G32 : FnT := fun args w K => on1 (fun x0 => F32 x0 w K) args
theorem c32 {x0 : Value} {w : World} {K : V1} (h : F32 x0 w K) : callP G32 [x0] w K := callP_intro (on1_mk (p := fun x0 => F32 x0 w K) h)
theorem ok32 : OkF Tryz.prog 32 G32 := by
  refine okF_of (tab_ok (l := T32) ⟨ok17, ok37, ok48, ok57, trivial⟩) mixed (n := fuel) Tryz.func32 Tryz.call32 fun args w K h => ?_
  obtain ⟨x0, rfl, hh⟩ := of_on1 h
  unfold F32 at hh
  exact fnD_list (c := bodyOf Tryz.f32) (by kernel_rfl) (by kernel_rfl) (ok32_1 (fun _ _ h => h) (fun _ _ h => h) (fun _ _ _ h => h) (initE [x0]) w hh)
def T24 : List (Nat × FnT) := [(32, G32)]
def F24 (x0 : Value) (w : World) (K : V1) : Prop :=
bindP (pNil x0) fun v1 =>
bindP (pFieldAddr 6 v1) fun v2 =>
bindP (ld1 v2 w) fun v3 =>
bindP (bNe Tryz.prog 9 (.tmp 6) (.const (.string ⟨#[]⟩)) v3 (.string ⟨#[]⟩)) fun v4 =>
ifB v4 (
K (.int .i64 0) w) (
callP G32 [x0] w fun v6 w5 =>
K v6 w5)
def G24 : FnT := fun args w K => on1 (fun x0 => F24 x0 w K) args
theorem c24 {x0 : Value} {w : World} {K : V1} (h : F24 x0 w K) : callP G24 [x0] w K := callP_intro (on1_mk (p := fun x0 => F24 x0 w K) h)
theorem ok24 : OkF Tryz.prog 24 G24 := by
  refine okF_of (tab_ok (l := T24) ⟨ok32, trivial⟩) mixed (n := fuel) Tryz.func24 Tryz.call24 fun args w K h => ?_
  obtain ⟨x0, rfl, hh⟩ := of_on1 h
  exact fnD_list (c := bodyOf Tryz.f24) (by kernel_rfl) (by kernel_rfl) (Eq.mp (by kernel_rfl) hh)
def T25 : List (Nat × FnT) := [(17, G17), (38, G38), (46, G46), (48, G48)]
def F25_3b (w : World) (K : V1) : Prop :=
K (.int .i64 0) w
def F25_3 (w : World) (K : V1) : Prop := F25_3b w K
theorem ok25_3 {K : V1}
    (hn : HN (fun e w => K (e 2) w) kn) (hr : HR Tryz.prog [.tmp 2] K kr) (he : HE noE ke) :
    ∀ e w, F25_3 w K → denL Tryz.prog (tabOf T25) 56 fuel ((flat (bodyOf Tryz.f25)).drop 4) e w kn kr ke := by
  intro e w h
  unfold F25_3 at h
  have e1 : ∀ (_ : Unit), F25_3b w K = denL Tryz.prog (tabOf T25) 56 fuel ((flat (bodyOf Tryz.f25)).drop 4) e w (fun e w => K (e 2) w) (endD Tryz.prog [.tmp 2] K) noE := by intro _; kernel_rfl
  exact seg_end (Eq.mp (e1 ()) h) hn hr he
def F25_6b (s0 s3 s10 s11 s12 : Value) (w : World) (_K : V1) (R3 : V5) : Prop :=
bindP (bAdd s12 (.int .i64 1)) fun v1 =>
R3 s0 s3 s10 s11 v1 w
def F25_6 (s0 s3 s10 s11 s12 : Value) (w : World) (K : V1) (R3 : V5) : Prop := F25_6b s0 s3 s10 s11 s12 w K R3
theorem ok25_6 (R3 : V5) {K : V1}
    (hn : HN (fun e w => R3 (e 0) (e 3) (e 10) (e 11) (e 12) w) kn) (hr : HR Tryz.prog [.tmp 2] K kr) (he : HE (blkK 0 (fun e w => F25_3 w K) noE) ke) :
    ∀ e w, F25_6 (e 0) (e 3) (e 10) (e 11) (e 12) w K R3 → denL Tryz.prog (tabOf T25) 56 fuel ((flat (loopB (blkB (nthC (flat (bodyOf Tryz.f25)) 3)))).drop 3) e w kn kr ke := by
  intro e w h
  unfold F25_6 at h
  have e1 : ∀ (_ : Unit), F25_6b (e 0) (e 3) (e 10) (e 11) (e 12) w K R3 = denL Tryz.prog (tabOf T25) 56 fuel ((flat (loopB (blkB (nthC (flat (bodyOf Tryz.f25)) 3)))).drop 3) e w (fun e w => R3 (e 0) (e 3) (e 10) (e 11) (e 12) w) (endD Tryz.prog [.tmp 2] K) (blkK 0 (fun e w => F25_3 w K) noE) := by intro _; kernel_rfl
  exact seg_end (Eq.mp (e1 ()) h) hn hr he
def F25_8b (s0 s3 s5 s6 s10 s11 s12 : Value) (w : World) (K : V1) (R3 : V5) (Y0 : V5) : Prop :=
bindP (pNil s0) fun v2 =>
bindP (pFieldAddr 6 v2) fun v3 =>
bindP (ld1 v3 w.drew) fun v4 =>
callP G48 [s5] w.drew fun v6 w5 =>
fok true (ld1 v3 w5) v4 ∧ (bindP (bEq Tryz.prog 9 (.tmp 30) (.tmp 34) v6 v4) fun v7 =>
stepM (gd false v7) s6 fun v8 =>
stepM (gd false v7) s0 fun v9 =>
Sx.stepG (gd false v7) (pNil v9) fun v10 =>
Sx.stepG (gd false v7) (pFieldAddr 2 v10) fun v11 =>
Sx.stepG (gd false v7) (ld1 v11 w5) fun v12 =>
Sx.stepG (gd false v7) (bAdd v12 (.int .i64 1)) fun v13 =>
Sx.stepG (gd false v7) (bGt v8 v13) fun v14 =>
bindP (pPick v7 (.bool true) v14) fun v15 =>
ifB v15 (
Y0 s0 s3 s10 s11 s12 w5) (
bindP (pNil s0) fun v16 =>
bindP (pFieldAddr 0 v16) fun v17 =>
bindP (ld1 v17 w5.drew) fun v18 =>
callP G48 [s5] w5.drew fun v20 w19 =>
fok true (ld1 v17 w19) v18 ∧ (callP G38 [v18, v20] w19 fun v22 w21 =>
bindP (bNe Tryz.prog 26 (.tmp 52) (.const (.int .i64 0)) v22 (.int .i64 0)) fun v23 =>
ifB v23 (
K v22 w21) (
Y0 s0 s3 s10 s11 s12 w21))))
def F25_8 (s0 s3 s5 s6 s10 s11 s12 : Value) (w : World) (K : V1) (R3 : V5) : Prop := F25_8b s0 s3 s5 s6 s10 s11 s12 w K R3 (fun a0 a3 a10 a11 a12 w => F25_6 a0 a3 a10 a11 a12 w K R3)
theorem ok25_8 (R3 : V5) {K : V1}
    (hn : HN (fun e w => F25_6 (e 0) (e 3) (e 10) (e 11) (e 12) w K R3) kn) (hr : HR Tryz.prog [.tmp 2] K kr) (he : HE (blkK 1 (fun e w => F25_6 (e 0) (e 3) (e 10) (e 11) (e 12) w K R3) (blkK 0 (fun e w => F25_3 w K) noE)) ke) :
    ∀ e w, F25_8 (e 0) (e 3) (e 5) (e 6) (e 10) (e 11) (e 12) w K R3 → denL Tryz.prog (tabOf T25) 56 fuel ((flat (blkB (nthC (flat (loopB (blkB (nthC (flat (bodyOf Tryz.f25)) 3)))) 2))).drop 4) e w kn kr ke := by
  intro e w h
  unfold F25_8 at h
  have e1 : ∀ (Y0 : V5), F25_8b (e 0) (e 3) (e 5) (e 6) (e 10) (e 11) (e 12) w K R3 Y0 = denL Tryz.prog (tabOf T25) 56 fuel ((flat (blkB (nthC (flat (loopB (blkB (nthC (flat (bodyOf Tryz.f25)) 3)))) 2))).drop 4) e w (fun e w => Y0 (e 0) (e 3) (e 10) (e 11) (e 12) w) (endD Tryz.prog [.tmp 2] K) (blkK 1 (fun e w => Y0 (e 0) (e 3) (e 10) (e 11) (e 12) w) (blkK 0 (fun e w => F25_3 w K) noE)) := by intro Y0; kernel_rfl
  exact seg_end (Eq.mp (e1 (fun a0 a3 a10 a11 a12 w => F25_6 a0 a3 a10 a11 a12 w K R3)) h) hn hr he
def F25_7b (s0 s3 s10 s11 s12 : Value) (w : World) (_K : V1) (R3 : V5) (Y0 : V7) : Prop :=
bindP (pIndexL 1 s10 s12) fun v24 =>
bindP (ld1 v24 w) fun v25 =>
callP G17 [s0] w fun v27 w26 =>
bindP (bAdd s12 (.int .i64 1)) fun v28 =>
bindP (lenL s3) fun v29 =>
bindP (bLt v28 v29) fun v30 =>
ifB v30 (
bindP (bAdd s12 (.int .i64 1)) fun v31 =>
bindP (pIndexL 1 s3 v31) fun v32 =>
bindP (ld1 v32 w26) fun v33 =>
Y0 s0 s3 v25 v33 s10 s11 s12 w26) (
Y0 s0 s3 v25 v27 s10 s11 s12 w26)
def F25_7 (s0 s3 s10 s11 s12 : Value) (w : World) (K : V1) (R3 : V5) : Prop := F25_7b s0 s3 s10 s11 s12 w K R3 (fun a0 a3 a5 a6 a10 a11 a12 w => F25_8 a0 a3 a5 a6 a10 a11 a12 w K R3)
theorem ok25_7 (R3 : V5) {K : V1}
    (hn : HN (fun e w => F25_6 (e 0) (e 3) (e 10) (e 11) (e 12) w K R3) kn) (hr : HR Tryz.prog [.tmp 2] K kr) (he : HE (blkK 1 (fun e w => F25_6 (e 0) (e 3) (e 10) (e 11) (e 12) w K R3) (blkK 0 (fun e w => F25_3 w K) noE)) ke) :
    ∀ e w, F25_7 (e 0) (e 3) (e 10) (e 11) (e 12) w K R3 → denL Tryz.prog (tabOf T25) 56 fuel ((flat (blkB (nthC (flat (loopB (blkB (nthC (flat (bodyOf Tryz.f25)) 3)))) 2))).drop 0) e w kn kr ke := by
  intro e w h
  unfold F25_7 at h
  have e1 : ∀ (Y0 : V7), F25_7b (e 0) (e 3) (e 10) (e 11) (e 12) w K R3 Y0 = denL Tryz.prog (tabOf T25) 56 fuel (((flat (blkB (nthC (flat (loopB (blkB (nthC (flat (bodyOf Tryz.f25)) 3)))) 2))).drop 0).take 4) e w (fun e w => Y0 (e 0) (e 3) (e 5) (e 6) (e 10) (e 11) (e 12) w) (endD Tryz.prog [.tmp 2] K) (blkK 1 (fun e w => F25_6 (e 0) (e 3) (e 10) (e 11) (e 12) w K R3) (blkK 0 (fun e w => F25_3 w K) noE)) := by intro Y0; kernel_rfl
  exact seg 4 (Eq.mp (e1 (fun a0 a3 a5 a6 a10 a11 a12 w => F25_8 a0 a3 a5 a6 a10 a11 a12 w K R3)) h) (fun e w h => ok25_8 R3 hn hr he e w h) hr he
def F25_5 (s0 s3 s10 s11 s12 : Value) (w : World) (K : V1) (R3 : V5) : Prop := F25_7 s0 s3 s10 s11 s12 w K R3
theorem ok25_5 (R3 : V5) {K : V1}
    (hn : HN (fun e w => R3 (e 0) (e 3) (e 10) (e 11) (e 12) w) kn) (hr : HR Tryz.prog [.tmp 2] K kr) (he : HE (blkK 0 (fun e w => F25_3 w K) noE) ke) :
    ∀ e w, F25_5 (e 0) (e 3) (e 10) (e 11) (e 12) w K R3 → denL Tryz.prog (tabOf T25) 56 fuel ((flat (loopB (blkB (nthC (flat (bodyOf Tryz.f25)) 3)))).drop 2) e w kn kr ke := by
  intro e w h
  unfold F25_5 at h
  refine seg_block (id := 1) (body := (blkB (nthC (flat (loopB (blkB (nthC (flat (bodyOf Tryz.f25)) 3)))) 2))) (l2 := (flat (loopB (blkB (nthC (flat (bodyOf Tryz.f25)) 3)))).drop 3) (by kernel_rfl) ?_
  exact ok25_7 R3 (fun e w h => ok25_6 R3 hn hr he e w h) hr (blkK_mono (fun e w h => ok25_6 R3 hn hr he e w h) he) e w h
def F25_4b (s0 s3 s10 s11 s12 : Value) (w : World) (_K : V1) (R3 : V5) (Y0 : V5) (Y1 : V0) : Prop :=
bindP (bLt s12 s11) fun v34 =>
ifB v34 (
Y0 s0 s3 s10 s11 s12 w) (
Y1 w)
def F25_4 (s0 s3 s10 s11 s12 : Value) (w : World) (K : V1) (R3 : V5) : Prop := F25_4b s0 s3 s10 s11 s12 w K R3 (fun a0 a3 a10 a11 a12 w => F25_5 a0 a3 a10 a11 a12 w K R3) (fun w => F25_3 w K)
theorem ok25_4 (R3 : V5) {K : V1}
    (hn : HN (fun e w => R3 (e 0) (e 3) (e 10) (e 11) (e 12) w) kn) (hr : HR Tryz.prog [.tmp 2] K kr) (he : HE (blkK 0 (fun e w => F25_3 w K) noE) ke) :
    ∀ e w, F25_4 (e 0) (e 3) (e 10) (e 11) (e 12) w K R3 → denL Tryz.prog (tabOf T25) 56 fuel ((flat (loopB (blkB (nthC (flat (bodyOf Tryz.f25)) 3)))).drop 0) e w kn kr ke := by
  intro e w h
  unfold F25_4 at h
  have e1 : ∀ (Y0 : V5) (Y1 : V0), F25_4b (e 0) (e 3) (e 10) (e 11) (e 12) w K R3 Y0 Y1 = denL Tryz.prog (tabOf T25) 56 fuel (((flat (loopB (blkB (nthC (flat (bodyOf Tryz.f25)) 3)))).drop 0).take 2) e w (fun e w => Y0 (e 0) (e 3) (e 10) (e 11) (e 12) w) (endD Tryz.prog [.tmp 2] K) (blkK 0 (fun e w => Y1 w) noE) := by intro Y0 Y1; kernel_rfl
  exact seg 2 (Eq.mp (e1 (fun a0 a3 a10 a11 a12 w => F25_5 a0 a3 a10 a11 a12 w K R3) (fun w => F25_3 w K)) h) (fun e w h => ok25_5 R3 hn hr he e w h) hr he
def F25_2L : Nat → Value → Value → Value → Value → Value → World → (V1) → Prop
  | 0, _, _, _, _, _, _, _ => False
  | n + 1, s0, s3, s10, s11, s12, w, K => F25_4 s0 s3 s10 s11 s12 w K (fun a0 a3 a10 a11 a12 w => F25_2L n a0 a3 a10 a11 a12 w K)
def F25_2 (s0 s3 s10 s11 s12 : Value) (w : World) (K : V1) : Prop := F25_2L fuel s0 s3 s10 s11 s12 w K
theorem ok25_2 {K : V1}
    (hn : HN (fun e w => K (e 2) w) kn) (hr : HR Tryz.prog [.tmp 2] K kr) (he : HE noE ke) :
    ∀ e w, F25_2 (e 0) (e 3) (e 10) (e 11) (e 12) w K → denL Tryz.prog (tabOf T25) 56 fuel ((flat (bodyOf Tryz.f25)).drop 3) e w kn kr ke := by
  intro e w h
  unfold F25_2 at h
  refine seg_loop (id := 0) (body := (loopB (blkB (nthC (flat (bodyOf Tryz.f25)) 3)))) (l2 := (flat (bodyOf Tryz.f25)).drop 4) (by kernel_rfl) ?_
  refine loop_ok (FL := fun m e w => F25_2L m (e 0) (e 3) (e 10) (e 11) (e 12) w K) (fr := endD Tryz.prog [.tmp 2] K) (fe := (blkK 0 (fun e w => F25_3 w K) noE)) (fun _ _ h => h) ?_ hr (blkK_mono (fun e w h => ok25_3 hn hr he e w h) he) fuel e w h
  intro m e w h
  have h : F25_2L (m + 1) (e 0) (e 3) (e 10) (e 11) (e 12) w K := h
  rw [F25_2L] at h
  exact ok25_4 (fun a0 a3 a10 a11 a12 w => F25_2L m a0 a3 a10 a11 a12 w K) (fun _ _ h => h) (fun _ _ h => h) (fun _ _ _ h => h) e w h
def F25_1b (s0 : Value) (w : World) (_K : V1) (Y0 : V5) : Prop :=
callP G46 [s0] w fun v36 w35 =>
bindP (lenL v36) fun v37 =>
Y0 s0 v36 v36 v37 (.int .i64 0) w35
def F25_1 (s0 : Value) (w : World) (K : V1) : Prop := F25_1b s0 w K (fun a0 a3 a10 a11 a12 w => F25_2 a0 a3 a10 a11 a12 w K)
theorem ok25_1 {K : V1}
    (hn : HN (fun e w => K (e 2) w) kn) (hr : HR Tryz.prog [.tmp 2] K kr) (he : HE noE ke) :
    ∀ e w, F25_1 (e 0) w K → denL Tryz.prog (tabOf T25) 56 fuel ((flat (bodyOf Tryz.f25)).drop 0) e w kn kr ke := by
  intro e w h
  unfold F25_1 at h
  have e1 : ∀ (Y0 : V5), F25_1b (e 0) w K Y0 = denL Tryz.prog (tabOf T25) 56 fuel (((flat (bodyOf Tryz.f25)).drop 0).take 3) e w (fun e w => Y0 (e 0) (e 3) (e 10) (e 11) (e 12) w) (endD Tryz.prog [.tmp 2] K) noE := by intro Y0; kernel_rfl
  exact seg 3 (Eq.mp (e1 (fun a0 a3 a10 a11 a12 w => F25_2 a0 a3 a10 a11 a12 w K)) h) (fun e w h => ok25_2 hn hr he e w h) hr he
def F25 (x0 : Value) (w : World) (K : V1) : Prop := F25_1 x0 w K
def G25 : FnT := fun args w K => on1 (fun x0 => F25 x0 w K) args
theorem c25 {x0 : Value} {w : World} {K : V1} (h : F25 x0 w K) : callP G25 [x0] w K := callP_intro (on1_mk (p := fun x0 => F25 x0 w K) h)
theorem ok25 : OkF Tryz.prog 25 G25 := by
  refine okF_of (tab_ok (l := T25) ⟨ok17, ok38, ok46, ok48, trivial⟩) mixed (n := fuel) Tryz.func25 Tryz.call25 fun args w K h => ?_
  obtain ⟨x0, rfl, hh⟩ := of_on1 h
  unfold F25 at hh
  exact fnD_list (c := bodyOf Tryz.f25) (by kernel_rfl) (by kernel_rfl) (ok25_1 (fun _ _ h => h) (fun _ _ h => h) (fun _ _ _ h => h) (initE [x0]) w hh)
def T28 : List (Nat × FnT) := [(29, G29)]
def F28 (x0 x1 : Value) (w : World) (K : V1) : Prop :=
bindP (ld1 x0 w.drew) fun v1 =>
bindP (pNil v1) fun v2 =>
bindP (pFieldAddr 0 v2) fun v3 =>
bindP (ld1 v3 w.drew) fun v4 =>
bindP (ld1 x0 w.drew) fun v5 =>
bindP (pNil v5) fun v6 =>
bindP (pFieldAddr 6 v6) fun v7 =>
bindP (ld1 v7 w.drew) fun v8 =>
bindP (ld1 x1 w.drew) fun v9 =>
callP G29 [v4, v8, v9] w.drew fun v11 w10 =>
K v11 w10
def G28 : FnT := fun args w K => on2 (fun x0 x1 => F28 x0 x1 w K) args
theorem c28 {x0 x1 : Value} {w : World} {K : V1} (h : F28 x0 x1 w K) : callP G28 [x0, x1] w K := callP_intro (on2_mk (p := fun x0 x1 => F28 x0 x1 w K) h)
theorem ok28 : OkF Tryz.prog 28 G28 := by
  refine okF_of (tab_ok (l := T28) ⟨ok29, trivial⟩) mixed (n := fuel) Tryz.func28 Tryz.call28 fun args w K h => ?_
  obtain ⟨x0, x1, rfl, hh⟩ := of_on2 h
  exact fnD_list (c := bodyOf Tryz.f28) (by kernel_rfl) (by kernel_rfl) (Eq.mp (by kernel_rfl) hh)
def T54 : List (Nat × FnT) := [(21, G21), (29, G29)]
def F54_2b (s3 : Value) (w : World) (K : V1) : Prop :=
K s3 w
def F54_2 (s3 : Value) (w : World) (K : V1) : Prop := F54_2b s3 w K
theorem ok54_2 {K : V1}
    (hn : HN (fun e w => K (e 2) w) kn) (hr : HR Tryz.prog [.tmp 2] K kr) (he : HE noE ke) :
    ∀ e w, F54_2 (e 3) w K → denL Tryz.prog (tabOf T54) 15 fuel ((flat (bodyOf Tryz.f54)).drop 4) e w kn kr ke := by
  intro e w h
  unfold F54_2 at h
  have e1 : ∀ (_ : Unit), F54_2b (e 3) w K = denL Tryz.prog (tabOf T54) 15 fuel ((flat (bodyOf Tryz.f54)).drop 4) e w (fun e w => K (e 2) w) (endD Tryz.prog [.tmp 2] K) noE := by intro _; kernel_rfl
  exact seg_end (Eq.mp (e1 ()) h) hn hr he
def F54_1b (s0 s1 : Value) (w : World) (_K : V1) (Y0 : V1) : Prop :=
bindP (ld1 s0 w.drew) fun v1 =>
bindP (pNil v1) fun v2 =>
bindP (pFieldAddr 0 v2) fun v3 =>
bindP (ld1 v3 w.drew) fun v4 =>
bindP (ld1 s1 w.drew) fun v5 =>
callP G29 [v4, (.string ⟨#[115, 110, 97, 112, 46, 110, 101, 119]⟩), v5] w.drew fun v7 w6 =>
bindP (bEq Tryz.prog 26 (.tmp 10) (.const (.int .i64 250)) v7 (.int .i64 250)) fun v8 =>
ifB v8 (
bindP (ld1 s0 w6) fun v9 =>
callP G21 [v9, (.string ⟨#[115, 110, 97, 112, 46, 110, 101, 119]⟩)] w6 fun _ w10 =>
Y0 v7 w10) (
Y0 v7 w6)
def F54_1 (s0 s1 : Value) (w : World) (K : V1) : Prop := F54_1b s0 s1 w K (fun a3 w => F54_2 a3 w K)
theorem ok54_1 {K : V1}
    (hn : HN (fun e w => K (e 2) w) kn) (hr : HR Tryz.prog [.tmp 2] K kr) (he : HE noE ke) :
    ∀ e w, F54_1 (e 0) (e 1) w K → denL Tryz.prog (tabOf T54) 15 fuel ((flat (bodyOf Tryz.f54)).drop 0) e w kn kr ke := by
  intro e w h
  unfold F54_1 at h
  have e1 : ∀ (Y0 : V1), F54_1b (e 0) (e 1) w K Y0 = denL Tryz.prog (tabOf T54) 15 fuel (((flat (bodyOf Tryz.f54)).drop 0).take 4) e w (fun e w => Y0 (e 3) w) (endD Tryz.prog [.tmp 2] K) noE := by intro Y0; kernel_rfl
  exact seg 4 (Eq.mp (e1 (fun a3 w => F54_2 a3 w K)) h) (fun e w h => ok54_2 hn hr he e w h) hr he
def F54 (x0 x1 : Value) (w : World) (K : V1) : Prop := F54_1 x0 x1 w K
def G54 : FnT := fun args w K => on2 (fun x0 x1 => F54 x0 x1 w K) args
theorem c54 {x0 x1 : Value} {w : World} {K : V1} (h : F54 x0 x1 w K) : callP G54 [x0, x1] w K := callP_intro (on2_mk (p := fun x0 x1 => F54 x0 x1 w K) h)
theorem ok54 : OkF Tryz.prog 54 G54 := by
  refine okF_of (tab_ok (l := T54) ⟨ok21, ok29, trivial⟩) mixed (n := fuel) Tryz.func54 Tryz.call54 fun args w K h => ?_
  obtain ⟨x0, x1, rfl, hh⟩ := of_on2 h
  unfold F54 at hh
  exact fnD_list (c := bodyOf Tryz.f54) (by kernel_rfl) (by kernel_rfl) (ok54_1 (fun _ _ h => h) (fun _ _ h => h) (fun _ _ _ h => h) (initE [x0, x1]) w hh)
def T55 : List (Nat × FnT) := [(21, G21)]
def F55 (x0 : Value) (w : World) (K : V1) : Prop :=
bindP (ld1 x0 w) fun v1 =>
callP G21 [v1, (.string ⟨#[115, 110, 97, 112, 46, 110, 101, 119]⟩)] w fun v3 w2 =>
K v3 w2
def G55 : FnT := fun args w K => on1 (fun x0 => F55 x0 w K) args
theorem c55 {x0 : Value} {w : World} {K : V1} (h : F55 x0 w K) : callP G55 [x0] w K := callP_intro (on1_mk (p := fun x0 => F55 x0 w K) h)
theorem ok55 : OkF Tryz.prog 55 G55 := by
  refine okF_of (tab_ok (l := T55) ⟨ok21, trivial⟩) mixed (n := fuel) Tryz.func55 Tryz.call55 fun args w K h => ?_
  obtain ⟨x0, rfl, hh⟩ := of_on1 h
  exact fnD_list (c := bodyOf Tryz.f55) (by kernel_rfl) (by kernel_rfl) (Eq.mp (by kernel_rfl) hh)
def T56 : List (Nat × FnT) := [(57, G57)]
def F56 (x0 : Value) (w : World) (K : V1) : Prop :=
bindP (ld1 x0 w) fun v1 =>
bindP (pNil v1) fun v2 =>
bindP (pFieldAddr 0 v2) fun v3 =>
bindP (ld1 v3 w) fun v4 =>
callP G57 [v4, (.string ⟨#[115, 110, 97, 112, 46, 110, 101, 119]⟩)] w fun v6 w5 =>
K v6 w5
def G56 : FnT := fun args w K => on1 (fun x0 => F56 x0 w K) args
theorem c56 {x0 : Value} {w : World} {K : V1} (h : F56 x0 w K) : callP G56 [x0] w K := callP_intro (on1_mk (p := fun x0 => F56 x0 w K) h)
theorem ok56 : OkF Tryz.prog 56 G56 := by
  refine okF_of (tab_ok (l := T56) ⟨ok57, trivial⟩) mixed (n := fuel) Tryz.func56 Tryz.call56 fun args w K h => ?_
  obtain ⟨x0, rfl, hh⟩ := of_on1 h
  exact fnD_list (c := bodyOf Tryz.f56) (by kernel_rfl) (by kernel_rfl) (Eq.mp (by kernel_rfl) hh)
def T58 : List (Nat × FnT) := [(33, G33)]
def F58 (x0 : Value) (w : World) (K : V1) : Prop :=
bindP (ld1 x0 w) fun v1 =>
bindP (pNil v1) fun v2 =>
bindP (pFieldAddr 0 v2) fun v3 =>
bindP (ld1 v3 w) fun v4 =>
callP G33 [v4, (.string ⟨#[115, 110, 97, 112, 46, 110, 101, 119]⟩)] w fun v6 w5 =>
K v6 w5
def G58 : FnT := fun args w K => on1 (fun x0 => F58 x0 w K) args
theorem c58 {x0 : Value} {w : World} {K : V1} (h : F58 x0 w K) : callP G58 [x0] w K := callP_intro (on1_mk (p := fun x0 => F58 x0 w K) h)
theorem ok58 : OkF Tryz.prog 58 G58 := by
  refine okF_of (tab_ok (l := T58) ⟨ok33, trivial⟩) mixed (n := fuel) Tryz.func58 Tryz.call58 fun args w K h => ?_
  obtain ⟨x0, rfl, hh⟩ := of_on1 h
  exact fnD_list (c := bodyOf Tryz.f58) (by kernel_rfl) (by kernel_rfl) (Eq.mp (by kernel_rfl) hh)
def T59 : List (Nat × FnT) := [(60, G60)]
def F59 (x0 : Value) (w : World) (K : V1) : Prop :=
bindP (ld1 x0 w) fun v1 =>
bindP (pNil v1) fun v2 =>
bindP (pFieldAddr 0 v2) fun v3 =>
bindP (ld1 v3 w) fun v4 =>
callP G60 [v4, (.string ⟨#[115, 110, 97, 112, 46, 110, 101, 119]⟩), (.string ⟨#[115, 110, 97, 112]⟩)] w fun v6 w5 =>
K v6 w5
def G59 : FnT := fun args w K => on1 (fun x0 => F59 x0 w K) args
theorem c59 {x0 : Value} {w : World} {K : V1} (h : F59 x0 w K) : callP G59 [x0] w K := callP_intro (on1_mk (p := fun x0 => F59 x0 w K) h)
theorem ok59 : OkF Tryz.prog 59 G59 := by
  refine okF_of (tab_ok (l := T59) ⟨ok60, trivial⟩) mixed (n := fuel) Tryz.func59 Tryz.call59 fun args w K h => ?_
  obtain ⟨x0, rfl, hh⟩ := of_on1 h
  exact fnD_list (c := bodyOf Tryz.f59) (by kernel_rfl) (by kernel_rfl) (Eq.mp (by kernel_rfl) hh)
def T19 (GR19 GR27 GR30 GR31 : FnT) : List (Nat × FnT) := [(12, G12), (20, G20), (22, G22), (23, G23), (24, G24), (25, G25), (27, GR27), (28, G28), (30, GR30), (32, G32), (54, G54), (55, G55), (56, G56), (58, G58), (59, G59)]
def F19_3b (GR19 GR27 GR30 GR31 : FnT) (w : World) (K : V1) : Prop :=
K (.int .i64 0) w
def F19_3 (GR19 GR27 GR30 GR31 : FnT) (w : World) (K : V1) : Prop := F19_3b GR19 GR27 GR30 GR31 w K
theorem ok19_3 (GR19 GR27 GR30 GR31 : FnT) {K : V1}
    (hn : HN (fun e w => K (e 2) w) kn) (hr : HR Tryz.prog [.tmp 2] K kr) (he : HE noE ke) :
    ∀ e w, F19_3 GR19 GR27 GR30 GR31 w K → denL Tryz.prog (tabOf (T19 GR19 GR27 GR30 GR31)) 18 fuel ((flat (bodyOf Tryz.f19)).drop 3) e w kn kr ke := by
  intro e w h
  unfold F19_3 at h
  have e1 : ∀ (_ : Unit), F19_3b GR19 GR27 GR30 GR31 w K = denL Tryz.prog (tabOf (T19 GR19 GR27 GR30 GR31)) 18 fuel ((flat (bodyOf Tryz.f19)).drop 3) e w (fun e w => K (e 2) w) (endD Tryz.prog [.tmp 2] K) noE := by intro _; kernel_rfl
  exact seg_end (Eq.mp (e1 ()) h) hn hr he
def F19_2b (GR19 GR27 GR30 GR31 : FnT) (s6 s7 s8 : Value) (w : World) (K : V1) (Y0 : V3) (Y1 : V0) : Prop :=
bindP (bLt s8 s7) fun v1 =>
ifB v1 (
bindP (pIndexL 1 s6 s8) fun v2 =>
bindP (ld1 v2 w) fun v3 =>
eCallV (tabOf (T19 GR19 GR27 GR30 GR31)) v3 [] w fun v5 w4 =>
bindP (bNe Tryz.prog 26 (.tmp 14) (.const (.int .i64 0)) v5 (.int .i64 0)) fun v6 =>
ifB v6 (
K v5 w4) (
bindP (bAdd s8 (.int .i64 1)) fun v7 =>
Y0 s6 s7 v7 w4)) (
Y1 w)
def F19_2L (GR19 GR27 GR30 GR31 : FnT) : Nat → Value → Value → Value → World → (V1) → Prop
  | 0, _, _, _, _, _ => False
  | n + 1, s6, s7, s8, w, K => F19_2b GR19 GR27 GR30 GR31 s6 s7 s8 w K (fun a6 a7 a8 w => F19_2L GR19 GR27 GR30 GR31 n a6 a7 a8 w K) (fun w => F19_3 GR19 GR27 GR30 GR31 w K)
def F19_2 (GR19 GR27 GR30 GR31 : FnT) (s6 s7 s8 : Value) (w : World) (K : V1) : Prop := F19_2L GR19 GR27 GR30 GR31 fuel s6 s7 s8 w K
theorem ok19_2 (GR19 GR27 GR30 GR31 : FnT) {K : V1}
    (hn : HN (fun e w => K (e 2) w) kn) (hr : HR Tryz.prog [.tmp 2] K kr) (he : HE noE ke) :
    ∀ e w, F19_2 GR19 GR27 GR30 GR31 (e 6) (e 7) (e 8) w K → denL Tryz.prog (tabOf (T19 GR19 GR27 GR30 GR31)) 18 fuel ((flat (bodyOf Tryz.f19)).drop 2) e w kn kr ke := by
  intro e w h
  unfold F19_2 at h
  refine seg_loop (id := 0) (body := (loopB (blkB (nthC (flat (bodyOf Tryz.f19)) 2)))) (l2 := (flat (bodyOf Tryz.f19)).drop 3) (by kernel_rfl) ?_
  refine loop_ok (FL := fun m e w => F19_2L GR19 GR27 GR30 GR31 m (e 6) (e 7) (e 8) w K) (fr := endD Tryz.prog [.tmp 2] K) (fe := (blkK 0 (fun e w => F19_3 GR19 GR27 GR30 GR31 w K) noE)) (fun _ _ h => h) ?_ hr (blkK_mono (fun e w h => ok19_3 GR19 GR27 GR30 GR31 hn hr he e w h) he) fuel e w h
  intro m e w h
  have h : F19_2L GR19 GR27 GR30 GR31 (m + 1) (e 6) (e 7) (e 8) w K := h
  rw [F19_2L] at h
  have e1 : ∀ (Y0 : V3) (Y1 : V0), F19_2b GR19 GR27 GR30 GR31 (e 6) (e 7) (e 8) w K Y0 Y1 = denL Tryz.prog (tabOf (T19 GR19 GR27 GR30 GR31)) 18 fuel (flat (loopB (blkB (nthC (flat (bodyOf Tryz.f19)) 2)))) e w (fun e w => Y0 (e 6) (e 7) (e 8) w) (endD Tryz.prog [.tmp 2] K) (blkK 0 (fun e w => Y1 w) noE) := by intro Y0 Y1; kernel_rfl
  exact Eq.mp (e1 (fun a6 a7 a8 w => F19_2L GR19 GR27 GR30 GR31 m a6 a7 a8 w K) (fun w => F19_3 GR19 GR27 GR30 GR31 w K)) h
def F19_1b (GR19 GR27 GR30 GR31 : FnT) (s0 : Value) (w : World) (_K : V1) (Y0 : V3) : Prop :=
bindP (lenL s0) fun v8 =>
Y0 s0 v8 (.int .i64 0) w
def F19_1 (GR19 GR27 GR30 GR31 : FnT) (s0 : Value) (w : World) (K : V1) : Prop := F19_1b GR19 GR27 GR30 GR31 s0 w K (fun a6 a7 a8 w => F19_2 GR19 GR27 GR30 GR31 a6 a7 a8 w K)
theorem ok19_1 (GR19 GR27 GR30 GR31 : FnT) {K : V1}
    (hn : HN (fun e w => K (e 2) w) kn) (hr : HR Tryz.prog [.tmp 2] K kr) (he : HE noE ke) :
    ∀ e w, F19_1 GR19 GR27 GR30 GR31 (e 0) w K → denL Tryz.prog (tabOf (T19 GR19 GR27 GR30 GR31)) 18 fuel ((flat (bodyOf Tryz.f19)).drop 0) e w kn kr ke := by
  intro e w h
  unfold F19_1 at h
  have e1 : ∀ (Y0 : V3), F19_1b GR19 GR27 GR30 GR31 (e 0) w K Y0 = denL Tryz.prog (tabOf (T19 GR19 GR27 GR30 GR31)) 18 fuel (((flat (bodyOf Tryz.f19)).drop 0).take 2) e w (fun e w => Y0 (e 6) (e 7) (e 8) w) (endD Tryz.prog [.tmp 2] K) noE := by intro Y0; kernel_rfl
  exact seg 2 (Eq.mp (e1 (fun a6 a7 a8 w => F19_2 GR19 GR27 GR30 GR31 a6 a7 a8 w K)) h) (fun e w h => ok19_2 GR19 GR27 GR30 GR31 hn hr he e w h) hr he
def F19 (GR19 GR27 GR30 GR31 : FnT) (x0 : Value) (w : World) (K : V1) : Prop := F19_1 GR19 GR27 GR30 GR31 x0 w K
def T27 (GR19 GR27 GR30 GR31 : FnT) : List (Nat × FnT) := [(19, GR19), (39, G39)]
def F27 (GR19 GR27 GR30 GR31 : FnT) (x0 : Value) (w : World) (K : V1) : Prop :=
bindP (pNil x0) fun v1 =>
bindP (pFieldAddr 0 v1) fun v2 =>
bindP (ld1 v2 w.drew) fun v3 =>
bindP (pNil x0) fun v4 =>
bindP (pFieldAddr 6 v4) fun v5 =>
bindP (ld1 v5 w.drew) fun v6 =>
callP G39 [v3, v6] w.drew fun v8 w7 =>
bindP (pTuple v8 0) fun v9 =>
bindP (pTuple v8 1) fun _ =>
bindP (lenS v9) fun v11 =>
bindP (pNil x0) fun v12 =>
bindP (pFieldAddr 1 v12) fun v13 =>
bindP (ld1 v13 w7) fun v14 =>
bindP (bLt v11 v14) fun v15 =>
ifB v15 (
K (.int .i64 0) w7) (
bindP (some (.func (.func 12) #[x0] #[])) fun v16 =>
bindP (some (.func (.func 32) #[x0] #[])) fun v17 =>
eBuildSl Tryz.prog 60 2 [(0, v16), (1, v17)] w7 fun v19 w18 =>
callP GR19 [v19] w18 fun v21 w20 =>
K v21 w20)
def T30 (GR19 GR27 GR30 GR31 : FnT) : List (Nat × FnT) := [(31, GR31)]
def F30 (GR19 GR27 GR30 GR31 : FnT) (x0 x1 : Value) (w : World) (K : V1) : Prop :=
bindP (ld1 x0 w) fun v1 =>
bindP (ld1 x1 w) fun v2 =>
callP GR31 [v1, v2] w fun v4 w3 =>
K v4 w3
def T31 (GR19 GR27 GR30 GR31 : FnT) : List (Nat × FnT) := [(17, G17), (19, GR19), (26, G26), (53, G53)]
def F31_2b (GR19 GR27 GR30 GR31 : FnT) (s9 : Value) (w : World) (K : V1) : Prop :=
K s9 w
def F31_2 (GR19 GR27 GR30 GR31 : FnT) (s9 : Value) (w : World) (K : V1) : Prop := F31_2b GR19 GR27 GR30 GR31 s9 w K
theorem ok31_2 (GR19 GR27 GR30 GR31 : FnT) {K : V1}
    (hn : HN (fun e w => K (e 4) w) kn) (hr : HR Tryz.prog [.tmp 4] K kr) (he : HE noE ke) :
    ∀ e w, F31_2 GR19 GR27 GR30 GR31 (e 9) w K → denL Tryz.prog (tabOf (T31 GR19 GR27 GR30 GR31)) 51 fuel ((flat (bodyOf Tryz.f31)).drop 10) e w kn kr ke := by
  intro e w h
  unfold F31_2 at h
  have e1 : ∀ (_ : Unit), F31_2b GR19 GR27 GR30 GR31 (e 9) w K = denL Tryz.prog (tabOf (T31 GR19 GR27 GR30 GR31)) 51 fuel ((flat (bodyOf Tryz.f31)).drop 10) e w (fun e w => K (e 4) w) (endD Tryz.prog [.tmp 4] K) noE := by intro _; kernel_rfl
  exact seg_end (Eq.mp (e1 ()) h) hn hr he
def F31_1b (GR19 GR27 GR30 GR31 : FnT) (s0 s1 : Value) (w : World) (K : V1) (Y0 : V1) : Prop :=
eBox 29 s0 w fun v2 w1 =>
bindP (ld1 v2 w1) fun v3 =>
callP G17 [v3] w1 fun v5 w4 =>
bindP (bSub v5 (.int .i64 1)) fun v6 =>
callP G53 [v6, (.int .i64 8)] w4 fun v8 w7 =>
bindP (pTuple v8 0) fun v9 =>
bindP (pTuple v8 1) fun _ =>
bindP (bAdd v9 s1) fun v11 =>
callP G26 [v11] w7 fun v13 w12 =>
bindP (pTuple v13 0) fun v14 =>
bindP (pTuple v13 1) fun v15 =>
eAlloc Tryz.prog 9 w12 fun v17 w16 =>
bindW (st 1 v17 v14 w16) fun w18 =>
bindP (bNe Tryz.prog 26 (.tmp 26) (.const (.int .i64 0)) v15 (.int .i64 0)) fun v20 =>
ifB v20 (
K v15 w18) (
bindP (some (.func (.func 54) #[] #[v2, v17])) fun v21 =>
bindP (some (.func (.func 55) #[] #[v2])) fun v22 =>
bindP (some (.func (.func 56) #[] #[v2])) fun v23 =>
bindP (some (.func (.func 58) #[] #[v2])) fun v24 =>
bindP (some (.func (.func 59) #[] #[v2])) fun v25 =>
eBuildSl Tryz.prog 60 5 [(0, v22), (1, v23), (2, v21), (3, v24), (4, v25)] w18 fun v27 w26 =>
callP GR19 [v27] w26 fun v29 w28 =>
bindP (bEq Tryz.prog 26 (.tmp 37) (.const (.int .i64 0)) v29 (.int .i64 0)) fun v30 =>
ifB v30 (
bindP (ld1 v2 w28.drew) fun v31 =>
bindP (ld1 v2 w28.drew) fun v32 =>
bindP (ld1 v2 w28.drew) fun v33 =>
bindP (pNil v31) fun v34 =>
bindP (pFieldAddr 2 v34) fun v35 =>
bindW (st 1 v35 v6 w28.drew) fun w36 =>
(fok true (ld1 v2 w36) v32 ∧ fok true (ld1 v2 w36) v33) ∧ (bindP (pNil v32) fun v38 =>
bindP (pFieldAddr 3 v38) fun v39 =>
bindW (st 1 v39 s1 w36) fun w40 =>
fok true (ld1 v2 w40) v33 ∧ (bindP (pNil v33) fun v42 =>
bindP (pFieldAddr 4 v42) fun v43 =>
bindW (st 1 v43 (.slice none 0 0) w40) fun w44 =>
Y0 v29 w44))) (
Y0 v29 w28))
def F31_1 (GR19 GR27 GR30 GR31 : FnT) (s0 s1 : Value) (w : World) (K : V1) : Prop := F31_1b GR19 GR27 GR30 GR31 s0 s1 w K (fun a9 w => F31_2 GR19 GR27 GR30 GR31 a9 w K)
theorem ok31_1 (GR19 GR27 GR30 GR31 : FnT) {K : V1}
    (hn : HN (fun e w => K (e 4) w) kn) (hr : HR Tryz.prog [.tmp 4] K kr) (he : HE noE ke) :
    ∀ e w, F31_1 GR19 GR27 GR30 GR31 (e 0) (e 1) w K → denL Tryz.prog (tabOf (T31 GR19 GR27 GR30 GR31)) 51 fuel ((flat (bodyOf Tryz.f31)).drop 0) e w kn kr ke := by
  intro e w h
  unfold F31_1 at h
  have e1 : ∀ (Y0 : V1), F31_1b GR19 GR27 GR30 GR31 (e 0) (e 1) w K Y0 = denL Tryz.prog (tabOf (T31 GR19 GR27 GR30 GR31)) 51 fuel (((flat (bodyOf Tryz.f31)).drop 0).take 10) e w (fun e w => Y0 (e 9) w) (endD Tryz.prog [.tmp 4] K) noE := by intro Y0; kernel_rfl
  exact seg 10 (Eq.mp (e1 (fun a9 w => F31_2 GR19 GR27 GR30 GR31 a9 w K)) h) (fun e w h => ok31_2 GR19 GR27 GR30 GR31 hn hr he e w h) hr he
def F31 (GR19 GR27 GR30 GR31 : FnT) (x0 x1 : Value) (w : World) (K : V1) : Prop := F31_1 GR19 GR27 GR30 GR31 x0 x1 w K
mutual
def Gn19 : Nat → FnT
  | 0 => fun _ _ _ => False
  | n + 1 => fun args w K => on1 (fun x0 => F19 (Gn19 n) (Gn27 n) (Gn30 n) (Gn31 n) x0 w K) args
def Gn27 : Nat → FnT
  | 0 => fun _ _ _ => False
  | n + 1 => fun args w K => on1 (fun x0 => F27 (Gn19 n) (Gn27 n) (Gn30 n) (Gn31 n) x0 w K) args
def Gn30 : Nat → FnT
  | 0 => fun _ _ _ => False
  | n + 1 => fun args w K => on2 (fun x0 x1 => F30 (Gn19 n) (Gn27 n) (Gn30 n) (Gn31 n) x0 x1 w K) args
def Gn31 : Nat → FnT
  | 0 => fun _ _ _ => False
  | n + 1 => fun args w K => on2 (fun x0 x1 => F31 (Gn19 n) (Gn27 n) (Gn30 n) (Gn31 n) x0 x1 w K) args
end
theorem okn19_27_30_31 : ∀ n, OkF Tryz.prog 19 (Gn19 n) ∧ OkF Tryz.prog 27 (Gn27 n) ∧ OkF Tryz.prog 30 (Gn30 n) ∧ OkF Tryz.prog 31 (Gn31 n) := by
  intro n
  induction n with
  | zero => exact ⟨(fun _ _ _ h => h.elim), (fun _ _ _ h => h.elim), (fun _ _ _ h => h.elim), (fun _ _ _ h => h.elim)⟩
  | succ n ih =>
    obtain ⟨ih19, ih27, ih30, ih31⟩ := ih
    refine ⟨?_, ?_, ?_, ?_⟩
    · refine okF_of (tab_ok (l := T19 (Gn19 n) (Gn27 n) (Gn30 n) (Gn31 n)) ⟨ok12, ok20, ok22, ok23, ok24, ok25, ih27, ok28, ih30, ok32, ok54, ok55, ok56, ok58, ok59, trivial⟩) mixed (n := fuel) Tryz.func19 Tryz.call19 fun args w K h => ?_
      unfold Gn19 at h
      obtain ⟨x0, rfl, hh⟩ := of_on1 h
      unfold F19 at hh
      exact fnD_list (c := bodyOf Tryz.f19) (by kernel_rfl) (by kernel_rfl) (ok19_1 (Gn19 n) (Gn27 n) (Gn30 n) (Gn31 n) (fun _ _ h => h) (fun _ _ h => h) (fun _ _ _ h => h) (initE [x0]) w hh)
    · refine okF_of (tab_ok (l := T27 (Gn19 n) (Gn27 n) (Gn30 n) (Gn31 n)) ⟨ih19, ok39, trivial⟩) mixed (n := fuel) Tryz.func27 Tryz.call27 fun args w K h => ?_
      unfold Gn27 at h
      obtain ⟨x0, rfl, hh⟩ := of_on1 h
      exact fnD_list (c := bodyOf Tryz.f27) (by kernel_rfl) (by kernel_rfl) (Eq.mp (by kernel_rfl) hh)
    · refine okF_of (tab_ok (l := T30 (Gn19 n) (Gn27 n) (Gn30 n) (Gn31 n)) ⟨ih31, trivial⟩) mixed (n := fuel) Tryz.func30 Tryz.call30 fun args w K h => ?_
      unfold Gn30 at h
      obtain ⟨x0, x1, rfl, hh⟩ := of_on2 h
      exact fnD_list (c := bodyOf Tryz.f30) (by kernel_rfl) (by kernel_rfl) (Eq.mp (by kernel_rfl) hh)
    · refine okF_of (tab_ok (l := T31 (Gn19 n) (Gn27 n) (Gn30 n) (Gn31 n)) ⟨ok17, ih19, ok26, ok53, trivial⟩) mixed (n := fuel) Tryz.func31 Tryz.call31 fun args w K h => ?_
      unfold Gn31 at h
      obtain ⟨x0, x1, rfl, hh⟩ := of_on2 h
      unfold F31 at hh
      exact fnD_list (c := bodyOf Tryz.f31) (by kernel_rfl) (by kernel_rfl) (ok31_1 (Gn19 n) (Gn27 n) (Gn30 n) (Gn31 n) (fun _ _ h => h) (fun _ _ h => h) (fun _ _ _ h => h) (initE [x0, x1]) w hh)
def G19 : FnT := fun args w K => ∃ n, Gn19 n args w K
theorem ok19 : OkF Tryz.prog 19 G19 := fun args w K ⟨n, h⟩ => (okn19_27_30_31 n).1 args w K h
theorem cn19 (n : Nat) {x0 : Value} {w : World} {K : V1} (h : F19 (Gn19 n) (Gn27 n) (Gn30 n) (Gn31 n) x0 w K) : callP (Gn19 (n + 1)) [x0] w K := by
  refine callP_intro ?_
  rw [Gn19]
  exact h
theorem cg19 {n : Nat} {args : List Value} {w : World} {K : V1} (h : callP (Gn19 n) args w K) : callP G19 args w K := by
  obtain ⟨k, h1, h2⟩ := h
  exact ⟨k, ⟨n, h1⟩, h2⟩
theorem cn27 (n : Nat) {x0 : Value} {w : World} {K : V1} (h : F27 (Gn19 n) (Gn27 n) (Gn30 n) (Gn31 n) x0 w K) : callP (Gn27 (n + 1)) [x0] w K := by
  refine callP_intro ?_
  rw [Gn27]
  exact h
theorem cn30 (n : Nat) {x0 x1 : Value} {w : World} {K : V1} (h : F30 (Gn19 n) (Gn27 n) (Gn30 n) (Gn31 n) x0 x1 w K) : callP (Gn30 (n + 1)) [x0, x1] w K := by
  refine callP_intro ?_
  rw [Gn30]
  exact h
theorem cn31 (n : Nat) {x0 x1 : Value} {w : World} {K : V1} (h : F31 (Gn19 n) (Gn27 n) (Gn30 n) (Gn31 n) x0 x1 w K) : callP (Gn31 (n + 1)) [x0, x1] w K := by
  refine callP_intro ?_
  rw [Gn31]
  exact h
def T7 : List (Nat × FnT) := [(17, G17), (19, G19)]
def F7 (x0 x1 : Value) (w : World) (K : V1) : Prop :=
bindP (bEq Tryz.prog 25 (.tmp 8) (.const (.pointer none)) x0 (.pointer none)) fun v1 =>
stepM (gd false v1) x1 fun v2 =>
Sx.stepG (gd false v1) (bLt v2 (.int .i64 1)) fun v3 =>
bindP (pPick v1 (.bool true) v3) fun v4 =>
stepM (gd false v4) x1 fun v5 =>
Sx.stepG (gd false v4) (bGt v5 (.int .i64 1073741824)) fun v6 =>
bindP (pPick v4 (.bool true) v6) fun v7 =>
ifB v7 (
K (.tuple #[(.pointer none), (.int .i64 1)]) w) (
bindP (fBuild Tryz.prog 52 [(0, x0), (1, x1)]) fun v8 =>
eBox 52 v8 w fun v10 w9 =>
eAlloc Tryz.prog 29 w9 fun v12 w11 =>
bindW (st 1 v12 v10 w11) fun w13 =>
bindP (some (.func (.func 20) #[] #[v12])) fun v15 =>
bindP (ld1 v12 w13) fun v16 =>
bindP (some (.func (.func 22) #[v16] #[])) fun v17 =>
bindP (ld1 v12 w13) fun v18 =>
bindP (some (.func (.func 23) #[v18] #[])) fun v19 =>
bindP (ld1 v12 w13) fun v20 =>
bindP (some (.func (.func 24) #[v20] #[])) fun v21 =>
bindP (ld1 v12 w13) fun v22 =>
bindP (some (.func (.func 25) #[v22] #[])) fun v23 =>
eBuildSl Tryz.prog 60 5 [(0, v15), (1, v17), (2, v19), (3, v21), (4, v23)] w13 fun v25 w24 =>
callP G19 [v25] w24 fun v27 w26 =>
bindP (bNe Tryz.prog 26 (.tmp 33) (.const (.int .i64 0)) v27 (.int .i64 0)) fun v28 =>
ifB v28 (
K (.tuple #[(.pointer none), v27]) w26) (
bindP (ld1 v12 w26.drew) fun v29 =>
bindP (ld1 v12 w26.drew) fun v30 =>
callP G17 [v30] w26.drew fun v32 w31 =>
fok true (ld1 v12 w31) v29 ∧ (bindP (bSub v32 (.int .i64 1)) fun v33 =>
bindP (pNil v29) fun v34 =>
bindP (pFieldAddr 5 v34) fun v35 =>
bindW (st 1 v35 v33 w31) fun w36 =>
bindP (ld1 v12 w36) fun v38 =>
K (.tuple #[v38, (.int .i64 0)]) w36)))
def G7 : FnT := fun args w K => on2 (fun x0 x1 => F7 x0 x1 w K) args
theorem c7 {x0 x1 : Value} {w : World} {K : V1} (h : F7 x0 x1 w K) : callP G7 [x0, x1] w K := callP_intro (on2_mk (p := fun x0 x1 => F7 x0 x1 w K) h)
theorem ok7 : OkF Tryz.prog 7 G7 := by
  refine okF_of (tab_ok (l := T7) ⟨ok17, ok19, trivial⟩) mixed (n := fuel) Tryz.func7 Tryz.call7 fun args w K h => ?_
  obtain ⟨x0, x1, rfl, hh⟩ := of_on2 h
  exact fnD_list (c := bodyOf Tryz.f7) (by kernel_rfl) (by kernel_rfl) (Eq.mp (by kernel_rfl) hh)
def T10 : List (Nat × FnT) := [(17, G17), (19, G19), (26, G26)]
def F10 (x0 x1 : Value) (w : World) (K : V1) : Prop :=
eBox 29 x0 w fun v2 w1 =>
callP G26 [x1] w1 fun v4 w3 =>
bindP (pTuple v4 0) fun v5 =>
bindP (pTuple v4 1) fun v6 =>
eAlloc Tryz.prog 9 w3 fun v8 w7 =>
bindW (st 1 v8 v5 w7) fun w9 =>
bindP (bNe Tryz.prog 26 (.tmp 13) (.const (.int .i64 0)) v6 (.int .i64 0)) fun v11 =>
ifB v11 (
K (.tuple #[(.int .i64 0), v6]) w9) (
bindP (ld1 v2 w9) fun v12 =>
bindP (some (.func (.func 27) #[v12] #[])) fun v13 =>
bindP (some (.func (.func 28) #[] #[v2, v8])) fun v14 =>
eBuildSl Tryz.prog 60 2 [(0, v13), (1, v14)] w9 fun v16 w15 =>
callP G19 [v16] w15 fun v18 w17 =>
bindP (bNe Tryz.prog 26 (.tmp 21) (.const (.int .i64 0)) v18 (.int .i64 0)) fun v19 =>
ifB v19 (
K (.tuple #[(.int .i64 0), v18]) w17) (
bindP (ld1 v2 w17.drew) fun v20 =>
bindP (ld1 v2 w17.drew) fun v21 =>
bindP (pNil v21) fun v22 =>
bindP (pFieldAddr 4 v22) fun v23 =>
bindP (ld1 v23 w17.drew) fun v24 =>
eBuildSl Tryz.prog 22 1 [(0, x1)] w17.drew fun v26 w25 =>
(fok true (ld1 v2 w25) v20 ∧ fok true (ld1 v2 w25) v21 ∧ fok true (ld1 v23 w25) v24) ∧ (eAppend Tryz.prog 22 22 v24 v26 w25 fun v28 w27 =>
fok true (ld1 v2 w27) v20 ∧ (bindP (pNil v20) fun v29 =>
bindP (pFieldAddr 4 v29) fun v30 =>
bindW (st 1 v30 v28 w27) fun w31 =>
bindP (ld1 v2 w31) fun v33 =>
callP G17 [v33] w31 fun v35 w34 =>
bindP (bSub v35 (.int .i64 1)) fun v36 =>
K (.tuple #[v36, (.int .i64 0)]) w34))))
def G10 : FnT := fun args w K => on2 (fun x0 x1 => F10 x0 x1 w K) args
theorem c10 {x0 x1 : Value} {w : World} {K : V1} (h : F10 x0 x1 w K) : callP G10 [x0, x1] w K := callP_intro (on2_mk (p := fun x0 x1 => F10 x0 x1 w K) h)
theorem ok10 : OkF Tryz.prog 10 G10 := by
  refine okF_of (tab_ok (l := T10) ⟨ok17, ok19, ok26, trivial⟩) mixed (n := fuel) Tryz.func10 Tryz.call10 fun args w K h => ?_
  obtain ⟨x0, x1, rfl, hh⟩ := of_on2 h
  exact fnD_list (c := bodyOf Tryz.f10) (by kernel_rfl) (by kernel_rfl) (Eq.mp (by kernel_rfl) hh)
def T11 : List (Nat × FnT) := [(19, G19)]
def F11 (x0 x1 : Value) (w : World) (K : V1) : Prop :=
eBox 29 x0 w fun v2 w1 =>
eBox 9 x1 w1 fun v4 w3 =>
bindP (ld1 v4 w3) fun v5 =>
bindP (lenS v5) fun v6 =>
bindP (bGt v6 (.int .i64 65528)) fun v7 =>
ifB v7 (
K (.int .i64 2) w3) (
bindP (ld1 v2 w3) fun v8 =>
bindP (some (.func (.func 12) #[v8] #[])) fun v9 =>
bindP (some (.func (.func 30) #[] #[v2, v4])) fun v10 =>
bindP (ld1 v2 w3) fun v11 =>
bindP (some (.func (.func 32) #[v11] #[])) fun v12 =>
bindP (ld1 v2 w3) fun v13 =>
bindP (some (.func (.func 25) #[v13] #[])) fun v14 =>
eBuildSl Tryz.prog 60 4 [(0, v9), (1, v10), (2, v12), (3, v14)] w3 fun v16 w15 =>
callP G19 [v16] w15 fun v18 w17 =>
K v18 w17)
def G11 : FnT := fun args w K => on2 (fun x0 x1 => F11 x0 x1 w K) args
theorem c11 {x0 x1 : Value} {w : World} {K : V1} (h : F11 x0 x1 w K) : callP G11 [x0, x1] w K := callP_intro (on2_mk (p := fun x0 x1 => F11 x0 x1 w K) h)
theorem ok11 : OkF Tryz.prog 11 G11 := by
  refine okF_of (tab_ok (l := T11) ⟨ok19, trivial⟩) mixed (n := fuel) Tryz.func11 Tryz.call11 fun args w K h => ?_
  obtain ⟨x0, x1, rfl, hh⟩ := of_on2 h
  exact fnD_list (c := bodyOf Tryz.f11) (by kernel_rfl) (by kernel_rfl) (Eq.mp (by kernel_rfl) hh)
def T14 : List (Nat × FnT) := []
def F14 (x0 : Value) (w : World) (K : V1) : Prop :=
bindP (pNil x0) fun v1 =>
bindP (pFieldAddr 2 v1) fun v2 =>
bindP (ld1 v2 w.drew) fun v3 =>
bindP (pNil x0) fun v4 =>
bindP (pFieldAddr 3 v4) fun v5 =>
bindP (ld1 v5 w.drew) fun v6 =>
K (.tuple #[v3, v6]) w.drew
def G14 : FnT := fun args w K => on1 (fun x0 => F14 x0 w K) args
theorem c14 {x0 : Value} {w : World} {K : V1} (h : F14 x0 w K) : callP G14 [x0] w K := callP_intro (on1_mk (p := fun x0 => F14 x0 w K) h)
theorem ok14 : OkF Tryz.prog 14 G14 := by
  refine okF_of (tab_ok (l := T14) trivial) mixed (n := fuel) Tryz.func14 Tryz.call14 fun args w K h => ?_
  obtain ⟨x0, rfl, hh⟩ := of_on1 h
  exact fnD_list (c := bodyOf Tryz.f14) (by kernel_rfl) (by kernel_rfl) (Eq.mp (by kernel_rfl) hh)
def T16 : List (Nat × FnT) := [(36, G36)]
def F16 (x0 : Value) (w : World) (K : V1) : Prop :=
bindP (pNil x0) fun v1 =>
bindP (pFieldAddr 4 v1) fun v2 =>
bindP (ld1 v2 w) fun v3 =>
callP G36 [v3] w fun v5 w4 =>
K v5 w4
def G16 : FnT := fun args w K => on1 (fun x0 => F16 x0 w K) args
theorem c16 {x0 : Value} {w : World} {K : V1} (h : F16 x0 w K) : callP G16 [x0] w K := callP_intro (on1_mk (p := fun x0 => F16 x0 w K) h)
theorem ok16 : OkF Tryz.prog 16 G16 := by
  refine okF_of (tab_ok (l := T16) ⟨ok36, trivial⟩) mixed (n := fuel) Tryz.func16 Tryz.call16 fun args w K h => ?_
  obtain ⟨x0, rfl, hh⟩ := of_on1 h
  exact fnD_list (c := bodyOf Tryz.f16) (by kernel_rfl) (by kernel_rfl) (Eq.mp (by kernel_rfl) hh)
def T5 : List (Nat × FnT) := [(6, G6), (7, G7), (10, G10), (12, G12), (13, G13), (15, G15), (16, G16), (17, G17)]
def F5 (w : World) (K : V1) : Prop :=
callP G6 [(.int .i64 1048576)] w fun v2 w1 =>
bindP (pTuple v2 0) fun v3 =>
bindP (pTuple v2 1) fun v4 =>
callP G7 [v3, (.int .i64 100)] w1 fun v6 w5 =>
bindP (pTuple v6 0) fun v7 =>
bindP (pTuple v6 1) fun v8 =>
bindP (bEq Tryz.prog 25 (.tmp 21) (.const (.pointer none)) v3 (.pointer none)) fun v9 =>
stepM (gd false v9) v7 fun v10 =>
Sx.stepG (gd false v9) (bEq Tryz.prog 29 (.tmp 24) (.const (.pointer none)) v10 (.pointer none)) fun v11 =>
bindP (pPick v9 (.bool true) v11) fun v12 =>
stepM (gd false v12) v4 fun v13 =>
Sx.stepG (gd false v12) (bNe Tryz.prog 26 (.tmp 28) (.const (.int .i64 0)) v13 (.int .i64 0)) fun v14 =>
bindP (pPick v12 (.bool true) v14) fun v15 =>
stepM (gd false v15) v8 fun v16 =>
Sx.stepG (gd false v15) (bNe Tryz.prog 26 (.tmp 32) (.const (.int .i64 0)) v16 (.int .i64 0)) fun v17 =>
bindP (pPick v15 (.bool true) v17) fun v18 =>
ifB v18 (
K (.bool false) w5) (
callP G10 [v7, (.string ⟨#[97]⟩)] w5 fun v20 w19 =>
bindP (pTuple v20 0) fun v21 =>
bindP (pTuple v20 1) fun v22 =>
callP G10 [v7, (.string ⟨#[98]⟩)] w19 fun v24 w23 =>
bindP (pTuple v24 0) fun v25 =>
bindP (pTuple v24 1) fun v26 =>
callP G12 [v7] w23 fun v28 w27 =>
callP G10 [v7, (.string ⟨#[99]⟩)] w27 fun v30 w29 =>
bindP (pTuple v30 0) fun v31 =>
bindP (pTuple v30 1) fun v32 =>
callP G13 [v3, (.slice none 0 0)] w29 fun _ w33 =>
callP G7 [v3, (.int .i64 100)] w33 fun v36 w35 =>
bindP (pTuple v36 0) fun v37 =>
bindP (pTuple v36 1) fun v38 =>
bindP (bEq Tryz.prog 26 (.tmp 59) (.const (.int .i64 0)) v22 (.int .i64 0)) fun v39 =>
stepM (gd true v39) v26 fun v40 =>
Sx.stepG (gd true v39) (bEq Tryz.prog 26 (.tmp 62) (.const (.int .i64 0)) v40 (.int .i64 0)) fun v41 =>
bindP (pPick v39 v41 (.bool false)) fun v42 =>
stepM (gd true v42) v28 fun v43 =>
Sx.stepG (gd true v42) (bEq Tryz.prog 26 (.tmp 66) (.const (.int .i64 0)) v43 (.int .i64 0)) fun v44 =>
bindP (pPick v42 v44 (.bool false)) fun v45 =>
stepM (gd true v45) v32 fun v46 =>
Sx.stepG (gd true v45) (bEq Tryz.prog 26 (.tmp 70) (.const (.int .i64 0)) v46 (.int .i64 0)) fun v47 =>
bindP (pPick v45 v47 (.bool false)) fun v48 =>
stepM (gd true v48) v38 fun v49 =>
Sx.stepG (gd true v48) (bEq Tryz.prog 26 (.tmp 74) (.const (.int .i64 0)) v49 (.int .i64 0)) fun v50 =>
bindP (pPick v48 v50 (.bool false)) fun v51 =>
stepM (gd true v51) v21 fun v52 =>
Sx.stepG (gd true v51) (bEq Tryz.prog 3 (.tmp 78) (.const (.int .i64 1)) v52 (.int .i64 1)) fun v53 =>
bindP (pPick v51 v53 (.bool false)) fun v54 =>
stepM (gd true v54) v25 fun v55 =>
Sx.stepG (gd true v54) (bEq Tryz.prog 3 (.tmp 82) (.const (.int .i64 2)) v55 (.int .i64 2)) fun v56 =>
bindP (pPick v54 v56 (.bool false)) fun v57 =>
stepM (gd true v57) v31 fun v58 =>
Sx.stepG (gd true v57) (bEq Tryz.prog 3 (.tmp 86) (.const (.int .i64 3)) v58 (.int .i64 3)) fun v59 =>
bindP (pPick v57 v59 (.bool false)) fun v60 =>
stepM (gd true v60) v37 fun v61 =>
Sx.stepG (gd true v60) (bNe Tryz.prog 29 (.tmp 90) (.const (.pointer none)) v61 (.pointer none)) fun v62 =>
bindP (pPick v60 v62 (.bool false)) fun v63 =>
stepM (gd true v63) v37 fun v64 =>
stepE (gd true v63) (fun k => callP G16 [v64] w35 k) w35 fun v66 w65 =>
stepE (gd true v63) (fun k => eBuildSl Tryz.prog 22 2 [(0, (.string ⟨#[97]⟩)), (1, (.string ⟨#[98]⟩))] w65 k) w65 fun v68 w67 =>
stepE (gd true v63) (fun k => callP G15 [v66, v68] w67 k) w67 fun v70 w69 =>
bindP (pPick v63 v70 (.bool false)) fun v71 =>
stepM (gd true v71) v37 fun v72 =>
stepE (gd true v71) (fun k => callP G17 [v72] w69 k) w69 fun v74 w73 =>
Sx.stepG (gd true v71) (bEq Tryz.prog 3 (.tmp 101) (.const (.int .i64 3)) v74 (.int .i64 3)) fun v75 =>
bindP (pPick v71 v75 (.bool false)) fun v76 =>
K v76 w73)
def G5 : FnT := fun args w K => on0 (F5 w K) args
theorem c5 {w : World} {K : V1} (h : F5 w K) : callP G5 [] w K := callP_intro (on0_mk (p := F5 w K) h)
theorem ok5 : OkF Tryz.prog 5 G5 := by
  refine okF_of (tab_ok (l := T5) ⟨ok6, ok7, ok10, ok12, ok13, ok15, ok16, ok17, trivial⟩) mixed (n := fuel) Tryz.func5 Tryz.call5 fun args w K h => ?_
  obtain ⟨rfl, hh⟩ := of_on0 h
  exact fnD_list (c := bodyOf Tryz.f5) (by kernel_rfl) (by kernel_rfl) (Eq.mp (by kernel_rfl) hh)
def T9 : List (Nat × FnT) := []
def F9 (x0 x1 : Value) (w : World) (K : V1) : Prop :=
bindP (lenS x0) fun v1 =>
bindP (bGt v1 x1) fun v2 =>
ifB v2 (
bindP (pSliceS x0 none (some x1)) fun v3 =>
K v3 w) (
K x0 w)
def G9 : FnT := fun args w K => on2 (fun x0 x1 => F9 x0 x1 w K) args
theorem c9 {x0 x1 : Value} {w : World} {K : V1} (h : F9 x0 x1 w K) : callP G9 [x0, x1] w K := callP_intro (on2_mk (p := fun x0 x1 => F9 x0 x1 w K) h)
theorem ok9 : OkF Tryz.prog 9 G9 := by
  refine okF_of (tab_ok (l := T9) trivial) mixed (n := fuel) Tryz.func9 Tryz.call9 fun args w K h => ?_
  obtain ⟨x0, x1, rfl, hh⟩ := of_on2 h
  exact fnD_list (c := bodyOf Tryz.f9) (by kernel_rfl) (by kernel_rfl) (Eq.mp (by kernel_rfl) hh)
def F3_3b (s0 s5 s7 s9 s11 : Value) (w : World) (K : V1) : Prop :=
callP G12 [s9] w fun v2 w1 =>
bindP (bNe Tryz.prog 26 (.tmp 100) (.const (.int .i64 0)) v2 (.int .i64 0)) fun v3 =>
ifB v3 (
K (.bool false) w1) (
callP G13 [s7, (.slice none 0 0)] w1 fun _ w4 =>
bindP (pIndexP 2 1 s5 (.int .i64 1)) fun v6 =>
bindP (ld1 v6 w4) fun v7 =>
callP G8 [v7, (.int .i64 500)] w4 fun v9 w8 =>
bindP (bAdd (.int .i64 1) v9) fun v10 =>
callP G7 [s7, v10] w8 fun v12 w11 =>
bindP (pTuple v12 0) fun v13 =>
bindP (pTuple v12 1) fun v14 =>
bindP (bEq Tryz.prog 29 (.tmp 113) (.const (.pointer none)) v13 (.pointer none)) fun v15 =>
stepM (gd false v15) v14 fun v16 =>
Sx.stepG (gd false v15) (bNe Tryz.prog 26 (.tmp 116) (.const (.int .i64 0)) v16 (.int .i64 0)) fun v17 =>
bindP (pPick v15 (.bool true) v17) fun v18 =>
ifB v18 (
K (.bool false) w11) (
callP G14 [v13] w11 fun v20 w19 =>
bindP (pTuple v20 0) fun v21 =>
bindP (pTuple v20 1) fun v22 =>
bindP (bGe s11 (.int .i64 1)) fun v23 =>
stepM (gd true v23) s11 fun v24 =>
stepM (gd true v23) s0 fun v25 =>
Sx.stepG (gd true v23) (lenL v25) fun v26 =>
Sx.stepG (gd true v23) (bLe v24 v26) fun v27 =>
bindP (pPick v23 v27 (.bool false)) fun v28 =>
ifB v28 (
bindP (bEq Tryz.prog 3 (.tmp 132) (.tmp 133) v21 s11) fun v29 =>
stepM (gd true v29) v22 fun v30 =>
Sx.stepG (gd true v29) (bEq Tryz.prog 9 (.tmp 136) (.const (.string ⟨#[115, 116, 97, 116, 101]⟩)) v30 (.string ⟨#[115, 116, 97, 116, 101]⟩)) fun v31 =>
bindP (pPick v29 v31 (.bool false)) fun v32 =>
stepM (gd true v32) v13 fun v33 =>
stepM (gd true v32) s0 fun v34 =>
stepM (gd true v32) s11 fun v35 =>
Sx.stepG (gd true v32) (pSliceL 1 v34 (some v35) none none) fun v36 =>
stepE (gd true v32) (fun k => callP G16 [v33] w19.drew k) w19.drew fun v38 w37 =>
stepE (gd true v32) (fun k => callP G15 [v38, v36] w37 k) w37 fun v40 w39 =>
bindP (pPick v32 v40 (.bool false)) fun v41 =>
stepM (gd true v41) v13 fun v42 =>
stepM (gd true v41) s0 fun v43 =>
Sx.stepG (gd true v41) (lenL v43) fun v44 =>
Sx.stepG (gd true v41) (bAdd v44 (.int .i64 1)) fun v45 =>
stepE (gd true v41) (fun k => callP G17 [v42] w39 k) w39 fun v47 w46 =>
fok (gd true v41) (lenL v43) v44 ∧ (Sx.stepG (gd true v41) (bEq Tryz.prog 3 (.tmp 149) (.tmp 152) v47 v45) fun v48 =>
bindP (pPick v41 v48 (.bool false)) fun v49 =>
K v49 w46)) (
bindP (bEq Tryz.prog 3 (.tmp 155) (.const (.int .i64 0)) v21 (.int .i64 0)) fun v50 =>
stepM (gd true v50) v22 fun v51 =>
Sx.stepG (gd true v50) (bEq Tryz.prog 9 (.tmp 158) (.const (.string ⟨#[]⟩)) v51 (.string ⟨#[]⟩)) fun v52 =>
bindP (pPick v50 v52 (.bool false)) fun v53 =>
stepM (gd true v53) v13 fun v54 =>
stepE (gd true v53) (fun k => callP G16 [v54] w19 k) w19 fun v56 w55 =>
stepM (gd true v53) s0 fun v57 =>
stepE (gd true v53) (fun k => callP G15 [v56, v57] w55 k) w55 fun v59 w58 =>
bindP (pPick v53 v59 (.bool false)) fun v60 =>
stepM (gd true v60) v13 fun v61 =>
stepE (gd true v60) (fun k => callP G17 [v61] w58 k) w58 fun v63 w62 =>
stepM (gd true v60) s0 fun v64 =>
Sx.stepG (gd true v60) (lenL v64) fun v65 =>
Sx.stepG (gd true v60) (bAdd v65 (.int .i64 1)) fun v66 =>
Sx.stepG (gd true v60) (bEq Tryz.prog 3 (.tmp 169) (.tmp 172) v63 v66) fun v67 =>
bindP (pPick v60 v67 (.bool false)) fun v68 =>
K v68 w62)))
def F3_3 (s0 s5 s7 s9 s11 : Value) (w : World) (K : V1) : Prop := F3_3b s0 s5 s7 s9 s11 w K
def F3_2b (s0 s5 s7 s9 s11 s60 s61 : Value) (w : World) (K : V1) (Y0 : V7) (Y1 : V5) : Prop :=
bindP (bLt s61 s60) fun v69 =>
ifB v69 (
bindP (pIndexL 1 s0 s61) fun v70 =>
bindP (ld1 v70 w) fun v71 =>
callP G9 [v71, (.int .i64 300)] w fun v73 w72 =>
bindP (pIndexL 1 s0 s61) fun v74 =>
bindW (st 1 v74 v73 w72) fun w75 =>
bindP (pIndexL 1 s0 s61) fun v77 =>
bindP (ld1 v77 w75) fun v78 =>
callP G10 [s9, v78] w75 fun v80 w79 =>
bindP (pTuple v80 0) fun v81 =>
bindP (pTuple v80 1) fun v82 =>
bindP (bAdd s61 (.int .i64 1)) fun v83 =>
bindP (bNe Tryz.prog 3 (.tmp 81) (.tmp 83) v81 v83) fun v84 =>
stepM (gd false v84) v82 fun v85 =>
Sx.stepG (gd false v84) (bNe Tryz.prog 26 (.tmp 86) (.const (.int .i64 0)) v85 (.int .i64 0)) fun v86 =>
bindP (pPick v84 (.bool true) v86) fun v87 =>
ifB v87 (
K (.bool false) w79) (
bindP (bAdd s61 (.int .i64 1)) fun v88 =>
bindP (bEq Tryz.prog 3 (.tmp 90) (.tmp 91) v88 s11) fun v89 =>
stepM (gd true v89) s9 fun v90 =>
stepE (gd true v89) (fun k => callP G11 [v90, (.string ⟨#[115, 116, 97, 116, 101]⟩)] w79 k) w79 fun v92 w91 =>
Sx.stepG (gd true v89) (bNe Tryz.prog 26 (.tmp 95) (.const (.int .i64 0)) v92 (.int .i64 0)) fun v93 =>
bindP (pPick v89 v93 (.bool false)) fun v94 =>
ifB v94 (
K (.bool false) w91) (
bindP (bAdd s61 (.int .i64 1)) fun v95 =>
Y0 s0 s5 s7 s9 s11 s60 v95 w91))) (
Y1 s0 s5 s7 s9 s11 w)
def F3_2L : Nat → Value → Value → Value → Value → Value → Value → Value → World → (V1) → Prop
  | 0, _, _, _, _, _, _, _, _, _ => False
  | n + 1, s0, s5, s7, s9, s11, s60, s61, w, K => F3_2b s0 s5 s7 s9 s11 s60 s61 w K (fun a0 a5 a7 a9 a11 a60 a61 w => F3_2L n a0 a5 a7 a9 a11 a60 a61 w K) (fun a0 a5 a7 a9 a11 w => F3_3 a0 a5 a7 a9 a11 w K)
def F3_2 (s0 s5 s7 s9 s11 s60 s61 : Value) (w : World) (K : V1) : Prop := F3_2L fuel s0 s5 s7 s9 s11 s60 s61 w K
def F3_1b (s0 s1 s2 : Value) (w : World) (K : V1) (Y0 : V7) : Prop :=
eBox 23 s2 w fun v97 w96 =>
callP G5 [] w96 fun v99 w98 =>
bindP (uNot v99) fun v100 =>
ifB v100 (
K (.bool false) w98) (
callP G6 [(.int .i64 16777216)] w98 fun v102 w101 =>
bindP (pTuple v102 0) fun v103 =>
bindP (pTuple v102 1) fun v104 =>
bindP (pIndexP 2 1 v97 (.int .i64 0)) fun v105 =>
bindP (ld1 v105 w101) fun v106 =>
callP G8 [v106, (.int .i64 500)] w101 fun v108 w107 =>
bindP (bAdd (.int .i64 1) v108) fun v109 =>
callP G7 [v103, v109] w107 fun v111 w110 =>
bindP (pTuple v111 0) fun v112 =>
bindP (pTuple v111 1) fun v113 =>
bindP (bEq Tryz.prog 25 (.tmp 33) (.const (.pointer none)) v103 (.pointer none)) fun v114 =>
stepM (gd false v114) v112 fun v115 =>
Sx.stepG (gd false v114) (bEq Tryz.prog 29 (.tmp 36) (.const (.pointer none)) v115 (.pointer none)) fun v116 =>
bindP (pPick v114 (.bool true) v116) fun v117 =>
stepM (gd false v117) v104 fun v118 =>
Sx.stepG (gd false v117) (bNe Tryz.prog 26 (.tmp 40) (.const (.int .i64 0)) v118 (.int .i64 0)) fun v119 =>
bindP (pPick v117 (.bool true) v119) fun v120 =>
stepM (gd false v120) v113 fun v121 =>
Sx.stepG (gd false v120) (bNe Tryz.prog 26 (.tmp 44) (.const (.int .i64 0)) v121 (.int .i64 0)) fun v122 =>
bindP (pPick v120 (.bool true) v122) fun v123 =>
ifB v123 (
K (.bool false) w110) (
eBuildSl Tryz.prog 22 0 [] w110 fun v125 w124 =>
bindP (lenL s0) fun v126 =>
bindP (pMin v126 (.int .i64 40)) fun v127 =>
bindP (pSliceL 1 s0 none (some v127) none) fun v128 =>
eAppend Tryz.prog 22 22 v125 v128 w124 fun v130 w129 =>
bindP (lenL v130) fun v131 =>
bindP (bAdd v131 (.int .i64 2)) fun v132 =>
callP G8 [s1, v132] w129 fun v134 w133 =>
bindP (lenL v130) fun v135 =>
Y0 v130 v97 v103 v112 v134 v135 (.int .i64 0) w133))
def F3_1 (s0 s1 s2 : Value) (w : World) (K : V1) : Prop := F3_1b s0 s1 s2 w K (fun a0 a5 a7 a9 a11 a60 a61 w => F3_2 a0 a5 a7 a9 a11 a60 a61 w K)
def F3 (x0 x1 x2 : Value) (w : World) (K : V1) : Prop := F3_1 x0 x1 x2 w K
def G3 : FnT := fun args w K => on3 (fun x0 x1 x2 => F3 x0 x1 x2 w K) args
theorem c3 {x0 x1 x2 : Value} {w : World} {K : V1} (h : F3 x0 x1 x2 w K) : callP G3 [x0, x1, x2] w K := callP_intro (on3_mk (p := fun x0 x1 x2 => F3 x0 x1 x2 w K) h)
def T4 : List (Nat × FnT) := [(5, G5), (6, G6), (7, G7), (8, G8), (9, G9), (10, G10), (11, G11), (12, G12), (13, G13), (14, G14), (15, G15), (16, G16), (17, G17), (18, G18)]
def F4_3b (s0 s1 s2 s7 s9 : Value) (w : World) (K : V1) : Prop :=
callP G12 [s9] w fun v2 w1 =>
bindP (bNe Tryz.prog 26 (.tmp 76) (.const (.int .i64 0)) v2 (.int .i64 0)) fun v3 =>
stepM (gd false v3) s7 fun v4 =>
stepM (gd false v3) s1 fun v5 =>
stepE (gd false v3) (fun k => callP G8 [v5, (.int .i64 15)] w1 k) w1 fun v7 w6 =>
stepE (gd false v3) (fun k => callP G18 [v4, v7] w6 k) w6 fun v9 w8 =>
Sx.stepG (gd false v3) (bNe Tryz.prog 26 (.tmp 82) (.const (.int .i64 0)) v9 (.int .i64 0)) fun v10 =>
bindP (pPick v3 (.bool true) v10) fun v11 =>
ifB v11 (
K (.bool false) w8) (
callP G11 [s9, (.string ⟨#[110, 101, 119, 32, 115, 116, 97, 116, 101]⟩)] w8 fun v13 w12 =>
bindP (bEq Tryz.prog 26 (.tmp 86) (.const (.int .i64 0)) v13 (.int .i64 0)) fun v14 =>
callP G13 [s7, s2] w12 fun _ w15 =>
callP G7 [s7, (.int .i64 50)] w15 fun v18 w17 =>
bindP (pTuple v18 0) fun v19 =>
bindP (pTuple v18 1) fun v20 =>
bindP (bEq Tryz.prog 29 (.tmp 96) (.const (.pointer none)) v19 (.pointer none)) fun v21 =>
stepM (gd false v21) v20 fun v22 =>
Sx.stepG (gd false v21) (bNe Tryz.prog 26 (.tmp 99) (.const (.int .i64 0)) v22 (.int .i64 0)) fun v23 =>
bindP (pPick v21 (.bool true) v23) fun v24 =>
stepM (gd false v24) v19 fun v25 =>
stepE (gd false v24) (fun k => callP G17 [v25] w17 k) w17 fun v27 w26 =>
stepM (gd false v24) s0 fun v28 =>
Sx.stepG (gd false v24) (lenL v28) fun v29 =>
Sx.stepG (gd false v24) (bAdd v29 (.int .i64 1)) fun v30 =>
Sx.stepG (gd false v24) (bNe Tryz.prog 3 (.tmp 104) (.tmp 107) v27 v30) fun v31 =>
bindP (pPick v24 (.bool true) v31) fun v32 =>
ifB v32 (
K (.bool false) w26) (
callP G14 [v19] w26 fun v34 w33 =>
bindP (pTuple v34 0) fun v35 =>
bindP (pTuple v34 1) fun v36 =>
bindP (lenL s0) fun v37 =>
bindP (bEq Tryz.prog 3 (.tmp 115) (.tmp 117) v35 v37) fun v38 =>
stepM (gd true v38) v36 fun v39 =>
Sx.stepG (gd true v38) (bEq Tryz.prog 9 (.tmp 120) (.const (.string ⟨#[110, 101, 119, 32, 115, 116, 97, 116, 101]⟩)) v39 (.string ⟨#[110, 101, 119, 32, 115, 116, 97, 116, 101]⟩)) fun v40 =>
bindP (pPick v38 v40 (.bool false)) fun v41 =>
ifB v41 (
callP G16 [v19] w33 fun v43 w42 =>
bindP (lenL v43) fun v44 =>
bindP (bEq Tryz.prog 3 (.tmp 125) (.const (.int .i64 0)) v44 (.int .i64 0)) fun v45 =>
K v45 w42) (
bindP (uNot v14) fun v46 =>
stepM (gd true v46) v35 fun v47 =>
Sx.stepG (gd true v46) (bEq Tryz.prog 3 (.tmp 130) (.const (.int .i64 0)) v47 (.int .i64 0)) fun v48 =>
bindP (pPick v46 v48 (.bool false)) fun v49 =>
stepM (gd true v49) v36 fun v50 =>
Sx.stepG (gd true v49) (bEq Tryz.prog 9 (.tmp 134) (.const (.string ⟨#[]⟩)) v50 (.string ⟨#[]⟩)) fun v51 =>
bindP (pPick v49 v51 (.bool false)) fun v52 =>
stepM (gd true v52) v19 fun v53 =>
stepE (gd true v52) (fun k => callP G16 [v53] w33 k) w33 fun v55 w54 =>
stepM (gd true v52) s0 fun v56 =>
stepE (gd true v52) (fun k => callP G15 [v55, v56] w54 k) w54 fun v58 w57 =>
bindP (pPick v52 v58 (.bool false)) fun v59 =>
K v59 w57)))
def F4_3 (s0 s1 s2 s7 s9 : Value) (w : World) (K : V1) : Prop := F4_3b s0 s1 s2 s7 s9 w K
theorem ok4_3 {K : V1}
    (hn : HN (fun e w => K (e 6) w) kn) (hr : HR Tryz.prog [.tmp 6] K kr) (he : HE noE ke) :
    ∀ e w, F4_3 (e 0) (e 1) (e 2) (e 7) (e 9) w K → denL Tryz.prog (tabOf T4) 143 fuel ((flat (bodyOf Tryz.f4)).drop 10) e w kn kr ke := by
  intro e w h
  unfold F4_3 at h
  have e1 : ∀ (_ : Unit), F4_3b (e 0) (e 1) (e 2) (e 7) (e 9) w K = denL Tryz.prog (tabOf T4) 143 fuel ((flat (bodyOf Tryz.f4)).drop 10) e w (fun e w => K (e 6) w) (endD Tryz.prog [.tmp 6] K) noE := by intro _; kernel_rfl
  exact seg_end (Eq.mp (e1 ()) h) hn hr he
def F4_2b (s0 s1 s2 s7 s9 s51 s52 : Value) (w : World) (K : V1) (Y0 : V7) (Y1 : V5) : Prop :=
bindP (bLt s52 s51) fun v60 =>
ifB v60 (
bindP (pIndexL 1 s0 s52) fun v61 =>
bindP (ld1 v61 w) fun v62 =>
callP G9 [v62, (.int .i64 100)] w fun v64 w63 =>
bindP (pIndexL 1 s0 s52) fun v65 =>
bindW (st 1 v65 v64 w63) fun w66 =>
bindP (pIndexL 1 s0 s52) fun v68 =>
bindP (ld1 v68 w66) fun v69 =>
callP G10 [s9, v69] w66 fun v71 w70 =>
bindP (pTuple v71 0) fun _ =>
bindP (pTuple v71 1) fun v73 =>
bindP (bNe Tryz.prog 26 (.tmp 72) (.const (.int .i64 0)) v73 (.int .i64 0)) fun v74 =>
ifB v74 (
K (.bool false) w70) (
bindP (bAdd s52 (.int .i64 1)) fun v75 =>
Y0 s0 s1 s2 s7 s9 s51 v75 w70)) (
Y1 s0 s1 s2 s7 s9 w)
def F4_2L : Nat → Value → Value → Value → Value → Value → Value → Value → World → (V1) → Prop
  | 0, _, _, _, _, _, _, _, _, _ => False
  | n + 1, s0, s1, s2, s7, s9, s51, s52, w, K => F4_2b s0 s1 s2 s7 s9 s51 s52 w K (fun a0 a1 a2 a7 a9 a51 a52 w => F4_2L n a0 a1 a2 a7 a9 a51 a52 w K) (fun a0 a1 a2 a7 a9 w => F4_3 a0 a1 a2 a7 a9 w K)
def F4_2 (s0 s1 s2 s7 s9 s51 s52 : Value) (w : World) (K : V1) : Prop := F4_2L fuel s0 s1 s2 s7 s9 s51 s52 w K
theorem ok4_2 {K : V1}
    (hn : HN (fun e w => K (e 6) w) kn) (hr : HR Tryz.prog [.tmp 6] K kr) (he : HE noE ke) :
    ∀ e w, F4_2 (e 0) (e 1) (e 2) (e 7) (e 9) (e 51) (e 52) w K → denL Tryz.prog (tabOf T4) 143 fuel ((flat (bodyOf Tryz.f4)).drop 9) e w kn kr ke := by
  intro e w h
  unfold F4_2 at h
  refine seg_loop (id := 0) (body := (loopB (blkB (nthC (flat (bodyOf Tryz.f4)) 9)))) (l2 := (flat (bodyOf Tryz.f4)).drop 10) (by kernel_rfl) ?_
  refine loop_ok (FL := fun m e w => F4_2L m (e 0) (e 1) (e 2) (e 7) (e 9) (e 51) (e 52) w K) (fr := endD Tryz.prog [.tmp 6] K) (fe := (blkK 0 (fun e w => F4_3 (e 0) (e 1) (e 2) (e 7) (e 9) w K) noE)) (fun _ _ h => h) ?_ hr (blkK_mono (fun e w h => ok4_3 hn hr he e w h) he) fuel e w h
  intro m e w h
  have h : F4_2L (m + 1) (e 0) (e 1) (e 2) (e 7) (e 9) (e 51) (e 52) w K := h
  rw [F4_2L] at h
  have e1 : ∀ (Y0 : V7) (Y1 : V5), F4_2b (e 0) (e 1) (e 2) (e 7) (e 9) (e 51) (e 52) w K Y0 Y1 = denL Tryz.prog (tabOf T4) 143 fuel (flat (loopB (blkB (nthC (flat (bodyOf Tryz.f4)) 9)))) e w (fun e w => Y0 (e 0) (e 1) (e 2) (e 7) (e 9) (e 51) (e 52) w) (endD Tryz.prog [.tmp 6] K) (blkK 0 (fun e w => Y1 (e 0) (e 1) (e 2) (e 7) (e 9) w) noE) := by intro Y0 Y1; kernel_rfl
  exact Eq.mp (e1 (fun a0 a1 a2 a7 a9 a51 a52 w => F4_2L m a0 a1 a2 a7 a9 a51 a52 w K) (fun a0 a1 a2 a7 a9 w => F4_3 a0 a1 a2 a7 a9 w K)) h
def F4_1b (s0 s1 s2 : Value) (w : World) (K : V1) (Y0 : V7) : Prop :=
callP G5 [] w fun v77 w76 =>
bindP (uNot v77) fun v78 =>
ifB v78 (
K (.bool false) w76) (
callP G6 [(.int .i64 16777216)] w76 fun v80 w79 =>
bindP (pTuple v80 0) fun v81 =>
bindP (pTuple v80 1) fun v82 =>
callP G7 [v81, (.int .i64 50)] w79 fun v84 w83 =>
bindP (pTuple v84 0) fun v85 =>
bindP (pTuple v84 1) fun v86 =>
bindP (bEq Tryz.prog 25 (.tmp 29) (.const (.pointer none)) v81 (.pointer none)) fun v87 =>
stepM (gd false v87) v85 fun v88 =>
Sx.stepG (gd false v87) (bEq Tryz.prog 29 (.tmp 32) (.const (.pointer none)) v88 (.pointer none)) fun v89 =>
bindP (pPick v87 (.bool true) v89) fun v90 =>
stepM (gd false v90) v82 fun v91 =>
Sx.stepG (gd false v90) (bNe Tryz.prog 26 (.tmp 36) (.const (.int .i64 0)) v91 (.int .i64 0)) fun v92 =>
bindP (pPick v90 (.bool true) v92) fun v93 =>
stepM (gd false v93) v86 fun v94 =>
Sx.stepG (gd false v93) (bNe Tryz.prog 26 (.tmp 40) (.const (.int .i64 0)) v94 (.int .i64 0)) fun v95 =>
bindP (pPick v93 (.bool true) v95) fun v96 =>
ifB v96 (
K (.bool false) w83) (
eBuildSl Tryz.prog 22 0 [] w83 fun v98 w97 =>
bindP (lenL s0) fun v99 =>
bindP (pMin v99 (.int .i64 10)) fun v100 =>
bindP (pSliceL 1 s0 none (some v100) none) fun v101 =>
eAppend Tryz.prog 22 22 v98 v101 w97 fun v103 w102 =>
bindP (lenL v103) fun v104 =>
Y0 v103 s1 s2 v81 v85 v104 (.int .i64 0) w102))
def F4_1 (s0 s1 s2 : Value) (w : World) (K : V1) : Prop := F4_1b s0 s1 s2 w K (fun a0 a1 a2 a7 a9 a51 a52 w => F4_2 a0 a1 a2 a7 a9 a51 a52 w K)
theorem ok4_1 {K : V1}
    (hn : HN (fun e w => K (e 6) w) kn) (hr : HR Tryz.prog [.tmp 6] K kr) (he : HE noE ke) :
    ∀ e w, F4_1 (e 0) (e 1) (e 2) w K → denL Tryz.prog (tabOf T4) 143 fuel ((flat (bodyOf Tryz.f4)).drop 0) e w kn kr ke := by
  intro e w h
  unfold F4_1 at h
  have e1 : ∀ (Y0 : V7), F4_1b (e 0) (e 1) (e 2) w K Y0 = denL Tryz.prog (tabOf T4) 143 fuel (((flat (bodyOf Tryz.f4)).drop 0).take 9) e w (fun e w => Y0 (e 0) (e 1) (e 2) (e 7) (e 9) (e 51) (e 52) w) (endD Tryz.prog [.tmp 6] K) noE := by intro Y0; kernel_rfl
  exact seg 9 (Eq.mp (e1 (fun a0 a1 a2 a7 a9 a51 a52 w => F4_2 a0 a1 a2 a7 a9 a51 a52 w K)) h) (fun e w h => ok4_2 hn hr he e w h) hr he
def F4 (x0 x1 x2 : Value) (w : World) (K : V1) : Prop := F4_1 x0 x1 x2 w K
def G4 : FnT := fun args w K => on3 (fun x0 x1 x2 => F4 x0 x1 x2 w K) args
theorem c4 {x0 x1 x2 : Value} {w : World} {K : V1} (h : F4 x0 x1 x2 w K) : callP G4 [x0, x1, x2] w K := callP_intro (on3_mk (p := fun x0 x1 x2 => F4 x0 x1 x2 w K) h)
theorem ok4 : OkF Tryz.prog 4 G4 := by
  refine okF_of (tab_ok (l := T4) ⟨ok5, ok6, ok7, ok8, ok9, ok10, ok11, ok12, ok13, ok14, ok15, ok16, ok17, ok18, trivial⟩) mixed (n := fuel) Tryz.func4 Tryz.call4 fun args w K h => ?_
  obtain ⟨x0, x1, x2, rfl, hh⟩ := of_on3 h
  unfold F4 at hh
  exact fnD_list (c := bodyOf Tryz.f4) (by kernel_rfl) (by kernel_rfl) (ok4_1 (fun _ _ h => h) (fun _ _ h => h) (fun _ _ _ h => h) (initE [x0, x1, x2]) w hh)
end Go.Proofs.Gong

/- Jh2 -/
namespace Go.Proofs.Gong
open Go Go.Sx Go.Proofs
set_option maxRecDepth 100000
def SynIs (w : World) : Prop := ∃ t v, w.cell? ⟨2, 0, none⟩ = some (.iface t v)
section
variable {w0 w : World} {L : List HP} {K : Value → World → Prop}
theorem name_spec {n : Nat} (B : BruIs w0) (h : Sat w0 L w) (hn : n < 4294967296) (hK : ∀ w', Sat w0 L w' → K (.string (bs (nameL n))) w') : callP G48 [.int .i64 n] w K := by
  refine c48 ?_
  unfold F48
  refine fmt_spec B h (by omega) fun w h => ?_
  obtain ⟨h1, h2, h3⟩ := hexL_pad hn
  have e1 : bSub (.int .i64 8) (.int .i64 ((hexL n).map hx).length) = some (.int .i64 ((8 - (hexL n).length : Nat))) := by
    rw [bSub_int, List.length_map, show (8 : Int) - (hexL n).length = ((8 - (hexL n).length : Nat) : Int) by omega, wrap_id (by omega)]
  have e2 : pMax (.int .i64 0) (.int .i64 ((8 - (hexL n).length : Nat))) = some (.int .i64 ((8 - (hexL n).length : Nat))) := by
    simp [pMax]; omega
  simp only [lenS_mk, bs_size, bindP_some, e1, e2]
  refine repeat_spec (by omega) ?_
  have e0 : (ByteArray.mk #[108, 111, 103, 46] : ByteArray) = bs preL := rfl
  rw [e0]
  have e3 : bAdd (.string (bs preL)) (.string (bs (List.replicate (8 - (hexL n).length) 48))) = some (.string (bs (preL ++ List.replicate (8 - (hexL n).length) 48))) := add_txt (by simp [preL]; omega)
  have e4 : bAdd (.string (bs (preL ++ List.replicate (8 - (hexL n).length) 48))) (.string (bs ((hexL n).map hx))) = some (.string (bs (nameL n))) := by
    rw [add_txt (by simp [preL]; omega), List.append_assoc, h3]; rfl
  rw [e3]
  simp only [bindP_some, e4]
  exact hK w h
theorem hx_nat {d : Nat} (h : d < 16) : (hx d).toNat = if d < 10 then 48 + d else 87 + d := by
  unfold hx
  split <;> simp <;> omega
theorem lower_spec {c : Nat} {r : Nat} (hr : bBit .or (.int .u8 c) (.int .u8 32) = some (.int .u8 r)) (hK : K (.int .u8 r) w) : callP G152 [.int .u8 c] w K := by
  refine c152 ?_
  unfold F152
  rw [hr]
  simp only [bindP_some]
  exact hK
theorem digit_step {d : Nat} (hd : d < 16) {s8 : Value} {k1 : Value → World → Prop} {k0 : Prop} {k2 : World → Prop} (hK : k1 (.int .u8 d) w) :
    bindP (bEq Tryz.prog 5 (.tmp 107) (.const (.int .u8 95)) (.int .u8 (hx d).toNat) (.int .u8 95)) fun v25 =>
    stepM (gd true v25) s8 fun v26 =>
    bindP (pPick v25 v26 (.bool false)) fun v27 =>
    ifB v27 k0 (
    bindP (bLe (.int .u8 48) (.int .u8 (hx d).toNat)) fun v28 =>
    stepM (gd true v28) (.int .u8 (hx d).toNat) fun v29 =>
    Sx.stepG (gd true v28) (bLe v29 (.int .u8 57)) fun v30 =>
    bindP (pPick v28 v30 (.bool false)) fun v31 =>
    ifB v31 (
    bindP (bSub (.int .u8 (hx d).toNat) (.int .u8 48)) fun v32 =>
    k1 v32 w) (
    callP G152 [(.int .u8 (hx d).toNat)] w fun v34 w33 =>
    bindP (bLe (.int .u8 97) v34) fun v35 =>
    stepM (gd true v35) (.int .u8 (hx d).toNat) fun v36 =>
    stepE (gd true v35) (fun k => callP G152 [v36] w33 k) w33 fun v38 w37 =>
    Sx.stepG (gd true v35) (bLe v38 (.int .u8 122)) fun v39 =>
    bindP (pPick v35 v39 (.bool false)) fun v40 =>
    ifB v40 (
    callP G152 [(.int .u8 (hx d).toNat)] w37 fun v42 w41 =>
    bindP (bSub v42 (.int .u8 97)) fun v43 =>
    bindP (bAdd v43 (.int .u8 10)) fun v44 =>
    k1 v44 w41) (k2 w37))) := by
  have hn := hx_nat hd
  by_cases g : d < 10
  · rw [if_pos g] at hn
    have a1 : decide (((hx d).toNat : Int) = 95) = false := by simp; omega
    have a2 : decide ((48 : Int) ≤ ((hx d).toNat : Int)) = true := by simp; omega
    have a3 : decide (((hx d).toNat : Int) ≤ 57) = true := by simp; omega
    have a4 : bSub (.int .u8 (hx d).toNat) (.int .u8 48) = some (.int .u8 d) := by
      rw [bSub_int, show ((hx d).toNat : Int) - 48 = (d : Nat) by omega, wrap_u8, Nat.mod_eq_of_lt (by omega)]
    simp only [bEq_int, bLe_int, bindP_some, a1, a2, a3, a4, gd_true, stepM_false, stepM_true, stepG_true, pPick_false, pPick_true, ifB_false, ifB_true]
    exact hK
  · rw [if_neg g] at hn
    have a1 : decide (((hx d).toNat : Int) = 95) = false := by simp; omega
    have a2 : decide ((48 : Int) ≤ ((hx d).toNat : Int)) = true := by simp; omega
    have a3 : decide (((hx d).toNat : Int) ≤ 57) = false := by simp; omega
    have a5 : bBit .or (.int .u8 (hx d).toNat) (.int .u8 32) = some (.int .u8 (hx d).toNat) := by
      have : d = 10 ∨ d = 11 ∨ d = 12 ∨ d = 13 ∨ d = 14 ∨ d = 15 := by omega
      rcases this with rfl | rfl | rfl | rfl | rfl | rfl <;> rfl
    have a6 : decide ((97 : Int) ≤ ((hx d).toNat : Int)) = true := by simp; omega
    have a7 : decide (((hx d).toNat : Int) ≤ 122) = true := by simp; omega
    have a8 : bSub (.int .u8 (hx d).toNat) (.int .u8 97) = some (.int .u8 ((d - 10 : Nat))) := by
      rw [bSub_int, show ((hx d).toNat : Int) - 97 = ((d - 10 : Nat) : Int) by omega, wrap_u8, Nat.mod_eq_of_lt (by omega)]
    have a9 : bAdd (.int .u8 ((d - 10 : Nat))) (.int .u8 10) = some (.int .u8 d) := by
      rw [bAdd_int, show ((d - 10 : Nat) : Int) + 10 = (d : Nat) by omega, wrap_u8, Nat.mod_eq_of_lt (by omega)]
    simp only [bEq_int, bLe_int, bindP_some, a1, a2, a3, gd_true, stepM_false, stepM_true, stepG_true, pPick_false, pPick_true, ifB_false, ifB_true]
    refine lower_spec a5 ?_
    simp only [bLe_int, bindP_some, a6, gd_true, stepM_true, stepE_true]
    refine lower_spec a5 ?_
    simp only [bLe_int, bindP_some, a7, stepG_true, pPick_true, ifB_true]
    refine lower_spec a5 ?_
    simp only [a8, a9, bindP_some]
    exact hK
section
attribute [local irreducible] bindP stepM Sx.stepG stepE ifB pPick bEq bLe bSub bAdd gd callP fMkI hx F131_11 F131_9 F131_5L
theorem uintLoop {s : List UInt8} {s9 sv : Value} (hR : Rd w 1 sv s.length (cellsB s)) (hl : s.length < 4611686018427387904) : ∀ (ds : List Nat) (a i m : Nat), (∀ d ∈ ds, d < 16) → s.drop i = ds.map hx → i + ds.length = s.length → val16 a ds < 1152921504606846976 → ds.length < m →
    K (.tuple #[.int .u64 (val16 a ds : Nat), .nilIface]) w →
    F131_5L m (.int .i64 16) (.bool false) s9 (.int .u64 1152921504606846976) (.int .u64 18446744073709551615) (.bool false) (.int .u64 a) sv (.int .i64 s.length) (.int .i64 i) w K := by
  intro ds
  induction ds with
  | nil =>
    intro a i m hd hs hi hv hm hK
    obtain ⟨m, rfl⟩ : ∃ j, m = j + 1 := ⟨m - 1, by omega⟩
    rw [F131_5L]; unfold F131_7 F131_7b F131_6 F131_6b
    simp at hi
    have e : bLt (.int .i64 (i : Int)) (.int .i64 s.length) = some (.bool false) := by simp; omega
    simp only [e, bindP_some, ifB_false, gd_true, stepM_false, stepE_false, stepG_false, pPick_false]
    exact hK
  | cons d ds ih =>
    intro a i m hd hs hi hv hm hK
    obtain ⟨m, rfl⟩ : ∃ j, m = j + 1 := ⟨m - 1, by omega⟩
    simp only [List.length_cons] at hi hm
    rw [F131_5L]; unfold F131_7 F131_7b
    have hlt : i < s.length := by omega
    have hd0 := hd d (by simp)
    have e : bLt (.int .i64 (i : Int)) (.int .i64 s.length) = some (.bool true) := by simp; omega
    have hb : s[i] = hx d := by
      have := congrArg (fun l => l[0]?) hs
      simp [hlt] at this; exact this
    have hR' : Rd w 1 sv s.length (s.flatMap fun b => [Value.int .u8 b.toNat]) := by
      have : (s.flatMap fun b => [Value.int .u8 (b.toNat : Int)]) = cellsB s := by
        rw [flat1]; rfl
      rw [this]; exact hR
    have e1 := ix_el hR hlt
    have e2 := rd_ld1 (g := fun b : UInt8 => Value.int .u8 b.toNat) hR' hlt
    rw [hb] at e2
    simp only [e, bindP_some, ifB_true]
    unfold F131_8 F131_10 F131_10b
    simp only [e1, e2, bindP_some]
    have hv1 : val16 a (d :: ds) = val16 (a * 16 + d) ds := rfl
    have hge := val16_ge ds (a * 16 + d)
    rw [hv1] at hv hK
    have key := digit_step (w := w) hd0 (s8 := .bool false) (k0 := F131_9 (.int .i64 16) (.bool false) s9 (.int .u64 1152921504606846976) (.int .u64 18446744073709551615) (.bool true) (.int .u64 a) sv (.int .i64 s.length) (.int .i64 i) w K fun a1 a8 a9 a10 a11 a12 a13 a99 a100 a101 w => F131_5L m a1 a8 a9 a10 a11 a12 a13 a99 a100 a101 w K) (k1 := fun v w => F131_11 (.int .i64 16) (.bool false) s9 (.int .u64 1152921504606846976) (.int .u64 18446744073709551615) (.bool false) (.int .u64 a) v sv (.int .i64 s.length) (.int .i64 i) w K fun a1 a8 a9 a10 a11 a12 a13 a99 a100 a101 w => F131_5L m a1 a8 a9 a10 a11 a12 a13 a99 a100 a101 w K) (k2 := fun w => bindP (fMkI Tryz.prog 148 (.int .i64 2)) fun v45 => K (.tuple #[.int .u64 0, v45]) w)
    refine key ?_
    unfold F131_11 F131_11b
    have c1 : cInt .u8 (.int .i64 16) = some (.int .u8 16) := rfl
    have c2 : cInt .u64 (.int .i64 16) = some (.int .u64 16) := rfl
    have c3 : cInt .u64 (.int .u8 (d : Int)) = some (.int .u64 (d : Nat)) := by simp only [cInt]; rw [wrap_u64 (by omega)]
    have g1 : decide ((d : Int) ≥ 16) = false := by simp; omega
    have g2 : decide ((a : Int) ≥ 1152921504606846976) = false := by simp; omega
    have m1 : bMul (.int .u64 (a : Int)) (.int .u64 16) = some (.int .u64 ((a * 16 : Nat))) := by
      rw [bMul_int, show (a : Int) * 16 = ((a * 16 : Nat) : Int) by omega, wrap_u64 (by omega)]
    have m2 : bAdd (.int .u64 ((a * 16 : Nat))) (.int .u64 (d : Nat)) = some (.int .u64 ((a * 16 + d : Nat))) := by
      rw [bAdd_int, show ((a * 16 : Nat) : Int) + (d : Nat) = ((a * 16 + d : Nat) : Int) by omega, wrap_u64 (by omega)]
    have g3 : decide ((((a * 16 + d : Nat)) : Int) < ((a * 16 : Nat))) = false := by simp; omega
    have g4 : decide ((((a * 16 + d : Nat)) : Int) > 18446744073709551615) = false := by simp; omega
    have ea : bAdd (.int .i64 (i : Int)) (.int .i64 1) = some (.int .i64 ((i + 1 : Nat))) := by
      rw [bAdd_int, show (i : Int) + 1 = ((i + 1 : Nat) : Int) by omega, wrap_id (by omega)]
    simp only [c1, c2, c3, bindP_some, bGe_int, bLt_int, bGt_int, g1, g2, m1, m2, g3, g4, gd_false, Bool.not_false, stepM_true, stepG_true, pPick_false, ifB_false]
    unfold F131_9 F131_9b
    simp only [ea, bindP_some]
    exact ih (a * 16 + d) (i + 1) m (fun x hx => hd x (List.mem_cons_of_mem _ hx)) (by rw [← List.drop_drop, hs]; rfl) (by omega) hv (by omega) hK
end
theorem hx_sign {d : Nat} (h : d < 16) : decide (((hx d).toNat : Int) = 43) = false ∧ decide (((hx d).toNat : Int) = 45) = false := by
  have := hx_nat h
  split at this <;> constructor <;> simp <;> omega
theorem parse_spec {ds : List Nat} (h : Sat w0 L w) (hd : ∀ d ∈ ds, d < 16) (hne : ds ≠ []) (hl : ds.length ≤ 70368744177664) (hv : val16 0 ds < 1152921504606846976) (hK : ∀ w', Sat w0 L w' → K (.tuple #[.int .i64 (val16 0 ds : Nat), .nilIface]) w') :
    callP G85 [.string (bs (ds.map hx)), .int .i64 16, .int .i64 64] w K := by
  refine c85 ?_
  unfold F85
  refine c100 ?_
  unfold F100 F100_1 F100_1b
  have e0 : (ByteArray.mk #[] : ByteArray) = bs [] := rfl
  rw [e0]
  cases ds with
  | nil => exact absurd rfl hne
  | cons d ds =>
  have hd0 := hd d (by simp)
  obtain ⟨g1, g2⟩ := hx_sign hd0
  have e1 : pIndexS (.string (bs ((d :: ds).map hx))) (.int .i64 0) = some (.int .u8 (hx d).toNat) := ix_txt (l := (d :: ds).map hx) (i := 0) (by simp)
  have e2 : decide (bs ((d :: ds).map hx) = bs []) = false := by simp
  simp only [bEq_str, bs_beq, e2, bindP_some, ifB_false, e1, bEq_int, g1, g2]
  unfold F100_2 F100_2b
  refine c131 ?_
  unfold F131 F131_1 F131_1b
  rw [e0]
  simp only [bEq_str, bs_beq, e2, bindP_some, ifB_false, bEq_int, bLe_int, show decide ((16 : Int) = 0) = false from rfl, show decide ((2 : Int) ≤ 16) = true from rfl, show decide ((16 : Int) ≤ 36) = true from rfl, gd_true, stepM_true, stepG_true, pPick_true, ifB_true]
  unfold F131_2 F131_2b
  simp only [bEq_int, bLt_int, bGt_int, bindP_some, show decide ((64 : Int) = 0) = false from rfl, show decide ((64 : Int) < 0) = false from rfl, show decide ((64 : Int) > 64) = false from rfl, gd_false, Bool.not_false, stepM_true, stepG_true, pPick_false, ifB_false]
  unfold F131_3 F131_3b
  simp only [bEq_int, bindP_some, show decide ((16 : Int) = 10) = false from rfl, decide_true, ifB_false, ifB_true]
  unfold F131_4 F131_4b
  have c1 : cInt .u64 (.int .i64 64) = some (.int .u64 64) := rfl
  have c2 : bShl (.int .u64 1) (.int .u64 64) = some (.int .u64 0) := by rfl
  have c3 : bSub (.int .u64 0) (.int .u64 1) = some (.int .u64 18446744073709551615) := by rfl
  simp only [c1, c2, c3, bindP_some]
  refine toBytes_own (el := 5) h (by kernel_rfl) (by kernel_rfl) (by kernel_rfl) fun sv w h => ?_
  have hR := byH_rd h
  have hlen : lenL sv = some (.int .i64 ((d :: ds).map hx).length) := hR.len
  rw [hlen]
  simp only [bindP_some]
  unfold F131_5
  refine uintLoop hR (by simp at hl ⊢; omega) (d :: ds) 0 0 fuel hd (by simp) (by simp) hv (by simp at hl ⊢; unfold fuel; omega) ?_
  have t0 : ∀ x y : Value, pTuple (.tuple #[x, y]) 0 = some x := fun _ _ => rfl
  have t1 : ∀ x y : Value, pTuple (.tuple #[x, y]) 1 = some y := fun _ _ => rfl
  have n1 : ∀ a, bNe Tryz.prog 99 a (.const .nilIface) .nilIface .nilIface = some (.bool false) := fun a => by cases a <;> kernel_rfl
  simp only [t0, t1, n1, bindP_some, gd_true, stepM_false, stepG_false, pPick_false, ifB_false, bEq_int, show decide ((64 : Int) = 0) = false from rfl]
  unfold F100_3 F100_3b F100_4 F100_4b
  have c4 : bSub (.int .i64 64) (.int .i64 1) = some (.int .i64 63) := rfl
  have c5 : cInt .u64 (.int .i64 63) = some (.int .u64 63) := rfl
  have c6 : bShl (.int .u64 1) (.int .u64 63) = some (.int .u64 9223372036854775808) := by rfl
  have c7 : uNot (.bool false) = some (.bool true) := rfl
  have d1 : decide (((val16 0 (d :: ds) : Nat) : Int) ≥ 9223372036854775808) = false := by simp; omega
  have c8 : cInt .i64 (.int .u64 ((val16 0 (d :: ds) : Nat) : Int)) = some (.int .i64 (val16 0 (d :: ds) : Nat)) := by simp only [cInt]; rw [wrap_id (by omega)]
  simp only [c4, c5, c6, c7, bindP_some, gd_true, stepM_true, stepM_false, stepG_true, stepG_false, bGe_int, d1, pPick_true, pPick_false, ifB_false, c8, t0, t1, n1]
  exact hK w h.drop
theorem parse_bad {t : List UInt8} (Y : SynIs w0) (hl : t.length ≤ 70368744177664) (h : Sat w0 L w) (hK : ∀ t v w', Sat w0 L w' → K (.tuple #[.int .i64 0, .iface t v]) w') :
    callP G85 [.string (bs (115 :: t)), .int .i64 16, .int .i64 64] w K := by
  refine c85 ?_
  unfold F85
  refine c100 ?_
  unfold F100 F100_1 F100_1b
  have e0 : (ByteArray.mk #[] : ByteArray) = bs [] := rfl
  rw [e0]
  have e1 : pIndexS (.string (bs (115 :: t))) (.int .i64 0) = some (.int .u8 115) := ix_txt (l := 115 :: t) (i := 0) (by simp)
  have e2 : decide (bs (115 :: t) = bs []) = false := by simp
  simp only [bEq_str, bs_beq, e2, bindP_some, ifB_false, e1, bEq_int, show decide ((115 : Int) = 43) = false from rfl, show decide ((115 : Int) = 45) = false from rfl]
  unfold F100_2 F100_2b
  refine c131 ?_
  unfold F131 F131_1 F131_1b
  rw [e0]
  simp only [bEq_str, bs_beq, e2, bindP_some, ifB_false, bEq_int, bLe_int, show decide ((16 : Int) = 0) = false from rfl, show decide ((2 : Int) ≤ 16) = true from rfl, show decide ((16 : Int) ≤ 36) = true from rfl, gd_true, stepM_true, stepG_true, pPick_true, ifB_true]
  unfold F131_2 F131_2b
  simp only [bEq_int, bLt_int, bGt_int, bindP_some, show decide ((64 : Int) = 0) = false from rfl, show decide ((64 : Int) < 0) = false from rfl, show decide ((64 : Int) > 64) = false from rfl, gd_false, Bool.not_false, stepM_true, stepG_true, pPick_false, ifB_false]
  unfold F131_3 F131_3b
  simp only [bEq_int, bindP_some, show decide ((16 : Int) = 10) = false from rfl, decide_true, ifB_false, ifB_true]
  unfold F131_4 F131_4b
  have c1 : cInt .u64 (.int .i64 64) = some (.int .u64 64) := rfl
  have c2 : bShl (.int .u64 1) (.int .u64 64) = some (.int .u64 0) := by rfl
  have c3 : bSub (.int .u64 0) (.int .u64 1) = some (.int .u64 18446744073709551615) := by rfl
  simp only [c1, c2, c3, bindP_some]
  refine toBytes_own (el := 5) h (by kernel_rfl) (by kernel_rfl) (by kernel_rfl) fun sv w h => ?_
  have hR := byH_rd h
  have h := h.drop
  have hlen : lenL sv = some (.int .i64 (115 :: t).length) := hR.len
  rw [hlen]
  simp only [bindP_some]
  unfold F131_5
  rw [show fuel = 4611686018427387903 + 1 from rfl, F131_5L]
  unfold F131_7 F131_7b
  have e5 : bLt (.int .i64 0) (.int .i64 (115 :: t).length) = some (.bool true) := by simp
  have hR' : Rd w 1 sv (115 :: t).length ((115 :: t).flatMap fun b => [Value.int .u8 b.toNat]) := by
    have : ((115 :: t).flatMap fun b => [Value.int .u8 (b.toNat : Int)]) = cellsB (115 :: t) := by
      rw [flat1]; rfl
    rw [this]; exact hR
  have e6 : pIndexL 1 sv (.int .i64 0) = some (elP 1 sv 0) := ix_el hR (i := 0) (by simp)
  have e7 : ld1 (elP 1 sv 0) w = some (.int .u8 115) := rd_ld1 (g := fun b : UInt8 => Value.int .u8 b.toNat) hR' (i := 0) (by simp)
  simp only [e5, bindP_some, ifB_true]
  unfold F131_8 F131_10 F131_10b
  have f1 : bBit .or (.int .u8 115) (.int .u8 32) = some (.int .u8 ((115 : Nat) : Int)) := by rfl
  have f2 : bSub (.int .u8 115) (.int .u8 97) = some (.int .u8 18) := by rfl
  have f3 : bAdd (.int .u8 18) (.int .u8 10) = some (.int .u8 28) := by rfl
  have f4 : cInt .u8 (.int .i64 16) = some (.int .u8 16) := by rfl
  have f5 : ∀ n : Int, fMkI Tryz.prog 148 (.int .i64 n) = some (.iface 148 (.int .i64 n)) := fun n => by kernel_rfl
  simp only [e6, e7, bindP_some, bEq_int, bLe_int, show decide ((115 : Int) = 95) = false from rfl, show decide ((48 : Int) ≤ 115) = true from rfl, show decide ((115 : Int) ≤ 57) = false from rfl, gd_true, stepM_true, stepM_false, stepG_true, pPick_true, pPick_false, ifB_true, ifB_false]
  refine lower_spec (c := 115) (r := 115) f1 ?_
  simp only [bLe_int, bindP_some, show decide ((97 : Int) ≤ ((115 : Nat) : Int)) = true from rfl, gd_true, stepM_true, stepE_true]
  refine lower_spec (c := 115) (r := 115) f1 ?_
  simp only [bLe_int, bindP_some, show decide ((((115 : Nat) : Int)) ≤ 122) = true from rfl, stepG_true, pPick_true, ifB_true]
  refine lower_spec (c := 115) (r := 115) f1 ?_
  rw [show (((115 : Nat) : Int)) = 115 from rfl]
  simp only [f2, f3, bindP_some]
  unfold F131_11 F131_11b
  simp only [f4, bindP_some, bGe_int, show decide ((28 : Int) ≥ 16) = true from rfl, ifB_true, f5]
  have t0 : ∀ x y : Value, pTuple (.tuple #[x, y]) 0 = some x := fun _ _ => rfl
  have t1 : ∀ x y : Value, pTuple (.tuple #[x, y]) 1 = some y := fun _ _ => rfl
  have n1 : ∀ (a b : Operand) (t : TypeId) (v : Value), bNe Tryz.prog 99 a b (.iface t v) .nilIface = some (.bool true) := fun a b t v => by kernel_rfl
  have n2 : ∀ a b : Operand, bNe Tryz.prog 99 a b (.iface 148 (.int .i64 2)) (.iface 148 (.int .i64 1)) = some (.bool true) := fun a b => by kernel_rfl
  have n3 : ∀ a b : Operand, bEq Tryz.prog 99 a b (.iface 148 (.int .i64 2)) (.iface 148 (.int .i64 2)) = some (.bool true) := fun a b => by kernel_rfl
  simp only [t0, t1, n1, n2, bindP_some, gd_true, stepM_true, stepG_true, pPick_true, ifB_true]
  refine c101 ?_
  unfold F101
  simp only [f5, n3, bindP_some, ifB_true]
  refine c132 ?_
  unfold F132
  obtain ⟨ty, v, Y⟩ := Y
  have h := h.drew
  have hy := h.cellOld Y
  rw [ld1_ptr, hy]
  simp only [bindP_some]
  refine copyS_sat (s := 115 :: t) h (by simp; omega) fun w h => ?_
  rw [ld1_ptr, h.cellOld Y]
  refine ⟨by rw [fok_true], ?_⟩
  have eb : fBuild Tryz.prog 171 [(0, .string (bs [80, 97, 114, 115, 101, 73, 110, 116])), (1, .string (bs (115 :: t))), (2, .iface ty v)] = some (.agg #[.string (bs [80, 97, 114, 115, 101, 73, 110, 116]), .string (bs (115 :: t)), .iface ty v]) := by kernel_rfl
  have eb' : fBuild Tryz.prog 171 [(0, .string ⟨#[80, 97, 114, 115, 101, 73, 110, 116]⟩), (1, .string (bs (115 :: t))), (2, .iface ty v)] = some (.agg #[.string (bs [80, 97, 114, 115, 101, 73, 110, 116]), .string (bs (115 :: t)), .iface ty v]) := eb
  rw [eb']
  simp only [bindP_some]
  refine eBox_sat h fun p w h => ?_
  have f6 : fMkI Tryz.prog 151 (ptr p) = some (.iface 151 (ptr p)) := by kernel_rfl
  rw [f6]
  simp only [bindP_some]
  exact hK _ _ w h.drop
theorem cutp_spec {s p : List UInt8} (hp : p.length ≤ 4611686018427387904) (hK : K (if p.length ≤ s.length ∧ s.take p.length = p then .tuple #[.string (bs (s.drop p.length)), .bool true] else .tuple #[.string (bs s), .bool false]) w) :
    callP G84 [.string (bs s), .string (bs p)] w K := by
  refine c84 ?_
  unfold F84
  refine c99 ?_
  unfold F99
  refine c119 ?_
  unfold F119
  have t0 : ∀ x y : Value, pTuple (.tuple #[x, y]) 0 = some x := fun _ _ => rfl
  have t1 : ∀ x y : Value, pTuple (.tuple #[x, y]) 1 = some y := fun _ _ => rfl
  have un : ∀ b : Bool, uNot (.bool b) = some (.bool (!b)) := fun _ => rfl
  by_cases g : p.length ≤ s.length
  · have e : bGe (.int .i64 (s.length : Int)) (.int .i64 (p.length : Int)) = some (.bool true) := by simp; omega
    simp only [lenS_mk, bs_size, bindP_some, e, gd_true, stepM_true, stepG_true, sub_to g, bEq_str, bs_beq, bs_inj, pPick_true]
    by_cases g2 : s.take p.length = p
    · rw [if_pos ⟨g, g2⟩] at hK
      simp only [g2, decide_true, un, bindP_some, Bool.not_true, ifB_false, lenS_mk, bs_size, sub_from g, t0, t1]
      exact hK
    · rw [if_neg (fun x => g2 x.2)] at hK
      simp only [g2, decide_false, un, bindP_some, Bool.not_false, ifB_true, t0, t1]
      exact hK
  · rw [if_neg (fun x => g x.1)] at hK
    have e : bGe (.int .i64 (s.length : Int)) (.int .i64 (p.length : Int)) = some (.bool false) := by simp; omega
    simp only [lenS_mk, bs_size, bindP_some, e, gd_true, stepM_false, stepG_false, pPick_false, un, Bool.not_false, ifB_true, t0, t1]
    exact hK
theorem first_seg {n : Nat} (B : BruIs w0) (hn : 1 ≤ n ∧ n < 4294967296) (h : Sat w0 L w) (hK : ∀ w', Sat w0 L w' → K (.int .i64 n) w') : callP G69 [.string (bs (nameL n))] w K := by
  refine c69 ?_
  unfold F69
  have e0 : (ByteArray.mk #[108, 111, 103, 46] : ByteArray) = bs preL := rfl
  rw [e0]
  refine cutp_spec (by simp [preL]) ?_
  rw [if_pos ⟨by simp [nameL], by simp [nameL]⟩]
  have e1 : (nameL n).drop preL.length = (digs 8 n).map hx := by simp [nameL, pad16]
  have e2 : val16 0 (digs 8 n) = n := by rw [val16_digs]; exact Nat.mod_eq_of_lt (by omega)
  have t0 : ∀ x y : Value, pTuple (.tuple #[x, y]) 0 = some x := fun _ _ => rfl
  have t1 : ∀ x y : Value, pTuple (.tuple #[x, y]) 1 = some y := fun _ _ => rfl
  have un : ∀ b : Bool, uNot (.bool b) = some (.bool (!b)) := fun _ => rfl
  rw [e1]
  simp only [t0, t1, bindP_some]
  refine parse_spec h (digs_lt 8 n) (fun e => by have := digs_len 8 n; rw [e] at this; cases this) (by rw [digs_len]; omega) (by rw [e2]; omega) fun w h => ?_
  rw [e2]
  have n1 : ∀ a, bNe Tryz.prog 99 a (.const .nilIface) .nilIface .nilIface = some (.bool false) := fun a => by cases a <;> kernel_rfl
  have d1 : decide ((n : Int) < 1) = false := by simp; omega
  simp only [t0, t1, un, n1, bindP_some, Bool.not_true, gd_false, Bool.not_false, stepM_true, stepG_true, pPick_false, bLt_int, d1, stepE_true]
  refine name_spec B h hn.2 fun w h => ?_
  simp only [bNe_str, bs_beq, decide_true, Bool.not_true, bindP_some, pPick_false, ifB_false, stepG_true]
  exact hK w h
theorem first_bad {t : List UInt8} (B : BruIs w0) (Y : SynIs w0) (hl : t.length ≤ 70368744177664) (h : Sat w0 L w) (hK : ∀ w', Sat w0 L w' → K (.int .i64 0) w') : callP G69 [.string (bs (115 :: t))] w K := by
  refine c69 ?_
  unfold F69
  have e0 : (ByteArray.mk #[108, 111, 103, 46] : ByteArray) = bs preL := rfl
  rw [e0]
  refine cutp_spec (by simp [preL]) ?_
  rw [if_neg (fun x => by have := x.2; simp [preL] at this)]
  have t0 : ∀ x y : Value, pTuple (.tuple #[x, y]) 0 = some x := fun _ _ => rfl
  have t1 : ∀ x y : Value, pTuple (.tuple #[x, y]) 1 = some y := fun _ _ => rfl
  have un : ∀ b : Bool, uNot (.bool b) = some (.bool (!b)) := fun _ => rfl
  simp only [t0, t1, bindP_some]
  refine parse_bad Y hl h fun ty v w h => ?_
  simp only [t0, t1, un, bindP_some, Bool.not_false, Bool.not_true, gd_false, gd_true, stepM_false, stepM_true, stepG_false, stepG_true, stepE_false, stepE_true, pPick_true, ifB_true]
  exact hK w h
end
end Go.Proofs.Gong

/- Jm0 -/
namespace Go.Proofs.Gong
open Go Go.Sx Go.Proofs
set_option maxRecDepth 100000
structure Jn where
  long : Int
  number : Nat
  state : List UInt8
  recs : List (List UInt8)
  safe : Nat
  active : List UInt8
abbrev JS := Jn × Dk
abbrev JAct := JS → Int × JS
def snapN : List UInt8 := [115, 110, 97, 112]
def freshN : List UInt8 := [115, 110, 97, 112, 46, 110, 101, 119]
def nextJ (j : Jn) : Nat := j.number + j.recs.length + 1
def hasF (n : List UInt8) (d : Dk) : Bool := decide (n ∈ d.fs.map (·.name))
def datF (n : List UInt8) (d : Dk) : List UInt8 := (fGet n d.fs).elim [] (·.s)
def NameJ (f : List UInt8) : Prop := (∃ n, 1 ≤ n ∧ n < 4294967296 ∧ f = nameL n) ∨ (∃ t, t.length ≤ 100 ∧ f = 115 :: t)
open Classical in
noncomputable def firstN (f : List UInt8) : Nat := if h : ∃ n, 1 ≤ n ∧ n < 4294967296 ∧ f = nameL n then Classical.choose h else 0
noncomputable def segL (fs : List Fil) : List Int := (fs.map (·.name)).filterMap fun f => if 0 < firstN f then some (firstN f : Int) else none
def diskA (f : Jn → Dk → Int × Dk) : JAct := fun s => ((f s.1 s.2).1, s.1, (f s.1 s.2).2)
def dropA (n : List UInt8) : JAct := fun s => if hasF n s.2 = true then diskA (fun _ d => remD n d) s else (0, s)
def seqA : List JAct → JAct
  | [] => fun s => (0, s)
  | a :: l => fun s => if (a s).1 = 0 then seqA l (a s).2 else a s
def syncA : JAct := fun s => if (syncD s.1.active s.2).1 = 0 then (0, { s.1 with safe := nextJ s.1 - 1 }, (syncD s.1.active s.2).2) else ((syncD s.1.active s.2).1, s.1, (syncD s.1.active s.2).2)
def snapR (x : List UInt8) : Nat × List UInt8 × Bool :=
  let q : List UInt8 × List UInt8 × Int := match nextL x with | none => ([], [], 260) | some (p, t) => (p, t, 0)
  let r1 := rWide 8 (0, q.1)
  let r2 := rBytes r1.2.2.length r1.2
  (r1.1, r2.1, decide (q.2.2 = 0) && decide (q.2.1 = []) && decide (rDone r2.2 = 0))
def readSnapA : JAct := fun s => match fGet snapN s.2.fs with
  | none => (0, s)
  | some f => (if (snapR f.s).2.2 = true then 0 else 270, { s.1 with number := (snapR f.s).1, state := (snapR f.s).2.1 }, s.2)
def readSegA (n : Nat) (ended : Bool) (s : JS) : Bool × Int × JS :=
  let x := datF (nameL n) s.2
  let l := (scanL (x.length + 1) x).1
  let whole := (scanL (x.length + 1) x).2
  if ended = true ∨ nextJ s.1 < n then (false, (remD (nameL n) s.2).1, s.1, (remD (nameL n) s.2).2) else
  let c := if whole < x.length then cutD (nameL n) whole s.2 else (0, s.2)
  if c.1 ≠ 0 then (false, c.1, s.1, c.2) else
  let j := if nextJ s.1 - n ≤ l.length then { s.1 with recs := s.1.recs ++ l.drop (nextJ s.1 - n), active := nameL n } else s.1
  (decide (whole = x.length), (syncD (nameL n) c.2).1, j, (syncD (nameL n) c.2).2)
def readL : List Nat → Bool → JAct
  | [], _ => fun s => (0, s)
  | n :: l, ended => fun s => if (readSegA n ended s).2.1 = 0 then readL l (ended || !(readSegA n ended s).1) (readSegA n ended s).2.2 else (readSegA n ended s).2
def beginA : JAct := fun s =>
  if hasF (nameL (nextJ s.1)) s.2 = true then (0, { s.1 with active := nameL (nextJ s.1) }, s.2) else
  if (makeD (nameL (nextJ s.1)) s.2).1 = 0 then (0, { s.1 with active := nameL (nextJ s.1) }, (makeD (nameL (nextJ s.1)) s.2).2) else ((makeD (nameL (nextJ s.1)) s.2).1, s.1, (makeD (nameL (nextJ s.1)) s.2).2)
def settleA : JAct := fun s => if s.1.active ≠ [] then (0, s) else beginA s
def cleanL : List Nat → JAct
  | [] => fun s => (0, s)
  | n :: l => fun s =>
    let e := l.head?.getD (nextJ s.1)
    if nameL n = s.1.active ∨ s.1.number + 1 < e then cleanL l s else
    if (remD (nameL n) s.2).1 = 0 then cleanL l (s.1, (remD (nameL n) s.2).2) else ((remD (nameL n) s.2).1, s.1, (remD (nameL n) s.2).2)
noncomputable def segsOf (d : Dk) : List Nat := (srtI (segL d.fs)).map Int.toNat
noncomputable def readA : JAct := fun s => readL (segsOf s.2) false s
noncomputable def cleanA : JAct := fun s => cleanL (segsOf s.2) s
def roomA : JAct := fun s => if ((datF s.1.active s.2).length : Int) < s.1.long then (0, s) else seqA [syncA, beginA] s
def appendA (p : List UInt8) : JAct := fun s =>
  let r := seqA [roomA, diskA fun j d => appD j.active (recL p) d] s
  if r.1 = 0 then (0, { r.2.1 with recs := r.2.1.recs ++ [p] }, r.2.2) else r
def layA (x : List UInt8) : JAct := fun s => if (appD freshN x s.2).1 = 250 then (250, (dropA freshN (s.1, (appD freshN x s.2).2)).2) else diskA (fun _ d => appD freshN x d) s
def shotA (st : List UInt8) : JAct := fun s =>
  let n := nextJ s.1 - 1
  let r := seqA [dropA freshN, diskA fun _ d => makeD freshN d, layA (recL (padL 8 n ++ st)), diskA fun _ d => syncD freshN d, diskA fun _ d => renD freshN snapN d] s
  if r.1 = 0 then (0, { r.2.1 with number := n, state := st, recs := [] }, r.2.2) else r
noncomputable def compactA (st : List UInt8) : JAct := seqA [syncA, shotA st, beginA, cleanA]
noncomputable def openL' : JAct := seqA [dropA freshN, readSnapA, readA, settleA, cleanA]
def freshJ (long : Int) : Jn := ⟨long, 0, [], [], 0, []⟩
noncomputable def openA (long : Int) (d : Dk) : Int × JS :=
  let r := openL' (freshJ long, d)
  if r.1 = 0 then (0, { r.2.1 with safe := nextJ r.2.1 - 1 }, r.2.2) else r
theorem nameL_inj {a b : Nat} (ha : a < 4294967296) (hb : b < 4294967296) (h : nameL a = nameL b) : a = b := by
  have h1 : pad16 a = pad16 b := List.append_cancel_left h
  unfold pad16 at h1
  have hinj : ∀ x y, x < 16 → y < 16 → hx x = hx y → x = y := by
    intro x y h1 h2 h
    have e : ∀ x : Fin 16, ∀ y : Fin 16, hx x.val = hx y.val → x = y := by decide
    exact congrArg Fin.val (e ⟨x, h1⟩ ⟨y, h2⟩ h)
  have h2 : digs 8 a = digs 8 b := by
    have key : ∀ l m : List Nat, (∀ d ∈ l, d < 16) → (∀ d ∈ m, d < 16) → l.map hx = m.map hx → l = m := by
      intro l
      induction l with
      | nil => intro m _ _ h; cases m with
        | nil => rfl
        | cons => simp at h
      | cons x l ih =>
        intro m h1 h2 h
        cases m with
        | nil => simp at h
        | cons y m =>
          simp only [List.map_cons, List.cons.injEq] at h
          rw [hinj x y (h1 x (by simp)) (h2 y (by simp)) h.1, ih m (fun d hd => h1 d (List.mem_cons_of_mem _ hd)) (fun d hd => h2 d (List.mem_cons_of_mem _ hd)) h.2]
    exact key _ _ (digs_lt 8 a) (digs_lt 8 b) h1
  have h3 := val16_digs 8 a
  rw [h2, val16_digs] at h3
  omega
theorem firstN_seg {n : Nat} (h : 1 ≤ n ∧ n < 4294967296) : firstN (nameL n) = n := by
  have hex : ∃ m, 1 ≤ m ∧ m < 4294967296 ∧ nameL n = nameL m := ⟨n, h.1, h.2, rfl⟩
  unfold firstN
  rw [dif_pos hex]
  obtain ⟨_, h2, h3⟩ := Classical.choose_spec hex
  exact (nameL_inj h.2 h2 h3).symm
theorem firstN_bad (t : List UInt8) : firstN (115 :: t) = 0 := by
  unfold firstN
  rw [dif_neg]
  rintro ⟨n, _, _, h⟩
  simp [nameL, preL] at h
end Go.Proofs.Gong

/- Jm1 -/
namespace Go.Proofs.Gong
open Go Go.Sx Go.Proofs
set_option maxRecDepth 100000
instance (s : List UInt8) : Nth (cSt s) 0 (.string (bs s)) := ⟨rfl⟩
abbrev JCl (p : Nat) (j : Jn) (dv rv : Value) : HP := Cl p #[dv, .int .i64 j.long, .int .i64 (j.number : Nat), .string (bs j.state), rv, .int .i64 (j.safe : Nat), .string (bs j.active)] 52
theorem CSt : Cod cSt 1 := CodC.cod
theorem fbS1 (s : List UInt8) : fBuildSl Tryz.prog 9 1 [(0, .string (bs s))] = some (cSt s).toArray := by kernel_rfl
def JrP (v : Value) (j : Jn) (dv : Value) : HP := HEx fun p => HEx fun rv =>
  HPr (v = ptr p) (HSt (Cl p #[dv, .int .i64 j.long, .int .i64 (j.number : Nat), .string (bs j.state), rv, .int .i64 (j.safe : Nat), .string (bs j.active)] 52) (LsH cSt 1 9 rv j.recs))
structure JW (w : World) : Prop where
  half : HalfIs w
  bru : BruIs w
  syn : SynIs w
theorem lsh_cases {α : Type} {f : α → List Value} {es : Nat} {ty : TypeId} {rv : Value} {l : List α} {w0 w : World} {L : List HP} (h : Sat w0 (LsH f es ty rv l :: L) w) : (rv = .slice none 0 0 ∧ l = []) ∨ ∃ a n c, rv = .slice (some a) n c := by
  obtain ⟨fp, hO, _⟩ := Sat.own h
  generalize hcs : l.flatMap f = cs at hO
  generalize hn : l.length = n at hO
  cases hO with
  | nil => exact .inl ⟨rfl, List.eq_nil_of_length_eq_zero hn⟩
  | blk => exact .inr ⟨_, _, _, rfl⟩
attribute [local irreducible] fBuild fLook fZero eqv bEqv Cl MapH LsH SlH ld1 ldN st callP eBox eAlloc lenM lenL eMapSet eDelete eAppend eBuildSl eRange eNext
section
variable {w0 w : World} {L : List HP} {K : Value → World → Prop} {v dv : Value} {j : Jn} {d : Dk} {n : List UInt8}
theorem jrP_iff : Sat w0 (JrP v j dv :: L) w ↔ ∃ p rv, v = ptr p ∧ Sat w0 (Cl p #[dv, .int .i64 j.long, .int .i64 (j.number : Nat), .string (bs j.state), rv, .int .i64 (j.safe : Nat), .string (bs j.active)] 52 :: LsH cSt 1 9 rv j.recs :: L) w := by
  simp only [JrP, Sat.ex_iff, Sat.pr_iff, Sat.star_iff]
theorem jnext_spec (h : Sat w0 (JrP v j dv :: L) w) (hb : nextJ j < 4611686018427387904) (hK : ∀ w', Sat w0 (JrP v j dv :: L) w' → K (.int .i64 (nextJ j : Nat)) w') : callP G17 [v] w K := by
  refine c17 ?_
  unfold F17
  obtain ⟨p, rv, rfl, h2⟩ := jrP_iff.1 h
  unfold nextJ at hb hK
  clear h
  have h := h2
  clear h2
  have e : ((j.number + j.recs.length + 1 : Nat) : Int) = (j.number : Int) + j.recs.length + 1 := by omega
  rw [e] at hK
  (repeat (first
 | (simp (disch := omega) only [evA, evB, evC, bAdd_i64, bSub_i64])
 | (with_reducible apply go_ld1 h)
 | ((with_reducible first | apply go_ldA h | apply go_rd h | apply go_rdN h | apply go_rlen h); rfl)
 | (with_reducible first | apply go_ldN h | apply go_lenL h)
 | ((with_reducible apply go_st h); intro _ h)
 | ((with_reducible apply go_stA h); rfl; rfl; (first | rfl | simp [OneV.o]); intro _ h)
 | ((with_reducible apply go_stN h); rfl; (first | rfl | simp [OneV.o]); intro _ h)
 | ((with_reducible apply go_box h); rfl; intro _ _ h)
 | ((with_reducible apply go_ix h); omega)
 | ((with_reducible first | apply go_elN h | apply go_f1 h | apply go_rf1 h | apply go_rel h); (case hi => omega); (try case hx => exact inferInstance); (try case hv => rfl))
 | ((with_reducible apply go_fa h); omega; omega)
))
  exact hK _ (jrP_iff.2 ⟨p, rv, rfl, h.drew⟩)
theorem indexL {sv : Value} {l : List (List UInt8)} (hl : l.length < 4611686018427387904) : ∀ (k i m : Nat) (w : World), i + k = l.length → k < m → (∀ x ∈ l.take i, x ≠ n) → Sat w0 (LsH cSt 1 9 sv l :: L) w →
    (∀ (r : Int) w', (0 ≤ r ↔ n ∈ l) → Sat w0 (LsH cSt 1 9 sv l :: L) w' → K (.int .i64 r) w') → F81_2L m sv (.string (bs n)) (.int .i64 l.length) (.int .i64 i) w K := by
  intro k
  induction k with
  | zero =>
    intro i m w hi hm hn h hK
    obtain ⟨m, rfl⟩ : ∃ q, m = q + 1 := ⟨m - 1, by omega⟩
    rw [F81_2L]; unfold F81_2b F81_3 F81_3b
    have e : decide ((i : Int) < l.length) = false := by simp; omega
    (repeat (first
 | (simp (disch := omega) only [evA, evB, evC, bAdd_i64, bSub_i64, e])
 | (with_reducible apply go_ld1 h)
 | ((with_reducible first | apply go_ldA h | apply go_rd h | apply go_rdN h | apply go_rlen h); rfl)
 | (with_reducible first | apply go_ldN h | apply go_lenL h)
 | ((with_reducible apply go_st h); intro _ h)
 | ((with_reducible apply go_stA h); rfl; rfl; (first | rfl | simp [OneV.o]); intro _ h)
 | ((with_reducible apply go_stN h); rfl; (first | rfl | simp [OneV.o]); intro _ h)
 | ((with_reducible apply go_box h); rfl; intro _ _ h)
 | ((with_reducible apply go_ix h); omega)
 | ((with_reducible first | apply go_elN h | apply go_f1 h | apply go_rf1 h | apply go_rel h); (case hi => omega); (try case hx => exact inferInstance); (try case hv => rfl))
 | ((with_reducible apply go_fa h); omega; omega)
))
    refine hK (-1) _ ⟨fun x => by omega, fun x => ?_⟩ h
    rw [List.take_of_length_le (by omega)] at hn
    exact absurd rfl (hn n x)
  | succ k ih =>
    intro i m w hi hm hn h hK
    obtain ⟨m, rfl⟩ : ∃ q, m = q + 1 := ⟨m - 1, by omega⟩
    rw [F81_2L]; unfold F81_2b
    have hlt : i < l.length := by omega
    have e : decide ((i : Int) < l.length) = true := by simp; omega
    by_cases g : n = l[i]
    · have g' : decide (n = l[i]) = true := by simpa using g
      (repeat (first
 | (simp (disch := omega) only [evA, evB, evC, bAdd_i64, bSub_i64, e, g'])
 | (with_reducible apply go_ld1 h)
 | ((with_reducible first | apply go_ldA h | apply go_rd h | apply go_rdN h); rfl)
 | (with_reducible first | apply go_ldN h | apply go_lenR h)
 | ((with_reducible apply go_st h); intro _ h)
 | ((with_reducible apply go_stA h); rfl; rfl; (first | rfl | simp [OneV.o]); intro _ h)
 | ((with_reducible apply go_stN h); rfl; (first | rfl | simp [OneV.o]); intro _ h)
 | ((with_reducible apply go_box h); rfl; intro _ _ h)
 | ((with_reducible apply go_ixR h); omega)
 | ((with_reducible first | apply go_elR h | apply go_f1R h | apply go_rf1R h | apply go_relR h | apply go_e1R h | apply go_re1R h); (case hc => exact inferInstance); (case hi => omega); (try case hx => exact inferInstance); (try case hv => rfl))
 | ((with_reducible apply go_fNR h); (case hc => exact inferInstance); (case hi => omega); (try case hp => exact inferInstance); (try case hv => rfl))
 | ((with_reducible apply go_faR h); (case hc => exact inferInstance); omega; omega)
 | ((with_reducible apply go_rlenR h); rfl)
))
      exact hK i _ ⟨fun _ => by rw [g]; exact List.getElem_mem hlt, fun _ => by omega⟩ h
    · have g' : decide (n = l[i]) = false := by simpa using g
      (repeat (first
 | (simp (disch := omega) only [evA, evB, evC, bAdd_i64, bSub_i64, e, g'])
 | (with_reducible apply go_ld1 h)
 | ((with_reducible first | apply go_ldA h | apply go_rd h | apply go_rdN h); rfl)
 | (with_reducible first | apply go_ldN h | apply go_lenR h)
 | ((with_reducible apply go_st h); intro _ h)
 | ((with_reducible apply go_stA h); rfl; rfl; (first | rfl | simp [OneV.o]); intro _ h)
 | ((with_reducible apply go_stN h); rfl; (first | rfl | simp [OneV.o]); intro _ h)
 | ((with_reducible apply go_box h); rfl; intro _ _ h)
 | ((with_reducible apply go_ixR h); omega)
 | ((with_reducible first | apply go_elR h | apply go_f1R h | apply go_rf1R h | apply go_relR h | apply go_e1R h | apply go_re1R h); (case hc => exact inferInstance); (case hi => omega); (try case hx => exact inferInstance); (try case hv => rfl))
 | ((with_reducible apply go_fNR h); (case hc => exact inferInstance); (case hi => omega); (try case hp => exact inferInstance); (try case hv => rfl))
 | ((with_reducible apply go_faR h); (case hc => exact inferInstance); omega; omega)
 | ((with_reducible apply go_rlenR h); rfl)
))
      rw [show (i : Int) + 1 = ((i + 1 : Nat) : Int) by omega]
      refine ih (i + 1) m _ (by omega) (by omega) (fun x hx => ?_) h hK
      rw [List.take_succ_eq_append_getElem hlt] at hx
      rcases List.mem_append.1 hx with hx | hx
      · exact hn x hx
      · simp at hx; subst hx; exact fun e => g e.symm
theorem contains_spec {sv : Value} {l : List (List UInt8)} (hl : l.length < 4611686018427387904) (h : Sat w0 (LsH cSt 1 9 sv l :: L) w) (hK : ∀ w', Sat w0 (LsH cSt 1 9 sv l :: L) w' → K (.bool (decide (n ∈ l))) w') : callP G63 [sv, .string (bs n)] w K := by
  refine c63 ?_
  unfold F63
  refine c81 ?_
  unfold F81 F81_1 F81_1b
  (repeat (first
 | (simp (disch := omega) only [evA, evB, evC, bAdd_i64, bSub_i64])
 | (with_reducible apply go_ld1 h)
 | ((with_reducible first | apply go_ldA h | apply go_rd h | apply go_rdN h | apply go_rlen h); rfl)
 | (with_reducible first | apply go_ldN h | apply go_lenL h)
 | ((with_reducible apply go_st h); intro _ h)
 | ((with_reducible apply go_stA h); rfl; rfl; (first | rfl | simp [OneV.o]); intro _ h)
 | ((with_reducible apply go_stN h); rfl; (first | rfl | simp [OneV.o]); intro _ h)
 | ((with_reducible apply go_box h); rfl; intro _ _ h)
 | ((with_reducible apply go_ix h); omega)
 | ((with_reducible first | apply go_elN h | apply go_f1 h | apply go_rf1 h | apply go_rel h); (case hi => omega); (try case hx => exact inferInstance); (try case hv => rfl))
 | ((with_reducible apply go_fa h); omega; omega)
))
  unfold F81_2
  refine indexL hl l.length 0 fuel w (by omega) (by unfold fuel; omega) (by simp) h fun r w hr h => ?_
  have e : decide (r ≥ 0) = decide (n ∈ l) := decide_eq_decide.2 hr
  (repeat (first
 | (simp (disch := omega) only [evA, evB, evC, bAdd_i64, bSub_i64, e])
 | (with_reducible apply go_ld1 h)
 | ((with_reducible first | apply go_ldA h | apply go_rd h | apply go_rdN h | apply go_rlen h); rfl)
 | (with_reducible first | apply go_ldN h | apply go_lenL h)
 | ((with_reducible apply go_st h); intro _ h)
 | ((with_reducible apply go_stA h); rfl; rfl; (first | rfl | simp [OneV.o]); intro _ h)
 | ((with_reducible apply go_stN h); rfl; (first | rfl | simp [OneV.o]); intro _ h)
 | ((with_reducible apply go_box h); rfl; intro _ _ h)
 | ((with_reducible apply go_ix h); omega)
 | ((with_reducible first | apply go_elN h | apply go_f1 h | apply go_rf1 h | apply go_rel h); (case hi => omega); (try case hx => exact inferInstance); (try case hv => rfl))
 | ((with_reducible apply go_fa h); omega; omega)
))
  exact hK _ h
theorem has_spec (hc : d.fs.length ≤ 1073741824) (h : Sat w0 (JrP v j dv :: DiskA dv d :: L) w) (hK : ∀ w', Sat w0 (JrP v j dv :: DiskA dv d :: L) w' → K (.bool (hasF n d)) w') : callP G37 [v, .string (bs n)] w K := by
  refine c37 ?_
  unfold F37
  obtain ⟨p, rv, rfl, h2⟩ := jrP_iff.1 h
  clear h
  have h := h2
  clear h2
  (repeat (first
 | (simp (disch := omega) only [evA, evB, evC, bAdd_i64, bSub_i64])
 | (with_reducible apply go_ld1 h)
 | ((with_reducible first | apply go_ldA h | apply go_rd h | apply go_rdN h | apply go_rlen h); rfl)
 | (with_reducible first | apply go_ldN h | apply go_lenL h)
 | ((with_reducible apply go_st h); intro _ h)
 | ((with_reducible apply go_stA h); rfl; rfl; (first | rfl | simp [OneV.o]); intro _ h)
 | ((with_reducible apply go_stN h); rfl; (first | rfl | simp [OneV.o]); intro _ h)
 | ((with_reducible apply go_box h); rfl; intro _ _ h)
 | ((with_reducible apply go_ix h); omega)
 | ((with_reducible first | apply go_elN h | apply go_f1 h | apply go_rf1 h | apply go_rel h); (case hi => omega); (try case hx => exact inferInstance); (try case hv => rfl))
 | ((with_reducible apply go_fa h); omega; omega)
))
  refine dnames_spec (L := Cl p #[dv, .int .i64 j.long, .int .i64 (j.number : Nat), .string (bs j.state), rv, .int .i64 (j.safe : Nat), .string (bs j.active)] 52 :: LsH cSt 1 9 rv j.recs :: L) hc (h.got) fun s w h => ?_
  refine contains_spec (by simp; omega) h fun w h => ?_
  (repeat (first
 | (simp (disch := omega) only [evA, evB, evC, bAdd_i64, bSub_i64])
 | (with_reducible apply go_ld1 h)
 | ((with_reducible first | apply go_ldA h | apply go_rd h | apply go_rdN h | apply go_rlen h); rfl)
 | (with_reducible first | apply go_ldN h | apply go_lenL h)
 | ((with_reducible apply go_st h); intro _ h)
 | ((with_reducible apply go_stA h); rfl; rfl; (first | rfl | simp [OneV.o]); intro _ h)
 | ((with_reducible apply go_stN h); rfl; (first | rfl | simp [OneV.o]); intro _ h)
 | ((with_reducible apply go_box h); rfl; intro _ _ h)
 | ((with_reducible apply go_ix h); omega)
 | ((with_reducible first | apply go_elN h | apply go_f1 h | apply go_rf1 h | apply go_rel h); (case hi => omega); (try case hx => exact inferInstance); (try case hv => rfl))
 | ((with_reducible apply go_fa h); omega; omega)
))
  exact hK _ (jrP_iff.2 ⟨p, rv, rfl, h.got⟩)
theorem jopen (h : Sat w0 (JrP v j dv :: L) w) : ∃ p rv, v = ptr p ∧ Sat w0 (JCl p j dv rv :: LsH cSt 1 9 rv j.recs :: L) w := jrP_iff.1 h
theorem jclose {p : Nat} {rv : Value} (h : Sat w0 (JCl p j dv rv :: LsH cSt 1 9 rv j.recs :: L) w) : Sat w0 (JrP (ptr p) j dv :: L) w := jrP_iff.2 ⟨p, rv, rfl, h⟩
theorem jsync_spec (hb : nextJ j < 4611686018427387904) (h : Sat w0 (JrP v j dv :: DiskA dv d :: L) w) (hK : ∀ w', Sat w0 (JrP v (syncA (j, d)).2.1 dv :: DiskA dv (syncA (j, d)).2.2 :: L) w' → K (.int .i64 (syncA (j, d)).1) w') : callP G12 [v] w K := by
  refine c12 ?_
  unfold F12 F12_1 F12_1b
  obtain ⟨p, rv, rfl, h2⟩ := jopen h
  clear h
  have h := h2
  clear h2
  unfold syncA at hK
  simp only at hK
  (repeat (first
 | (simp (disch := omega) only [evA, evB, evC, bAdd_i64, bSub_i64])
 | (with_reducible apply go_ld1 h)
 | ((with_reducible first | apply go_ldA h | apply go_rd h | apply go_rdN h | apply go_rlen h); rfl)
 | (with_reducible first | apply go_ldN h | apply go_lenL h)
 | ((with_reducible apply go_st h); intro _ h)
 | ((with_reducible apply go_stA h); rfl; rfl; (first | rfl | simp [OneV.o]); intro _ h)
 | ((with_reducible apply go_stN h); rfl; (first | rfl | simp [OneV.o]); intro _ h)
 | ((with_reducible apply go_box h); rfl; intro _ _ h)
 | ((with_reducible apply go_ix h); omega)
 | ((with_reducible first | apply go_elN h | apply go_f1 h | apply go_rf1 h | apply go_rel h); (case hi => omega); (try case hx => exact inferInstance); (try case hv => rfl))
 | ((with_reducible apply go_fa h); omega; omega)
))
  refine dsync_spec (L := JCl p j dv rv :: LsH cSt 1 9 rv j.recs :: L) (h.drew.got) fun w h => ?_
  by_cases g : (syncD j.active d).1 = 0
  · rw [if_pos g] at hK
    rw [g]
    (repeat (first
 | (simp (disch := omega) only [evA, evB, evC, bAdd_i64, bSub_i64])
 | (with_reducible apply go_ld1 h)
 | ((with_reducible first | apply go_ldA h | apply go_rd h | apply go_rdN h | apply go_rlen h); rfl)
 | (with_reducible first | apply go_ldN h | apply go_lenL h)
 | ((with_reducible apply go_st h); intro _ h)
 | ((with_reducible apply go_stA h); rfl; rfl; (first | rfl | simp [OneV.o]); intro _ h)
 | ((with_reducible apply go_stN h); rfl; (first | rfl | simp [OneV.o]); intro _ h)
 | ((with_reducible apply go_box h); rfl; intro _ _ h)
 | ((with_reducible apply go_ix h); omega)
 | ((with_reducible first | apply go_elN h | apply go_f1 h | apply go_rf1 h | apply go_rel h); (case hi => omega); (try case hx => exact inferInstance); (try case hv => rfl))
 | ((with_reducible apply go_fa h); omega; omega)
))
    refine jnext_spec (L := DiskA dv (syncD j.active d).2 :: L) (jclose (h.got)) hb fun w h => ?_
    obtain ⟨p', rv, hp, h2⟩ := jopen h
    obtain rfl : p = p' := by simpa [ptr] using hp
    clear h
    have h := h2
    clear h2
    unfold F12_2 F12_2b
    have e : ((nextJ j - 1 : Nat) : Int) = (nextJ j : Int) - 1 := by unfold nextJ; omega
    have hn : 1 ≤ nextJ j := by unfold nextJ; omega
    (repeat (first
 | (simp (disch := omega) only [evA, evB, evC, bAdd_i64, bSub_i64])
 | (with_reducible apply go_ld1 h)
 | ((with_reducible first | apply go_ldA h | apply go_rd h | apply go_rdN h | apply go_rlen h); rfl)
 | (with_reducible first | apply go_ldN h | apply go_lenL h)
 | ((with_reducible apply go_st h); intro _ h)
 | ((with_reducible apply go_stA h); rfl; rfl; (first | rfl | simp [OneV.o]); intro _ h)
 | ((with_reducible apply go_stN h); rfl; (first | rfl | simp [OneV.o]); intro _ h)
 | ((with_reducible apply go_box h); rfl; intro _ _ h)
 | ((with_reducible apply go_ix h); omega)
 | ((with_reducible first | apply go_elN h | apply go_f1 h | apply go_rf1 h | apply go_rel h); (case hi => omega); (try case hx => exact inferInstance); (try case hv => rfl))
 | ((with_reducible apply go_fa h); omega; omega)
))
    rw [← e] at h
    exact hK _ (jclose (j := { j with safe := nextJ j - 1 }) h)
  · rw [if_neg g] at hK
    have e : decide ((syncD j.active d).1 = 0) = false := by simpa using g
    unfold F12_2 F12_2b
    (repeat (first
 | (simp (disch := omega) only [evA, evB, evC, bAdd_i64, bSub_i64, e])
 | (with_reducible apply go_ld1 h)
 | ((with_reducible first | apply go_ldA h | apply go_rd h | apply go_rdN h | apply go_rlen h); rfl)
 | (with_reducible first | apply go_ldN h | apply go_lenL h)
 | ((with_reducible apply go_st h); intro _ h)
 | ((with_reducible apply go_stA h); rfl; rfl; (first | rfl | simp [OneV.o]); intro _ h)
 | ((with_reducible apply go_stN h); rfl; (first | rfl | simp [OneV.o]); intro _ h)
 | ((with_reducible apply go_box h); rfl; intro _ _ h)
 | ((with_reducible apply go_ix h); omega)
 | ((with_reducible first | apply go_elN h | apply go_f1 h | apply go_rf1 h | apply go_rel h); (case hi => omega); (try case hx => exact inferInstance); (try case hv => rfl))
 | ((with_reducible apply go_fa h); omega; omega)
))
    exact hK _ (jclose (h.got))
theorem drop_spec (hc : d.fs.length ≤ 1073741824) (h : Sat w0 (JrP v j dv :: DiskA dv d :: L) w) (hK : ∀ w', Sat w0 (JrP v (dropA n (j, d)).2.1 dv :: DiskA dv (dropA n (j, d)).2.2 :: L) w' → K (.int .i64 (dropA n (j, d)).1) w') : callP G21 [v, .string (bs n)] w K := by
  refine c21 ?_
  unfold F21
  unfold dropA at hK
  refine has_spec hc h fun w h => ?_
  cases g : hasF n d
  · rw [g] at hK
    simp only [Bool.false_eq_true, if_false] at hK
    (repeat (first
 | (simp (disch := omega) only [evA, evB, evC, bAdd_i64, bSub_i64, g])
 | (with_reducible apply go_ld1 h)
 | ((with_reducible first | apply go_ldA h | apply go_rd h | apply go_rdN h | apply go_rlen h); rfl)
 | (with_reducible first | apply go_ldN h | apply go_lenL h)
 | ((with_reducible apply go_st h); intro _ h)
 | ((with_reducible apply go_stA h); rfl; rfl; (first | rfl | simp [OneV.o]); intro _ h)
 | ((with_reducible apply go_stN h); rfl; (first | rfl | simp [OneV.o]); intro _ h)
 | ((with_reducible apply go_box h); rfl; intro _ _ h)
 | ((with_reducible apply go_ix h); omega)
 | ((with_reducible first | apply go_elN h | apply go_f1 h | apply go_rf1 h | apply go_rel h); (case hi => omega); (try case hx => exact inferInstance); (try case hv => rfl))
 | ((with_reducible apply go_fa h); omega; omega)
))
    exact hK _ h
  · rw [g] at hK
    simp only [if_true, diskA] at hK
    obtain ⟨p, rv, rfl, h2⟩ := jopen h
    clear h
    have h := h2
    clear h2
    (repeat (first
 | (simp (disch := omega) only [evA, evB, evC, bAdd_i64, bSub_i64, g])
 | (with_reducible apply go_ld1 h)
 | ((with_reducible first | apply go_ldA h | apply go_rd h | apply go_rdN h | apply go_rlen h); rfl)
 | (with_reducible first | apply go_ldN h | apply go_lenL h)
 | ((with_reducible apply go_st h); intro _ h)
 | ((with_reducible apply go_stA h); rfl; rfl; (first | rfl | simp [OneV.o]); intro _ h)
 | ((with_reducible apply go_stN h); rfl; (first | rfl | simp [OneV.o]); intro _ h)
 | ((with_reducible apply go_box h); rfl; intro _ _ h)
 | ((with_reducible apply go_ix h); omega)
 | ((with_reducible first | apply go_elN h | apply go_f1 h | apply go_rf1 h | apply go_rel h); (case hi => omega); (try case hx => exact inferInstance); (try case hv => rfl))
 | ((with_reducible apply go_fa h); omega; omega)
))
    refine drem_spec (L := JCl p j dv rv :: LsH cSt 1 9 rv j.recs :: L) (h.got) fun w h => ?_
    (repeat (first
 | (simp (disch := omega) only [evA, evB, evC, bAdd_i64, bSub_i64])
 | (with_reducible apply go_ld1 h)
 | ((with_reducible first | apply go_ldA h | apply go_rd h | apply go_rdN h | apply go_rlen h); rfl)
 | (with_reducible first | apply go_ldN h | apply go_lenL h)
 | ((with_reducible apply go_st h); intro _ h)
 | ((with_reducible apply go_stA h); rfl; rfl; (first | rfl | simp [OneV.o]); intro _ h)
 | ((with_reducible apply go_stN h); rfl; (first | rfl | simp [OneV.o]); intro _ h)
 | ((with_reducible apply go_box h); rfl; intro _ _ h)
 | ((with_reducible apply go_ix h); omega)
 | ((with_reducible first | apply go_elN h | apply go_f1 h | apply go_rf1 h | apply go_rel h); (case hi => omega); (try case hx => exact inferInstance); (try case hv => rfl))
 | ((with_reducible apply go_fa h); omega; omega)
))
    exact hK _ (jclose (h.got))
theorem begin_spec (B : BruIs w0) (hc : d.fs.length ≤ 1073741824) (hb : nextJ j < 4294967296) (h : Sat w0 (JrP v j dv :: DiskA dv d :: L) w) (hK : ∀ w', Sat w0 (JrP v (beginA (j, d)).2.1 dv :: DiskA dv (beginA (j, d)).2.2 :: L) w' → K (.int .i64 (beginA (j, d)).1) w') : callP G32 [v] w K := by
  refine c32 ?_
  unfold F32 F32_1 F32_1b
  refine jnext_spec h (by omega) fun w h => ?_
  refine name_spec B h hb fun w h => ?_
  refine has_spec hc h fun w h => ?_
  unfold beginA at hK
  simp only at hK
  cases g : hasF (nameL (nextJ j)) d
  · rw [g] at hK
    simp only [Bool.false_eq_true, if_false] at hK
    obtain ⟨p, rv, rfl, h2⟩ := jopen h
    clear h
    have h := h2
    clear h2
    (repeat (first
 | (simp (disch := omega) only [evA, evB, evC, bAdd_i64, bSub_i64, g])
 | (with_reducible apply go_ld1 h)
 | ((with_reducible first | apply go_ldA h | apply go_rd h | apply go_rdN h | apply go_rlen h); rfl)
 | (with_reducible first | apply go_ldN h | apply go_lenL h)
 | ((with_reducible apply go_st h); intro _ h)
 | ((with_reducible apply go_stA h); rfl; rfl; (first | rfl | simp [OneV.o]); intro _ h)
 | ((with_reducible apply go_stN h); rfl; (first | rfl | simp [OneV.o]); intro _ h)
 | ((with_reducible apply go_box h); rfl; intro _ _ h)
 | ((with_reducible apply go_ix h); omega)
 | ((with_reducible first | apply go_elN h | apply go_f1 h | apply go_rf1 h | apply go_rel h); (case hi => omega); (try case hx => exact inferInstance); (try case hv => rfl))
 | ((with_reducible apply go_fa h); omega; omega)
))
    refine dmake_spec (L := JCl p j dv rv :: LsH cSt 1 9 rv j.recs :: L) (h.got) fun w h => ?_
    by_cases g2 : (makeD (nameL (nextJ j)) d).1 = 0
    · rw [if_pos g2] at hK
      rw [g2]
      unfold F32_2 F32_2b
      (repeat (first
 | (simp (disch := omega) only [evA, evB, evC, bAdd_i64, bSub_i64])
 | (with_reducible apply go_ld1 h)
 | ((with_reducible first | apply go_ldA h | apply go_rd h | apply go_rdN h | apply go_rlen h); rfl)
 | (with_reducible first | apply go_ldN h | apply go_lenL h)
 | ((with_reducible apply go_st h); intro _ h)
 | ((with_reducible apply go_stA h); rfl; rfl; (first | rfl | simp [OneV.o]); intro _ h)
 | ((with_reducible apply go_stN h); rfl; (first | rfl | simp [OneV.o]); intro _ h)
 | ((with_reducible apply go_box h); rfl; intro _ _ h)
 | ((with_reducible apply go_ix h); omega)
 | ((with_reducible first | apply go_elN h | apply go_f1 h | apply go_rf1 h | apply go_rel h); (case hi => omega); (try case hx => exact inferInstance); (try case hv => rfl))
 | ((with_reducible apply go_fa h); omega; omega)
))
      exact hK _ (jclose (j := { j with active := nameL (nextJ j) }) (h.got))
    · rw [if_neg g2] at hK
      have e : decide ((makeD (nameL (nextJ j)) d).1 = 0) = false := by simpa using g2
      (repeat (first
 | (simp (disch := omega) only [evA, evB, evC, bAdd_i64, bSub_i64, e])
 | (with_reducible apply go_ld1 h)
 | ((with_reducible first | apply go_ldA h | apply go_rd h | apply go_rdN h | apply go_rlen h); rfl)
 | (with_reducible first | apply go_ldN h | apply go_lenL h)
 | ((with_reducible apply go_st h); intro _ h)
 | ((with_reducible apply go_stA h); rfl; rfl; (first | rfl | simp [OneV.o]); intro _ h)
 | ((with_reducible apply go_stN h); rfl; (first | rfl | simp [OneV.o]); intro _ h)
 | ((with_reducible apply go_box h); rfl; intro _ _ h)
 | ((with_reducible apply go_ix h); omega)
 | ((with_reducible first | apply go_elN h | apply go_f1 h | apply go_rf1 h | apply go_rel h); (case hi => omega); (try case hx => exact inferInstance); (try case hv => rfl))
 | ((with_reducible apply go_fa h); omega; omega)
))
      exact hK _ (jclose (h.got))
  · rw [g] at hK
    simp only [if_true] at hK
    obtain ⟨p, rv, rfl, h2⟩ := jopen h
    clear h
    have h := h2
    clear h2
    unfold F32_2 F32_2b
    (repeat (first
 | (simp (disch := omega) only [evA, evB, evC, bAdd_i64, bSub_i64, g])
 | (with_reducible apply go_ld1 h)
 | ((with_reducible first | apply go_ldA h | apply go_rd h | apply go_rdN h | apply go_rlen h); rfl)
 | (with_reducible first | apply go_ldN h | apply go_lenL h)
 | ((with_reducible apply go_st h); intro _ h)
 | ((with_reducible apply go_stA h); rfl; rfl; (first | rfl | simp [OneV.o]); intro _ h)
 | ((with_reducible apply go_stN h); rfl; (first | rfl | simp [OneV.o]); intro _ h)
 | ((with_reducible apply go_box h); rfl; intro _ _ h)
 | ((with_reducible apply go_ix h); omega)
 | ((with_reducible first | apply go_elN h | apply go_f1 h | apply go_rf1 h | apply go_rel h); (case hi => omega); (try case hx => exact inferInstance); (try case hv => rfl))
 | ((with_reducible apply go_fa h); omega; omega)
))
    exact hK _ (jclose (j := { j with active := nameL (nextJ j) }) (h.got))
theorem settle_spec (B : BruIs w0) (hc : d.fs.length ≤ 1073741824) (hb : nextJ j < 4294967296) (h : Sat w0 (JrP v j dv :: DiskA dv d :: L) w) (hK : ∀ w', Sat w0 (JrP v (settleA (j, d)).2.1 dv :: DiskA dv (settleA (j, d)).2.2 :: L) w' → K (.int .i64 (settleA (j, d)).1) w') : callP G24 [v] w K := by
  refine c24 ?_
  unfold F24
  have e0 : (ByteArray.mk #[] : ByteArray) = bs [] := rfl
  rw [e0]
  unfold settleA at hK
  simp only at hK
  obtain ⟨p, rv, rfl, h2⟩ := jopen h
  clear h
  have h := h2
  clear h2
  by_cases g : j.active = []
  · rw [if_neg (by simpa using g)] at hK
    have e : decide (j.active = []) = true := by simpa using g
    (repeat (first
 | (simp (disch := omega) only [evA, evB, evC, bAdd_i64, bSub_i64, e])
 | (with_reducible apply go_ld1 h)
 | ((with_reducible first | apply go_ldA h | apply go_rd h | apply go_rdN h | apply go_rlen h); rfl)
 | (with_reducible first | apply go_ldN h | apply go_lenL h)
 | ((with_reducible apply go_st h); intro _ h)
 | ((with_reducible apply go_stA h); rfl; rfl; (first | rfl | simp [OneV.o]); intro _ h)
 | ((with_reducible apply go_stN h); rfl; (first | rfl | simp [OneV.o]); intro _ h)
 | ((with_reducible apply go_box h); rfl; intro _ _ h)
 | ((with_reducible apply go_ix h); omega)
 | ((with_reducible first | apply go_elN h | apply go_f1 h | apply go_rf1 h | apply go_rel h); (case hi => omega); (try case hx => exact inferInstance); (try case hv => rfl))
 | ((with_reducible apply go_fa h); omega; omega)
))
    refine begin_spec B hc hb (jclose h) fun w h => ?_
    exact hK _ h
  · rw [if_pos g] at hK
    have e : decide (j.active = []) = false := by simpa using g
    (repeat (first
 | (simp (disch := omega) only [evA, evB, evC, bAdd_i64, bSub_i64, e])
 | (with_reducible apply go_ld1 h)
 | ((with_reducible first | apply go_ldA h | apply go_rd h | apply go_rdN h | apply go_rlen h); rfl)
 | (with_reducible first | apply go_ldN h | apply go_lenL h)
 | ((with_reducible apply go_st h); intro _ h)
 | ((with_reducible apply go_stA h); rfl; rfl; (first | rfl | simp [OneV.o]); intro _ h)
 | ((with_reducible apply go_stN h); rfl; (first | rfl | simp [OneV.o]); intro _ h)
 | ((with_reducible apply go_box h); rfl; intro _ _ h)
 | ((with_reducible apply go_ix h); omega)
 | ((with_reducible first | apply go_elN h | apply go_f1 h | apply go_rf1 h | apply go_rel h); (case hi => omega); (try case hx => exact inferInstance); (try case hv => rfl))
 | ((with_reducible apply go_fa h); omega; omega)
))
    exact hK _ (jclose h)
theorem snapshot_spec (h : Sat w0 (JrP v j dv :: L) w) (hK : ∀ w', Sat w0 (JrP v j dv :: L) w' → K (.tuple #[.int .i64 (j.number : Nat), .string (bs j.state)]) w') : callP G14 [v] w K := by
  refine c14 ?_
  unfold F14
  obtain ⟨p, rv, rfl, h2⟩ := jopen h
  clear h
  have h := h2
  clear h2
  (repeat (first
 | (simp (disch := omega) only [evA, evB, evC, bAdd_i64, bSub_i64])
 | (with_reducible apply go_ld1 h)
 | ((with_reducible first | apply go_ldA h | apply go_rd h | apply go_rdN h | apply go_rlen h); rfl)
 | (with_reducible first | apply go_ldN h | apply go_lenL h)
 | ((with_reducible apply go_st h); intro _ h)
 | ((with_reducible apply go_stA h); rfl; rfl; (first | rfl | simp [OneV.o]); intro _ h)
 | ((with_reducible apply go_stN h); rfl; (first | rfl | simp [OneV.o]); intro _ h)
 | ((with_reducible apply go_box h); rfl; intro _ _ h)
 | ((with_reducible apply go_ix h); omega)
 | ((with_reducible first | apply go_elN h | apply go_f1 h | apply go_rf1 h | apply go_rel h); (case hi => omega); (try case hx => exact inferInstance); (try case hv => rfl))
 | ((with_reducible apply go_fa h); omega; omega)
))
  exact hK _ (jclose h.drew)
theorem records_spec (hl : j.recs.length ≤ 1073741824) (h : Sat w0 (JrP v j dv :: L) w) (hK : ∀ s w', Sat w0 (LsH cSt 1 9 s j.recs :: JrP v j dv :: L) w' → K s w') : callP G16 [v] w K := by
  refine c16 ?_
  unfold F16
  obtain ⟨p, rv, rfl, h2⟩ := jopen h
  clear h
  have h := h2
  clear h2
  (repeat (first
 | (simp (disch := omega) only [evA, evB, evC, bAdd_i64, bSub_i64])
 | (with_reducible apply go_ld1 h)
 | ((with_reducible first | apply go_ldA h | apply go_rd h | apply go_rdN h | apply go_rlen h); rfl)
 | (with_reducible first | apply go_ldN h | apply go_lenL h)
 | ((with_reducible apply go_st h); intro _ h)
 | ((with_reducible apply go_stA h); rfl; rfl; (first | rfl | simp [OneV.o]); intro _ h)
 | ((with_reducible apply go_stN h); rfl; (first | rfl | simp [OneV.o]); intro _ h)
 | ((with_reducible apply go_box h); rfl; intro _ _ h)
 | ((with_reducible apply go_ix h); omega)
 | ((with_reducible first | apply go_elN h | apply go_f1 h | apply go_rf1 h | apply go_rel h); (case hi => omega); (try case hx => exact inferInstance); (try case hv => rfl))
 | ((with_reducible apply go_fa h); omega; omega)
))
  refine c36 ?_
  unfold F36
  have hcase := lsh_cases (h.frt (A := LsH cSt 1 9 rv j.recs))
  rcases hcase with ⟨rfl, hr⟩ | ⟨a, n, c, rfl⟩
  · rw [bEq_nils u22]
    (repeat (first
 | (simp (disch := omega) only [evA, evB, evC, bAdd_i64, bSub_i64])
 | (with_reducible apply go_ld1 h)
 | ((with_reducible first | apply go_ldA h | apply go_rd h | apply go_rdN h | apply go_rlen h); rfl)
 | (with_reducible first | apply go_ldN h | apply go_lenL h)
 | ((with_reducible apply go_st h); intro _ h)
 | ((with_reducible apply go_stA h); rfl; rfl; (first | rfl | simp [OneV.o]); intro _ h)
 | ((with_reducible apply go_stN h); rfl; (first | rfl | simp [OneV.o]); intro _ h)
 | ((with_reducible apply go_box h); rfl; intro _ _ h)
 | ((with_reducible apply go_ix h); omega)
 | ((with_reducible first | apply go_elN h | apply go_f1 h | apply go_rf1 h | apply go_rel h); (case hi => omega); (try case hx => exact inferInstance); (try case hv => rfl))
 | ((with_reducible apply go_fa h); omega; omega)
))
    have h4 := Sat.nilLs cSt 1 9 (jclose h)
    rw [← hr] at h4
    exact hK _ _ h4
  · rw [bEq_nils u22]
    (repeat (first
 | (simp (disch := omega) only [evA, evB, evC, bAdd_i64, bSub_i64])
 | (with_reducible apply go_ld1 h)
 | ((with_reducible first | apply go_ldA h | apply go_rd h | apply go_rdN h); rfl)
 | (with_reducible first | apply go_ldN h | apply go_lenR h)
 | ((with_reducible apply go_st h); intro _ h)
 | ((with_reducible apply go_stA h); rfl; rfl; (first | rfl | simp [OneV.o]); intro _ h)
 | ((with_reducible apply go_stN h); rfl; (first | rfl | simp [OneV.o]); intro _ h)
 | ((with_reducible apply go_box h); rfl; intro _ _ h)
 | ((with_reducible apply go_ixR h); omega)
 | ((with_reducible first | apply go_elR h | apply go_f1R h | apply go_rf1R h | apply go_relR h | apply go_e1R h | apply go_re1R h); (case hc => exact inferInstance); (case hi => omega); (try case hx => exact inferInstance); (try case hv => rfl))
 | ((with_reducible apply go_fNR h); (case hc => exact inferInstance); (case hi => omega); (try case hp => exact inferInstance); (try case hv => rfl))
 | ((with_reducible apply go_faR h); (case hc => exact inferInstance); omega; omega)
 | ((with_reducible apply go_rlenR h); rfl)
 | ((with_reducible first | apply go_lit0 CSt h u22 (by kernel_rfl) | apply go_lit1 CSt h u22 (fbS1 _) rfl); intro _ _ h)
 | ((with_reducible apply go_appR h sl22 ss22); (case hm => repeat (first | exact .here | apply Fnt.there)); (case hb => first | omega | (simp; omega)); intro _ _ _ h)
))
    exact hK _ _ (Sat.f1 (jclose (h.got)))
end
end Go.Proofs.Gong

/- Jm2 -/
namespace Go.Proofs.Gong
open Go Go.Sx Go.Proofs
set_option maxRecDepth 100000
def nextQ (x : List UInt8) : List UInt8 × List UInt8 × Int := match nextL x with | none => ([], [], 260) | some (p, t) => (p, t, 0)
theorem nextV_eq (x : List UInt8) : nextV x = .tuple #[.string (bs (nextQ x).1), .string (bs (nextQ x).2.1), .int .i64 (nextQ x).2.2] := by
  unfold nextV nextQ
  cases nextL x with
  | none => rfl
  | some q => rfl
theorem nextQ_le (x : List UInt8) : (nextQ x).1.length ≤ x.length := by
  unfold nextQ
  cases h : nextL x with
  | none => simp
  | some q => obtain ⟨p, t⟩ := q; have := nextL_some h; simp only; omega
theorem dat_le {d : Dk} (ok : DOk d) (n : List UInt8) : (datF n d).length ≤ 1099511627776 := by
  unfold datF
  cases h : fGet n d.fs with
  | none => simp
  | some f =>
    obtain ⟨h1, _⟩ := kGet_mem h
    have := usedF_mem h1
    have h2 := ok.used
    have h3 := ok.room
    show f.s.length ≤ _
    omega
theorem rWide_wf {r : Rdr} (n : Int) (hr : r.wf) : (rWide n r).2.wf := by
  unfold rWide Rdr.wf at *
  split
  · exact hr
  split
  · exact hr
  split
  · exact hr
  split
  · exact hr
  · simp only [List.length_drop]; omega
theorem CIn : Cod cI 1 := CodC.cod
theorem fbI1 (n : Int) : fBuildSl Tryz.prog 3 1 [(0, .int .i64 n)] = some (cI n).toArray := by kernel_rfl
noncomputable def segG (f : List UInt8) : Option Int := if 0 < firstN f then some (firstN f : Int) else none
theorem segG_seg {n : Nat} (h : 1 ≤ n ∧ n < 4294967296) : segG (nameL n) = some (n : Int) := by
  unfold segG
  rw [firstN_seg h, if_pos (by omega)]
theorem segG_bad (t : List UInt8) : segG (115 :: t) = none := by
  unfold segG
  rw [firstN_bad, if_neg (by omega)]
theorem scanL_le : ∀ (k : Nat) (x : List UInt8), (scanL k x).1.length ≤ x.length ∧ (scanL k x).2 ≤ x.length
  | 0, x => by simp [scanL]
  | k + 1, x => by
    unfold scanL
    split
    · simp
    cases h : nextL x with
    | none => simp
    | some q =>
      obtain ⟨p, t⟩ := q
      have h1 := nextL_some h
      have h2 := scanL_le k t
      simp only [List.length_cons]
      omega
theorem firstN_lt {f : List UInt8} (h : 0 < firstN f) : firstN f < 4294967296 := by
  unfold firstN at *
  split at h
  · rename_i hx
    rw [dif_pos hx]
    exact (Classical.choose_spec hx).2.1
  · omega
theorem segL_lt {fs : List Fil} : ∀ x ∈ srtI (segL fs), 1 ≤ x ∧ x < 4294967296 := by
  intro x hx
  have hx := (List.mergeSort_perm (segL fs) _).mem_iff.1 hx
  obtain ⟨f, _, hf⟩ := List.mem_filterMap.1 hx
  split at hf
  · rename_i g
    have := firstN_lt g
    cases hf
    omega
  · cases hf
def okRead : List Nat → Bool → JS → Prop
  | [], _, _ => True
  | n :: l, e, s => n < 4294967296 ∧ nextJ s.1 < 4294967296 ∧ ((readSegA n e s).2.1 = 0 → okRead l (e || !(readSegA n e s).1) (readSegA n e s).2.2)
attribute [local irreducible] fBuild fLook fZero eqv bEqv Cl MapH LsH SlH ld1 ldN st callP eBox eAlloc lenM lenL eMapSet eDelete eAppend eBuildSl eRange eNext
section
variable {w0 w : World} {L : List HP} {K : Value → World → Prop} {v dv : Value} {j : Jn} {d : Dk} {n : List UInt8}
theorem readsnap_spec (W : HalfIs w0) (h : Sat w0 (JrP v j dv :: DiskA dv d :: L) w) (hK : ∀ w', Sat w0 (JrP v (readSnapA (j, d)).2.1 dv :: DiskA dv (readSnapA (j, d)).2.2 :: L) w' → K (.int .i64 (readSnapA (j, d)).1) w') : callP G22 [v] w K := by
  refine c22 ?_
  unfold F22
  obtain ⟨p, rv, rfl, h2⟩ := jopen h
  clear h
  have h := h2
  clear h2
  have ok := diskA_ok (h.frt (A := DiskA dv d))
  have e0 : (ByteArray.mk #[115, 110, 97, 112] : ByteArray) = bs snapN := rfl
  have e1 : (ByteArray.mk #[] : ByteArray) = bs [] := rfl
  rw [e0, e1]
  (repeat (first
 | (simp (disch := omega) only [evA, evB, evC, bAdd_i64, bSub_i64])
 | (with_reducible apply go_ld1 h)
 | ((with_reducible first | apply go_ldA h | apply go_rd h | apply go_rdN h | apply go_rlen h); rfl)
 | (with_reducible first | apply go_ldN h | apply go_lenL h)
 | ((with_reducible apply go_st h); intro _ h)
 | ((with_reducible apply go_stA h); rfl; rfl; (first | rfl | simp [OneV.o]); intro _ h)
 | ((with_reducible apply go_stN h); rfl; (first | rfl | simp [OneV.o]); intro _ h)
 | ((with_reducible apply go_box h); rfl; intro _ _ h)
 | ((with_reducible apply go_ix h); omega)
 | ((with_reducible first | apply go_elN h | apply go_f1 h | apply go_rf1 h | apply go_rel h); (case hi => omega); (try case hx => exact inferInstance); (try case hv => rfl))
 | ((with_reducible apply go_fa h); omega; omega)
))
  refine dread_spec (L := JCl p j dv rv :: LsH cSt 1 9 rv j.recs :: L) (h.got) fun w h => ?_
  have hdl := dat_le ok snapN
  unfold datF at hdl
  cases hg : fGet snapN d.fs with
  | none =>
    have hr : readSnapA (j, d) = (0, j, d) := by unfold readSnapA; simp only [hg]
    rw [hr] at hK
    simp only [Option.elim]
    (repeat (first
 | (simp (disch := omega) only [evA, evB, evC, bAdd_i64, bSub_i64])
 | (with_reducible apply go_ld1 h)
 | ((with_reducible first | apply go_ldA h | apply go_rd h | apply go_rdN h | apply go_rlen h); rfl)
 | (with_reducible first | apply go_ldN h | apply go_lenL h)
 | ((with_reducible apply go_st h); intro _ h)
 | ((with_reducible apply go_stA h); rfl; rfl; (first | rfl | simp [OneV.o]); intro _ h)
 | ((with_reducible apply go_stN h); rfl; (first | rfl | simp [OneV.o]); intro _ h)
 | ((with_reducible apply go_box h); rfl; intro _ _ h)
 | ((with_reducible apply go_ix h); omega)
 | ((with_reducible first | apply go_elN h | apply go_f1 h | apply go_rf1 h | apply go_rel h); (case hi => omega); (try case hx => exact inferInstance); (try case hv => rfl))
 | ((with_reducible apply go_fa h); omega; omega)
))
    exact hK _ (jclose (h.got))
  | some f =>
    have hr : readSnapA (j, d) = (if (snapR f.s).2.2 = true then 0 else 270, { j with number := (snapR f.s).1, state := (snapR f.s).2.1 }, d) := by unfold readSnapA; simp only [hg]
    rw [hr] at hK
    rw [hg] at hdl
    simp only [Option.elim] at hdl ⊢
    (repeat (first
 | (simp (disch := omega) only [evA, evB, evC, bAdd_i64, bSub_i64])
 | (with_reducible apply go_ld1 h)
 | ((with_reducible first | apply go_ldA h | apply go_rd h | apply go_rdN h | apply go_rlen h); rfl)
 | (with_reducible first | apply go_ldN h | apply go_lenL h)
 | ((with_reducible apply go_st h); intro _ h)
 | ((with_reducible apply go_stA h); rfl; rfl; (first | rfl | simp [OneV.o]); intro _ h)
 | ((with_reducible apply go_stN h); rfl; (first | rfl | simp [OneV.o]); intro _ h)
 | ((with_reducible apply go_box h); rfl; intro _ _ h)
 | ((with_reducible apply go_ix h); omega)
 | ((with_reducible first | apply go_elN h | apply go_f1 h | apply go_rf1 h | apply go_rel h); (case hi => omega); (try case hx => exact inferInstance); (try case hv => rfl))
 | ((with_reducible apply go_fa h); omega; omega)
))
    refine next_spec W (by omega) h fun w h => ?_
    rw [nextV_eq]
    have hq := nextQ_le f.s
    have hs : snapR f.s = ((rWide 8 (0, (nextQ f.s).1)).1, (rBytes (rWide 8 (0, (nextQ f.s).1)).2.2.length (rWide 8 (0, (nextQ f.s).1)).2).1, decide ((nextQ f.s).2.2 = 0) && decide ((nextQ f.s).2.1 = []) && decide (rDone (rBytes (rWide 8 (0, (nextQ f.s).1)).2.2.length (rWide 8 (0, (nextQ f.s).1)).2).2 = 0)) := rfl
    rw [hs] at hK
    generalize nextQ f.s = q at hK hq
    obtain ⟨q1, q2, q3⟩ := q
    simp only at hK hq ⊢
    (repeat (first
 | (simp (disch := omega) only [evA, evB, evC, bAdd_i64, bSub_i64])
 | (with_reducible apply go_ld1 h)
 | ((with_reducible first | apply go_ldA h | apply go_rd h | apply go_rdN h | apply go_rlen h); rfl)
 | (with_reducible first | apply go_ldN h | apply go_lenL h)
 | ((with_reducible apply go_st h); intro _ h)
 | ((with_reducible apply go_stA h); rfl; rfl; (first | rfl | simp [OneV.o]); intro _ h)
 | ((with_reducible apply go_stN h); rfl; (first | rfl | simp [OneV.o]); intro _ h)
 | ((with_reducible apply go_box h); rfl; intro _ _ h)
 | ((with_reducible apply go_ix h); omega)
 | ((with_reducible first | apply go_elN h | apply go_f1 h | apply go_rf1 h | apply go_rel h); (case hi => omega); (try case hx => exact inferInstance); (try case hv => rfl))
 | ((with_reducible apply go_fa h); omega; omega)
))
    refine read_spec (L := DiskA dv d :: JCl p j dv rv :: LsH cSt 1 9 rv j.recs :: L) h fun r w h => ?_
    have wf0 : Rdr.wf (0, q1) := by unfold Rdr.wf; simp only; omega
    refine rwide_spec (n := 8) h (by omega) wf0 fun w h => ?_
    have wf1 := rWide_wf 8 wf0
    have e8 : ((8 : Nat) : Int) = 8 := rfl
    rw [e8] at h ⊢
    generalize rWide 8 (0, q1) = r1 at hK h wf1
    obtain ⟨a1, r1⟩ := r1
    simp only at hK h wf1 ⊢
    (repeat (first
 | (simp (disch := omega) only [evA, evB, evC, bAdd_i64, bSub_i64])
 | (with_reducible apply go_ld1 h)
 | ((with_reducible first | apply go_ldA h | apply go_rd h | apply go_rdN h | apply go_rlen h); rfl)
 | (with_reducible first | apply go_ldN h | apply go_lenL h)
 | ((with_reducible apply go_st h); intro _ h)
 | ((with_reducible apply go_stA h); rfl; rfl; (first | rfl | simp [OneV.o]); intro _ h)
 | ((with_reducible apply go_stN h); rfl; (first | rfl | simp [OneV.o]); intro _ h)
 | ((with_reducible apply go_box h); rfl; intro _ _ h)
 | ((with_reducible apply go_ix h); omega)
 | ((with_reducible first | apply go_elN h | apply go_f1 h | apply go_rf1 h | apply go_rel h); (case hi => omega); (try case hx => exact inferInstance); (try case hv => rfl))
 | ((with_reducible apply go_fa h); omega; omega)
))
    refine left_spec (h.got) ?_
    refine bytes_spec (L := DiskA dv d :: JCl p { j with number := a1 } dv rv :: LsH cSt 1 9 rv j.recs :: L) (h.got) wf1 fun w h => ?_
    generalize rBytes r1.2.length r1 = r2 at hK h
    obtain ⟨st, r2⟩ := r2
    simp only at hK h ⊢
    (repeat (first
 | (simp (disch := omega) only [evA, evB, evC, bAdd_i64, bSub_i64])
 | (with_reducible apply go_ld1 h)
 | ((with_reducible first | apply go_ldA h | apply go_rd h | apply go_rdN h | apply go_rlen h); rfl)
 | (with_reducible first | apply go_ldN h | apply go_lenL h)
 | ((with_reducible apply go_st h); intro _ h)
 | ((with_reducible apply go_stA h); rfl; rfl; (first | rfl | simp [OneV.o]); intro _ h)
 | ((with_reducible apply go_stN h); rfl; (first | rfl | simp [OneV.o]); intro _ h)
 | ((with_reducible apply go_box h); rfl; intro _ _ h)
 | ((with_reducible apply go_ix h); omega)
 | ((with_reducible first | apply go_elN h | apply go_f1 h | apply go_rf1 h | apply go_rel h); (case hi => omega); (try case hx => exact inferInstance); (try case hv => rfl))
 | ((with_reducible apply go_fa h); omega; omega)
))
    have hfin := fun w h => hK w (jclose (p := p) (rv := rv) (j := { j with number := a1, state := st }) h)
    by_cases g1 : q3 = 0
    · by_cases g2 : q2 = []
      · have s1 : decide (q3 = 0) = true := by simpa using g1
        have s2 : decide (q2 = []) = true := by simpa using g2
        rw [s1, s2, Bool.true_and, Bool.true_and] at hfin
        (repeat (first
 | (simp (disch := omega) only [evA, evB, evC, bAdd_i64, bSub_i64, s1, s2])
 | (with_reducible apply go_ld1 h)
 | ((with_reducible first | apply go_ldA h | apply go_rd h | apply go_rdN h | apply go_rlen h); rfl)
 | (with_reducible first | apply go_ldN h | apply go_lenL h)
 | ((with_reducible apply go_st h); intro _ h)
 | ((with_reducible apply go_stA h); rfl; rfl; (first | rfl | simp [OneV.o]); intro _ h)
 | ((with_reducible apply go_stN h); rfl; (first | rfl | simp [OneV.o]); intro _ h)
 | ((with_reducible apply go_box h); rfl; intro _ _ h)
 | ((with_reducible apply go_ix h); omega)
 | ((with_reducible first | apply go_elN h | apply go_f1 h | apply go_rf1 h | apply go_rel h); (case hi => omega); (try case hx => exact inferInstance); (try case hv => rfl))
 | ((with_reducible apply go_fa h); omega; omega)
))
        refine done_spec (h.got) ?_
        cases g3 : decide (rDone r2 = 0)
        · rw [g3] at hfin
          (repeat (first
 | (simp (disch := omega) only [evA, evB, evC, bAdd_i64, bSub_i64, g3])
 | (with_reducible apply go_ld1 h)
 | ((with_reducible first | apply go_ldA h | apply go_rd h | apply go_rdN h | apply go_rlen h); rfl)
 | (with_reducible first | apply go_ldN h | apply go_lenL h)
 | ((with_reducible apply go_st h); intro _ h)
 | ((with_reducible apply go_stA h); rfl; rfl; (first | rfl | simp [OneV.o]); intro _ h)
 | ((with_reducible apply go_stN h); rfl; (first | rfl | simp [OneV.o]); intro _ h)
 | ((with_reducible apply go_box h); rfl; intro _ _ h)
 | ((with_reducible apply go_ix h); omega)
 | ((with_reducible first | apply go_elN h | apply go_f1 h | apply go_rf1 h | apply go_rel h); (case hi => omega); (try case hx => exact inferInstance); (try case hv => rfl))
 | ((with_reducible apply go_fa h); omega; omega)
))
          exact hfin _ (h.got)
        · rw [g3] at hfin
          (repeat (first
 | (simp (disch := omega) only [evA, evB, evC, bAdd_i64, bSub_i64, g3])
 | (with_reducible apply go_ld1 h)
 | ((with_reducible first | apply go_ldA h | apply go_rd h | apply go_rdN h | apply go_rlen h); rfl)
 | (with_reducible first | apply go_ldN h | apply go_lenL h)
 | ((with_reducible apply go_st h); intro _ h)
 | ((with_reducible apply go_stA h); rfl; rfl; (first | rfl | simp [OneV.o]); intro _ h)
 | ((with_reducible apply go_stN h); rfl; (first | rfl | simp [OneV.o]); intro _ h)
 | ((with_reducible apply go_box h); rfl; intro _ _ h)
 | ((with_reducible apply go_ix h); omega)
 | ((with_reducible first | apply go_elN h | apply go_f1 h | apply go_rf1 h | apply go_rel h); (case hi => omega); (try case hx => exact inferInstance); (try case hv => rfl))
 | ((with_reducible apply go_fa h); omega; omega)
))
          exact hfin _ (h.got)
      · have s1 : decide (q3 = 0) = true := by simpa using g1
        have s2 : decide (q2 = []) = false := by simpa using g2
        rw [s1, s2, Bool.true_and, Bool.false_and] at hfin
        (repeat (first
 | (simp (disch := omega) only [evA, evB, evC, bAdd_i64, bSub_i64, s1, s2])
 | (with_reducible apply go_ld1 h)
 | ((with_reducible first | apply go_ldA h | apply go_rd h | apply go_rdN h | apply go_rlen h); rfl)
 | (with_reducible first | apply go_ldN h | apply go_lenL h)
 | ((with_reducible apply go_st h); intro _ h)
 | ((with_reducible apply go_stA h); rfl; rfl; (first | rfl | simp [OneV.o]); intro _ h)
 | ((with_reducible apply go_stN h); rfl; (first | rfl | simp [OneV.o]); intro _ h)
 | ((with_reducible apply go_box h); rfl; intro _ _ h)
 | ((with_reducible apply go_ix h); omega)
 | ((with_reducible first | apply go_elN h | apply go_f1 h | apply go_rf1 h | apply go_rel h); (case hi => omega); (try case hx => exact inferInstance); (try case hv => rfl))
 | ((with_reducible apply go_fa h); omega; omega)
))
        exact hfin _ (h.got)
    · have s1 : decide (q3 = 0) = false := by simpa using g1
      rw [s1, Bool.false_and, Bool.false_and] at hfin
      (repeat (first
 | (simp (disch := omega) only [evA, evB, evC, bAdd_i64, bSub_i64, s1])
 | (with_reducible apply go_ld1 h)
 | ((with_reducible first | apply go_ldA h | apply go_rd h | apply go_rdN h | apply go_rlen h); rfl)
 | (with_reducible first | apply go_ldN h | apply go_lenL h)
 | ((with_reducible apply go_st h); intro _ h)
 | ((with_reducible apply go_stA h); rfl; rfl; (first | rfl | simp [OneV.o]); intro _ h)
 | ((with_reducible apply go_stN h); rfl; (first | rfl | simp [OneV.o]); intro _ h)
 | ((with_reducible apply go_box h); rfl; intro _ _ h)
 | ((with_reducible apply go_ix h); omega)
 | ((with_reducible first | apply go_elN h | apply go_f1 h | apply go_rf1 h | apply go_rel h); (case hi => omega); (try case hx => exact inferInstance); (try case hv => rfl))
 | ((with_reducible apply go_fa h); omega; omega)
))
      exact hfin _ (h.got)
theorem segLoop (B : BruIs w0) (Y : SynIs w0) {sv : Value} {l : List (List UInt8)} (hl : l.length ≤ 1073741824) (hn : ∀ f ∈ l, NameJ f) : ∀ (k i m : Nat) (acc : List Int) (av : Value) (w : World), i + k = l.length → k < m → acc.length ≤ i →
    Sat w0 (LsH cI 1 3 av acc :: LsH cSt 1 9 sv l :: L) w → (∀ av' w', Sat w0 (LsH cI 1 3 av' (acc ++ (l.drop i).filterMap segG) :: LsH cSt 1 9 sv l :: L) w' → F46_3 av' w' K) →
    F46_2L m av sv (.int .i64 l.length) (.int .i64 i) w K := by
  intro k
  induction k with
  | zero =>
    intro i m acc av w hi hm ha h hK
    obtain ⟨m, rfl⟩ : ∃ q, m = q + 1 := ⟨m - 1, by omega⟩
    rw [F46_2L]; unfold F46_4 F46_4b
    have e : decide ((i : Int) < l.length) = false := by simp; omega
    (repeat (first
 | (simp (disch := omega) only [evA, evB, evC, bAdd_i64, bSub_i64, e])
 | (with_reducible apply go_ld1 h)
 | ((with_reducible first | apply go_ldA h | apply go_rd h | apply go_rdN h | apply go_rlen h); rfl)
 | (with_reducible first | apply go_ldN h | apply go_lenL h)
 | ((with_reducible apply go_st h); intro _ h)
 | ((with_reducible apply go_stA h); rfl; rfl; (first | rfl | simp [OneV.o]); intro _ h)
 | ((with_reducible apply go_stN h); rfl; (first | rfl | simp [OneV.o]); intro _ h)
 | ((with_reducible apply go_box h); rfl; intro _ _ h)
 | ((with_reducible apply go_ix h); omega)
 | ((with_reducible first | apply go_elN h | apply go_f1 h | apply go_rf1 h | apply go_rel h); (case hi => omega); (try case hx => exact inferInstance); (try case hv => rfl))
 | ((with_reducible apply go_fa h); omega; omega)
))
    have := hK av w
    rw [List.drop_of_length_le (by omega), List.filterMap_nil, List.append_nil] at this
    exact this h
  | succ k ih =>
    intro i m acc av w hi hm ha h hK
    obtain ⟨m, rfl⟩ : ∃ q, m = q + 1 := ⟨m - 1, by omega⟩
    rw [F46_2L]; unfold F46_4 F46_4b
    have hlt : i < l.length := by omega
    have e : decide ((i : Int) < l.length) = true := by simp; omega
    have hd : l.drop i = l[i] :: l.drop (i + 1) := List.drop_eq_getElem_cons hlt
    rw [hd, List.filterMap_cons] at hK
    (repeat (first
 | (simp (disch := omega) only [evA, evB, evC, bAdd_i64, bSub_i64, e])
 | (with_reducible apply go_ld1 h)
 | ((with_reducible first | apply go_ldA h | apply go_rd h | apply go_rdN h); rfl)
 | (with_reducible first | apply go_ldN h | apply go_lenR h)
 | ((with_reducible apply go_st h); intro _ h)
 | ((with_reducible apply go_stA h); rfl; rfl; (first | rfl | simp [OneV.o]); intro _ h)
 | ((with_reducible apply go_stN h); rfl; (first | rfl | simp [OneV.o]); intro _ h)
 | ((with_reducible apply go_box h); rfl; intro _ _ h)
 | ((with_reducible apply go_ixR h); omega)
 | ((with_reducible first | apply go_elR h | apply go_f1R h | apply go_rf1R h | apply go_relR h | apply go_e1R h | apply go_re1R h); (case hc => exact inferInstance); (case hi => omega); (try case hx => exact inferInstance); (try case hv => rfl))
 | ((with_reducible apply go_fNR h); (case hc => exact inferInstance); (case hi => omega); (try case hp => exact inferInstance); (try case hv => rfl))
 | ((with_reducible apply go_faR h); (case hc => exact inferInstance); omega; omega)
 | ((with_reducible apply go_rlenR h); rfl)
))
    rcases hn _ (List.getElem_mem hlt) with ⟨n, h1, h2, hnm⟩ | ⟨t, ht, hnm⟩
    · rw [hnm, segG_seg ⟨h1, h2⟩] at hK
      rw [hnm]
      refine first_seg B ⟨h1, h2⟩ h fun w h => ?_
      have e2 : decide ((n : Int) > 0) = true := by simp; omega
      unfold F46_5 F46_5b
      (repeat (first
 | (simp (disch := omega) only [evA, evB, evC, bAdd_i64, bSub_i64, e2])
 | (with_reducible apply go_ld1 h)
 | ((with_reducible first | apply go_ldA h | apply go_rd h | apply go_rdN h); rfl)
 | (with_reducible first | apply go_ldN h | apply go_lenR h)
 | ((with_reducible apply go_st h); intro _ h)
 | ((with_reducible apply go_stA h); rfl; rfl; (first | rfl | simp [OneV.o]); intro _ h)
 | ((with_reducible apply go_stN h); rfl; (first | rfl | simp [OneV.o]); intro _ h)
 | ((with_reducible apply go_box h); rfl; intro _ _ h)
 | ((with_reducible apply go_ixR h); omega)
 | ((with_reducible first | apply go_elR h | apply go_f1R h | apply go_rf1R h | apply go_relR h | apply go_e1R h | apply go_re1R h); (case hc => exact inferInstance); (case hi => omega); (try case hx => exact inferInstance); (try case hv => rfl))
 | ((with_reducible apply go_fNR h); (case hc => exact inferInstance); (case hi => omega); (try case hp => exact inferInstance); (try case hv => rfl))
 | ((with_reducible apply go_faR h); (case hc => exact inferInstance); omega; omega)
 | ((with_reducible apply go_rlenR h); rfl)
 | ((with_reducible first | apply go_lit0 CIn h u45 (by kernel_rfl) | apply go_lit1 CIn h u45 (fbI1 _) rfl); intro _ _ h)
 | ((with_reducible apply go_appR h sl45 ss45); (case hm => repeat (first | exact .here | apply Fnt.there)); (case hb => first | omega | (simp; omega)); intro _ _ _ h)
))
      rw [show (i : Int) + 1 = ((i + 1 : Nat) : Int) by omega]
      refine ih (i + 1) m (acc ++ [(n : Int)]) _ _ (by omega) (by omega) (by simp; omega) (h.got) fun av w h => hK av w ?_
      simpa [List.append_assoc] using h
    · rw [hnm, segG_bad] at hK
      rw [hnm]
      refine first_bad B Y (by omega) h fun w h => ?_
      unfold F46_5 F46_5b
      (repeat (first
 | (simp (disch := omega) only [evA, evB, evC, bAdd_i64, bSub_i64])
 | (with_reducible apply go_ld1 h)
 | ((with_reducible first | apply go_ldA h | apply go_rd h | apply go_rdN h); rfl)
 | (with_reducible first | apply go_ldN h | apply go_lenR h)
 | ((with_reducible apply go_st h); intro _ h)
 | ((with_reducible apply go_stA h); rfl; rfl; (first | rfl | simp [OneV.o]); intro _ h)
 | ((with_reducible apply go_stN h); rfl; (first | rfl | simp [OneV.o]); intro _ h)
 | ((with_reducible apply go_box h); rfl; intro _ _ h)
 | ((with_reducible apply go_ixR h); omega)
 | ((with_reducible first | apply go_elR h | apply go_f1R h | apply go_rf1R h | apply go_relR h | apply go_e1R h | apply go_re1R h); (case hc => exact inferInstance); (case hi => omega); (try case hx => exact inferInstance); (try case hv => rfl))
 | ((with_reducible apply go_fNR h); (case hc => exact inferInstance); (case hi => omega); (try case hp => exact inferInstance); (try case hv => rfl))
 | ((with_reducible apply go_faR h); (case hc => exact inferInstance); omega; omega)
 | ((with_reducible apply go_rlenR h); rfl)
))
      rw [show (i : Int) + 1 = ((i + 1 : Nat) : Int) by omega]
      exact ih (i + 1) m acc _ _ (by omega) (by omega) (by omega) h hK
theorem segments_spec (W : JW w0) (hc : d.fs.length ≤ 1073741824) (hn : ∀ f ∈ d.fs, NameJ f.name) (h : Sat w0 (JrP v j dv :: DiskA dv d :: L) w) (hK : ∀ s w', Sat w0 (LsH cI 1 3 s (srtI (segL d.fs)) :: JrP v j dv :: DiskA dv d :: L) w' → K s w') : callP G46 [v] w K := by
  refine c46 ?_
  unfold F46 F46_1 F46_1b
  obtain ⟨p, rv, rfl, h2⟩ := jopen h
  clear h
  have h := h2
  clear h2
  (repeat (first
 | (simp (disch := omega) only [evA, evB, evC, bAdd_i64, bSub_i64])
 | (with_reducible apply go_ld1 h)
 | ((with_reducible first | apply go_ldA h | apply go_rd h | apply go_rdN h | apply go_rlen h); rfl)
 | (with_reducible first | apply go_ldN h | apply go_lenL h)
 | ((with_reducible apply go_st h); intro _ h)
 | ((with_reducible apply go_stA h); rfl; rfl; (first | rfl | simp [OneV.o]); intro _ h)
 | ((with_reducible apply go_stN h); rfl; (first | rfl | simp [OneV.o]); intro _ h)
 | ((with_reducible apply go_box h); rfl; intro _ _ h)
 | ((with_reducible apply go_ix h); omega)
 | ((with_reducible first | apply go_elN h | apply go_f1 h | apply go_rf1 h | apply go_rel h); (case hi => omega); (try case hx => exact inferInstance); (try case hv => rfl))
 | ((with_reducible apply go_fa h); omega; omega)
))
  refine dnames_spec (L := JCl p j dv rv :: LsH cSt 1 9 rv j.recs :: L) hc (h.got) fun sv w h => ?_
  (repeat (first
 | (simp (disch := omega) only [evA, evB, evC, bAdd_i64, bSub_i64])
 | (with_reducible apply go_ld1 h)
 | ((with_reducible first | apply go_ldA h | apply go_rd h | apply go_rdN h | apply go_rlen h); rfl)
 | (with_reducible first | apply go_ldN h | apply go_lenL h)
 | ((with_reducible apply go_st h); intro _ h)
 | ((with_reducible apply go_stA h); rfl; rfl; (first | rfl | simp [OneV.o]); intro _ h)
 | ((with_reducible apply go_stN h); rfl; (first | rfl | simp [OneV.o]); intro _ h)
 | ((with_reducible apply go_box h); rfl; intro _ _ h)
 | ((with_reducible apply go_ix h); omega)
 | ((with_reducible first | apply go_elN h | apply go_f1 h | apply go_rf1 h | apply go_rel h); (case hi => omega); (try case hx => exact inferInstance); (try case hv => rfl))
 | ((with_reducible apply go_fa h); omega; omega)
))
  unfold F46_2
  refine segLoop (L := DiskA dv d :: JCl p j dv rv :: LsH cSt 1 9 rv j.recs :: L) W.bru W.syn (l := d.fs.map (·.name)) (by simp; omega) (fun f hf => by
    obtain ⟨x, hx, rfl⟩ := List.mem_map.1 hf
    exact hn x hx) (d.fs.map (·.name)).length 0 fuel [] _ w (by simp) (by simp; unfold fuel; omega) (by simp) (Sat.nilLs cI 1 3 h) fun av w h => ?_
  unfold F46_3 F46_3b
  rw [List.nil_append, List.drop_zero] at h
  have hlen : ((d.fs.map (·.name)).filterMap segG).length ≤ 1073741824 := Nat.le_trans (List.length_filterMap_le _ _) (by simpa using hc)
  refine sortI_sat h (by omega) fun w h => ?_
  refine hK _ _ ?_
  have h2 : Sat w0 (JCl p j dv rv :: LsH cSt 1 9 rv j.recs :: LsH cI 1 3 av (srtI (segL d.fs)) :: DiskA dv d :: L) w := h.got
  exact (jclose h2).got
theorem readseg_tail {p n whole : Nat} {rv sv : Value} {x : List UInt8} {l : List (List UInt8)} (hb : nextJ j < 4294967296) (hl : l.length ≤ 1099511627776) (g : n ≤ nextJ j) (h : Sat w0 (LsH cSt 1 9 sv l :: DiskA dv d :: JCl p j dv rv :: LsH cSt 1 9 rv j.recs :: L) w)
    (hK : ∀ w', Sat w0 (JrP (ptr p) (if nextJ j - n ≤ l.length then { j with recs := j.recs ++ l.drop (nextJ j - n), active := nameL n } else j) dv :: DiskA dv (syncD (nameL n) d).2 :: L) w' → K (.tuple #[.bool (decide (whole = x.length)), .int .i64 (syncD (nameL n) d).1]) w') :
    F47_2 (ptr p) (.int .i64 (n : Nat)) (.string (bs (nameL n))) (.string (bs x)) sv (.int .i64 (whole : Nat)) w K := by
  unfold F47_2 F47_2b
  refine jnext_spec (L := LsH cSt 1 9 sv l :: DiskA dv d :: L) (jclose (h.got)) (by omega) fun w h => ?_
  obtain ⟨p', rv', hp, h2⟩ := jopen h
  obtain rfl : p = p' := by simpa [ptr] using hp
  clear h
  have h := h2
  clear h2
  have e1 : bSub (.int .i64 (nextJ j : Int)) (.int .i64 (n : Nat)) = some (.int .i64 ((nextJ j - n : Nat))) := by
    rw [bSub_int, show (nextJ j : Int) - (n : Nat) = ((nextJ j - n : Nat) : Int) by omega, wrap_id (by omega)]
  have e9 : decide (((whole : Nat) : Int) = ((x.length : Nat) : Int)) = decide (whole = x.length) := decide_eq_decide.2 (by omega)
  by_cases g2 : nextJ j - n ≤ l.length
  · rw [if_pos g2] at hK
    have e : decide ((((nextJ j - n : Nat)) : Int) ≤ (l.length : Int)) = true := by simp; omega
    rw [e1]
    (repeat (first
 | (simp (disch := omega) only [evA, evB, evC, bAdd_i64, bSub_i64, e])
 | (with_reducible apply go_ld1 h)
 | ((with_reducible first | apply go_ldA h | apply go_rd h | apply go_rdN h | apply go_rlen h); rfl)
 | (with_reducible first | apply go_ldN h | apply go_lenL h)
 | ((with_reducible apply go_st h); intro _ h)
 | ((with_reducible apply go_stA h); rfl; rfl; (first | rfl | simp [OneV.o]); intro _ h)
 | ((with_reducible apply go_stN h); rfl; (first | rfl | simp [OneV.o]); intro _ h)
 | ((with_reducible apply go_box h); rfl; intro _ _ h)
 | ((with_reducible apply go_ix h); omega)
 | ((with_reducible first | apply go_elN h | apply go_f1 h | apply go_rf1 h | apply go_rel h); (case hi => omega); (try case hx => exact inferInstance); (try case hv => rfl))
 | ((with_reducible apply go_fa h); omega; omega)
))
    refine go_subFrom (v := sv) (l := l) h (i := nextJ j - n) g2 fun v' hR => ?_
    refine ls_app CSt (h.drew.frt (A := LsH cSt 1 9 rv' j.recs)) sl22 ss22 (m := l.drop (nextJ j - n)) (hR.heap rfl) (by
      have : j.recs.length ≤ nextJ j := by unfold nextJ; omega
      simp; omega) fun v2 w h => ?_
    unfold F47_3 F47_3b
    haveI := ls_one h
    (repeat (first
 | (simp (disch := omega) only [evA, evB, evC, bAdd_i64, bSub_i64, e9])
 | (with_reducible apply go_ld1 h)
 | ((with_reducible first | apply go_ldA h | apply go_rd h | apply go_rdN h | apply go_rlen h); rfl)
 | (with_reducible first | apply go_ldN h | apply go_lenL h)
 | ((with_reducible apply go_st h); intro _ h)
 | ((with_reducible apply go_stA h); rfl; rfl; (first | rfl | simp [OneV.o]); intro _ h)
 | ((with_reducible apply go_stN h); rfl; (first | rfl | simp [OneV.o]); intro _ h)
 | ((with_reducible apply go_box h); rfl; intro _ _ h)
 | ((with_reducible apply go_ix h); omega)
 | ((with_reducible first | apply go_elN h | apply go_f1 h | apply go_rf1 h | apply go_rel h); (case hi => omega); (try case hx => exact inferInstance); (try case hv => rfl))
 | ((with_reducible apply go_fa h); omega; omega)
))
    refine dsync_spec (L := JCl p { j with recs := j.recs ++ l.drop (nextJ j - n), active := nameL n } dv v2 :: LsH cSt 1 9 v2 (j.recs ++ l.drop (nextJ j - n)) :: L) (h.got) fun w h => ?_
    (repeat (first
 | (simp (disch := omega) only [evA, evB, evC, bAdd_i64, bSub_i64])
 | (with_reducible apply go_ld1 h)
 | ((with_reducible first | apply go_ldA h | apply go_rd h | apply go_rdN h | apply go_rlen h); rfl)
 | (with_reducible first | apply go_ldN h | apply go_lenL h)
 | ((with_reducible apply go_st h); intro _ h)
 | ((with_reducible apply go_stA h); rfl; rfl; (first | rfl | simp [OneV.o]); intro _ h)
 | ((with_reducible apply go_stN h); rfl; (first | rfl | simp [OneV.o]); intro _ h)
 | ((with_reducible apply go_box h); rfl; intro _ _ h)
 | ((with_reducible apply go_ix h); omega)
 | ((with_reducible first | apply go_elN h | apply go_f1 h | apply go_rf1 h | apply go_rel h); (case hi => omega); (try case hx => exact inferInstance); (try case hv => rfl))
 | ((with_reducible apply go_fa h); omega; omega)
))
    exact hK _ (jclose (j := { j with recs := j.recs ++ l.drop (nextJ j - n), active := nameL n }) (h.got))
  · rw [if_neg g2] at hK
    have e : decide ((((nextJ j - n : Nat)) : Int) ≤ (l.length : Int)) = false := by simp; omega
    rw [e1]
    unfold F47_3 F47_3b
    (repeat (first
 | (simp (disch := omega) only [evA, evB, evC, bAdd_i64, bSub_i64, e, e9])
 | (with_reducible apply go_ld1 h)
 | ((with_reducible first | apply go_ldA h | apply go_rd h | apply go_rdN h | apply go_rlen h); rfl)
 | (with_reducible first | apply go_ldN h | apply go_lenL h)
 | ((with_reducible apply go_st h); intro _ h)
 | ((with_reducible apply go_stA h); rfl; rfl; (first | rfl | simp [OneV.o]); intro _ h)
 | ((with_reducible apply go_stN h); rfl; (first | rfl | simp [OneV.o]); intro _ h)
 | ((with_reducible apply go_box h); rfl; intro _ _ h)
 | ((with_reducible apply go_ix h); omega)
 | ((with_reducible first | apply go_elN h | apply go_f1 h | apply go_rf1 h | apply go_rel h); (case hi => omega); (try case hx => exact inferInstance); (try case hv => rfl))
 | ((with_reducible apply go_fa h); omega; omega)
))
    refine dsync_spec (L := JCl p j dv rv' :: LsH cSt 1 9 rv' j.recs :: L) (h.got) fun w h => ?_
    (repeat (first
 | (simp (disch := omega) only [evA, evB, evC, bAdd_i64, bSub_i64])
 | (with_reducible apply go_ld1 h)
 | ((with_reducible first | apply go_ldA h | apply go_rd h | apply go_rdN h | apply go_rlen h); rfl)
 | (with_reducible first | apply go_ldN h | apply go_lenL h)
 | ((with_reducible apply go_st h); intro _ h)
 | ((with_reducible apply go_stA h); rfl; rfl; (first | rfl | simp [OneV.o]); intro _ h)
 | ((with_reducible apply go_stN h); rfl; (first | rfl | simp [OneV.o]); intro _ h)
 | ((with_reducible apply go_box h); rfl; intro _ _ h)
 | ((with_reducible apply go_ix h); omega)
 | ((with_reducible first | apply go_elN h | apply go_f1 h | apply go_rf1 h | apply go_rel h); (case hi => omega); (try case hx => exact inferInstance); (try case hv => rfl))
 | ((with_reducible apply go_fa h); omega; omega)
))
    exact hK _ (jclose (h.got))
theorem readseg_spec (W : JW w0) {n : Nat} {ended : Bool} (hn : n < 4294967296) (hb : nextJ j < 4294967296) (h : Sat w0 (JrP v j dv :: DiskA dv d :: L) w)
    (hK : ∀ w', Sat w0 (JrP v (readSegA n ended (j, d)).2.2.1 dv :: DiskA dv (readSegA n ended (j, d)).2.2.2 :: L) w' → K (.tuple #[.bool (readSegA n ended (j, d)).1, .int .i64 (readSegA n ended (j, d)).2.1]) w') : callP G47 [v, .int .i64 (n : Nat), .bool ended] w K := by
  refine c47 ?_
  unfold F47 F47_1 F47_1b
  refine name_spec W.bru h hn fun w h => ?_
  obtain ⟨p, rv, rfl, h2⟩ := jopen h
  clear h
  have h := h2
  clear h2
  have ok := diskA_ok (h.frt (A := DiskA dv d))
  have hdl := dat_le ok (nameL n)
  (repeat (first
 | (simp (disch := omega) only [evA, evB, evC, bAdd_i64, bSub_i64])
 | (with_reducible apply go_ld1 h)
 | ((with_reducible first | apply go_ldA h | apply go_rd h | apply go_rdN h | apply go_rlen h); rfl)
 | (with_reducible first | apply go_ldN h | apply go_lenL h)
 | ((with_reducible apply go_st h); intro _ h)
 | ((with_reducible apply go_stA h); rfl; rfl; (first | rfl | simp [OneV.o]); intro _ h)
 | ((with_reducible apply go_stN h); rfl; (first | rfl | simp [OneV.o]); intro _ h)
 | ((with_reducible apply go_box h); rfl; intro _ _ h)
 | ((with_reducible apply go_ix h); omega)
 | ((with_reducible first | apply go_elN h | apply go_f1 h | apply go_rf1 h | apply go_rel h); (case hi => omega); (try case hx => exact inferInstance); (try case hv => rfl))
 | ((with_reducible apply go_fa h); omega; omega)
))
  refine dread_spec (L := JCl p j dv rv :: LsH cSt 1 9 rv j.recs :: L) (h.got) fun w h => ?_
  have ex : (fGet (nameL n) d.fs).elim [] (·.s) = datF (nameL n) d := rfl
  rw [ex]
  have hr : readSegA n ended (j, d) = (
    let x := datF (nameL n) d
    let l := (scanL (x.length + 1) x).1
    let whole := (scanL (x.length + 1) x).2
    if ended = true ∨ nextJ j < n then (false, (remD (nameL n) d).1, j, (remD (nameL n) d).2) else
    let c := if whole < x.length then cutD (nameL n) whole d else (0, d)
    if c.1 ≠ 0 then (false, c.1, j, c.2) else
    let j' := if nextJ j - n ≤ l.length then { j with recs := j.recs ++ l.drop (nextJ j - n), active := nameL n } else j
    (decide (whole = x.length), (syncD (nameL n) c.2).1, j', (syncD (nameL n) c.2).2)) := rfl
  rw [hr] at hK
  simp only at hK
  clear hr
  generalize datF (nameL n) d = x at hK hdl
  (repeat (first
 | (simp (disch := omega) only [evA, evB, evC, bAdd_i64, bSub_i64])
 | (with_reducible apply go_ld1 h)
 | ((with_reducible first | apply go_ldA h | apply go_rd h | apply go_rdN h | apply go_rlen h); rfl)
 | (with_reducible first | apply go_ldN h | apply go_lenL h)
 | ((with_reducible apply go_st h); intro _ h)
 | ((with_reducible apply go_stA h); rfl; rfl; (first | rfl | simp [OneV.o]); intro _ h)
 | ((with_reducible apply go_stN h); rfl; (first | rfl | simp [OneV.o]); intro _ h)
 | ((with_reducible apply go_box h); rfl; intro _ _ h)
 | ((with_reducible apply go_ix h); omega)
 | ((with_reducible first | apply go_elN h | apply go_f1 h | apply go_rf1 h | apply go_rel h); (case hi => omega); (try case hx => exact inferInstance); (try case hv => rfl))
 | ((with_reducible apply go_fa h); omega; omega)
))
  refine scan_spec W.half (by omega) h fun sv w h => ?_
  obtain ⟨hl1, hl2⟩ := scanL_le (x.length + 1) x
  generalize scanL (x.length + 1) x = q at hK h hl1 hl2
  obtain ⟨l, whole⟩ := q
  simp only at hK h hl1 hl2 ⊢
  (repeat (first
 | (simp (disch := omega) only [evA, evB, evC, bAdd_i64, bSub_i64])
 | (with_reducible apply go_ld1 h)
 | ((with_reducible first | apply go_ldA h | apply go_rd h | apply go_rdN h | apply go_rlen h); rfl)
 | (with_reducible first | apply go_ldN h | apply go_lenL h)
 | ((with_reducible apply go_st h); intro _ h)
 | ((with_reducible apply go_stA h); rfl; rfl; (first | rfl | simp [OneV.o]); intro _ h)
 | ((with_reducible apply go_stN h); rfl; (first | rfl | simp [OneV.o]); intro _ h)
 | ((with_reducible apply go_box h); rfl; intro _ _ h)
 | ((with_reducible apply go_ix h); omega)
 | ((with_reducible first | apply go_elN h | apply go_f1 h | apply go_rf1 h | apply go_rel h); (case hi => omega); (try case hx => exact inferInstance); (try case hv => rfl))
 | ((with_reducible apply go_fa h); omega; omega)
))
  have rem : ended = true ∨ nextJ j < n → ∀ {w : World}, Sat w0 (LsH cSt 1 9 sv l :: DiskA dv d :: JCl p j dv rv :: LsH cSt 1 9 rv j.recs :: L) w → callP G38 [dv, .string (bs (nameL n))] w fun v50 w49 => K (.tuple #[.bool false, v50]) w49 := by
    intro g w h
    rw [if_pos g] at hK
    refine drem_spec (L := JCl p j dv rv :: LsH cSt 1 9 rv j.recs :: L) (h.got) fun w h => ?_
    exact hK _ (jclose (h.got))
  cases ended
  case true =>
    (repeat (first
 | (simp (disch := omega) only [evA, evB, evC, bAdd_i64, bSub_i64])
 | (with_reducible apply go_ld1 h)
 | ((with_reducible first | apply go_ldA h | apply go_rd h | apply go_rdN h | apply go_rlen h); rfl)
 | (with_reducible first | apply go_ldN h | apply go_lenL h)
 | ((with_reducible apply go_st h); intro _ h)
 | ((with_reducible apply go_stA h); rfl; rfl; (first | rfl | simp [OneV.o]); intro _ h)
 | ((with_reducible apply go_stN h); rfl; (first | rfl | simp [OneV.o]); intro _ h)
 | ((with_reducible apply go_box h); rfl; intro _ _ h)
 | ((with_reducible apply go_ix h); omega)
 | ((with_reducible first | apply go_elN h | apply go_f1 h | apply go_rf1 h | apply go_rel h); (case hi => omega); (try case hx => exact inferInstance); (try case hv => rfl))
 | ((with_reducible apply go_fa h); omega; omega)
))
    exact rem (.inl rfl) h
  (repeat (first
 | (simp (disch := omega) only [evA, evB, evC, bAdd_i64, bSub_i64])
 | (with_reducible apply go_ld1 h)
 | ((with_reducible first | apply go_ldA h | apply go_rd h | apply go_rdN h | apply go_rlen h); rfl)
 | (with_reducible first | apply go_ldN h | apply go_lenL h)
 | ((with_reducible apply go_st h); intro _ h)
 | ((with_reducible apply go_stA h); rfl; rfl; (first | rfl | simp [OneV.o]); intro _ h)
 | ((with_reducible apply go_stN h); rfl; (first | rfl | simp [OneV.o]); intro _ h)
 | ((with_reducible apply go_box h); rfl; intro _ _ h)
 | ((with_reducible apply go_ix h); omega)
 | ((with_reducible first | apply go_elN h | apply go_f1 h | apply go_rf1 h | apply go_rel h); (case hi => omega); (try case hx => exact inferInstance); (try case hv => rfl))
 | ((with_reducible apply go_fa h); omega; omega)
))
  refine jnext_spec (L := LsH cSt 1 9 sv l :: DiskA dv d :: L) (jclose (h.got)) (by omega) fun w h => ?_
  obtain ⟨p', rv', hp, h2⟩ := jopen h
  obtain rfl : p = p' := by simpa [ptr] using hp
  clear h
  have h := h2
  clear h2
  by_cases g : nextJ j < n
  · have e : decide ((n : Int) > (nextJ j : Int)) = true := by simp; omega
    (repeat (first
 | (simp (disch := omega) only [evA, evB, evC, bAdd_i64, bSub_i64, e])
 | (with_reducible apply go_ld1 h)
 | ((with_reducible first | apply go_ldA h | apply go_rd h | apply go_rdN h | apply go_rlen h); rfl)
 | (with_reducible first | apply go_ldN h | apply go_lenL h)
 | ((with_reducible apply go_st h); intro _ h)
 | ((with_reducible apply go_stA h); rfl; rfl; (first | rfl | simp [OneV.o]); intro _ h)
 | ((with_reducible apply go_stN h); rfl; (first | rfl | simp [OneV.o]); intro _ h)
 | ((with_reducible apply go_box h); rfl; intro _ _ h)
 | ((with_reducible apply go_ix h); omega)
 | ((with_reducible first | apply go_elN h | apply go_f1 h | apply go_rf1 h | apply go_rel h); (case hi => omega); (try case hx => exact inferInstance); (try case hv => rfl))
 | ((with_reducible apply go_fa h); omega; omega)
))
    rw [if_pos (.inr g)] at hK
    refine drem_spec (L := JCl p j dv rv' :: LsH cSt 1 9 rv' j.recs :: L) (h.got) fun w h => ?_
    (repeat (first
 | (simp (disch := omega) only [evA, evB, evC, bAdd_i64, bSub_i64])
 | (with_reducible apply go_ld1 h)
 | ((with_reducible first | apply go_ldA h | apply go_rd h | apply go_rdN h | apply go_rlen h); rfl)
 | (with_reducible first | apply go_ldN h | apply go_lenL h)
 | ((with_reducible apply go_st h); intro _ h)
 | ((with_reducible apply go_stA h); rfl; rfl; (first | rfl | simp [OneV.o]); intro _ h)
 | ((with_reducible apply go_stN h); rfl; (first | rfl | simp [OneV.o]); intro _ h)
 | ((with_reducible apply go_box h); rfl; intro _ _ h)
 | ((with_reducible apply go_ix h); omega)
 | ((with_reducible first | apply go_elN h | apply go_f1 h | apply go_rf1 h | apply go_rel h); (case hi => omega); (try case hx => exact inferInstance); (try case hv => rfl))
 | ((with_reducible apply go_fa h); omega; omega)
))
    exact hK _ (jclose (h.got))
  have e : decide ((n : Int) > (nextJ j : Int)) = false := by simp; omega
  rw [if_neg (by simpa using g)] at hK
  by_cases gw : whole < x.length
  · have e2 : decide (((whole : Nat) : Int) < (x.length : Int)) = true := by simp; omega
    simp only [if_pos gw] at hK
    (repeat (first
 | (simp (disch := omega) only [evA, evB, evC, bAdd_i64, bSub_i64, e, e2])
 | (with_reducible apply go_ld1 h)
 | ((with_reducible first | apply go_ldA h | apply go_rd h | apply go_rdN h | apply go_rlen h); rfl)
 | (with_reducible first | apply go_ldN h | apply go_lenL h)
 | ((with_reducible apply go_st h); intro _ h)
 | ((with_reducible apply go_stA h); rfl; rfl; (first | rfl | simp [OneV.o]); intro _ h)
 | ((with_reducible apply go_stN h); rfl; (first | rfl | simp [OneV.o]); intro _ h)
 | ((with_reducible apply go_box h); rfl; intro _ _ h)
 | ((with_reducible apply go_ix h); omega)
 | ((with_reducible first | apply go_elN h | apply go_f1 h | apply go_rf1 h | apply go_rel h); (case hi => omega); (try case hx => exact inferInstance); (try case hv => rfl))
 | ((with_reducible apply go_fa h); omega; omega)
))
    refine dcut_spec (L := JCl p j dv rv' :: LsH cSt 1 9 rv' j.recs :: LsH cSt 1 9 sv l :: L) (h.got) fun w h => ?_
    by_cases g0 : (cutD (nameL n) whole d).1 = 0
    · rw [if_neg (by simpa using g0)] at hK
      rw [g0]
      (repeat (first
 | (simp (disch := omega) only [evA, evB, evC, bAdd_i64, bSub_i64])
 | (with_reducible apply go_ld1 h)
 | ((with_reducible first | apply go_ldA h | apply go_rd h | apply go_rdN h | apply go_rlen h); rfl)
 | (with_reducible first | apply go_ldN h | apply go_lenL h)
 | ((with_reducible apply go_st h); intro _ h)
 | ((with_reducible apply go_stA h); rfl; rfl; (first | rfl | simp [OneV.o]); intro _ h)
 | ((with_reducible apply go_stN h); rfl; (first | rfl | simp [OneV.o]); intro _ h)
 | ((with_reducible apply go_box h); rfl; intro _ _ h)
 | ((with_reducible apply go_ix h); omega)
 | ((with_reducible first | apply go_elN h | apply go_f1 h | apply go_rf1 h | apply go_rel h); (case hi => omega); (try case hx => exact inferInstance); (try case hv => rfl))
 | ((with_reducible apply go_fa h); omega; omega)
))
      exact readseg_tail hb (by omega) (by omega) (h.got) hK
    · rw [if_pos g0] at hK
      have e3 : decide ((cutD (nameL n) whole d).1 = 0) = false := by simpa using g0
      (repeat (first
 | (simp (disch := omega) only [evA, evB, evC, bAdd_i64, bSub_i64, e3])
 | (with_reducible apply go_ld1 h)
 | ((with_reducible first | apply go_ldA h | apply go_rd h | apply go_rdN h | apply go_rlen h); rfl)
 | (with_reducible first | apply go_ldN h | apply go_lenL h)
 | ((with_reducible apply go_st h); intro _ h)
 | ((with_reducible apply go_stA h); rfl; rfl; (first | rfl | simp [OneV.o]); intro _ h)
 | ((with_reducible apply go_stN h); rfl; (first | rfl | simp [OneV.o]); intro _ h)
 | ((with_reducible apply go_box h); rfl; intro _ _ h)
 | ((with_reducible apply go_ix h); omega)
 | ((with_reducible first | apply go_elN h | apply go_f1 h | apply go_rf1 h | apply go_rel h); (case hi => omega); (try case hx => exact inferInstance); (try case hv => rfl))
 | ((with_reducible apply go_fa h); omega; omega)
))
      exact hK _ (jclose (h.got))
  · have e2 : decide (((whole : Nat) : Int) < (x.length : Int)) = false := by simp; omega
    simp only [if_neg gw] at hK
    rw [if_neg (by decide)] at hK
    (repeat (first
 | (simp (disch := omega) only [evA, evB, evC, bAdd_i64, bSub_i64, e, e2])
 | (with_reducible apply go_ld1 h)
 | ((with_reducible first | apply go_ldA h | apply go_rd h | apply go_rdN h | apply go_rlen h); rfl)
 | (with_reducible first | apply go_ldN h | apply go_lenL h)
 | ((with_reducible apply go_st h); intro _ h)
 | ((with_reducible apply go_stA h); rfl; rfl; (first | rfl | simp [OneV.o]); intro _ h)
 | ((with_reducible apply go_stN h); rfl; (first | rfl | simp [OneV.o]); intro _ h)
 | ((with_reducible apply go_box h); rfl; intro _ _ h)
 | ((with_reducible apply go_ix h); omega)
 | ((with_reducible first | apply go_elN h | apply go_f1 h | apply go_rf1 h | apply go_rel h); (case hi => omega); (try case hx => exact inferInstance); (try case hv => rfl))
 | ((with_reducible apply go_fa h); omega; omega)
))
    exact readseg_tail hb (by omega) (by omega) (h.got) hK
theorem readLoop (W : JW w0) {sv : Value} {l : List Int} (hl : l.length ≤ 1073741824) (hpos : ∀ x ∈ l, 1 ≤ x ∧ x < 4294967296) : ∀ (k i m : Nat) (e : Bool) (s : JS) (w : World), i + k = l.length → k < m → okRead ((l.drop i).map Int.toNat) e s →
    Sat w0 (JrP v s.1 dv :: DiskA dv s.2 :: LsH cI 1 3 sv l :: L) w → (∀ w', Sat w0 (JrP v (readL ((l.drop i).map Int.toNat) e s).2.1 dv :: DiskA dv (readL ((l.drop i).map Int.toNat) e s).2.2 :: LsH cI 1 3 sv l :: L) w' → K (.int .i64 (readL ((l.drop i).map Int.toNat) e s).1) w') →
    F23_2L m v (.bool e) sv (.int .i64 l.length) (.int .i64 i) w K := by
  intro k
  induction k with
  | zero =>
    intro i m e s w hi hm hok h hK
    obtain ⟨m, rfl⟩ : ∃ q, m = q + 1 := ⟨m - 1, by omega⟩
    rw [F23_2L]; unfold F23_2b F23_3 F23_3b
    have e : decide ((i : Int) < l.length) = false := by simp; omega
    rw [List.drop_of_length_le (by omega)] at hK
    (repeat (first
 | (simp (disch := omega) only [evA, evB, evC, bAdd_i64, bSub_i64, e])
 | (with_reducible apply go_ld1 h)
 | ((with_reducible first | apply go_ldA h | apply go_rd h | apply go_rdN h | apply go_rlen h); rfl)
 | (with_reducible first | apply go_ldN h | apply go_lenL h)
 | ((with_reducible apply go_st h); intro _ h)
 | ((with_reducible apply go_stA h); rfl; rfl; (first | rfl | simp [OneV.o]); intro _ h)
 | ((with_reducible apply go_stN h); rfl; (first | rfl | simp [OneV.o]); intro _ h)
 | ((with_reducible apply go_box h); rfl; intro _ _ h)
 | ((with_reducible apply go_ix h); omega)
 | ((with_reducible first | apply go_elN h | apply go_f1 h | apply go_rf1 h | apply go_rel h); (case hi => omega); (try case hx => exact inferInstance); (try case hv => rfl))
 | ((with_reducible apply go_fa h); omega; omega)
))
    exact hK w h
  | succ k ih =>
    intro i m e s w hi hm hok h hK
    obtain ⟨m, rfl⟩ : ∃ q, m = q + 1 := ⟨m - 1, by omega⟩
    rw [F23_2L]; unfold F23_2b
    have hlt : i < l.length := by omega
    have e1 : decide ((i : Int) < l.length) = true := by simp; omega
    have hd : l.drop i = l[i] :: l.drop (i + 1) := List.drop_eq_getElem_cons hlt
    rw [hd, List.map_cons] at hK hok
    have hp := hpos _ (List.getElem_mem hlt)
    have hx : l[i] = ((l[i].toNat : Nat) : Int) := by omega
    (repeat (first
 | (simp (disch := omega) only [evA, evB, evC, bAdd_i64, bSub_i64, e1])
 | (with_reducible apply go_ld1 h)
 | ((with_reducible first | apply go_ldA h | apply go_rd h | apply go_rdN h); rfl)
 | (with_reducible first | apply go_ldN h | apply go_lenR h)
 | ((with_reducible apply go_st h); intro _ h)
 | ((with_reducible apply go_stA h); rfl; rfl; (first | rfl | simp [OneV.o]); intro _ h)
 | ((with_reducible apply go_stN h); rfl; (first | rfl | simp [OneV.o]); intro _ h)
 | ((with_reducible apply go_box h); rfl; intro _ _ h)
 | ((with_reducible apply go_ixR h); omega)
 | ((with_reducible first | apply go_elR h | apply go_f1R h | apply go_rf1R h | apply go_relR h | apply go_e1R h | apply go_re1R h); (case hc => exact inferInstance); (case hi => omega); (try case hx => exact inferInstance); (try case hv => rfl))
 | ((with_reducible apply go_fNR h); (case hc => exact inferInstance); (case hi => omega); (try case hp => exact inferInstance); (try case hv => rfl))
 | ((with_reducible apply go_faR h); (case hc => exact inferInstance); omega; omega)
 | ((with_reducible apply go_rlenR h); rfl)
))
    generalize l[i].toNat = n at hK hok hx
    rw [hx]
    obtain ⟨o1, o2, o3⟩ := hok
    unfold readL at hK
    refine readseg_spec (L := LsH cI 1 3 sv l :: L) W o1 o2 h fun w h => ?_
    by_cases g : (readSegA n e s).2.1 = 0
    · simp only [if_pos g] at hK
      rw [g]
      cases e
      · (repeat (first
 | (simp (disch := omega) only [evA, evB, evC, bAdd_i64, bSub_i64])
 | (with_reducible apply go_ld1 h)
 | ((with_reducible first | apply go_ldA h | apply go_rd h | apply go_rdN h | apply go_rlen h); rfl)
 | (with_reducible first | apply go_ldN h | apply go_lenL h)
 | ((with_reducible apply go_st h); intro _ h)
 | ((with_reducible apply go_stA h); rfl; rfl; (first | rfl | simp [OneV.o]); intro _ h)
 | ((with_reducible apply go_stN h); rfl; (first | rfl | simp [OneV.o]); intro _ h)
 | ((with_reducible apply go_box h); rfl; intro _ _ h)
 | ((with_reducible apply go_ix h); omega)
 | ((with_reducible first | apply go_elN h | apply go_f1 h | apply go_rf1 h | apply go_rel h); (case hi => omega); (try case hx => exact inferInstance); (try case hv => rfl))
 | ((with_reducible apply go_fa h); omega; omega)
))
        rw [show (i : Int) + 1 = ((i + 1 : Nat) : Int) by omega]
        refine ih (i + 1) m _ _ w (by omega) (by omega) (o3 g) h ?_
        simpa using hK
      · (repeat (first
 | (simp (disch := omega) only [evA, evB, evC, bAdd_i64, bSub_i64])
 | (with_reducible apply go_ld1 h)
 | ((with_reducible first | apply go_ldA h | apply go_rd h | apply go_rdN h | apply go_rlen h); rfl)
 | (with_reducible first | apply go_ldN h | apply go_lenL h)
 | ((with_reducible apply go_st h); intro _ h)
 | ((with_reducible apply go_stA h); rfl; rfl; (first | rfl | simp [OneV.o]); intro _ h)
 | ((with_reducible apply go_stN h); rfl; (first | rfl | simp [OneV.o]); intro _ h)
 | ((with_reducible apply go_box h); rfl; intro _ _ h)
 | ((with_reducible apply go_ix h); omega)
 | ((with_reducible first | apply go_elN h | apply go_f1 h | apply go_rf1 h | apply go_rel h); (case hi => omega); (try case hx => exact inferInstance); (try case hv => rfl))
 | ((with_reducible apply go_fa h); omega; omega)
))
        rw [show (i : Int) + 1 = ((i + 1 : Nat) : Int) by omega]
        refine ih (i + 1) m _ _ w (by omega) (by omega) (o3 g) h ?_
        simpa using hK
    · simp only [if_neg g] at hK
      have e3 : decide ((readSegA n e s).2.1 = 0) = false := by simpa using g
      (repeat (first
 | (simp (disch := omega) only [evA, evB, evC, bAdd_i64, bSub_i64, e3])
 | (with_reducible apply go_ld1 h)
 | ((with_reducible first | apply go_ldA h | apply go_rd h | apply go_rdN h | apply go_rlen h); rfl)
 | (with_reducible first | apply go_ldN h | apply go_lenL h)
 | ((with_reducible apply go_st h); intro _ h)
 | ((with_reducible apply go_stA h); rfl; rfl; (first | rfl | simp [OneV.o]); intro _ h)
 | ((with_reducible apply go_stN h); rfl; (first | rfl | simp [OneV.o]); intro _ h)
 | ((with_reducible apply go_box h); rfl; intro _ _ h)
 | ((with_reducible apply go_ix h); omega)
 | ((with_reducible first | apply go_elN h | apply go_f1 h | apply go_rf1 h | apply go_rel h); (case hi => omega); (try case hx => exact inferInstance); (try case hv => rfl))
 | ((with_reducible apply go_fa h); omega; omega)
))
      exact hK w h
theorem readsegs_spec (W : JW w0) (hc : d.fs.length ≤ 1073741824) (hn : ∀ f ∈ d.fs, NameJ f.name) (hok : okRead (segsOf d) false (j, d)) (h : Sat w0 (JrP v j dv :: DiskA dv d :: L) w) (hK : ∀ w', Sat w0 (JrP v (readA (j, d)).2.1 dv :: DiskA dv (readA (j, d)).2.2 :: L) w' → K (.int .i64 (readA (j, d)).1) w') : callP G23 [v] w K := by
  refine c23 ?_
  unfold F23 F23_1 F23_1b
  refine segments_spec W hc hn h fun sv w h => ?_
  (repeat (first
 | (simp (disch := omega) only [evA, evB, evC, bAdd_i64, bSub_i64])
 | (with_reducible apply go_ld1 h)
 | ((with_reducible first | apply go_ldA h | apply go_rd h | apply go_rdN h | apply go_rlen h); rfl)
 | (with_reducible first | apply go_ldN h | apply go_lenL h)
 | ((with_reducible apply go_st h); intro _ h)
 | ((with_reducible apply go_stA h); rfl; rfl; (first | rfl | simp [OneV.o]); intro _ h)
 | ((with_reducible apply go_stN h); rfl; (first | rfl | simp [OneV.o]); intro _ h)
 | ((with_reducible apply go_box h); rfl; intro _ _ h)
 | ((with_reducible apply go_ix h); omega)
 | ((with_reducible first | apply go_elN h | apply go_f1 h | apply go_rf1 h | apply go_rel h); (case hi => omega); (try case hx => exact inferInstance); (try case hv => rfl))
 | ((with_reducible apply go_fa h); omega; omega)
))
  unfold F23_2
  have hlen : (srtI (segL d.fs)).length ≤ 1073741824 := by
    have h1 : (srtI (segL d.fs)).length = (segL d.fs).length := List.length_mergeSort _
    have h2 : (segL d.fs).length ≤ (d.fs.map (·.name)).length := List.length_filterMap_le _ _
    rw [List.length_map] at h2
    omega
  refine readLoop (L := L) W hlen segL_lt (srtI (segL d.fs)).length 0 fuel false (j, d) w (by omega) (by unfold fuel; omega) (by simpa [segsOf] using hok) (h.got) fun w h => ?_
  refine hK w ?_
  exact Sat.got h
theorem cleanLoop (W : JW w0) {sv : Value} {l : List Int} (hl : l.length ≤ 1073741824) (hpos : ∀ x ∈ l, 1 ≤ x ∧ x < 4294967296) : ∀ (k i m : Nat) (d : Dk) (w : World), i + k = l.length → k < m → nextJ j < 4294967296 →
    Sat w0 (JrP v j dv :: DiskA dv d :: LsH cI 1 3 sv l :: L) w → (∀ w', Sat w0 (JrP v (cleanL ((l.drop i).map Int.toNat) (j, d)).2.1 dv :: DiskA dv (cleanL ((l.drop i).map Int.toNat) (j, d)).2.2 :: LsH cI 1 3 sv l :: L) w' → K (.int .i64 (cleanL ((l.drop i).map Int.toNat) (j, d)).1) w') →
    F25_2L m v sv sv (.int .i64 l.length) (.int .i64 i) w K := by
  intro k
  induction k with
  | zero =>
    intro i m d w hi hm hb h hK
    obtain ⟨m, rfl⟩ : ∃ q, m = q + 1 := ⟨m - 1, by omega⟩
    rw [F25_2L]; unfold F25_4 F25_4b F25_3 F25_3b
    have e : decide ((i : Int) < l.length) = false := by simp; omega
    rw [List.drop_of_length_le (by omega)] at hK
    (repeat (first
 | (simp (disch := omega) only [evA, evB, evC, bAdd_i64, bSub_i64, e])
 | (with_reducible apply go_ld1 h)
 | ((with_reducible first | apply go_ldA h | apply go_rd h | apply go_rdN h | apply go_rlen h); rfl)
 | (with_reducible first | apply go_ldN h | apply go_lenL h)
 | ((with_reducible apply go_st h); intro _ h)
 | ((with_reducible apply go_stA h); rfl; rfl; (first | rfl | simp [OneV.o]); intro _ h)
 | ((with_reducible apply go_stN h); rfl; (first | rfl | simp [OneV.o]); intro _ h)
 | ((with_reducible apply go_box h); rfl; intro _ _ h)
 | ((with_reducible apply go_ix h); omega)
 | ((with_reducible first | apply go_elN h | apply go_f1 h | apply go_rf1 h | apply go_rel h); (case hi => omega); (try case hx => exact inferInstance); (try case hv => rfl))
 | ((with_reducible apply go_fa h); omega; omega)
))
    exact hK w h
  | succ k ih =>
    intro i m d w hi hm hb h hK
    obtain ⟨m, rfl⟩ : ∃ q, m = q + 1 := ⟨m - 1, by omega⟩
    rw [F25_2L]; unfold F25_4 F25_4b F25_5 F25_7 F25_7b
    have hlt : i < l.length := by omega
    have e1 : decide ((i : Int) < l.length) = true := by simp; omega
    have hd : l.drop i = l[i] :: l.drop (i + 1) := List.drop_eq_getElem_cons hlt
    rw [hd, List.map_cons] at hK
    have hp := hpos _ (List.getElem_mem hlt)
    have hx : l[i] = ((l[i].toNat : Nat) : Int) := by omega
    (repeat (first
 | (simp (disch := omega) only [evA, evB, evC, bAdd_i64, bSub_i64, e1])
 | (with_reducible apply go_ld1 h)
 | ((with_reducible first | apply go_ldA h | apply go_rd h | apply go_rdN h); rfl)
 | (with_reducible first | apply go_ldN h | apply go_lenR h)
 | ((with_reducible apply go_st h); intro _ h)
 | ((with_reducible apply go_stA h); rfl; rfl; (first | rfl | simp [OneV.o]); intro _ h)
 | ((with_reducible apply go_stN h); rfl; (first | rfl | simp [OneV.o]); intro _ h)
 | ((with_reducible apply go_box h); rfl; intro _ _ h)
 | ((with_reducible apply go_ixR h); omega)
 | ((with_reducible first | apply go_elR h | apply go_f1R h | apply go_rf1R h | apply go_relR h | apply go_e1R h | apply go_re1R h); (case hc => exact inferInstance); (case hi => omega); (try case hx => exact inferInstance); (try case hv => rfl))
 | ((with_reducible apply go_fNR h); (case hc => exact inferInstance); (case hi => omega); (try case hp => exact inferInstance); (try case hv => rfl))
 | ((with_reducible apply go_faR h); (case hc => exact inferInstance); omega; omega)
 | ((with_reducible apply go_rlenR h); rfl)
))
    generalize l[i].toNat = n at hK hx
    rw [hx]
    have hn : n < 4294967296 := by omega
    refine jnext_spec h (by omega) fun w h => ?_
    obtain ⟨e, he, hE⟩ : ∃ e : Nat, e = ((l.drop (i + 1)).map Int.toNat).head?.getD (nextJ j) ∧ ((i + 1 < l.length ∧ ∃ hq : i + 1 < l.length, l[i + 1] = (e : Int)) ∨ (¬ i + 1 < l.length ∧ e = nextJ j)) := by
      by_cases g : i + 1 < l.length
      · have hq := hpos _ (List.getElem_mem g)
        refine ⟨l[i + 1].toNat, ?_, .inl ⟨g, g, by omega⟩⟩
        rw [List.drop_eq_getElem_cons g]; rfl
      · refine ⟨nextJ j, ?_, .inr ⟨g, rfl⟩⟩
        rw [List.drop_of_length_le (by omega)]; simp
    unfold cleanL at hK
    simp only [← he] at hK
    have body : ∀ w, Sat w0 (JrP v j dv :: DiskA dv d :: LsH cI 1 3 sv l :: L) w → F25_8 v sv (.int .i64 (n : Nat)) (.int .i64 (e : Nat)) sv (.int .i64 l.length) (.int .i64 i) w K (fun a0 a3 a10 a11 a12 w => F25_2L m a0 a3 a10 a11 a12 w K) := by
      intro w h
      unfold F25_8 F25_8b
      obtain ⟨p, rv, rfl, h2⟩ := jopen h
      clear h
      have h := h2
      clear h2
      (repeat (first
 | (simp (disch := omega) only [evA, evB, evC, bAdd_i64, bSub_i64])
 | (with_reducible apply go_ld1 h)
 | ((with_reducible first | apply go_ldA h | apply go_rd h | apply go_rdN h | apply go_rlen h); rfl)
 | (with_reducible first | apply go_ldN h | apply go_lenL h)
 | ((with_reducible apply go_st h); intro _ h)
 | ((with_reducible apply go_stA h); rfl; rfl; (first | rfl | simp [OneV.o]); intro _ h)
 | ((with_reducible apply go_stN h); rfl; (first | rfl | simp [OneV.o]); intro _ h)
 | ((with_reducible apply go_box h); rfl; intro _ _ h)
 | ((with_reducible apply go_ix h); omega)
 | ((with_reducible first | apply go_elN h | apply go_f1 h | apply go_rf1 h | apply go_rel h); (case hi => omega); (try case hx => exact inferInstance); (try case hv => rfl))
 | ((with_reducible apply go_fa h); omega; omega)
))
      refine name_spec W.bru h.drew hn fun w h => ?_
      (repeat (first
 | (simp (disch := omega) only [evA, evB, evC, bAdd_i64, bSub_i64])
 | (with_reducible apply go_ld1 h)
 | ((with_reducible first | apply go_ldA h | apply go_rd h | apply go_rdN h | apply go_rlen h); rfl)
 | (with_reducible first | apply go_ldN h | apply go_lenL h)
 | ((with_reducible apply go_st h); intro _ h)
 | ((with_reducible apply go_stA h); rfl; rfl; (first | rfl | simp [OneV.o]); intro _ h)
 | ((with_reducible apply go_stN h); rfl; (first | rfl | simp [OneV.o]); intro _ h)
 | ((with_reducible apply go_box h); rfl; intro _ _ h)
 | ((with_reducible apply go_ix h); omega)
 | ((with_reducible first | apply go_elN h | apply go_f1 h | apply go_rf1 h | apply go_rel h); (case hi => omega); (try case hx => exact inferInstance); (try case hv => rfl))
 | ((with_reducible apply go_fa h); omega; omega)
))
      by_cases g1 : nameL n = j.active
      · have e2 : decide (nameL n = j.active) = true := by simpa using g1
        rw [if_pos (.inl g1)] at hK
        unfold F25_6 F25_6b
        (repeat (first
 | (simp (disch := omega) only [evA, evB, evC, bAdd_i64, bSub_i64, e2])
 | (with_reducible apply go_ld1 h)
 | ((with_reducible first | apply go_ldA h | apply go_rd h | apply go_rdN h | apply go_rlen h); rfl)
 | (with_reducible first | apply go_ldN h | apply go_lenL h)
 | ((with_reducible apply go_st h); intro _ h)
 | ((with_reducible apply go_stA h); rfl; rfl; (first | rfl | simp [OneV.o]); intro _ h)
 | ((with_reducible apply go_stN h); rfl; (first | rfl | simp [OneV.o]); intro _ h)
 | ((with_reducible apply go_box h); rfl; intro _ _ h)
 | ((with_reducible apply go_ix h); omega)
 | ((with_reducible first | apply go_elN h | apply go_f1 h | apply go_rf1 h | apply go_rel h); (case hi => omega); (try case hx => exact inferInstance); (try case hv => rfl))
 | ((with_reducible apply go_fa h); omega; omega)
))
        rw [show (i : Int) + 1 = ((i + 1 : Nat) : Int) by omega]
        exact ih (i + 1) m d _ (by omega) (by omega) hb (jclose h) hK
      · have e2 : decide (nameL n = j.active) = false := by simpa using g1
        have hnb : j.number < 4294967296 := by unfold nextJ at hb; omega
        by_cases g3 : j.number + 1 < e
        · have e3 : decide ((e : Int) > (j.number : Int) + 1) = true := by simp; omega
          rw [if_pos (.inr g3)] at hK
          unfold F25_6 F25_6b
          (repeat (first
 | (simp (disch := omega) only [evA, evB, evC, bAdd_i64, bSub_i64, e2, e3])
 | (with_reducible apply go_ld1 h)
 | ((with_reducible first | apply go_ldA h | apply go_rd h | apply go_rdN h | apply go_rlen h); rfl)
 | (with_reducible first | apply go_ldN h | apply go_lenL h)
 | ((with_reducible apply go_st h); intro _ h)
 | ((with_reducible apply go_stA h); rfl; rfl; (first | rfl | simp [OneV.o]); intro _ h)
 | ((with_reducible apply go_stN h); rfl; (first | rfl | simp [OneV.o]); intro _ h)
 | ((with_reducible apply go_box h); rfl; intro _ _ h)
 | ((with_reducible apply go_ix h); omega)
 | ((with_reducible first | apply go_elN h | apply go_f1 h | apply go_rf1 h | apply go_rel h); (case hi => omega); (try case hx => exact inferInstance); (try case hv => rfl))
 | ((with_reducible apply go_fa h); omega; omega)
))
          rw [show (i : Int) + 1 = ((i + 1 : Nat) : Int) by omega]
          exact ih (i + 1) m d _ (by omega) (by omega) hb (jclose h) hK
        · have e3 : decide ((e : Int) > (j.number : Int) + 1) = false := by simp; omega
          rw [if_neg (by intro x; rcases x with x | x; exact g1 x; exact g3 x)] at hK
          (repeat (first
 | (simp (disch := omega) only [evA, evB, evC, bAdd_i64, bSub_i64, e2, e3])
 | (with_reducible apply go_ld1 h)
 | ((with_reducible first | apply go_ldA h | apply go_rd h | apply go_rdN h | apply go_rlen h); rfl)
 | (with_reducible first | apply go_ldN h | apply go_lenL h)
 | ((with_reducible apply go_st h); intro _ h)
 | ((with_reducible apply go_stA h); rfl; rfl; (first | rfl | simp [OneV.o]); intro _ h)
 | ((with_reducible apply go_stN h); rfl; (first | rfl | simp [OneV.o]); intro _ h)
 | ((with_reducible apply go_box h); rfl; intro _ _ h)
 | ((with_reducible apply go_ix h); omega)
 | ((with_reducible first | apply go_elN h | apply go_f1 h | apply go_rf1 h | apply go_rel h); (case hi => omega); (try case hx => exact inferInstance); (try case hv => rfl))
 | ((with_reducible apply go_fa h); omega; omega)
))
          refine name_spec W.bru h.drew hn fun w h => ?_
          (repeat (first
 | (simp (disch := omega) only [evA, evB, evC, bAdd_i64, bSub_i64])
 | (with_reducible apply go_ld1 h)
 | ((with_reducible first | apply go_ldA h | apply go_rd h | apply go_rdN h | apply go_rlen h); rfl)
 | (with_reducible first | apply go_ldN h | apply go_lenL h)
 | ((with_reducible apply go_st h); intro _ h)
 | ((with_reducible apply go_stA h); rfl; rfl; (first | rfl | simp [OneV.o]); intro _ h)
 | ((with_reducible apply go_stN h); rfl; (first | rfl | simp [OneV.o]); intro _ h)
 | ((with_reducible apply go_box h); rfl; intro _ _ h)
 | ((with_reducible apply go_ix h); omega)
 | ((with_reducible first | apply go_elN h | apply go_f1 h | apply go_rf1 h | apply go_rel h); (case hi => omega); (try case hx => exact inferInstance); (try case hv => rfl))
 | ((with_reducible apply go_fa h); omega; omega)
))
          refine drem_spec (L := JCl p j dv rv :: LsH cSt 1 9 rv j.recs :: LsH cI 1 3 sv l :: L) (h.got) fun w h => ?_
          by_cases g4 : (remD (nameL n) d).1 = 0
          · rw [if_pos g4] at hK
            rw [g4]
            unfold F25_6 F25_6b
            (repeat (first
 | (simp (disch := omega) only [evA, evB, evC, bAdd_i64, bSub_i64])
 | (with_reducible apply go_ld1 h)
 | ((with_reducible first | apply go_ldA h | apply go_rd h | apply go_rdN h | apply go_rlen h); rfl)
 | (with_reducible first | apply go_ldN h | apply go_lenL h)
 | ((with_reducible apply go_st h); intro _ h)
 | ((with_reducible apply go_stA h); rfl; rfl; (first | rfl | simp [OneV.o]); intro _ h)
 | ((with_reducible apply go_stN h); rfl; (first | rfl | simp [OneV.o]); intro _ h)
 | ((with_reducible apply go_box h); rfl; intro _ _ h)
 | ((with_reducible apply go_ix h); omega)
 | ((with_reducible first | apply go_elN h | apply go_f1 h | apply go_rf1 h | apply go_rel h); (case hi => omega); (try case hx => exact inferInstance); (try case hv => rfl))
 | ((with_reducible apply go_fa h); omega; omega)
))
            rw [show (i : Int) + 1 = ((i + 1 : Nat) : Int) by omega]
            exact ih (i + 1) m _ _ (by omega) (by omega) hb (jclose (h.got)) hK
          · rw [if_neg g4] at hK
            have e4 : decide ((remD (nameL n) d).1 = 0) = false := by simpa using g4
            (repeat (first
 | (simp (disch := omega) only [evA, evB, evC, bAdd_i64, bSub_i64, e4])
 | (with_reducible apply go_ld1 h)
 | ((with_reducible first | apply go_ldA h | apply go_rd h | apply go_rdN h | apply go_rlen h); rfl)
 | (with_reducible first | apply go_ldN h | apply go_lenL h)
 | ((with_reducible apply go_st h); intro _ h)
 | ((with_reducible apply go_stA h); rfl; rfl; (first | rfl | simp [OneV.o]); intro _ h)
 | ((with_reducible apply go_stN h); rfl; (first | rfl | simp [OneV.o]); intro _ h)
 | ((with_reducible apply go_box h); rfl; intro _ _ h)
 | ((with_reducible apply go_ix h); omega)
 | ((with_reducible first | apply go_elN h | apply go_f1 h | apply go_rf1 h | apply go_rel h); (case hi => omega); (try case hx => exact inferInstance); (try case hv => rfl))
 | ((with_reducible apply go_fa h); omega; omega)
))
            exact hK _ (jclose (h.got))
    have ea : (i : Int) + 1 = ((i + 1 : Nat) : Int) := by omega
    rcases hE with ⟨g, hq, hx2⟩ | ⟨g, rfl⟩
    · have e5 : decide ((i : Int) + 1 < l.length) = true := by simp; omega
      (repeat (first
 | (simp (disch := omega) only [evA, evB, evC, bAdd_i64, bSub_i64, e5])
 | (with_reducible apply go_ld1 h)
 | ((with_reducible first | apply go_ldA h | apply go_rd h | apply go_rdN h | apply go_rlen h); rfl)
 | (with_reducible first | apply go_ldN h | apply go_lenL h)
 | ((with_reducible apply go_st h); intro _ h)
 | ((with_reducible apply go_stA h); rfl; rfl; (first | rfl | simp [OneV.o]); intro _ h)
 | ((with_reducible apply go_stN h); rfl; (first | rfl | simp [OneV.o]); intro _ h)
 | ((with_reducible apply go_box h); rfl; intro _ _ h)
 | ((with_reducible apply go_ix h); omega)
 | ((with_reducible first | apply go_elN h | apply go_f1 h | apply go_rf1 h | apply go_rel h); (case hi => omega); (try case hx => exact inferInstance); (try case hv => rfl))
 | ((with_reducible apply go_fa h); omega; omega)
))
      rw [ea]
      (repeat (first
 | (simp (disch := omega) only [evA, evB, evC, bAdd_i64, bSub_i64])
 | (with_reducible apply go_ld1 h)
 | ((with_reducible first | apply go_ldA h | apply go_rd h | apply go_rdN h); rfl)
 | (with_reducible first | apply go_ldN h | apply go_lenR h)
 | ((with_reducible apply go_st h); intro _ h)
 | ((with_reducible apply go_stA h); rfl; rfl; (first | rfl | simp [OneV.o]); intro _ h)
 | ((with_reducible apply go_stN h); rfl; (first | rfl | simp [OneV.o]); intro _ h)
 | ((with_reducible apply go_box h); rfl; intro _ _ h)
 | ((with_reducible apply go_ixR h); omega)
 | ((with_reducible first | apply go_elR h | apply go_f1R h | apply go_rf1R h | apply go_relR h | apply go_e1R h | apply go_re1R h); (case hc => exact inferInstance); (case hi => omega); (try case hx => exact inferInstance); (try case hv => rfl))
 | ((with_reducible apply go_fNR h); (case hc => exact inferInstance); (case hi => omega); (try case hp => exact inferInstance); (try case hv => rfl))
 | ((with_reducible apply go_faR h); (case hc => exact inferInstance); omega; omega)
 | ((with_reducible apply go_rlenR h); rfl)
))
      rw [hx2]
      exact body w h
    · have e5 : decide ((i : Int) + 1 < l.length) = false := by simp; omega
      (repeat (first
 | (simp (disch := omega) only [evA, evB, evC, bAdd_i64, bSub_i64, e5])
 | (with_reducible apply go_ld1 h)
 | ((with_reducible first | apply go_ldA h | apply go_rd h | apply go_rdN h | apply go_rlen h); rfl)
 | (with_reducible first | apply go_ldN h | apply go_lenL h)
 | ((with_reducible apply go_st h); intro _ h)
 | ((with_reducible apply go_stA h); rfl; rfl; (first | rfl | simp [OneV.o]); intro _ h)
 | ((with_reducible apply go_stN h); rfl; (first | rfl | simp [OneV.o]); intro _ h)
 | ((with_reducible apply go_box h); rfl; intro _ _ h)
 | ((with_reducible apply go_ix h); omega)
 | ((with_reducible first | apply go_elN h | apply go_f1 h | apply go_rf1 h | apply go_rel h); (case hi => omega); (try case hx => exact inferInstance); (try case hv => rfl))
 | ((with_reducible apply go_fa h); omega; omega)
))
      exact body w h
theorem clean_spec (W : JW w0) (hc : d.fs.length ≤ 1073741824) (hn : ∀ f ∈ d.fs, NameJ f.name) (hb : nextJ j < 4294967296) (h : Sat w0 (JrP v j dv :: DiskA dv d :: L) w) (hK : ∀ w', Sat w0 (JrP v (cleanA (j, d)).2.1 dv :: DiskA dv (cleanA (j, d)).2.2 :: L) w' → K (.int .i64 (cleanA (j, d)).1) w') : callP G25 [v] w K := by
  refine c25 ?_
  unfold F25 F25_1 F25_1b
  refine segments_spec W hc hn h fun sv w h => ?_
  (repeat (first
 | (simp (disch := omega) only [evA, evB, evC, bAdd_i64, bSub_i64])
 | (with_reducible apply go_ld1 h)
 | ((with_reducible first | apply go_ldA h | apply go_rd h | apply go_rdN h | apply go_rlen h); rfl)
 | (with_reducible first | apply go_ldN h | apply go_lenL h)
 | ((with_reducible apply go_st h); intro _ h)
 | ((with_reducible apply go_stA h); rfl; rfl; (first | rfl | simp [OneV.o]); intro _ h)
 | ((with_reducible apply go_stN h); rfl; (first | rfl | simp [OneV.o]); intro _ h)
 | ((with_reducible apply go_box h); rfl; intro _ _ h)
 | ((with_reducible apply go_ix h); omega)
 | ((with_reducible first | apply go_elN h | apply go_f1 h | apply go_rf1 h | apply go_rel h); (case hi => omega); (try case hx => exact inferInstance); (try case hv => rfl))
 | ((with_reducible apply go_fa h); omega; omega)
))
  unfold F25_2
  have hlen : (srtI (segL d.fs)).length ≤ 1073741824 := by
    have h1 : (srtI (segL d.fs)).length = (segL d.fs).length := List.length_mergeSort _
    have h2 : (segL d.fs).length ≤ (d.fs.map (·.name)).length := List.length_filterMap_le _ _
    rw [List.length_map] at h2
    omega
  refine cleanLoop (L := L) W hlen segL_lt (srtI (segL d.fs)).length 0 fuel d w (by omega) (by unfold fuel; omega) hb (h.got) fun w h => ?_
  refine hK w ?_
  exact Sat.got h
end
end Go.Proofs.Gong
