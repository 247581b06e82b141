/- A part of the proofs: what stands below it, told in lemmas. No condition. -/
import Derived.Test.YtbbfjgmnemlolaaGreatDoorP1
import Derived.Test.YtbbfjgmnemlolaaGreatDoorP2
set_option linter.all false

/- Query -/
namespace Go.Proofs.Gong
open Go Go.Sx Go.Proofs
set_option linter.all false
set_option maxRecDepth 100000
set_option maxHeartbeats 4000000
variable {kn kr : ET} {ke : JT}
def Lay61_ren : Go.Shelf.Ren := ⟨fun | 4 => 61 | n => n, fun | 22 => 38 | 25 => 9 | 3 => 3 | 4 => 4 | 9 => 9 | 20 => 20 | 0 => 0 | n => n, fun | n => n⟩
theorem Lay61 : Go.Proofs.Lays8.n4 Tryz.prog Lay61_ren := {
  mixed := by kernel_rfl
  f4 := ⟨Tryz.f61.name, by decide, Tryz.func61.trans (congrArg some (by kernel_rfl))⟩
  t0 := Tryz.underlying0
  a0 := Tryz.isAgg0
  z0 := Tryz.sizeOf0
  v0 := Tryz.zeroValue0
  t3 := Tryz.underlying3
  a3 := Tryz.isAgg3
  z3 := Tryz.sizeOf3
  v3 := Tryz.zeroValue3
  t4 := Tryz.underlying4
  a4 := Tryz.isAgg4
  z4 := Tryz.sizeOf4
  v4 := Tryz.zeroValue4
  t9 := Tryz.underlying9
  a9 := Tryz.isAgg9
  z9 := Tryz.sizeOf9
  v9 := Tryz.zeroValue9
  t20 := Tryz.underlying20
  a20 := Tryz.isAgg20
  z20 := Tryz.sizeOf20
  v20 := Tryz.zeroValue20
  t22 := Tryz.underlying38
  a22 := Tryz.isAgg38
  z22 := Tryz.sizeOf38
  v22 := Tryz.zeroValue38 }
def G61 : FnT := gGrowNil 1 16 9
theorem ok61 : OkF Tryz.prog 61 G61 := okGrowNil Lay61 _ (.string ⟨#[]⟩) (show Tryz.prog.info? 9 = some Tryz.t9 by kernel_rfl) (by kernel_rfl) (by kernel_rfl) (by kernel_rfl) (by kernel_rfl) (by decide) rfl rfl Tryz.call61
def T31 : List (Nat × FnT) := [(61, G61)]
def F31_5b (s6 : Value) (w : World) (K : V1) : Prop :=
K s6 w
def F31_5 (s6 : Value) (w : World) (K : V1) : Prop := F31_5b s6 w K
theorem ok31_5 {K : V1}
    (hn : HN (fun e w => K (e 2) w) kn) (hr : HR Tryz.prog [.tmp 2] K kr) (he : HE noE ke) :
    ∀ e w, F31_5 (e 6) w K → denL Tryz.prog (tabOf T31) 36 fuel ((flat (bodyOf Tryz.f31)).drop 7) e w kn kr ke := by
  intro e w h
  unfold F31_5 at h
  have e1 : ∀ (_ : Unit), F31_5b (e 6) w K = denL Tryz.prog (tabOf T31) 36 fuel ((flat (bodyOf Tryz.f31)).drop 7) e w (fun e w => K (e 2) w) (endD Tryz.prog [.tmp 2] K) noE := by intro _; kernel_rfl
  exact seg_end (Eq.mp (e1 ()) h) hn hr he
def F31_4b (s6 s25 s26 s27 : Value) (w : World) (_K : V1) (Y0 : V4) (Y1 : V1) : Prop :=
bindP (bLt s27 s26) fun v1 =>
ifB v1 (
bindP (pIndexL 1 s25 s27) fun v2 =>
bindP (ld1 v2 w) fun v3 =>
eAppend Tryz.prog 38 38 s6 v3 w fun v5 w4 =>
bindP (bAdd s27 (.int .i64 1)) fun v6 =>
Y0 v5 s25 s26 v6 w4) (
Y1 s6 w)
def F31_4L : Nat → Value → Value → Value → Value → World → (V1) → Prop
  | 0, _, _, _, _, _, _ => False
  | n + 1, s6, s25, s26, s27, w, K => F31_4b s6 s25 s26 s27 w K (fun a6 a25 a26 a27 w => F31_4L n a6 a25 a26 a27 w K) (fun a6 w => F31_5 a6 w K)
def F31_4 (s6 s25 s26 s27 : Value) (w : World) (K : V1) : Prop := F31_4L fuel s6 s25 s26 s27 w K
theorem ok31_4 {K : V1}
    (hn : HN (fun e w => K (e 2) w) kn) (hr : HR Tryz.prog [.tmp 2] K kr) (he : HE noE ke) :
    ∀ e w, F31_4 (e 6) (e 25) (e 26) (e 27) w K → denL Tryz.prog (tabOf T31) 36 fuel ((flat (bodyOf Tryz.f31)).drop 6) e w kn kr ke := by
  intro e w h
  unfold F31_4 at h
  refine seg_loop (id := 2) (body := (loopB (blkB (nthC (flat (bodyOf Tryz.f31)) 6)))) (l2 := (flat (bodyOf Tryz.f31)).drop 7) (by kernel_rfl) ?_
  refine loop_ok (FL := fun m e w => F31_4L m (e 6) (e 25) (e 26) (e 27) w K) (fr := endD Tryz.prog [.tmp 2] K) (fe := (blkK 2 (fun e w => F31_5 (e 6) w K) noE)) (fun _ _ h => h) ?_ hr (blkK_mono (fun e w h => ok31_5 hn hr he e w h) he) fuel e w h
  intro m e w h
  have h : F31_4L (m + 1) (e 6) (e 25) (e 26) (e 27) w K := h
  rw [F31_4L] at h
  have e1 : ∀ (Y0 : V4) (Y1 : V1), F31_4b (e 6) (e 25) (e 26) (e 27) w K Y0 Y1 = denL Tryz.prog (tabOf T31) 36 fuel (flat (loopB (blkB (nthC (flat (bodyOf Tryz.f31)) 6)))) e w (fun e w => Y0 (e 6) (e 25) (e 26) (e 27) w) (endD Tryz.prog [.tmp 2] K) (blkK 2 (fun e w => Y1 (e 6) w) noE) := by intro Y0 Y1; kernel_rfl
  exact Eq.mp (e1 (fun a6 a25 a26 a27 w => F31_4L m a6 a25 a26 a27 w K) (fun a6 w => F31_5 a6 w K)) h
def F31_3b (s0 s3 : Value) (w : World) (_K : V1) (Y0 : V4) : Prop :=
callP G61 [(.slice none 0 0), s3] w fun v8 w7 =>
bindP (lenL s0) fun v9 =>
Y0 v8 s0 v9 (.int .i64 0) w7
def F31_3 (s0 s3 : Value) (w : World) (K : V1) : Prop := F31_3b s0 s3 w K (fun a6 a25 a26 a27 w => F31_4 a6 a25 a26 a27 w K)
theorem ok31_3 {K : V1}
    (hn : HN (fun e w => K (e 2) w) kn) (hr : HR Tryz.prog [.tmp 2] K kr) (he : HE noE ke) :
    ∀ e w, F31_3 (e 0) (e 3) w K → denL Tryz.prog (tabOf T31) 36 fuel ((flat (bodyOf Tryz.f31)).drop 4) e w kn kr ke := by
  intro e w h
  unfold F31_3 at h
  have e1 : ∀ (Y0 : V4), F31_3b (e 0) (e 3) w K Y0 = denL Tryz.prog (tabOf T31) 36 fuel (((flat (bodyOf Tryz.f31)).drop 4).take 2) e w (fun e w => Y0 (e 6) (e 25) (e 26) (e 27) w) (endD Tryz.prog [.tmp 2] K) noE := by intro Y0; kernel_rfl
  exact seg 2 (Eq.mp (e1 (fun a6 a25 a26 a27 w => F31_4 a6 a25 a26 a27 w K)) h) (fun e w h => ok31_4 hn hr he e w h) hr he
def F31_7b (s0 s3 s9 s10 s11 : Value) (w : World) (_K : V1) (R5 : V5) : Prop :=
bindP (bAdd s11 (.int .i64 1)) fun v10 =>
R5 s0 s3 s9 s10 v10 w
def F31_7 (s0 s3 s9 s10 s11 : Value) (w : World) (K : V1) (R5 : V5) : Prop := F31_7b s0 s3 s9 s10 s11 w K R5
theorem ok31_7 (R5 : V5) {K : V1}
    (hn : HN (fun e w => R5 (e 0) (e 3) (e 9) (e 10) (e 11) w) kn) (hr : HR Tryz.prog [.tmp 2] K kr) (he : HE (blkK 0 (fun e w => F31_3 (e 0) (e 3) w K) noE) ke) :
    ∀ e w, F31_7 (e 0) (e 3) (e 9) (e 10) (e 11) w K R5 → denL Tryz.prog (tabOf T31) 36 fuel ((flat (loopB (blkB (nthC (flat (bodyOf Tryz.f31)) 3)))).drop 3) e w kn kr ke := by
  intro e w h
  unfold F31_7 at h
  have e1 : ∀ (_ : Unit), F31_7b (e 0) (e 3) (e 9) (e 10) (e 11) w K R5 = denL Tryz.prog (tabOf T31) 36 fuel ((flat (loopB (blkB (nthC (flat (bodyOf Tryz.f31)) 3)))).drop 3) e w (fun e w => R5 (e 0) (e 3) (e 9) (e 10) (e 11) w) (endD Tryz.prog [.tmp 2] K) (blkK 0 (fun e w => F31_3 (e 0) (e 3) w K) noE) := by intro _; kernel_rfl
  exact seg_end (Eq.mp (e1 ()) h) hn hr he
def F31_6b (s0 s3 s9 s10 s11 : Value) (w : World) (_K : V1) (R5 : V5) (Y0 : V5) (Y1 : V2) : Prop :=
bindP (bLt s11 s10) fun v11 =>
ifB v11 (
bindP (pIndexL 1 s9 s11) fun v12 =>
bindP (ld1 v12 w) fun v13 =>
bindP (lenL v13) fun v14 =>
bindP (bAdd s3 v14) fun v15 =>
bindP (bLt v15 (.int .i64 0)) fun v16 =>
ifB v16 (
bindP (fMkI Tryz.prog 9 (.string ⟨#[108, 101, 110, 32, 111, 117, 116, 32, 111, 102, 32, 114, 97, 110, 103, 101]⟩)) fun _ =>
bindP (none) fun _ =>
Y0 s0 v15 s9 s10 s11 w) (
Y0 s0 v15 s9 s10 s11 w)) (
Y1 s0 s3 w)
def F31_6 (s0 s3 s9 s10 s11 : Value) (w : World) (K : V1) (R5 : V5) : Prop := F31_6b s0 s3 s9 s10 s11 w K R5 (fun a0 a3 a9 a10 a11 w => F31_7 a0 a3 a9 a10 a11 w K R5) (fun a0 a3 w => F31_3 a0 a3 w K)
theorem ok31_6 (R5 : V5) {K : V1}
    (hn : HN (fun e w => R5 (e 0) (e 3) (e 9) (e 10) (e 11) w) kn) (hr : HR Tryz.prog [.tmp 2] K kr) (he : HE (blkK 0 (fun e w => F31_3 (e 0) (e 3) w K) noE) ke) :
    ∀ e w, F31_6 (e 0) (e 3) (e 9) (e 10) (e 11) w K R5 → denL Tryz.prog (tabOf T31) 36 fuel ((flat (loopB (blkB (nthC (flat (bodyOf Tryz.f31)) 3)))).drop 0) e w kn kr ke := by
  intro e w h
  unfold F31_6 at h
  have e1 : ∀ (Y0 : V5) (Y1 : V2), F31_6b (e 0) (e 3) (e 9) (e 10) (e 11) w K R5 Y0 Y1 = denL Tryz.prog (tabOf T31) 36 fuel (((flat (loopB (blkB (nthC (flat (bodyOf Tryz.f31)) 3)))).drop 0).take 3) e w (fun e w => Y0 (e 0) (e 3) (e 9) (e 10) (e 11) w) (endD Tryz.prog [.tmp 2] K) (blkK 0 (fun e w => Y1 (e 0) (e 3) w) noE) := by intro Y0 Y1; kernel_rfl
  exact seg 3 (Eq.mp (e1 (fun a0 a3 a9 a10 a11 w => F31_7 a0 a3 a9 a10 a11 w K R5) (fun a0 a3 w => F31_3 a0 a3 w K)) h) (fun e w h => ok31_7 R5 hn hr he e w h) hr he
def F31_2L : Nat → Value → Value → Value → Value → Value → World → (V1) → Prop
  | 0, _, _, _, _, _, _, _ => False
  | n + 1, s0, s3, s9, s10, s11, w, K => F31_6 s0 s3 s9 s10 s11 w K (fun a0 a3 a9 a10 a11 w => F31_2L n a0 a3 a9 a10 a11 w K)
def F31_2 (s0 s3 s9 s10 s11 : Value) (w : World) (K : V1) : Prop := F31_2L fuel s0 s3 s9 s10 s11 w K
theorem ok31_2 {K : V1}
    (hn : HN (fun e w => K (e 2) w) kn) (hr : HR Tryz.prog [.tmp 2] K kr) (he : HE noE ke) :
    ∀ e w, F31_2 (e 0) (e 3) (e 9) (e 10) (e 11) w K → denL Tryz.prog (tabOf T31) 36 fuel ((flat (bodyOf Tryz.f31)).drop 3) e w kn kr ke := by
  intro e w h
  unfold F31_2 at h
  refine seg_loop (id := 0) (body := (loopB (blkB (nthC (flat (bodyOf Tryz.f31)) 3)))) (l2 := (flat (bodyOf Tryz.f31)).drop 4) (by kernel_rfl) ?_
  refine loop_ok (FL := fun m e w => F31_2L m (e 0) (e 3) (e 9) (e 10) (e 11) w K) (fr := endD Tryz.prog [.tmp 2] K) (fe := (blkK 0 (fun e w => F31_3 (e 0) (e 3) w K) noE)) (fun _ _ h => h) ?_ hr (blkK_mono (fun e w h => ok31_3 hn hr he e w h) he) fuel e w h
  intro m e w h
  have h : F31_2L (m + 1) (e 0) (e 3) (e 9) (e 10) (e 11) w K := h
  rw [F31_2L] at h
  exact ok31_6 (fun a0 a3 a9 a10 a11 w => F31_2L m a0 a3 a9 a10 a11 w K) (fun _ _ h => h) (fun _ _ h => h) (fun _ _ _ h => h) e w h
def F31_1b (s0 : Value) (w : World) (_K : V1) (Y0 : V5) : Prop :=
bindP (lenL s0) fun v19 =>
Y0 s0 (.int .i64 0) s0 v19 (.int .i64 0) w
def F31_1 (s0 : Value) (w : World) (K : V1) : Prop := F31_1b s0 w K (fun a0 a3 a9 a10 a11 w => F31_2 a0 a3 a9 a10 a11 w K)
theorem ok31_1 {K : V1}
    (hn : HN (fun e w => K (e 2) w) kn) (hr : HR Tryz.prog [.tmp 2] K kr) (he : HE noE ke) :
    ∀ e w, F31_1 (e 0) w K → denL Tryz.prog (tabOf T31) 36 fuel ((flat (bodyOf Tryz.f31)).drop 0) e w kn kr ke := by
  intro e w h
  unfold F31_1 at h
  have e1 : ∀ (Y0 : V5), F31_1b (e 0) w K Y0 = denL Tryz.prog (tabOf T31) 36 fuel (((flat (bodyOf Tryz.f31)).drop 0).take 3) e w (fun e w => Y0 (e 0) (e 3) (e 9) (e 10) (e 11) w) (endD Tryz.prog [.tmp 2] K) noE := by intro Y0; kernel_rfl
  exact seg 3 (Eq.mp (e1 (fun a0 a3 a9 a10 a11 w => F31_2 a0 a3 a9 a10 a11 w K)) h) (fun e w h => ok31_2 hn hr he e w h) hr he
def F31 (x0 : Value) (w : World) (K : V1) : Prop := F31_1 x0 w K
def G31 : FnT := fun args w K => on1 (fun x0 => F31 x0 w K) args
theorem c31 {x0 : Value} {w : World} {K : V1} (h : F31 x0 w K) : callP G31 [x0] w K := callP_intro (on1_mk (p := fun x0 => F31 x0 w K) h)
theorem ok31 : OkF Tryz.prog 31 G31 := by
  refine okF_of (tab_ok (l := T31) ⟨ok61, trivial⟩) mixed (n := fuel) Tryz.func31 Tryz.call31 fun args w K h => ?_
  obtain ⟨x0, rfl, hh⟩ := of_on1 h
  unfold F31 at hh
  exact fnD_list (c := bodyOf Tryz.f31) (by kernel_rfl) (by kernel_rfl) (ok31_1 (fun _ _ h => h) (fun _ _ h => h) (fun _ _ _ h => h) (initE [x0]) w hh)
def T11 : List (Nat × FnT) := [(10, G10), (28, G28), (29, G29), (30, G30), (31, G31)]
def F11_2b (s1 s3 s5 s7 : Value) (w : World) (K : V1) : Prop :=
bindP (pFieldAddr 0 s1) fun v1 =>
bindP (ld1 v1 w.drew) fun v2 =>
bindP (pFieldAddr 1 s1) fun v3 =>
bindP (pFieldAddr 3 v3) fun v4 =>
bindP (ld1 v4 w.drew) fun v5 =>
bindP (pFieldAddr 6 s1) fun v6 =>
bindP (ld1 v6 w.drew) fun v7 =>
callP G10 [v2] w.drew fun v9 w8 =>
(fok true (ld1 v4 w8) v5 ∧ fok true (ld1 v6 w8) v7) ∧ (callP G10 [v5] w8 fun v11 w10 =>
fok true (ld1 v6 w10) v7 ∧ (callP G10 [v7] w10 fun v13 w12 =>
eBuildSl Tryz.prog 38 6 [(0, v9), (1, v11), (2, v13), (3, s3), (4, s5), (5, s7)] w12 fun v15 w14 =>
bindP (pFieldAddr 1 s1) fun v16 =>
bindP (pFieldAddr 0 v16) fun v17 =>
bindP (ld1 v17 w14.drew) fun v18 =>
bindP (pFieldAddr 1 s1) fun v19 =>
bindP (pFieldAddr 1 v19) fun v20 =>
bindP (ld1 v20 w14.drew) fun v21 =>
bindP (pFieldAddr 1 s1) fun v22 =>
bindP (pFieldAddr 2 v22) fun v23 =>
bindP (ld1 v23 w14.drew) fun v24 =>
bindP (pFieldAddr 1 s1) fun v25 =>
bindP (pFieldAddr 4 v25) fun v26 =>
bindP (ld1 v26 w14.drew) fun v27 =>
callP G29 [v18] w14.drew fun v29 w28 =>
(fok true (ld1 v20 w28) v21 ∧ fok true (ld1 v23 w28) v24 ∧ fok true (ld1 v26 w28) v27) ∧ (callP G29 [v21] w28 fun v31 w30 =>
(fok true (ld1 v23 w30) v24 ∧ fok true (ld1 v26 w30) v27) ∧ (callP G29 [v24] w30 fun v33 w32 =>
fok true (ld1 v26 w32) v27 ∧ (callP G29 [v27] w32 fun v35 w34 =>
eBuildSl Tryz.prog 38 4 [(0, v29), (1, v31), (2, v33), (3, v35)] w34 fun v37 w36 =>
eBuildSl Tryz.prog 161 2 [(0, v15), (1, v37)] w36 fun v39 w38 =>
callP G31 [v39] w38 fun v41 w40 =>
callP G30 [v41, (.string ⟨#[32]⟩)] w40 fun v43 w42 =>
K v43 w42)))))
def F11_2 (s1 s3 s5 s7 : Value) (w : World) (K : V1) : Prop := F11_2b s1 s3 s5 s7 w K
theorem ok11_2 {K : V1}
    (hn : HN (fun e w => K (e 2) w) kn) (hr : HR Tryz.prog [.tmp 2] K kr) (he : HE noE ke) :
    ∀ e w, F11_2 (e 1) (e 3) (e 5) (e 7) w K → denL Tryz.prog (tabOf T11) 62 fuel ((flat (bodyOf Tryz.f11)).drop 6) e w kn kr ke := by
  intro e w h
  unfold F11_2 at h
  have e1 : ∀ (_ : Unit), F11_2b (e 1) (e 3) (e 5) (e 7) w K = denL Tryz.prog (tabOf T11) 62 fuel ((flat (bodyOf Tryz.f11)).drop 6) e w (fun e w => K (e 2) w) (endD Tryz.prog [.tmp 2] K) noE := by intro _; kernel_rfl
  exact seg_end (Eq.mp (e1 ()) h) hn hr he
def F11_1b (s0 : Value) (w : World) (_K : V1) (Y0 : V4) : Prop :=
eBox 45 s0 w fun v45 w44 =>
bindP (pFieldAddr 7 v45) fun v46 =>
bindP (ld1 v46 w44) fun v47 =>
callP G28 [v47] w44 fun v49 w48 =>
bindP (pTuple v49 0) fun v50 =>
bindP (pTuple v49 1) fun _ =>
bindP (pFieldAddr 8 v45) fun v52 =>
bindP (ld1 v52 w48) fun v53 =>
callP G28 [v53] w48 fun v55 w54 =>
bindP (pTuple v55 0) fun v56 =>
bindP (pTuple v55 1) fun _ =>
bindP (pFieldAddr 9 v45) fun v58 =>
bindP (ld1 v58 w54) fun v59 =>
ifB v59 (
bindP (pFieldAddr 10 v45) fun v60 =>
bindP (ld1 v60 w54) fun v61 =>
Y0 v45 v50 v56 v61 w54) (
Y0 v45 v50 v56 (.string ⟨#[45]⟩) w54)
def F11_1 (s0 : Value) (w : World) (K : V1) : Prop := F11_1b s0 w K (fun a1 a3 a5 a7 w => F11_2 a1 a3 a5 a7 w K)
theorem ok11_1 {K : V1}
    (hn : HN (fun e w => K (e 2) w) kn) (hr : HR Tryz.prog [.tmp 2] K kr) (he : HE noE ke) :
    ∀ e w, F11_1 (e 0) w K → denL Tryz.prog (tabOf T11) 62 fuel ((flat (bodyOf Tryz.f11)).drop 0) e w kn kr ke := by
  intro e w h
  unfold F11_1 at h
  have e1 : ∀ (Y0 : V4), F11_1b (e 0) w K Y0 = denL Tryz.prog (tabOf T11) 62 fuel (((flat (bodyOf Tryz.f11)).drop 0).take 6) e w (fun e w => Y0 (e 1) (e 3) (e 5) (e 7) w) (endD Tryz.prog [.tmp 2] K) noE := by intro Y0; kernel_rfl
  exact seg 6 (Eq.mp (e1 (fun a1 a3 a5 a7 w => F11_2 a1 a3 a5 a7 w K)) h) (fun e w h => ok11_2 hn hr he e w h) hr he
def F11 (x0 : Value) (w : World) (K : V1) : Prop := F11_1 x0 w K
def G11 : FnT := fun args w K => on1 (fun x0 => F11 x0 w K) args
theorem c11 {x0 : Value} {w : World} {K : V1} (h : F11 x0 w K) : callP G11 [x0] w K := callP_intro (on1_mk (p := fun x0 => F11 x0 w K) h)
theorem ok11 : OkF Tryz.prog 11 G11 := by
  refine okF_of (tab_ok (l := T11) ⟨ok10, ok28, ok29, ok30, ok31, trivial⟩) mixed (n := fuel) Tryz.func11 Tryz.call11 fun args w K h => ?_
  obtain ⟨x0, rfl, hh⟩ := of_on1 h
  unfold F11 at hh
  exact fnD_list (c := bodyOf Tryz.f11) (by kernel_rfl) (by kernel_rfl) (ok11_1 (fun _ _ h => h) (fun _ _ h => h) (fun _ _ _ h => h) (initE [x0]) w hh)
def T48 : List (Nat × FnT) := [(81, G81)]
def F48_3b (s3 : Value) (w : World) (K : V1) : Prop :=
K s3 w
def F48_3 (s3 : Value) (w : World) (K : V1) : Prop := F48_3b s3 w K
theorem ok48_3 {K : V1}
    (hn : HN (fun e w => K (e 2) w) kn) (hr : HR Tryz.prog [.tmp 2] K kr) (he : HE noE ke) :
    ∀ e w, F48_3 (e 3) w K → denL Tryz.prog (tabOf T48) 21 fuel ((flat (bodyOf Tryz.f48)).drop 4) e w kn kr ke := by
  intro e w h
  unfold F48_3 at h
  have e1 : ∀ (_ : Unit), F48_3b (e 3) w K = denL Tryz.prog (tabOf T48) 21 fuel ((flat (bodyOf Tryz.f48)).drop 4) e w (fun e w => K (e 2) w) (endD Tryz.prog [.tmp 2] K) noE := by intro _; kernel_rfl
  exact seg_end (Eq.mp (e1 ()) h) hn hr he
def F48_5b (s3 s7 s8 s9 : Value) (w : World) (_K : V1) (R3 : V4) : Prop :=
bindP (bAdd s9 (.int .i64 1)) fun v1 =>
R3 s3 s7 s8 v1 w
def F48_5 (s3 s7 s8 s9 : Value) (w : World) (K : V1) (R3 : V4) : Prop := F48_5b s3 s7 s8 s9 w K R3
theorem ok48_5 (R3 : V4) {K : V1}
    (hn : HN (fun e w => R3 (e 3) (e 7) (e 8) (e 9) w) kn) (hr : HR Tryz.prog [.tmp 2] K kr) (he : HE (blkK 0 (fun e w => F48_3 (e 3) w K) noE) ke) :
    ∀ e w, F48_5 (e 3) (e 7) (e 8) (e 9) w K R3 → denL Tryz.prog (tabOf T48) 21 fuel ((flat (loopB (blkB (nthC (flat (bodyOf Tryz.f48)) 3)))).drop 3) e w kn kr ke := by
  intro e w h
  unfold F48_5 at h
  have e1 : ∀ (_ : Unit), F48_5b (e 3) (e 7) (e 8) (e 9) w K R3 = denL Tryz.prog (tabOf T48) 21 fuel ((flat (loopB (blkB (nthC (flat (bodyOf Tryz.f48)) 3)))).drop 3) e w (fun e w => R3 (e 3) (e 7) (e 8) (e 9) w) (endD Tryz.prog [.tmp 2] K) (blkK 0 (fun e w => F48_3 (e 3) w K) noE) := by intro _; kernel_rfl
  exact seg_end (Eq.mp (e1 ()) h) hn hr he
def F48_4b (s3 s7 s8 s9 : Value) (w : World) (_K : V1) (R3 : V4) (Y0 : V4) (Y1 : V1) : Prop :=
bindP (bLt s9 s8) fun v2 =>
ifB v2 (
bindP (pIndexL 1 s7 s9) fun v3 =>
bindP (ld1 v3 w) fun v4 =>
bindP (bNe Tryz.prog 9 (.tmp 13) (.const (.string ⟨#[]⟩)) v4 (.string ⟨#[]⟩)) fun v5 =>
ifB v5 (
eBuildSl Tryz.prog 38 1 [(0, v4)] w fun v7 w6 =>
eAppend Tryz.prog 38 38 s3 v7 w6 fun v9 w8 =>
Y0 v9 s7 s8 s9 w8) (
Y0 s3 s7 s8 s9 w)) (
Y1 s3 w)
def F48_4 (s3 s7 s8 s9 : Value) (w : World) (K : V1) (R3 : V4) : Prop := F48_4b s3 s7 s8 s9 w K R3 (fun a3 a7 a8 a9 w => F48_5 a3 a7 a8 a9 w K R3) (fun a3 w => F48_3 a3 w K)
theorem ok48_4 (R3 : V4) {K : V1}
    (hn : HN (fun e w => R3 (e 3) (e 7) (e 8) (e 9) w) kn) (hr : HR Tryz.prog [.tmp 2] K kr) (he : HE (blkK 0 (fun e w => F48_3 (e 3) w K) noE) ke) :
    ∀ e w, F48_4 (e 3) (e 7) (e 8) (e 9) w K R3 → denL Tryz.prog (tabOf T48) 21 fuel ((flat (loopB (blkB (nthC (flat (bodyOf Tryz.f48)) 3)))).drop 0) e w kn kr ke := by
  intro e w h
  unfold F48_4 at h
  have e1 : ∀ (Y0 : V4) (Y1 : V1), F48_4b (e 3) (e 7) (e 8) (e 9) w K R3 Y0 Y1 = denL Tryz.prog (tabOf T48) 21 fuel (((flat (loopB (blkB (nthC (flat (bodyOf Tryz.f48)) 3)))).drop 0).take 3) e w (fun e w => Y0 (e 3) (e 7) (e 8) (e 9) w) (endD Tryz.prog [.tmp 2] K) (blkK 0 (fun e w => Y1 (e 3) w) noE) := by intro Y0 Y1; kernel_rfl
  exact seg 3 (Eq.mp (e1 (fun a3 a7 a8 a9 w => F48_5 a3 a7 a8 a9 w K R3) (fun a3 w => F48_3 a3 w K)) h) (fun e w h => ok48_5 R3 hn hr he e w h) hr he
def F48_2L : Nat → Value → Value → Value → Value → World → (V1) → Prop
  | 0, _, _, _, _, _, _ => False
  | n + 1, s3, s7, s8, s9, w, K => F48_4 s3 s7 s8 s9 w K (fun a3 a7 a8 a9 w => F48_2L n a3 a7 a8 a9 w K)
def F48_2 (s3 s7 s8 s9 : Value) (w : World) (K : V1) : Prop := F48_2L fuel s3 s7 s8 s9 w K
theorem ok48_2 {K : V1}
    (hn : HN (fun e w => K (e 2) w) kn) (hr : HR Tryz.prog [.tmp 2] K kr) (he : HE noE ke) :
    ∀ e w, F48_2 (e 3) (e 7) (e 8) (e 9) w K → denL Tryz.prog (tabOf T48) 21 fuel ((flat (bodyOf Tryz.f48)).drop 3) e w kn kr ke := by
  intro e w h
  unfold F48_2 at h
  refine seg_loop (id := 0) (body := (loopB (blkB (nthC (flat (bodyOf Tryz.f48)) 3)))) (l2 := (flat (bodyOf Tryz.f48)).drop 4) (by kernel_rfl) ?_
  refine loop_ok (FL := fun m e w => F48_2L m (e 3) (e 7) (e 8) (e 9) w K) (fr := endD Tryz.prog [.tmp 2] K) (fe := (blkK 0 (fun e w => F48_3 (e 3) w K) noE)) (fun _ _ h => h) ?_ hr (blkK_mono (fun e w h => ok48_3 hn hr he e w h) he) fuel e w h
  intro m e w h
  have h : F48_2L (m + 1) (e 3) (e 7) (e 8) (e 9) w K := h
  rw [F48_2L] at h
  exact ok48_4 (fun a3 a7 a8 a9 w => F48_2L m a3 a7 a8 a9 w K) (fun _ _ h => h) (fun _ _ h => h) (fun _ _ _ h => h) e w h
def F48_1b (s0 : Value) (w : World) (_K : V1) (Y0 : V4) : Prop :=
callP G81 [s0, (.string ⟨#[32]⟩)] w fun v11 w10 =>
bindP (lenL v11) fun v12 =>
Y0 (.slice none 0 0) v11 v12 (.int .i64 0) w10
def F48_1 (s0 : Value) (w : World) (K : V1) : Prop := F48_1b s0 w K (fun a3 a7 a8 a9 w => F48_2 a3 a7 a8 a9 w K)
theorem ok48_1 {K : V1}
    (hn : HN (fun e w => K (e 2) w) kn) (hr : HR Tryz.prog [.tmp 2] K kr) (he : HE noE ke) :
    ∀ e w, F48_1 (e 0) w K → denL Tryz.prog (tabOf T48) 21 fuel ((flat (bodyOf Tryz.f48)).drop 0) e w kn kr ke := by
  intro e w h
  unfold F48_1 at h
  have e1 : ∀ (Y0 : V4), F48_1b (e 0) w K Y0 = denL Tryz.prog (tabOf T48) 21 fuel (((flat (bodyOf Tryz.f48)).drop 0).take 3) e w (fun e w => Y0 (e 3) (e 7) (e 8) (e 9) w) (endD Tryz.prog [.tmp 2] K) noE := by intro Y0; kernel_rfl
  exact seg 3 (Eq.mp (e1 (fun a3 a7 a8 a9 w => F48_2 a3 a7 a8 a9 w K)) h) (fun e w h => ok48_2 hn hr he e w h) hr he
def F48 (x0 : Value) (w : World) (K : V1) : Prop := F48_1 x0 w K
def G48 : FnT := fun args w K => on1 (fun x0 => F48 x0 w K) args
theorem c48 {x0 : Value} {w : World} {K : V1} (h : F48 x0 w K) : callP G48 [x0] w K := callP_intro (on1_mk (p := fun x0 => F48 x0 w K) h)
theorem ok48 : OkF Tryz.prog 48 G48 := by
  refine okF_of (tab_ok (l := T48) ⟨ok81, trivial⟩) mixed (n := fuel) Tryz.func48 Tryz.call48 fun args w K h => ?_
  obtain ⟨x0, rfl, hh⟩ := of_on1 h
  unfold F48 at hh
  exact fnD_list (c := bodyOf Tryz.f48) (by kernel_rfl) (by kernel_rfl) (ok48_1 (fun _ _ h => h) (fun _ _ h => h) (fun _ _ _ h => h) (initE [x0]) w hh)
def T82 : List (Nat × FnT) := []
def F82 (x0 : Value) (w : World) (K : V1) : Prop :=
bindP (bEq Tryz.prog 9 (.tmp 3) (.const (.string ⟨#[105, 100]⟩)) x0 (.string ⟨#[105, 100]⟩)) fun v1 =>
ifB v1 (
K (.func (.func 127) #[] #[]) w) (
bindP (bEq Tryz.prog 9 (.tmp 3) (.const (.string ⟨#[108, 97, 115, 116]⟩)) x0 (.string ⟨#[108, 97, 115, 116]⟩)) fun v2 =>
ifB v2 (
K (.func (.func 128) #[] #[]) w) (
bindP (bEq Tryz.prog 9 (.tmp 3) (.const (.string ⟨#[108, 101, 118, 101, 108]⟩)) x0 (.string ⟨#[108, 101, 118, 101, 108]⟩)) fun v3 =>
ifB v3 (
K (.func (.func 129) #[] #[]) w) (
bindP (bEq Tryz.prog 9 (.tmp 3) (.const (.string ⟨#[116, 97, 108, 108, 121]⟩)) x0 (.string ⟨#[116, 97, 108, 108, 121]⟩)) fun v4 =>
ifB v4 (
K (.func (.func 130) #[] #[]) w) (
K .nilFunc w))))
def G82 : FnT := fun args w K => on1 (fun x0 => F82 x0 w K) args
theorem c82 {x0 : Value} {w : World} {K : V1} (h : F82 x0 w K) : callP G82 [x0] w K := callP_intro (on1_mk (p := fun x0 => F82 x0 w K) h)
theorem ok82 : OkF Tryz.prog 82 G82 := by
  refine okF_of (tab_ok (l := T82) trivial) mixed (n := fuel) Tryz.func82 Tryz.call82 fun args w K h => ?_
  obtain ⟨x0, rfl, hh⟩ := of_on1 h
  exact fnD_list (c := bodyOf Tryz.f82) (by kernel_rfl) (by kernel_rfl) (Eq.mp (by kernel_rfl) hh)
def T83 : List (Nat × FnT) := [(82, G82)]
def F83 (x0 : Value) (w : World) (K : V1) : Prop :=
callP G82 [x0] w fun v2 w1 =>
eAlloc Tryz.prog 183 w1 fun v4 w3 =>
bindW (st 1 v4 v2 w3) fun w5 =>
bindP (some (.func (.func 131) #[] #[v4])) fun v7 =>
K v7 w5
def G83 : FnT := fun args w K => on1 (fun x0 => F83 x0 w K) args
theorem c83 {x0 : Value} {w : World} {K : V1} (h : F83 x0 w K) : callP G83 [x0] w K := callP_intro (on1_mk (p := fun x0 => F83 x0 w K) h)
theorem ok83 : OkF Tryz.prog 83 G83 := by
  refine okF_of (tab_ok (l := T83) ⟨ok82, trivial⟩) mixed (n := fuel) Tryz.func83 Tryz.call83 fun args w K h => ?_
  obtain ⟨x0, rfl, hh⟩ := of_on1 h
  exact fnD_list (c := bodyOf Tryz.f83) (by kernel_rfl) (by kernel_rfl) (Eq.mp (by kernel_rfl) hh)
def T84 : List (Nat × FnT) := [(10, G10), (133, G133)]
def F84 (x0 : Value) (w : World) (K : V1) : Prop :=
callP G133 [x0] w fun v2 w1 =>
bindP (pTuple v2 0) fun v3 =>
bindP (pTuple v2 1) fun v4 =>
bindP (bEq Tryz.prog 154 (.tmp 12) (.const .nilIface) v4 .nilIface) fun v5 =>
stepM (gd true v5) v3 fun v6 =>
Sx.stepG (gd true v5) (bGe v6 (.int .i64 0)) fun v7 =>
bindP (pPick v5 v7 (.bool false)) fun v8 =>
stepM (gd true v8) x0 fun v9 =>
Sx.stepG (gd true v8) (lenS v9) fun v10 =>
Sx.stepG (gd true v8) (bLe v10 (.int .i64 18)) fun v11 =>
bindP (pPick v8 v11 (.bool false)) fun v12 =>
stepM (gd true v12) v3 fun v13 =>
stepE (gd true v12) (fun k => callP G10 [v13] w1 k) w1 fun v15 w14 =>
stepM (gd true v12) x0 fun v16 =>
Sx.stepG (gd true v12) (bEq Tryz.prog 9 (.tmp 25) (.tmp 26) v15 v16) fun v17 =>
bindP (pPick v12 v17 (.bool false)) fun v18 =>
K (.tuple #[v3, v18]) w14
def G84 : FnT := fun args w K => on1 (fun x0 => F84 x0 w K) args
theorem c84 {x0 : Value} {w : World} {K : V1} (h : F84 x0 w K) : callP G84 [x0] w K := callP_intro (on1_mk (p := fun x0 => F84 x0 w K) h)
theorem ok84 : OkF Tryz.prog 84 G84 := by
  refine okF_of (tab_ok (l := T84) ⟨ok10, ok133, trivial⟩) mixed (n := fuel) Tryz.func84 Tryz.call84 fun args w K h => ?_
  obtain ⟨x0, rfl, hh⟩ := of_on1 h
  exact fnD_list (c := bodyOf Tryz.f84) (by kernel_rfl) (by kernel_rfl) (Eq.mp (by kernel_rfl) hh)
def G134 : FnT := fun _ _ _ => False
theorem ok134 : OkF Tryz.prog 134 G134 := fun _ _ _ h => h.elim
def T135 : List (Nat × FnT) := [(84, G84)]
def F135 (x0 : Value) (w : World) (K : V1) : Prop :=
callP G84 [x0] w fun v2 w1 =>
bindP (pTuple v2 0) fun v3 =>
bindP (pTuple v2 1) fun v4 =>
eAlloc Tryz.prog 3 w1 fun v6 w5 =>
bindW (st 1 v6 v3 w5) fun w7 =>
bindP (some (.func (.func 183) #[] #[v6])) fun v9 =>
Sx.stepG (gd true v4) (ld1 v6 w7.drew) fun v10 =>
Sx.stepG (gd true v4) (bLe v10 (.int .i64 5)) fun v11 =>
bindP (pPick v4 v11 (.bool false)) fun v12 =>
K (.tuple #[v9, v12]) w7.drew
def G135 : FnT := fun args w K => on1 (fun x0 => F135 x0 w K) args
theorem c135 {x0 : Value} {w : World} {K : V1} (h : F135 x0 w K) : callP G135 [x0] w K := callP_intro (on1_mk (p := fun x0 => F135 x0 w K) h)
theorem ok135 : OkF Tryz.prog 135 G135 := by
  refine okF_of (tab_ok (l := T135) ⟨ok84, trivial⟩) mixed (n := fuel) Tryz.func135 Tryz.call135 fun args w K h => ?_
  obtain ⟨x0, rfl, hh⟩ := of_on1 h
  exact fnD_list (c := bodyOf Tryz.f135) (by kernel_rfl) (by kernel_rfl) (Eq.mp (by kernel_rfl) hh)
def G136 : FnT := fun _ _ _ => False
theorem ok136 : OkF Tryz.prog 136 G136 := fun _ _ _ h => h.elim
def T85 : List (Nat × FnT) := [(134, G134), (135, G135), (136, G136)]
def F85_3b (w : World) (K : V1) : Prop :=
K (.tuple #[.nilFunc, (.bool false)]) w
def F85_3 (w : World) (K : V1) : Prop := F85_3b w K
theorem ok85_3 {K : V1}
    (hn : HN (fun e w => K (.tuple #[(e 4), (e 5)]) w) kn) (hr : HR Tryz.prog [.tmp 4, .tmp 5] K kr) (he : HE noE ke) :
    ∀ e w, F85_3 w K → denL Tryz.prog (tabOf T85) 40 fuel ((flat (bodyOf Tryz.f85)).drop 3) e w kn kr ke := by
  intro e w h
  unfold F85_3 at h
  have e1 : ∀ (_ : Unit), F85_3b w K = denL Tryz.prog (tabOf T85) 40 fuel ((flat (bodyOf Tryz.f85)).drop 3) e w (fun e w => K (.tuple #[(e 4), (e 5)]) w) (endD Tryz.prog [.tmp 4, .tmp 5] K) noE := by intro _; kernel_rfl
  exact seg_end (Eq.mp (e1 ()) h) hn hr he
def F85_6b (s0 s3 : Value) (w : World) (K : V1) : Prop :=
bindP (ld1 s3 w) fun v1 =>
callP G134 [s0, v1] w fun v3 w2 =>
bindP (pTuple v3 0) fun v4 =>
bindP (pTuple v3 1) fun v5 =>
K (.tuple #[v4, v5]) w2
def F85_6 (s0 s3 : Value) (w : World) (K : V1) : Prop := F85_6b s0 s3 w K
theorem ok85_6 {K : V1}
    (hn : HN (fun e w => F85_3 w K) kn) (hr : HR Tryz.prog [.tmp 4, .tmp 5] K kr) (he : HE (blkK 0 (fun e w => F85_3 w K) noE) ke) :
    ∀ e w, F85_6 (e 0) (e 3) w K → denL Tryz.prog (tabOf T85) 40 fuel ((flat (thenC (nthC (flat (blkB (nthC (flat (bodyOf Tryz.f85)) 2))) 2))).drop 0) e w kn kr ke := by
  intro e w h
  unfold F85_6 at h
  have e1 : ∀ (_ : Unit), F85_6b (e 0) (e 3) w K = denL Tryz.prog (tabOf T85) 40 fuel ((flat (thenC (nthC (flat (blkB (nthC (flat (bodyOf Tryz.f85)) 2))) 2))).drop 0) e w (fun e w => F85_3 w K) (endD Tryz.prog [.tmp 4, .tmp 5] K) (blkK 0 (fun e w => F85_3 w K) noE) := by intro _; kernel_rfl
  exact seg_end (Eq.mp (e1 ()) h) hn hr he
def F85_9b (s3 : Value) (w : World) (K : V1) : Prop :=
bindP (ld1 s3 w) fun v6 =>
callP G135 [v6] w fun v8 w7 =>
bindP (pTuple v8 0) fun v9 =>
bindP (pTuple v8 1) fun v10 =>
K (.tuple #[v9, v10]) w7
def F85_9 (s3 : Value) (w : World) (K : V1) : Prop := F85_9b s3 w K
theorem ok85_9 {K : V1}
    (hn : HN (fun e w => F85_3 w K) kn) (hr : HR Tryz.prog [.tmp 4, .tmp 5] K kr) (he : HE (blkK 0 (fun e w => F85_3 w K) noE) ke) :
    ∀ e w, F85_9 (e 3) w K → denL Tryz.prog (tabOf T85) 40 fuel ((flat (thenC (nthC (flat (elseC (nthC (flat (blkB (nthC (flat (bodyOf Tryz.f85)) 2))) 2))) 1))).drop 0) e w kn kr ke := by
  intro e w h
  unfold F85_9 at h
  have e1 : ∀ (_ : Unit), F85_9b (e 3) w K = denL Tryz.prog (tabOf T85) 40 fuel ((flat (thenC (nthC (flat (elseC (nthC (flat (blkB (nthC (flat (bodyOf Tryz.f85)) 2))) 2))) 1))).drop 0) e w (fun e w => F85_3 w K) (endD Tryz.prog [.tmp 4, .tmp 5] K) (blkK 0 (fun e w => F85_3 w K) noE) := by intro _; kernel_rfl
  exact seg_end (Eq.mp (e1 ()) h) hn hr he
def F85_11b (s0 s3 s6 s23 : Value) (w : World) (K : V1) (Y0 : V0) : Prop :=
ifB s23 (
bindP (ld1 s3 w) fun v11 =>
callP G136 [s0, v11] w fun v13 w12 =>
bindP (pTuple v13 0) fun v14 =>
bindP (pTuple v13 1) fun v15 =>
K (.tuple #[v14, v15]) w12) (
bindP (bEq Tryz.prog 9 (.tmp 6) (.const (.string ⟨#[97, 99, 107, 101, 100]⟩)) s6 (.string ⟨#[97, 99, 107, 101, 100]⟩)) fun v16 =>
ifB v16 (
bindP (some (.func (.func 137) #[] #[s3])) fun v17 =>
bindP (ld1 s3 w.drew) fun v18 =>
bindP (bEq Tryz.prog 9 (.tmp 34) (.const (.string ⟨#[121, 101, 115]⟩)) v18 (.string ⟨#[121, 101, 115]⟩)) fun v19 =>
Sx.stepG (gd false v19) (ld1 s3 w.drew) fun v20 =>
Sx.stepG (gd false v19) (bEq Tryz.prog 9 (.tmp 37) (.const (.string ⟨#[110, 111]⟩)) v20 (.string ⟨#[110, 111]⟩)) fun v21 =>
bindP (pPick v19 (.bool true) v21) fun v22 =>
K (.tuple #[v17, v22]) w.drew) (
Y0 w))
def F85_11 (s0 s3 s6 s23 : Value) (w : World) (K : V1) : Prop := F85_11b s0 s3 s6 s23 w K (fun w => F85_3 w K)
theorem ok85_11 {K : V1}
    (hn : HN (fun e w => F85_3 w K) kn) (hr : HR Tryz.prog [.tmp 4, .tmp 5] K kr) (he : HE (blkK 0 (fun e w => F85_3 w K) noE) ke) :
    ∀ e w, F85_11 (e 0) (e 3) (e 6) (e 23) w K → denL Tryz.prog (tabOf T85) 40 fuel ((flat (elseC (nthC (flat (elseC (nthC (flat (blkB (nthC (flat (bodyOf Tryz.f85)) 2))) 2))) 1))).drop 2) e w kn kr ke := by
  intro e w h
  unfold F85_11 at h
  have e1 : ∀ (Y0 : V0), F85_11b (e 0) (e 3) (e 6) (e 23) w K Y0 = denL Tryz.prog (tabOf T85) 40 fuel ((flat (elseC (nthC (flat (elseC (nthC (flat (blkB (nthC (flat (bodyOf Tryz.f85)) 2))) 2))) 1))).drop 2) e w (fun e w => Y0 w) (endD Tryz.prog [.tmp 4, .tmp 5] K) (blkK 0 (fun e w => Y0 w) noE) := by intro Y0; kernel_rfl
  exact seg_end (Eq.mp (e1 (fun w => F85_3 w K)) h) hn hr he
def F85_10b (s0 s3 s6 : Value) (w : World) (_K : V1) (Y0 : V4) : Prop :=
bindP (bEq Tryz.prog 9 (.tmp 6) (.const (.string ⟨#[98, 101, 102, 111, 114, 101]⟩)) s6 (.string ⟨#[98, 101, 102, 111, 114, 101]⟩)) fun v23 =>
ifB v23 (
Y0 s0 s3 s6 v23 w) (
bindP (bEq Tryz.prog 9 (.tmp 6) (.const (.string ⟨#[115, 105, 110, 99, 101]⟩)) s6 (.string ⟨#[115, 105, 110, 99, 101]⟩)) fun v24 =>
Y0 s0 s3 s6 v24 w)
def F85_10 (s0 s3 s6 : Value) (w : World) (K : V1) : Prop := F85_10b s0 s3 s6 w K (fun a0 a3 a6 a23 w => F85_11 a0 a3 a6 a23 w K)
theorem ok85_10 {K : V1}
    (hn : HN (fun e w => F85_3 w K) kn) (hr : HR Tryz.prog [.tmp 4, .tmp 5] K kr) (he : HE (blkK 0 (fun e w => F85_3 w K) noE) ke) :
    ∀ e w, F85_10 (e 0) (e 3) (e 6) w K → denL Tryz.prog (tabOf T85) 40 fuel ((flat (elseC (nthC (flat (elseC (nthC (flat (blkB (nthC (flat (bodyOf Tryz.f85)) 2))) 2))) 1))).drop 0) e w kn kr ke := by
  intro e w h
  unfold F85_10 at h
  have e1 : ∀ (Y0 : V4), F85_10b (e 0) (e 3) (e 6) w K Y0 = denL Tryz.prog (tabOf T85) 40 fuel (((flat (elseC (nthC (flat (elseC (nthC (flat (blkB (nthC (flat (bodyOf Tryz.f85)) 2))) 2))) 1))).drop 0).take 2) e w (fun e w => Y0 (e 0) (e 3) (e 6) (e 23) w) (endD Tryz.prog [.tmp 4, .tmp 5] K) (blkK 0 (fun e w => F85_3 w K) noE) := by intro Y0; kernel_rfl
  exact seg 2 (Eq.mp (e1 (fun a0 a3 a6 a23 w => F85_11 a0 a3 a6 a23 w K)) h) (fun e w h => ok85_11 hn hr he e w h) hr he
def F85_8 (s0 s3 s6 s17 : Value) (w : World) (K : V1) : Prop := ifB s17 (F85_9 s3 w K) (F85_10 s0 s3 s6 w K)
theorem ok85_8 {K : V1}
    (hn : HN (fun e w => F85_3 w K) kn) (hr : HR Tryz.prog [.tmp 4, .tmp 5] K kr) (he : HE (blkK 0 (fun e w => F85_3 w K) noE) ke) :
    ∀ e w, F85_8 (e 0) (e 3) (e 6) (e 17) w K → denL Tryz.prog (tabOf T85) 40 fuel ((flat (elseC (nthC (flat (blkB (nthC (flat (bodyOf Tryz.f85)) 2))) 2))).drop 1) e w kn kr ke := by
  intro e w h
  unfold F85_8 at h
  refine seg_cond (c := (.tmp 17)) (a := thenC (nthC (flat (elseC (nthC (flat (blkB (nthC (flat (bodyOf Tryz.f85)) 2))) 2))) 1)) (b := elseC (nthC (flat (elseC (nthC (flat (blkB (nthC (flat (bodyOf Tryz.f85)) 2))) 2))) 1)) (l2 := (flat (elseC (nthC (flat (blkB (nthC (flat (bodyOf Tryz.f85)) 2))) 2))).drop 2) (by kernel_rfl) h (fun h => ?_) (fun h => ?_)
  · exact ok85_9 hn hr he e w h
  · exact ok85_10 hn hr he e w h
def F85_7b (s0 s3 s6 : Value) (w : World) (_K : V1) (Y0 : V4) : Prop :=
bindP (bEq Tryz.prog 9 (.tmp 6) (.const (.string ⟨#[108, 101, 118, 101, 108]⟩)) s6 (.string ⟨#[108, 101, 118, 101, 108]⟩)) fun v25 =>
Y0 s0 s3 s6 v25 w
def F85_7 (s0 s3 s6 : Value) (w : World) (K : V1) : Prop := F85_7b s0 s3 s6 w K (fun a0 a3 a6 a17 w => F85_8 a0 a3 a6 a17 w K)
theorem ok85_7 {K : V1}
    (hn : HN (fun e w => F85_3 w K) kn) (hr : HR Tryz.prog [.tmp 4, .tmp 5] K kr) (he : HE (blkK 0 (fun e w => F85_3 w K) noE) ke) :
    ∀ e w, F85_7 (e 0) (e 3) (e 6) w K → denL Tryz.prog (tabOf T85) 40 fuel ((flat (elseC (nthC (flat (blkB (nthC (flat (bodyOf Tryz.f85)) 2))) 2))).drop 0) e w kn kr ke := by
  intro e w h
  unfold F85_7 at h
  have e1 : ∀ (Y0 : V4), F85_7b (e 0) (e 3) (e 6) w K Y0 = denL Tryz.prog (tabOf T85) 40 fuel (((flat (elseC (nthC (flat (blkB (nthC (flat (bodyOf Tryz.f85)) 2))) 2))).drop 0).take 1) e w (fun e w => Y0 (e 0) (e 3) (e 6) (e 17) w) (endD Tryz.prog [.tmp 4, .tmp 5] K) (blkK 0 (fun e w => F85_3 w K) noE) := by intro Y0; kernel_rfl
  exact seg 1 (Eq.mp (e1 (fun a0 a3 a6 a17 w => F85_8 a0 a3 a6 a17 w K)) h) (fun e w h => ok85_8 hn hr he e w h) hr he
def F85_5 (s0 s3 s6 s7 : Value) (w : World) (K : V1) : Prop := ifB s7 (F85_6 s0 s3 w K) (F85_7 s0 s3 s6 w K)
theorem ok85_5 {K : V1}
    (hn : HN (fun e w => F85_3 w K) kn) (hr : HR Tryz.prog [.tmp 4, .tmp 5] K kr) (he : HE (blkK 0 (fun e w => F85_3 w K) noE) ke) :
    ∀ e w, F85_5 (e 0) (e 3) (e 6) (e 7) w K → denL Tryz.prog (tabOf T85) 40 fuel ((flat (blkB (nthC (flat (bodyOf Tryz.f85)) 2))).drop 2) e w kn kr ke := by
  intro e w h
  unfold F85_5 at h
  refine seg_cond (c := (.tmp 7)) (a := thenC (nthC (flat (blkB (nthC (flat (bodyOf Tryz.f85)) 2))) 2)) (b := elseC (nthC (flat (blkB (nthC (flat (bodyOf Tryz.f85)) 2))) 2)) (l2 := (flat (blkB (nthC (flat (bodyOf Tryz.f85)) 2))).drop 3) (by kernel_rfl) h (fun h => ?_) (fun h => ?_)
  · exact ok85_6 hn hr he e w h
  · exact ok85_7 hn hr he e w h
def F85_4b (s0 s3 s6 : Value) (w : World) (_K : V1) (Y0 : V4) : Prop :=
bindP (bEq Tryz.prog 9 (.tmp 6) (.const (.string ⟨#[110, 111, 100, 101]⟩)) s6 (.string ⟨#[110, 111, 100, 101]⟩)) fun v26 =>
ifB v26 (
Y0 s0 s3 s6 v26 w) (
bindP (bEq Tryz.prog 9 (.tmp 6) (.const (.string ⟨#[99, 108, 97, 115, 115]⟩)) s6 (.string ⟨#[99, 108, 97, 115, 115]⟩)) fun v27 =>
ifB v27 (
Y0 s0 s3 s6 v27 w) (
bindP (bEq Tryz.prog 9 (.tmp 6) (.const (.string ⟨#[107, 101, 121]⟩)) s6 (.string ⟨#[107, 101, 121]⟩)) fun v28 =>
ifB v28 (
Y0 s0 s3 s6 v28 w) (
bindP (bEq Tryz.prog 9 (.tmp 6) (.const (.string ⟨#[116, 101, 120, 116]⟩)) s6 (.string ⟨#[116, 101, 120, 116]⟩)) fun v29 =>
Y0 s0 s3 s6 v29 w)))
def F85_4 (s0 s3 s6 : Value) (w : World) (K : V1) : Prop := F85_4b s0 s3 s6 w K (fun a0 a3 a6 a7 w => F85_5 a0 a3 a6 a7 w K)
theorem ok85_4 {K : V1}
    (hn : HN (fun e w => F85_3 w K) kn) (hr : HR Tryz.prog [.tmp 4, .tmp 5] K kr) (he : HE (blkK 0 (fun e w => F85_3 w K) noE) ke) :
    ∀ e w, F85_4 (e 0) (e 3) (e 6) w K → denL Tryz.prog (tabOf T85) 40 fuel ((flat (blkB (nthC (flat (bodyOf Tryz.f85)) 2))).drop 0) e w kn kr ke := by
  intro e w h
  unfold F85_4 at h
  have e1 : ∀ (Y0 : V4), F85_4b (e 0) (e 3) (e 6) w K Y0 = denL Tryz.prog (tabOf T85) 40 fuel (((flat (blkB (nthC (flat (bodyOf Tryz.f85)) 2))).drop 0).take 2) e w (fun e w => Y0 (e 0) (e 3) (e 6) (e 7) w) (endD Tryz.prog [.tmp 4, .tmp 5] K) (blkK 0 (fun e w => F85_3 w K) noE) := by intro Y0; kernel_rfl
  exact seg 2 (Eq.mp (e1 (fun a0 a3 a6 a7 w => F85_5 a0 a3 a6 a7 w K)) h) (fun e w h => ok85_5 hn hr he e w h) hr he
def F85_2 (s0 s3 s6 : Value) (w : World) (K : V1) : Prop := F85_4 s0 s3 s6 w K
theorem ok85_2 {K : V1}
    (hn : HN (fun e w => K (.tuple #[(e 4), (e 5)]) w) kn) (hr : HR Tryz.prog [.tmp 4, .tmp 5] K kr) (he : HE noE ke) :
    ∀ e w, F85_2 (e 0) (e 3) (e 6) w K → denL Tryz.prog (tabOf T85) 40 fuel ((flat (bodyOf Tryz.f85)).drop 2) e w kn kr ke := by
  intro e w h
  unfold F85_2 at h
  refine seg_block (id := 0) (body := (blkB (nthC (flat (bodyOf Tryz.f85)) 2))) (l2 := (flat (bodyOf Tryz.f85)).drop 3) (by kernel_rfl) ?_
  exact ok85_4 (fun e w h => ok85_3 hn hr he e w h) hr (blkK_mono (fun e w h => ok85_3 hn hr he e w h) he) e w h
def F85_1b (s0 s1 : Value) (w : World) (_K : V1) (Y0 : V3) : Prop :=
eBox 9 s1 w fun v31 w30 =>
Y0 s0 v31 s0 w30
def F85_1 (s0 s1 : Value) (w : World) (K : V1) : Prop := F85_1b s0 s1 w K (fun a0 a3 a6 w => F85_2 a0 a3 a6 w K)
theorem ok85_1 {K : V1}
    (hn : HN (fun e w => K (.tuple #[(e 4), (e 5)]) w) kn) (hr : HR Tryz.prog [.tmp 4, .tmp 5] K kr) (he : HE noE ke) :
    ∀ e w, F85_1 (e 0) (e 1) w K → denL Tryz.prog (tabOf T85) 40 fuel ((flat (bodyOf Tryz.f85)).drop 0) e w kn kr ke := by
  intro e w h
  unfold F85_1 at h
  have e1 : ∀ (Y0 : V3), F85_1b (e 0) (e 1) w K Y0 = denL Tryz.prog (tabOf T85) 40 fuel (((flat (bodyOf Tryz.f85)).drop 0).take 2) e w (fun e w => Y0 (e 0) (e 3) (e 6) w) (endD Tryz.prog [.tmp 4, .tmp 5] K) noE := by intro Y0; kernel_rfl
  exact seg 2 (Eq.mp (e1 (fun a0 a3 a6 w => F85_2 a0 a3 a6 w K)) h) (fun e w h => ok85_2 hn hr he e w h) hr he
def F85 (x0 x1 : Value) (w : World) (K : V1) : Prop := F85_1 x0 x1 w K
def G85 : FnT := fun args w K => on2 (fun x0 x1 => F85 x0 x1 w K) args
theorem c85 {x0 x1 : Value} {w : World} {K : V1} (h : F85 x0 x1 w K) : callP G85 [x0, x1] w K := callP_intro (on2_mk (p := fun x0 x1 => F85 x0 x1 w K) h)
theorem ok85 : OkF Tryz.prog 85 G85 := by
  refine okF_of (tab_ok (l := T85) ⟨ok134, ok135, ok136, trivial⟩) mixed (n := fuel) Tryz.func85 Tryz.call85 fun args w K h => ?_
  obtain ⟨x0, x1, rfl, hh⟩ := of_on2 h
  unfold F85 at hh
  exact fnD_list (c := bodyOf Tryz.f85) (by kernel_rfl) (by kernel_rfl) (ok85_1 (fun _ _ h => h) (fun _ _ h => h) (fun _ _ _ h => h) (initE [x0, x1]) w hh)
def T49 : List (Nat × FnT) := [(82, G82), (83, G83), (84, G84), (85, G85)]
def F49_4b (s2 s4 : Value) (w : World) (K : V1) : Prop :=
bindP (ldN 3 s4 w) fun v1 =>
bindW (st 3 s2 v1 w) fun w2 =>
bindP (ldN 3 s2 w2) fun v4 =>
K (.tuple #[v4, (.bool true)]) w2
def F49_4 (s2 s4 : Value) (w : World) (K : V1) : Prop := F49_4b s2 s4 w K
theorem ok49_4 {K : V1}
    (hn : ∀ e w, (fun e w => bindP (ldN 3 (e 2) w) fun v6 =>
K (.tuple #[v6, (e 3)]) w) e w → kn e w) (hr : ∀ e w, endD Tryz.prog [.cell 2 142, .tmp 3] K e w → kr e w) (he : ∀ i e w, noE i e w → ke i e w) :
    ∀ e w, F49_4 (e 2) (e 4) w K → denL Tryz.prog (tabOf T49) 88 fuel ((flat (bodyOf Tryz.f49)).drop 8) e w kn kr ke := by
  intro e w h
  unfold F49_4 at h
  have e1 : ∀ (_ : Unit), F49_4b (e 2) (e 4) w K = denL Tryz.prog (tabOf T49) 88 fuel ((flat (bodyOf Tryz.f49)).drop 8) e w (fun e w => bindP (ldN 3 (e 2) w) fun v5 =>
K (.tuple #[v5, (e 3)]) w) (endD Tryz.prog [.cell 2 142, .tmp 3] K) noE := by intro _; kernel_rfl
  exact seg_end (Eq.mp (e1 ()) h) hn hr he
def F49_3b (s2 s4 : Value) (w : World) (_K : V1) (Y0 : V2) : Prop :=
bindP (pFieldAddr 1 s4) fun v7 =>
bindP (ld1 v7 w) fun v8 =>
bindP (bEq Tryz.prog 95 (.tmp 83) (.const .nilFunc) v8 .nilFunc) fun v9 =>
ifB v9 (
callP G83 [(.string ⟨#[105, 100]⟩)] w fun v11 w10 =>
bindP (pFieldAddr 1 s4) fun v12 =>
bindW (st 1 v12 v11 w10) fun w13 =>
Y0 s2 s4 w13) (
Y0 s2 s4 w)
def F49_3 (s2 s4 : Value) (w : World) (K : V1) : Prop := F49_3b s2 s4 w K (fun a2 a4 w => F49_4 a2 a4 w K)
theorem ok49_3 {K : V1}
    (hn : ∀ e w, (fun e w => bindP (ldN 3 (e 2) w) fun v15 =>
K (.tuple #[v15, (e 3)]) w) e w → kn e w) (hr : ∀ e w, endD Tryz.prog [.cell 2 142, .tmp 3] K e w → kr e w) (he : ∀ i e w, noE i e w → ke i e w) :
    ∀ e w, F49_3 (e 2) (e 4) w K → denL Tryz.prog (tabOf T49) 88 fuel ((flat (bodyOf Tryz.f49)).drop 6) e w kn kr ke := by
  intro e w h
  unfold F49_3 at h
  have e1 : ∀ (Y0 : V2), F49_3b (e 2) (e 4) w K Y0 = denL Tryz.prog (tabOf T49) 88 fuel (((flat (bodyOf Tryz.f49)).drop 6).take 2) e w (fun e w => Y0 (e 2) (e 4) w) (endD Tryz.prog [.cell 2 142, .tmp 3] K) noE := by intro Y0; kernel_rfl
  exact seg 2 (Eq.mp (e1 (fun a2 a4 w => F49_4 a2 a4 w K)) h) (fun e w h => ok49_4 hn hr he e w h) hr he
def F49_6b (s0 s2 s4 s5 : Value) (w : World) (_K : V1) (R4 : V4) : Prop :=
bindP (bAdd s5 (.int .i64 2)) fun v16 =>
R4 s0 s2 s4 v16 w
def F49_6 (s0 s2 s4 s5 : Value) (w : World) (K : V1) (R4 : V4) : Prop := F49_6b s0 s2 s4 s5 w K R4
theorem ok49_6 (R4 : V4) {K : V1}
    (hn : HN (fun e w => R4 (e 0) (e 2) (e 4) (e 5) w) kn) (hr : HR Tryz.prog [.cell 2 142, .tmp 3] K kr) (he : HE (blkK 0 (fun e w => F49_3 (e 2) (e 4) w K) noE) ke) :
    ∀ e w, F49_6 (e 0) (e 2) (e 4) (e 5) w K R4 → denL Tryz.prog (tabOf T49) 88 fuel ((flat (loopB (blkB (nthC (flat (bodyOf Tryz.f49)) 5)))).drop 3) e w kn kr ke := by
  intro e w h
  unfold F49_6 at h
  have e1 : ∀ (_ : Unit), F49_6b (e 0) (e 2) (e 4) (e 5) w K R4 = denL Tryz.prog (tabOf T49) 88 fuel ((flat (loopB (blkB (nthC (flat (bodyOf Tryz.f49)) 5)))).drop 3) e w (fun e w => R4 (e 0) (e 2) (e 4) (e 5) w) (endD Tryz.prog [.cell 2 142, .tmp 3] K) (blkK 0 (fun e w => F49_3 (e 2) (e 4) w K) noE) := by intro _; kernel_rfl
  exact seg_end (Eq.mp (e1 ()) h) hn hr he
def F49_5b (s0 s2 s4 s5 : Value) (w : World) (K : V1) (R4 : V4) (Y0 : V4) (Y1 : V2) : Prop :=
bindP (lenL s0) fun v17 =>
bindP (bLt s5 v17) fun v18 =>
ifB v18 (
bindP (pIndexL 1 s0 s5) fun v19 =>
bindP (ld1 v19 w.drew) fun v20 =>
bindP (bAdd s5 (.int .i64 1)) fun v21 =>
bindP (pIndexL 1 s0 v21) fun v22 =>
bindP (ld1 v22 w.drew) fun v23 =>
bindP (bEq Tryz.prog 9 (.tmp 49) (.const (.string ⟨#[111, 114, 100, 101, 114]⟩)) v20 (.string ⟨#[111, 114, 100, 101, 114]⟩)) fun v24 =>
Sx.stepG (gd true v24) (pFieldAddr 1 s4) fun v25 =>
Sx.stepG (gd true v24) (ld1 v25 w.drew) fun v26 =>
Sx.stepG (gd true v24) (bEq Tryz.prog 95 (.tmp 53) (.const .nilFunc) v26 .nilFunc) fun v27 =>
bindP (pPick v24 v27 (.bool false)) fun v28 =>
stepM (gd true v28) v23 fun v29 =>
stepE (gd true v28) (fun k => callP G82 [v29] w.drew k) w.drew fun v31 w30 =>
Sx.stepG (gd true v28) (bNe Tryz.prog 183 (.tmp 58) (.const .nilFunc) v31 .nilFunc) fun v32 =>
bindP (pPick v28 v32 (.bool false)) fun v33 =>
ifB v33 (
callP G83 [v23] w30 fun v35 w34 =>
bindP (pFieldAddr 1 s4) fun v36 =>
bindW (st 1 v36 v35 w34) fun w37 =>
Y0 s0 s2 s4 s5 w37) (
bindP (bEq Tryz.prog 9 (.tmp 65) (.const (.string ⟨#[108, 105, 109, 105, 116]⟩)) v20 (.string ⟨#[108, 105, 109, 105, 116]⟩)) fun v39 =>
Sx.stepG (gd true v39) (pFieldAddr 2 s4) fun v40 =>
Sx.stepG (gd true v39) (ld1 v40 w30) fun v41 =>
Sx.stepG (gd true v39) (bLt v41 (.int .i64 0)) fun v42 =>
bindP (pPick v39 v42 (.bool false)) fun v43 =>
ifB v43 (
callP G84 [v23] w30 fun v45 w44 =>
bindP (pTuple v45 0) fun v46 =>
bindP (pTuple v45 1) fun v47 =>
bindP (uNot v47) fun v48 =>
ifB v48 (
bindP (ldN 3 s4 w44) fun v49 =>
bindW (st 3 s2 v49 w44) fun w50 =>
bindP (ldN 3 s2 w50) fun v52 =>
K (.tuple #[v52, (.bool false)]) w50) (
bindP (pFieldAddr 2 s4) fun v53 =>
bindW (st 1 v53 v46 w44) fun w54 =>
Y0 s0 s2 s4 s5 w54)) (
callP G85 [v20, v23] w30 fun v57 w56 =>
bindP (pTuple v57 0) fun v58 =>
bindP (pTuple v57 1) fun v59 =>
bindP (uNot v59) fun v60 =>
ifB v60 (
bindP (ldN 3 s4 w56) fun v61 =>
bindW (st 3 s2 v61 w56) fun w62 =>
bindP (ldN 3 s2 w62) fun v64 =>
K (.tuple #[v64, (.bool false)]) w62) (
bindP (pFieldAddr 0 s4) fun v65 =>
bindP (ld1 v65 w56) fun v66 =>
eBuildSl Tryz.prog 140 1 [(0, v58)] w56 fun v68 w67 =>
eAppend Tryz.prog 140 140 v66 v68 w67 fun v70 w69 =>
bindP (pFieldAddr 0 s4) fun v71 =>
bindW (st 1 v71 v70 w69) fun w72 =>
Y0 s0 s2 s4 s5 w72)))) (
Y1 s2 s4 w)
def F49_5 (s0 s2 s4 s5 : Value) (w : World) (K : V1) (R4 : V4) : Prop := F49_5b s0 s2 s4 s5 w K R4 (fun a0 a2 a4 a5 w => F49_6 a0 a2 a4 a5 w K R4) (fun a2 a4 w => F49_3 a2 a4 w K)
theorem ok49_5 (R4 : V4) {K : V1}
    (hn : HN (fun e w => R4 (e 0) (e 2) (e 4) (e 5) w) kn) (hr : HR Tryz.prog [.cell 2 142, .tmp 3] K kr) (he : HE (blkK 0 (fun e w => F49_3 (e 2) (e 4) w K) noE) ke) :
    ∀ e w, F49_5 (e 0) (e 2) (e 4) (e 5) w K R4 → denL Tryz.prog (tabOf T49) 88 fuel ((flat (loopB (blkB (nthC (flat (bodyOf Tryz.f49)) 5)))).drop 0) e w kn kr ke := by
  intro e w h
  unfold F49_5 at h
  have e1 : ∀ (Y0 : V4) (Y1 : V2), F49_5b (e 0) (e 2) (e 4) (e 5) w K R4 Y0 Y1 = denL Tryz.prog (tabOf T49) 88 fuel (((flat (loopB (blkB (nthC (flat (bodyOf Tryz.f49)) 5)))).drop 0).take 3) e w (fun e w => Y0 (e 0) (e 2) (e 4) (e 5) w) (endD Tryz.prog [.cell 2 142, .tmp 3] K) (blkK 0 (fun e w => Y1 (e 2) (e 4) w) noE) := by intro Y0 Y1; kernel_rfl
  exact seg 3 (Eq.mp (e1 (fun a0 a2 a4 a5 w => F49_6 a0 a2 a4 a5 w K R4) (fun a2 a4 w => F49_3 a2 a4 w K)) h) (fun e w h => ok49_6 R4 hn hr he e w h) hr he
def F49_2L : Nat → Value → Value → Value → Value → World → (V1) → Prop
  | 0, _, _, _, _, _, _ => False
  | n + 1, s0, s2, s4, s5, w, K => F49_5 s0 s2 s4 s5 w K (fun a0 a2 a4 a5 w => F49_2L n a0 a2 a4 a5 w K)
def F49_2 (s0 s2 s4 s5 : Value) (w : World) (K : V1) : Prop := F49_2L fuel s0 s2 s4 s5 w K
theorem ok49_2 {K : V1}
    (hn : ∀ e w, (fun e w => bindP (ldN 3 (e 2) w) fun v74 =>
K (.tuple #[v74, (e 3)]) w) e w → kn e w) (hr : ∀ e w, endD Tryz.prog [.cell 2 142, .tmp 3] K e w → kr e w) (he : ∀ i e w, noE i e w → ke i e w) :
    ∀ e w, F49_2 (e 0) (e 2) (e 4) (e 5) w K → denL Tryz.prog (tabOf T49) 88 fuel ((flat (bodyOf Tryz.f49)).drop 5) e w kn kr ke := by
  intro e w h
  unfold F49_2 at h
  refine seg_loop (id := 0) (body := (loopB (blkB (nthC (flat (bodyOf Tryz.f49)) 5)))) (l2 := (flat (bodyOf Tryz.f49)).drop 6) (by kernel_rfl) ?_
  refine loop_ok (FL := fun m e w => F49_2L m (e 0) (e 2) (e 4) (e 5) w K) (fr := endD Tryz.prog [.cell 2 142, .tmp 3] K) (fe := (blkK 0 (fun e w => F49_3 (e 2) (e 4) w K) noE)) (fun _ _ h => h) ?_ hr (blkK_mono (fun e w h => ok49_3 hn hr he e w h) he) fuel e w h
  intro m e w h
  have h : F49_2L (m + 1) (e 0) (e 2) (e 4) (e 5) w K := h
  rw [F49_2L] at h
  exact ok49_5 (fun a0 a2 a4 a5 w => F49_2L m a0 a2 a4 a5 w K) (fun _ _ h => h) (fun _ _ h => h) (fun _ _ _ h => h) e w h
def F49_1b (s0 : Value) (w : World) (K : V1) (Y0 : V4) : Prop :=
eAlloc Tryz.prog 142 w fun v76 w75 =>
bindP (fBuild Tryz.prog 142 [(2, (.int .i64 (-1)))]) fun v77 =>
eAlloc Tryz.prog 142 w75 fun v79 w78 =>
bindW (st 3 v79 v77 w78) fun w80 =>
bindP (lenL s0) fun v82 =>
bindP (bRem v82 (.int .i64 2)) fun v83 =>
bindP (bNe Tryz.prog 3 (.tmp 15) (.const (.int .i64 0)) v83 (.int .i64 0)) fun v84 =>
ifB v84 (
bindP (ldN 3 v79 w80) fun v85 =>
bindW (st 3 v76 v85 w80) fun w86 =>
bindP (ldN 3 v76 w86) fun v88 =>
K (.tuple #[v88, (.bool false)]) w86) (
Y0 s0 v76 v79 (.int .i64 0) w80)
def F49_1 (s0 : Value) (w : World) (K : V1) : Prop := F49_1b s0 w K (fun a0 a2 a4 a5 w => F49_2 a0 a2 a4 a5 w K)
theorem ok49_1 {K : V1}
    (hn : ∀ e w, (fun e w => bindP (ldN 3 (e 2) w) fun v89 =>
K (.tuple #[v89, (e 3)]) w) e w → kn e w) (hr : ∀ e w, endD Tryz.prog [.cell 2 142, .tmp 3] K e w → kr e w) (he : ∀ i e w, noE i e w → ke i e w) :
    ∀ e w, F49_1 (e 0) w K → denL Tryz.prog (tabOf T49) 88 fuel ((flat (bodyOf Tryz.f49)).drop 0) e w kn kr ke := by
  intro e w h
  unfold F49_1 at h
  have e1 : ∀ (Y0 : V4), F49_1b (e 0) w K Y0 = denL Tryz.prog (tabOf T49) 88 fuel (((flat (bodyOf Tryz.f49)).drop 0).take 5) e w (fun e w => Y0 (e 0) (e 2) (e 4) (e 5) w) (endD Tryz.prog [.cell 2 142, .tmp 3] K) noE := by intro Y0; kernel_rfl
  exact seg 5 (Eq.mp (e1 (fun a0 a2 a4 a5 w => F49_2 a0 a2 a4 a5 w K)) h) (fun e w h => ok49_2 hn hr he e w h) hr he
def F49 (x0 : Value) (w : World) (K : V1) : Prop := F49_1 x0 w K
def G49 : FnT := fun args w K => on1 (fun x0 => F49 x0 w K) args
theorem c49 {x0 : Value} {w : World} {K : V1} (h : F49 x0 w K) : callP G49 [x0] w K := callP_intro (on1_mk (p := fun x0 => F49 x0 w K) h)
theorem ok49 : OkF Tryz.prog 49 G49 := by
  refine okF_of (tab_ok (l := T49) ⟨ok82, ok83, ok84, ok85, trivial⟩) mixed (n := fuel) Tryz.func49 Tryz.call49 fun args w K h => ?_
  obtain ⟨x0, rfl, hh⟩ := of_on1 h
  unfold F49 at hh
  exact fnD_list (c := bodyOf Tryz.f49) (by kernel_rfl) (by kernel_rfl) (ok49_1 (fun _ _ h => h) (fun _ _ h => h) (fun _ _ _ h => h) (initE [x0]) w hh)
def T52 : List (Nat × FnT) := [(84, G84)]
def F52 (x0 : Value) (w : World) (K : V1) : Prop :=
eAlloc Tryz.prog 98 w fun v2 w1 =>
bindP (lenL x0) fun v3 =>
bindP (bNe Tryz.prog 3 (.tmp 7) (.const (.int .i64 1)) v3 (.int .i64 1)) fun v4 =>
ifB v4 (
bindP (fBuild Tryz.prog 98 []) fun v5 =>
bindW (st 1 v2 v5 w1) fun w6 =>
bindP (ldN 1 v2 w6) fun v8 =>
K (.tuple #[v8, (.bool false)]) w6) (
bindP (pIndexL 1 x0 (.int .i64 0)) fun v9 =>
bindP (ld1 v9 w1) fun v10 =>
callP G84 [v10] w1 fun v12 w11 =>
bindP (pTuple v12 0) fun v13 =>
bindP (pTuple v12 1) fun v14 =>
eAlloc Tryz.prog 3 w11 fun v16 w15 =>
bindW (st 1 v16 v13 w15) fun w17 =>
bindP (some (.func (.func 87) #[] #[v16])) fun v19 =>
bindP (fBuild Tryz.prog 98 [(0, v19)]) fun v20 =>
bindW (st 1 v2 v20 w17) fun w21 =>
bindP (ldN 1 v2 w21) fun v23 =>
K (.tuple #[v23, v14]) w21)
def G52 : FnT := fun args w K => on1 (fun x0 => F52 x0 w K) args
theorem c52 {x0 : Value} {w : World} {K : V1} (h : F52 x0 w K) : callP G52 [x0] w K := callP_intro (on1_mk (p := fun x0 => F52 x0 w K) h)
theorem ok52 : OkF Tryz.prog 52 G52 := by
  refine okF_of (tab_ok (l := T52) ⟨ok84, trivial⟩) mixed (n := fuel) Tryz.func52 Tryz.call52 fun args w K h => ?_
  obtain ⟨x0, rfl, hh⟩ := of_on1 h
  exact fnD_list (c := bodyOf Tryz.f52) (by kernel_rfl) (by kernel_rfl) (Eq.mp (by kernel_rfl) hh)
def T26 : List (Nat × FnT) := [(48, G48), (49, G49), (52, G52)]
def F26 (x0 : Value) (w : World) (K : V1) : Prop :=
eAlloc Tryz.prog 98 w fun v2 w1 =>
callP G48 [x0] w1 fun v4 w3 =>
bindP (lenL v4) fun v5 =>
bindP (bEq Tryz.prog 3 (.tmp 12) (.const (.int .i64 0)) v5 (.int .i64 0)) fun v6 =>
ifB v6 (
bindP (fBuild Tryz.prog 98 []) fun v7 =>
bindW (st 1 v2 v7 w3) fun w8 =>
bindP (ldN 1 v2 w8) fun v10 =>
K (.tuple #[v10, (.bool false)]) w8) (
bindP (pIndexL 1 v4 (.int .i64 0)) fun v11 =>
bindP (ld1 v11 w3) fun v12 =>
bindP (bEq Tryz.prog 9 (.tmp 17) (.const (.string ⟨#[108, 105, 115, 116]⟩)) v12 (.string ⟨#[108, 105, 115, 116]⟩)) fun v13 =>
ifB v13 (
bindP (pSliceL 1 v4 (some (.int .i64 1)) none none) fun v14 =>
callP G49 [v14] w3 fun v16 w15 =>
bindP (pTuple v16 0) fun v17 =>
bindP (pTuple v16 1) fun v18 =>
eAlloc Tryz.prog 142 w15 fun v20 w19 =>
bindW (st 3 v20 v17 w19) fun w21 =>
bindP (ldN 3 v20 w21) fun v23 =>
bindP (some (.func (.func 50) #[v23] #[])) fun v24 =>
bindP (fBuild Tryz.prog 98 [(0, v24)]) fun v25 =>
bindW (st 1 v2 v25 w21) fun w26 =>
bindP (ldN 1 v2 w26) fun v28 =>
K (.tuple #[v28, v18]) w26) (
bindP (bEq Tryz.prog 9 (.tmp 17) (.const (.string ⟨#[99, 111, 117, 110, 116]⟩)) v12 (.string ⟨#[99, 111, 117, 110, 116]⟩)) fun v29 =>
ifB v29 (
bindP (pSliceL 1 v4 (some (.int .i64 1)) none none) fun v30 =>
callP G49 [v30] w3 fun v32 w31 =>
bindP (pTuple v32 0) fun v33 =>
bindP (pTuple v32 1) fun v34 =>
eAlloc Tryz.prog 142 w31 fun v36 w35 =>
bindW (st 3 v36 v33 w35) fun w37 =>
bindP (ldN 3 v36 w37) fun v39 =>
bindP (some (.func (.func 51) #[v39] #[])) fun v40 =>
bindP (fBuild Tryz.prog 98 [(0, v40)]) fun v41 =>
bindW (st 1 v2 v41 w37) fun w42 =>
bindP (ldN 1 v2 w42) fun v44 =>
K (.tuple #[v44, v34]) w42) (
bindP (bEq Tryz.prog 9 (.tmp 17) (.const (.string ⟨#[115, 104, 111, 119]⟩)) v12 (.string ⟨#[115, 104, 111, 119]⟩)) fun v45 =>
ifB v45 (
bindP (pSliceL 1 v4 (some (.int .i64 1)) none none) fun v46 =>
callP G52 [v46] w3 fun v48 w47 =>
bindP (pTuple v48 0) fun v49 =>
bindP (pTuple v48 1) fun v50 =>
bindW (st 1 v2 v49 w47) fun w51 =>
bindP (ldN 1 v2 w51) fun v53 =>
K (.tuple #[v53, v50]) w51) (
bindP (bEq Tryz.prog 9 (.tmp 17) (.const (.string ⟨#[115, 116, 97, 116, 115]⟩)) v12 (.string ⟨#[115, 116, 97, 116, 115]⟩)) fun v54 =>
ifB v54 (
bindP (fBuild Tryz.prog 98 [(0, (.func (.func 53) #[] #[]))]) fun v55 =>
bindP (lenL v4) fun v56 =>
bindP (bEq Tryz.prog 3 (.tmp 53) (.const (.int .i64 1)) v56 (.int .i64 1)) fun v57 =>
bindW (st 1 v2 v55 w3) fun w58 =>
bindP (ldN 1 v2 w58) fun v60 =>
K (.tuple #[v60, v57]) w58) (
bindP (fBuild Tryz.prog 98 []) fun v61 =>
bindW (st 1 v2 v61 w3) fun w62 =>
bindP (ldN 1 v2 w62) fun v64 =>
K (.tuple #[v64, (.bool false)]) w62)))))
def G26 : FnT := fun args w K => on1 (fun x0 => F26 x0 w K) args
theorem c26 {x0 : Value} {w : World} {K : V1} (h : F26 x0 w K) : callP G26 [x0] w K := callP_intro (on1_mk (p := fun x0 => F26 x0 w K) h)
theorem ok26 : OkF Tryz.prog 26 G26 := by
  refine okF_of (tab_ok (l := T26) ⟨ok48, ok49, ok52, trivial⟩) mixed (n := fuel) Tryz.func26 Tryz.call26 fun args w K h => ?_
  obtain ⟨x0, rfl, hh⟩ := of_on1 h
  exact fnD_list (c := bodyOf Tryz.f26) (by kernel_rfl) (by kernel_rfl) (Eq.mp (by kernel_rfl) hh)
def T127 : List (Nat × FnT) := []
def F127 (x0 : Value) (w : World) (K : V1) : Prop :=
eBox 45 x0 w fun _ w1 =>
K (.int .i64 0) w1
def G127 : FnT := fun args w K => on1 (fun x0 => F127 x0 w K) args
theorem c127 {x0 : Value} {w : World} {K : V1} (h : F127 x0 w K) : callP G127 [x0] w K := callP_intro (on1_mk (p := fun x0 => F127 x0 w K) h)
theorem ok127 : OkF Tryz.prog 127 G127 := by
  refine okF_of (tab_ok (l := T127) trivial) mixed (n := fuel) Tryz.func127 Tryz.call127 fun args w K h => ?_
  obtain ⟨x0, rfl, hh⟩ := of_on1 h
  exact fnD_list (c := bodyOf Tryz.f127) (by kernel_rfl) (by kernel_rfl) (Eq.mp (by kernel_rfl) hh)
def T128 : List (Nat × FnT) := []
def F128 (x0 : Value) (w : World) (K : V1) : Prop :=
eBox 45 x0 w fun v2 w1 =>
bindP (pFieldAddr 8 v2) fun v3 =>
bindP (ld1 v3 w1) fun v4 =>
K v4 w1
def G128 : FnT := fun args w K => on1 (fun x0 => F128 x0 w K) args
theorem c128 {x0 : Value} {w : World} {K : V1} (h : F128 x0 w K) : callP G128 [x0] w K := callP_intro (on1_mk (p := fun x0 => F128 x0 w K) h)
theorem ok128 : OkF Tryz.prog 128 G128 := by
  refine okF_of (tab_ok (l := T128) trivial) mixed (n := fuel) Tryz.func128 Tryz.call128 fun args w K h => ?_
  obtain ⟨x0, rfl, hh⟩ := of_on1 h
  exact fnD_list (c := bodyOf Tryz.f128) (by kernel_rfl) (by kernel_rfl) (Eq.mp (by kernel_rfl) hh)
def T129 : List (Nat × FnT) := []
def F129 (x0 : Value) (w : World) (K : V1) : Prop :=
eBox 45 x0 w fun v2 w1 =>
bindP (pFieldAddr 1 v2) fun v3 =>
bindP (pFieldAddr 3 v3) fun v4 =>
bindP (ld1 v4 w1) fun v5 =>
K v5 w1
def G129 : FnT := fun args w K => on1 (fun x0 => F129 x0 w K) args
theorem c129 {x0 : Value} {w : World} {K : V1} (h : F129 x0 w K) : callP G129 [x0] w K := callP_intro (on1_mk (p := fun x0 => F129 x0 w K) h)
theorem ok129 : OkF Tryz.prog 129 G129 := by
  refine okF_of (tab_ok (l := T129) trivial) mixed (n := fuel) Tryz.func129 Tryz.call129 fun args w K h => ?_
  obtain ⟨x0, rfl, hh⟩ := of_on1 h
  exact fnD_list (c := bodyOf Tryz.f129) (by kernel_rfl) (by kernel_rfl) (Eq.mp (by kernel_rfl) hh)
def T130 : List (Nat × FnT) := []
def F130 (x0 : Value) (w : World) (K : V1) : Prop :=
eBox 45 x0 w fun v2 w1 =>
bindP (pFieldAddr 6 v2) fun v3 =>
bindP (ld1 v3 w1) fun v4 =>
K v4 w1
def G130 : FnT := fun args w K => on1 (fun x0 => F130 x0 w K) args
theorem c130 {x0 : Value} {w : World} {K : V1} (h : F130 x0 w K) : callP G130 [x0] w K := callP_intro (on1_mk (p := fun x0 => F130 x0 w K) h)
theorem ok130 : OkF Tryz.prog 130 G130 := by
  refine okF_of (tab_ok (l := T130) trivial) mixed (n := fuel) Tryz.func130 Tryz.call130 fun args w K h => ?_
  obtain ⟨x0, rfl, hh⟩ := of_on1 h
  exact fnD_list (c := bodyOf Tryz.f130) (by kernel_rfl) (by kernel_rfl) (Eq.mp (by kernel_rfl) hh)
def T137 : List (Nat × FnT) := []
def F137 (x0 x1 : Value) (w : World) (K : V1) : Prop :=
eBox 45 x0 w fun v2 w1 =>
bindP (pFieldAddr 9 v2) fun v3 =>
bindP (ld1 v3 w1) fun v4 =>
bindP (ld1 x1 w1) fun v5 =>
bindP (bEq Tryz.prog 9 (.tmp 6) (.const (.string ⟨#[121, 101, 115]⟩)) v5 (.string ⟨#[121, 101, 115]⟩)) fun v6 =>
bindP (bEq Tryz.prog 4 (.tmp 5) (.tmp 7) v4 v6) fun v7 =>
K v7 w1
def G137 : FnT := fun args w K => on2 (fun x0 x1 => F137 x0 x1 w K) args
theorem ok137 : OkF Tryz.prog 137 G137 := by
  refine okF_of (tab_ok (l := T137) trivial) mixed (n := fuel) Tryz.func137 Tryz.call137 fun args w K h => ?_
  obtain ⟨x0, x1, rfl, hh⟩ := of_on2 h
  exact fnD_list (c := bodyOf Tryz.f137) (by kernel_rfl) (by kernel_rfl) (Eq.mp (by kernel_rfl) hh)
def T183 : List (Nat × FnT) := []
def F183 (x0 x1 : Value) (w : World) (K : V1) : Prop :=
eBox 45 x0 w fun v2 w1 =>
bindP (pFieldAddr 1 v2) fun v3 =>
bindP (pFieldAddr 3 v3) fun v4 =>
bindP (ld1 v4 w1) fun v5 =>
bindP (ld1 x1 w1) fun v6 =>
bindP (bGe v5 v6) fun v7 =>
K v7 w1
def G183 : FnT := fun args w K => on2 (fun x0 x1 => F183 x0 x1 w K) args
theorem c183 {x0 x1 : Value} {w : World} {K : V1} (h : F183 x0 x1 w K) : callP G183 [x0, x1] w K := callP_intro (on2_mk (p := fun x0 x1 => F183 x0 x1 w K) h)
theorem ok183 : OkF Tryz.prog 183 G183 := by
  refine okF_of (tab_ok (l := T183) trivial) mixed (n := fuel) Tryz.func183 Tryz.call183 fun args w K h => ?_
  obtain ⟨x0, x1, rfl, hh⟩ := of_on2 h
  exact fnD_list (c := bodyOf Tryz.f183) (by kernel_rfl) (by kernel_rfl) (Eq.mp (by kernel_rfl) hh)
def T139 : List (Nat × FnT) := [(127, G127), (128, G128), (129, G129), (130, G130), (137, G137), (183, G183)]
def F139 (x0 x1 : Value) (w : World) (K : V1) : Prop :=
bindP (ldN 11 x1 w) fun v1 =>
eCallV (tabOf T139) x0 [v1] w fun v3 w2 =>
bindP (uNot v3) fun v4 =>
K v4 w2
def G139 : FnT := fun args w K => on2 (fun x0 x1 => F139 x0 x1 w K) args
theorem c139 {x0 x1 : Value} {w : World} {K : V1} (h : F139 x0 x1 w K) : callP G139 [x0, x1] w K := callP_intro (on2_mk (p := fun x0 x1 => F139 x0 x1 w K) h)
theorem ok139 : OkF Tryz.prog 139 G139 := by
  refine okF_of (tab_ok (l := T139) ⟨ok127, ok128, ok129, ok130, ok137, ok183, trivial⟩) mixed (n := fuel) Tryz.func139 Tryz.call139 fun args w K h => ?_
  obtain ⟨x0, x1, rfl, hh⟩ := of_on2 h
  exact fnD_list (c := bodyOf Tryz.f139) (by kernel_rfl) (by kernel_rfl) (Eq.mp (by kernel_rfl) hh)
def T186 : List (Nat × FnT) := [(139, G139)]
def F186_3b (w : World) (K : V1) : Prop :=
K (.int .i64 (-1)) w
def F186_3 (w : World) (K : V1) : Prop := F186_3b w K
theorem ok186_3 {K : V1}
    (hn : HN (fun e w => K (e 4) w) kn) (hr : HR Tryz.prog [.tmp 4] K kr) (he : HE noE ke) :
    ∀ e w, F186_3 w K → denL Tryz.prog (tabOf T186) 19 fuel ((flat (bodyOf Tryz.f186)).drop 3) e w kn kr ke := by
  intro e w h
  unfold F186_3 at h
  have e1 : ∀ (_ : Unit), F186_3b w K = denL Tryz.prog (tabOf T186) 19 fuel ((flat (bodyOf Tryz.f186)).drop 3) e w (fun e w => K (e 4) w) (endD Tryz.prog [.tmp 4] K) noE := by intro _; kernel_rfl
  exact seg_end (Eq.mp (e1 ()) h) hn hr he
def F186_2b (s0 s1 s7 s8 : Value) (w : World) (K : V1) (Y0 : V4) (Y1 : V0) : Prop :=
bindP (bLt s8 s7) fun v1 =>
ifB v1 (
bindP (pIndexL 1 s0 s8) fun v2 =>
bindP (ld1 v2 w) fun v3 =>
eCallV (tabOf T186) s1 [v3] w fun v5 w4 =>
ifB v5 (
K s8 w4) (
bindP (bAdd s8 (.int .i64 1)) fun v6 =>
Y0 s0 s1 s7 v6 w4)) (
Y1 w)
def F186_2L : Nat → Value → Value → Value → Value → World → (V1) → Prop
  | 0, _, _, _, _, _, _ => False
  | n + 1, s0, s1, s7, s8, w, K => F186_2b s0 s1 s7 s8 w K (fun a0 a1 a7 a8 w => F186_2L n a0 a1 a7 a8 w K) (fun w => F186_3 w K)
def F186_2 (s0 s1 s7 s8 : Value) (w : World) (K : V1) : Prop := F186_2L fuel s0 s1 s7 s8 w K
theorem ok186_2 {K : V1}
    (hn : HN (fun e w => K (e 4) w) kn) (hr : HR Tryz.prog [.tmp 4] K kr) (he : HE noE ke) :
    ∀ e w, F186_2 (e 0) (e 1) (e 7) (e 8) w K → denL Tryz.prog (tabOf T186) 19 fuel ((flat (bodyOf Tryz.f186)).drop 2) e w kn kr ke := by
  intro e w h
  unfold F186_2 at h
  refine seg_loop (id := 0) (body := (loopB (blkB (nthC (flat (bodyOf Tryz.f186)) 2)))) (l2 := (flat (bodyOf Tryz.f186)).drop 3) (by kernel_rfl) ?_
  refine loop_ok (FL := fun m e w => F186_2L m (e 0) (e 1) (e 7) (e 8) w K) (fr := endD Tryz.prog [.tmp 4] K) (fe := (blkK 0 (fun e w => F186_3 w K) noE)) (fun _ _ h => h) ?_ hr (blkK_mono (fun e w h => ok186_3 hn hr he e w h) he) fuel e w h
  intro m e w h
  have h : F186_2L (m + 1) (e 0) (e 1) (e 7) (e 8) w K := h
  rw [F186_2L] at h
  have e1 : ∀ (Y0 : V4) (Y1 : V0), F186_2b (e 0) (e 1) (e 7) (e 8) w K Y0 Y1 = denL Tryz.prog (tabOf T186) 19 fuel (flat (loopB (blkB (nthC (flat (bodyOf Tryz.f186)) 2)))) e w (fun e w => Y0 (e 0) (e 1) (e 7) (e 8) w) (endD Tryz.prog [.tmp 4] K) (blkK 0 (fun e w => Y1 w) noE) := by intro Y0 Y1; kernel_rfl
  exact Eq.mp (e1 (fun a0 a1 a7 a8 w => F186_2L m a0 a1 a7 a8 w K) (fun w => F186_3 w K)) h
def F186_1b (s0 s1 : Value) (w : World) (_K : V1) (Y0 : V4) : Prop :=
bindP (lenL s0) fun v7 =>
Y0 s0 s1 v7 (.int .i64 0) w
def F186_1 (s0 s1 : Value) (w : World) (K : V1) : Prop := F186_1b s0 s1 w K (fun a0 a1 a7 a8 w => F186_2 a0 a1 a7 a8 w K)
theorem ok186_1 {K : V1}
    (hn : HN (fun e w => K (e 4) w) kn) (hr : HR Tryz.prog [.tmp 4] K kr) (he : HE noE ke) :
    ∀ e w, F186_1 (e 0) (e 1) w K → denL Tryz.prog (tabOf T186) 19 fuel ((flat (bodyOf Tryz.f186)).drop 0) e w kn kr ke := by
  intro e w h
  unfold F186_1 at h
  have e1 : ∀ (Y0 : V4), F186_1b (e 0) (e 1) w K Y0 = denL Tryz.prog (tabOf T186) 19 fuel (((flat (bodyOf Tryz.f186)).drop 0).take 2) e w (fun e w => Y0 (e 0) (e 1) (e 7) (e 8) w) (endD Tryz.prog [.tmp 4] K) noE := by intro Y0; kernel_rfl
  exact seg 2 (Eq.mp (e1 (fun a0 a1 a7 a8 w => F186_2 a0 a1 a7 a8 w K)) h) (fun e w h => ok186_2 hn hr he e w h) hr he
def F186 (x0 x1 : Value) (w : World) (K : V1) : Prop := F186_1 x0 x1 w K
def G186 : FnT := fun args w K => on2 (fun x0 x1 => F186 x0 x1 w K) args
theorem c186 {x0 x1 : Value} {w : World} {K : V1} (h : F186 x0 x1 w K) : callP G186 [x0, x1] w K := callP_intro (on2_mk (p := fun x0 x1 => F186 x0 x1 w K) h)
theorem ok186 : OkF Tryz.prog 186 G186 := by
  refine okF_of (tab_ok (l := T186) ⟨ok139, trivial⟩) mixed (n := fuel) Tryz.func186 Tryz.call186 fun args w K h => ?_
  obtain ⟨x0, x1, rfl, hh⟩ := of_on2 h
  unfold F186 at hh
  exact fnD_list (c := bodyOf Tryz.f186) (by kernel_rfl) (by kernel_rfl) (ok186_1 (fun _ _ h => h) (fun _ _ h => h) (fun _ _ _ h => h) (initE [x0, x1]) w hh)
def T138 : List (Nat × FnT) := [(186, G186)]
def F138 (x0 x1 : Value) (w : World) (K : V1) : Prop :=
callP G186 [x0, x1] w fun v2 w1 =>
bindP (bGe v2 (.int .i64 0)) fun v3 =>
K v3 w1
def G138 : FnT := fun args w K => on2 (fun x0 x1 => F138 x0 x1 w K) args
theorem c138 {x0 x1 : Value} {w : World} {K : V1} (h : F138 x0 x1 w K) : callP G138 [x0, x1] w K := callP_intro (on2_mk (p := fun x0 x1 => F138 x0 x1 w K) h)
theorem ok138 : OkF Tryz.prog 138 G138 := by
  refine okF_of (tab_ok (l := T138) ⟨ok186, trivial⟩) mixed (n := fuel) Tryz.func138 Tryz.call138 fun args w K h => ?_
  obtain ⟨x0, x1, rfl, hh⟩ := of_on2 h
  exact fnD_list (c := bodyOf Tryz.f138) (by kernel_rfl) (by kernel_rfl) (Eq.mp (by kernel_rfl) hh)
def T86 : List (Nat × FnT) := [(45, G45), (138, G138)]
def F86_4b (s5 : Value) (w : World) (K : V1) : Prop :=
K s5 w
def F86_4 (s5 : Value) (w : World) (K : V1) : Prop := F86_4b s5 w K
theorem ok86_4 {K : V1}
    (hn : HN (fun e w => K (e 4) w) kn) (hr : HR Tryz.prog [.tmp 4] K kr) (he : HE noE ke) :
    ∀ e w, F86_4 (e 5) w K → denL Tryz.prog (tabOf T86) 43 fuel ((flat (bodyOf Tryz.f86)).drop 7) e w kn kr ke := by
  intro e w h
  unfold F86_4 at h
  have e1 : ∀ (_ : Unit), F86_4b (e 5) w K = denL Tryz.prog (tabOf T86) 43 fuel ((flat (bodyOf Tryz.f86)).drop 7) e w (fun e w => K (e 4) w) (endD Tryz.prog [.tmp 4] K) noE := by intro _; kernel_rfl
  exact seg_end (Eq.mp (e1 ()) h) hn hr he
def F86_3b (s2 s5 : Value) (w : World) (_K : V1) (Y0 : V1) : Prop :=
bindP (pFieldAddr 1 s2) fun v1 =>
bindP (ld1 v1 w) fun v2 =>
callP G45 [s5, v2] w fun _ w3 =>
bindP (pFieldAddr 2 s2) fun v5 =>
bindP (ld1 v5 w3) fun v6 =>
bindP (bGe v6 (.int .i64 0)) fun v7 =>
Sx.stepG (gd true v7) (pFieldAddr 2 s2) fun v8 =>
Sx.stepG (gd true v7) (ld1 v8 w3) fun v9 =>
stepM (gd true v7) s5 fun v10 =>
Sx.stepG (gd true v7) (lenL v10) fun v11 =>
Sx.stepG (gd true v7) (bLt v9 v11) fun v12 =>
bindP (pPick v7 v12 (.bool false)) fun v13 =>
ifB v13 (
bindP (pFieldAddr 2 s2) fun v14 =>
bindP (ld1 v14 w3) fun v15 =>
bindP (pSliceL 11 s5 none (some v15) none) fun v16 =>
Y0 v16 w3) (
Y0 s5 w3)
def F86_3 (s2 s5 : Value) (w : World) (K : V1) : Prop := F86_3b s2 s5 w K (fun a5 w => F86_4 a5 w K)
theorem ok86_3 {K : V1}
    (hn : HN (fun e w => K (e 4) w) kn) (hr : HR Tryz.prog [.tmp 4] K kr) (he : HE noE ke) :
    ∀ e w, F86_3 (e 2) (e 5) w K → denL Tryz.prog (tabOf T86) 43 fuel ((flat (bodyOf Tryz.f86)).drop 4) e w kn kr ke := by
  intro e w h
  unfold F86_3 at h
  have e1 : ∀ (Y0 : V1), F86_3b (e 2) (e 5) w K Y0 = denL Tryz.prog (tabOf T86) 43 fuel (((flat (bodyOf Tryz.f86)).drop 4).take 3) e w (fun e w => Y0 (e 5) w) (endD Tryz.prog [.tmp 4] K) noE := by intro Y0; kernel_rfl
  exact seg 3 (Eq.mp (e1 (fun a5 w => F86_4 a5 w K)) h) (fun e w h => ok86_4 hn hr he e w h) hr he
def F86_6b (s2 s5 s8 s9 s10 : Value) (w : World) (_K : V1) (R4 : V5) : Prop :=
bindP (bAdd s10 (.int .i64 1)) fun v17 =>
R4 s2 s5 s8 s9 v17 w
def F86_6 (s2 s5 s8 s9 s10 : Value) (w : World) (K : V1) (R4 : V5) : Prop := F86_6b s2 s5 s8 s9 s10 w K R4
theorem ok86_6 (R4 : V5) {K : V1}
    (hn : HN (fun e w => R4 (e 2) (e 5) (e 8) (e 9) (e 10) w) kn) (hr : HR Tryz.prog [.tmp 4] K kr) (he : HE (blkK 0 (fun e w => F86_3 (e 2) (e 5) w K) noE) ke) :
    ∀ e w, F86_6 (e 2) (e 5) (e 8) (e 9) (e 10) w K R4 → denL Tryz.prog (tabOf T86) 43 fuel ((flat (loopB (blkB (nthC (flat (bodyOf Tryz.f86)) 3)))).drop 3) e w kn kr ke := by
  intro e w h
  unfold F86_6 at h
  have e1 : ∀ (_ : Unit), F86_6b (e 2) (e 5) (e 8) (e 9) (e 10) w K R4 = denL Tryz.prog (tabOf T86) 43 fuel ((flat (loopB (blkB (nthC (flat (bodyOf Tryz.f86)) 3)))).drop 3) e w (fun e w => R4 (e 2) (e 5) (e 8) (e 9) (e 10) w) (endD Tryz.prog [.tmp 4] K) (blkK 0 (fun e w => F86_3 (e 2) (e 5) w K) noE) := by intro _; kernel_rfl
  exact seg_end (Eq.mp (e1 ()) h) hn hr he
def F86_5b (s2 s5 s8 s9 s10 : Value) (w : World) (_K : V1) (R4 : V5) (Y0 : V5) (Y1 : V2) : Prop :=
bindP (bLt s10 s9) fun v18 =>
ifB v18 (
bindP (pIndexL 11 s8 s10) fun v19 =>
bindP (ldN 11 v19 w) fun v20 =>
eAlloc Tryz.prog 45 w fun v22 w21 =>
bindW (st 11 v22 v20 w21) fun w23 =>
bindP (pFieldAddr 0 s2) fun v25 =>
bindP (ld1 v25 w23) fun v26 =>
bindP (some (.func (.func 139) #[] #[v22])) fun v27 =>
callP G138 [v26, v27] w23 fun v29 w28 =>
bindP (uNot v29) fun v30 =>
ifB v30 (
bindP (ldN 11 v22 w28) fun v31 =>
eBuildSl Tryz.prog 22 1 [(0, v31)] w28 fun v33 w32 =>
eAppend Tryz.prog 22 22 s5 v33 w32 fun v35 w34 =>
Y0 s2 v35 s8 s9 s10 w34) (
Y0 s2 s5 s8 s9 s10 w28)) (
Y1 s2 s5 w)
def F86_5 (s2 s5 s8 s9 s10 : Value) (w : World) (K : V1) (R4 : V5) : Prop := F86_5b s2 s5 s8 s9 s10 w K R4 (fun a2 a5 a8 a9 a10 w => F86_6 a2 a5 a8 a9 a10 w K R4) (fun a2 a5 w => F86_3 a2 a5 w K)
theorem ok86_5 (R4 : V5) {K : V1}
    (hn : HN (fun e w => R4 (e 2) (e 5) (e 8) (e 9) (e 10) w) kn) (hr : HR Tryz.prog [.tmp 4] K kr) (he : HE (blkK 0 (fun e w => F86_3 (e 2) (e 5) w K) noE) ke) :
    ∀ e w, F86_5 (e 2) (e 5) (e 8) (e 9) (e 10) w K R4 → denL Tryz.prog (tabOf T86) 43 fuel ((flat (loopB (blkB (nthC (flat (bodyOf Tryz.f86)) 3)))).drop 0) e w kn kr ke := by
  intro e w h
  unfold F86_5 at h
  have e1 : ∀ (Y0 : V5) (Y1 : V2), F86_5b (e 2) (e 5) (e 8) (e 9) (e 10) w K R4 Y0 Y1 = denL Tryz.prog (tabOf T86) 43 fuel (((flat (loopB (blkB (nthC (flat (bodyOf Tryz.f86)) 3)))).drop 0).take 3) e w (fun e w => Y0 (e 2) (e 5) (e 8) (e 9) (e 10) w) (endD Tryz.prog [.tmp 4] K) (blkK 0 (fun e w => Y1 (e 2) (e 5) w) noE) := by intro Y0 Y1; kernel_rfl
  exact seg 3 (Eq.mp (e1 (fun a2 a5 a8 a9 a10 w => F86_6 a2 a5 a8 a9 a10 w K R4) (fun a2 a5 w => F86_3 a2 a5 w K)) h) (fun e w h => ok86_6 R4 hn hr he e w h) hr he
def F86_2L : Nat → Value → Value → Value → Value → Value → World → (V1) → Prop
  | 0, _, _, _, _, _, _, _ => False
  | n + 1, s2, s5, s8, s9, s10, w, K => F86_5 s2 s5 s8 s9 s10 w K (fun a2 a5 a8 a9 a10 w => F86_2L n a2 a5 a8 a9 a10 w K)
def F86_2 (s2 s5 s8 s9 s10 : Value) (w : World) (K : V1) : Prop := F86_2L fuel s2 s5 s8 s9 s10 w K
theorem ok86_2 {K : V1}
    (hn : HN (fun e w => K (e 4) w) kn) (hr : HR Tryz.prog [.tmp 4] K kr) (he : HE noE ke) :
    ∀ e w, F86_2 (e 2) (e 5) (e 8) (e 9) (e 10) w K → denL Tryz.prog (tabOf T86) 43 fuel ((flat (bodyOf Tryz.f86)).drop 3) e w kn kr ke := by
  intro e w h
  unfold F86_2 at h
  refine seg_loop (id := 0) (body := (loopB (blkB (nthC (flat (bodyOf Tryz.f86)) 3)))) (l2 := (flat (bodyOf Tryz.f86)).drop 4) (by kernel_rfl) ?_
  refine loop_ok (FL := fun m e w => F86_2L m (e 2) (e 5) (e 8) (e 9) (e 10) w K) (fr := endD Tryz.prog [.tmp 4] K) (fe := (blkK 0 (fun e w => F86_3 (e 2) (e 5) w K) noE)) (fun _ _ h => h) ?_ hr (blkK_mono (fun e w h => ok86_3 hn hr he e w h) he) fuel e w h
  intro m e w h
  have h : F86_2L (m + 1) (e 2) (e 5) (e 8) (e 9) (e 10) w K := h
  rw [F86_2L] at h
  exact ok86_5 (fun a2 a5 a8 a9 a10 w => F86_2L m a2 a5 a8 a9 a10 w K) (fun _ _ h => h) (fun _ _ h => h) (fun _ _ _ h => h) e w h
def F86_1b (s0 s1 : Value) (w : World) (_K : V1) (Y0 : V5) : Prop :=
eBox 142 s0 w fun v37 w36 =>
bindP (lenL s1) fun v38 =>
Y0 v37 (.slice none 0 0) s1 v38 (.int .i64 0) w36
def F86_1 (s0 s1 : Value) (w : World) (K : V1) : Prop := F86_1b s0 s1 w K (fun a2 a5 a8 a9 a10 w => F86_2 a2 a5 a8 a9 a10 w K)
theorem ok86_1 {K : V1}
    (hn : HN (fun e w => K (e 4) w) kn) (hr : HR Tryz.prog [.tmp 4] K kr) (he : HE noE ke) :
    ∀ e w, F86_1 (e 0) (e 1) w K → denL Tryz.prog (tabOf T86) 43 fuel ((flat (bodyOf Tryz.f86)).drop 0) e w kn kr ke := by
  intro e w h
  unfold F86_1 at h
  have e1 : ∀ (Y0 : V5), F86_1b (e 0) (e 1) w K Y0 = denL Tryz.prog (tabOf T86) 43 fuel (((flat (bodyOf Tryz.f86)).drop 0).take 3) e w (fun e w => Y0 (e 2) (e 5) (e 8) (e 9) (e 10) w) (endD Tryz.prog [.tmp 4] K) noE := by intro Y0; kernel_rfl
  exact seg 3 (Eq.mp (e1 (fun a2 a5 a8 a9 a10 w => F86_2 a2 a5 a8 a9 a10 w K)) h) (fun e w h => ok86_2 hn hr he e w h) hr he
def F86 (x0 x1 : Value) (w : World) (K : V1) : Prop := F86_1 x0 x1 w K
def G86 : FnT := fun args w K => on2 (fun x0 x1 => F86 x0 x1 w K) args
theorem c86 {x0 x1 : Value} {w : World} {K : V1} (h : F86 x0 x1 w K) : callP G86 [x0, x1] w K := callP_intro (on2_mk (p := fun x0 x1 => F86 x0 x1 w K) h)
theorem ok86 : OkF Tryz.prog 86 G86 := by
  refine okF_of (tab_ok (l := T86) ⟨ok45, ok138, trivial⟩) mixed (n := fuel) Tryz.func86 Tryz.call86 fun args w K h => ?_
  obtain ⟨x0, x1, rfl, hh⟩ := of_on2 h
  unfold F86 at hh
  exact fnD_list (c := bodyOf Tryz.f86) (by kernel_rfl) (by kernel_rfl) (ok86_1 (fun _ _ h => h) (fun _ _ h => h) (fun _ _ _ h => h) (initE [x0, x1]) w hh)
def T50 : List (Nat × FnT) := [(7, G7), (8, G8), (11, G11), (86, G86)]
def F50_3b (s6 : Value) (w : World) (K : V1) : Prop :=
K (.tuple #[s6, (.int .i64 0)]) w
def F50_3 (s6 : Value) (w : World) (K : V1) : Prop := F50_3b s6 w K
theorem ok50_3 {K : V1}
    (hn : HN (fun e w => K (.tuple #[(e 4), (e 5)]) w) kn) (hr : HR Tryz.prog [.tmp 4, .tmp 5] K kr) (he : HE noE ke) :
    ∀ e w, F50_3 (e 6) w K → denL Tryz.prog (tabOf T50) 29 fuel ((flat (bodyOf Tryz.f50)).drop 4) e w kn kr ke := by
  intro e w h
  unfold F50_3 at h
  have e1 : ∀ (_ : Unit), F50_3b (e 6) w K = denL Tryz.prog (tabOf T50) 29 fuel ((flat (bodyOf Tryz.f50)).drop 4) e w (fun e w => K (.tuple #[(e 4), (e 5)]) w) (endD Tryz.prog [.tmp 4, .tmp 5] K) noE := by intro _; kernel_rfl
  exact seg_end (Eq.mp (e1 ()) h) hn hr he
def F50_2b (s6 s16 s17 s18 : Value) (w : World) (_K : V1) (Y0 : V4) (Y1 : V1) : Prop :=
bindP (bLt s18 s17) fun v1 =>
ifB v1 (
bindP (pIndexL 11 s16 s18) fun v2 =>
bindP (ldN 11 v2 w) fun v3 =>
eAlloc Tryz.prog 45 w fun v5 w4 =>
bindW (st 11 v5 v3 w4) fun w6 =>
bindP (ldN 11 v5 w6) fun v8 =>
callP G11 [v8] w6 fun v10 w9 =>
eBuildSl Tryz.prog 38 1 [(0, v10)] w9 fun v12 w11 =>
eAppend Tryz.prog 38 38 s6 v12 w11 fun v14 w13 =>
bindP (bAdd s18 (.int .i64 1)) fun v15 =>
Y0 v14 s16 s17 v15 w13) (
Y1 s6 w)
def F50_2L : Nat → Value → Value → Value → Value → World → (V1) → Prop
  | 0, _, _, _, _, _, _ => False
  | n + 1, s6, s16, s17, s18, w, K => F50_2b s6 s16 s17 s18 w K (fun a6 a16 a17 a18 w => F50_2L n a6 a16 a17 a18 w K) (fun a6 w => F50_3 a6 w K)
def F50_2 (s6 s16 s17 s18 : Value) (w : World) (K : V1) : Prop := F50_2L fuel s6 s16 s17 s18 w K
theorem ok50_2 {K : V1}
    (hn : HN (fun e w => K (.tuple #[(e 4), (e 5)]) w) kn) (hr : HR Tryz.prog [.tmp 4, .tmp 5] K kr) (he : HE noE ke) :
    ∀ e w, F50_2 (e 6) (e 16) (e 17) (e 18) w K → denL Tryz.prog (tabOf T50) 29 fuel ((flat (bodyOf Tryz.f50)).drop 3) e w kn kr ke := by
  intro e w h
  unfold F50_2 at h
  refine seg_loop (id := 0) (body := (loopB (blkB (nthC (flat (bodyOf Tryz.f50)) 3)))) (l2 := (flat (bodyOf Tryz.f50)).drop 4) (by kernel_rfl) ?_
  refine loop_ok (FL := fun m e w => F50_2L m (e 6) (e 16) (e 17) (e 18) w K) (fr := endD Tryz.prog [.tmp 4, .tmp 5] K) (fe := (blkK 0 (fun e w => F50_3 (e 6) w K) noE)) (fun _ _ h => h) ?_ hr (blkK_mono (fun e w h => ok50_3 hn hr he e w h) he) fuel e w h
  intro m e w h
  have h : F50_2L (m + 1) (e 6) (e 16) (e 17) (e 18) w K := h
  rw [F50_2L] at h
  have e1 : ∀ (Y0 : V4) (Y1 : V1), F50_2b (e 6) (e 16) (e 17) (e 18) w K Y0 Y1 = denL Tryz.prog (tabOf T50) 29 fuel (flat (loopB (blkB (nthC (flat (bodyOf Tryz.f50)) 3)))) e w (fun e w => Y0 (e 6) (e 16) (e 17) (e 18) w) (endD Tryz.prog [.tmp 4, .tmp 5] K) (blkK 0 (fun e w => Y1 (e 6) w) noE) := by intro Y0 Y1; kernel_rfl
  exact Eq.mp (e1 (fun a6 a16 a17 a18 w => F50_2L m a6 a16 a17 a18 w K) (fun a6 w => F50_3 a6 w K)) h
def F50_1b (s0 s1 : Value) (w : World) (_K : V1) (Y0 : V4) : Prop :=
eBox 142 s0 w fun v17 w16 =>
bindP (ldN 3 v17 w16.drew) fun v18 =>
bindP (pNil s1) fun v19 =>
bindP (pFieldAddr 0 v19) fun v20 =>
bindP (ld1 v20 w16.drew) fun v21 =>
callP G7 [v21] w16.drew fun v23 w22 =>
fok true (ldN 3 v17 w22) v18 ∧ (callP G8 [v23] w22 fun v25 w24 =>
fok true (ldN 3 v17 w24) v18 ∧ (callP G86 [v18, v25] w24 fun v27 w26 =>
bindP (lenL v27) fun v28 =>
Y0 (.slice none 0 0) v27 v28 (.int .i64 0) w26))
def F50_1 (s0 s1 : Value) (w : World) (K : V1) : Prop := F50_1b s0 s1 w K (fun a6 a16 a17 a18 w => F50_2 a6 a16 a17 a18 w K)
theorem ok50_1 {K : V1}
    (hn : HN (fun e w => K (.tuple #[(e 4), (e 5)]) w) kn) (hr : HR Tryz.prog [.tmp 4, .tmp 5] K kr) (he : HE noE ke) :
    ∀ e w, F50_1 (e 0) (e 1) w K → denL Tryz.prog (tabOf T50) 29 fuel ((flat (bodyOf Tryz.f50)).drop 0) e w kn kr ke := by
  intro e w h
  unfold F50_1 at h
  have e1 : ∀ (Y0 : V4), F50_1b (e 0) (e 1) w K Y0 = denL Tryz.prog (tabOf T50) 29 fuel (((flat (bodyOf Tryz.f50)).drop 0).take 3) e w (fun e w => Y0 (e 6) (e 16) (e 17) (e 18) w) (endD Tryz.prog [.tmp 4, .tmp 5] K) noE := by intro Y0; kernel_rfl
  exact seg 3 (Eq.mp (e1 (fun a6 a16 a17 a18 w => F50_2 a6 a16 a17 a18 w K)) h) (fun e w h => ok50_2 hn hr he e w h) hr he
def F50 (x0 x1 : Value) (w : World) (K : V1) : Prop := F50_1 x0 x1 w K
def G50 : FnT := fun args w K => on2 (fun x0 x1 => F50 x0 x1 w K) args
theorem c50 {x0 x1 : Value} {w : World} {K : V1} (h : F50 x0 x1 w K) : callP G50 [x0, x1] w K := callP_intro (on2_mk (p := fun x0 x1 => F50 x0 x1 w K) h)
theorem ok50 : OkF Tryz.prog 50 G50 := by
  refine okF_of (tab_ok (l := T50) ⟨ok7, ok8, ok11, ok86, trivial⟩) mixed (n := fuel) Tryz.func50 Tryz.call50 fun args w K h => ?_
  obtain ⟨x0, x1, rfl, hh⟩ := of_on2 h
  unfold F50 at hh
  exact fnD_list (c := bodyOf Tryz.f50) (by kernel_rfl) (by kernel_rfl) (ok50_1 (fun _ _ h => h) (fun _ _ h => h) (fun _ _ _ h => h) (initE [x0, x1]) w hh)
def T51 : List (Nat × FnT) := [(7, G7), (8, G8), (10, G10), (86, G86)]
def F51 (x0 x1 : Value) (w : World) (K : V1) : Prop :=
eBox 142 x0 w fun v2 w1 =>
bindP (ldN 3 v2 w1.drew) fun v3 =>
bindP (pNil x1) fun v4 =>
bindP (pFieldAddr 0 v4) fun v5 =>
bindP (ld1 v5 w1.drew) fun v6 =>
callP G7 [v6] w1.drew fun v8 w7 =>
fok true (ldN 3 v2 w7) v3 ∧ (callP G8 [v8] w7 fun v10 w9 =>
fok true (ldN 3 v2 w9) v3 ∧ (callP G86 [v3, v10] w9 fun v12 w11 =>
bindP (lenL v12) fun v13 =>
callP G10 [v13] w11 fun v15 w14 =>
eBuildSl Tryz.prog 38 1 [(0, v15)] w14 fun v17 w16 =>
K (.tuple #[v17, (.int .i64 0)]) w16))
def G51 : FnT := fun args w K => on2 (fun x0 x1 => F51 x0 x1 w K) args
theorem ok51 : OkF Tryz.prog 51 G51 := by
  refine okF_of (tab_ok (l := T51) ⟨ok7, ok8, ok10, ok86, trivial⟩) mixed (n := fuel) Tryz.func51 Tryz.call51 fun args w K h => ?_
  obtain ⟨x0, x1, rfl, hh⟩ := of_on2 h
  exact fnD_list (c := bodyOf Tryz.f51) (by kernel_rfl) (by kernel_rfl) (Eq.mp (by kernel_rfl) hh)
def T88 : List (Nat × FnT) := [(10, G10)]
def F88 (x0 x1 x2 : Value) (w : World) (K : V1) : Prop :=
bindP (ld1 x2 w.drew) fun v1 =>
bindP (bAdd x0 (.string ⟨#[32]⟩)) fun v2 =>
callP G10 [x1] w.drew fun v4 w3 =>
fok true (ld1 x2 w3) v1 ∧ (bindP (bAdd v2 v4) fun v5 =>
eBuildSl Tryz.prog 38 1 [(0, v5)] w3 fun v7 w6 =>
fok true (ld1 x2 w6) v1 ∧ (eAppend Tryz.prog 38 38 v1 v7 w6 fun v9 w8 =>
bindW (st 1 x2 v9 w8) fun w10 =>
K (.tuple #[]) w10))
def G88 : FnT := fun args w K => on3 (fun x0 x1 x2 => F88 x0 x1 x2 w K) args
theorem c88 {x0 x1 x2 : Value} {w : World} {K : V1} (h : F88 x0 x1 x2 w K) : callP G88 [x0, x1, x2] w K := callP_intro (on3_mk (p := fun x0 x1 x2 => F88 x0 x1 x2 w K) h)
theorem ok88 : OkF Tryz.prog 88 G88 := by
  refine okF_of (tab_ok (l := T88) ⟨ok10, trivial⟩) mixed (n := fuel) Tryz.func88 Tryz.call88 fun args w K h => ?_
  obtain ⟨x0, x1, x2, rfl, hh⟩ := of_on3 h
  exact fnD_list (c := bodyOf Tryz.f88) (by kernel_rfl) (by kernel_rfl) (Eq.mp (by kernel_rfl) hh)
def T54 : List (Nat × FnT) := [(7, G7), (15, G15), (88, G88), (89, G89), (90, G90), (91, G91), (92, G92), (93, G93), (94, G94), (95, G95)]
def F54 (x0 : Value) (w : World) (K : V1) : Prop :=
eAlloc Tryz.prog 38 w fun v2 w1 =>
bindP (some (.func (.func 88) #[] #[v2])) fun v3 =>
bindP (pNil x0) fun v4 =>
bindP (pFieldAddr 2 v4) fun v5 =>
bindP (ldN 7 v5 w1.drew) fun v6 =>
bindP (pNil x0) fun v7 =>
bindP (pFieldAddr 0 v7) fun v8 =>
bindP (ld1 v8 w1.drew) fun v9 =>
(callP G89 [v9] w1.drew fun v11 w10 =>
fok true (ldN 7 v5 w10) v6 ∧ ((eAlloc Tryz.prog 33 w10 fun v13 w12 =>
(fok true (ldN 7 v5 w12) v6 ∧ fok true (ld1 v8 w12) v9) ∧ (eAlloc Tryz.prog 84 w12 fun v15 w14 =>
(fok true (ldN 7 v5 w14) v6 ∧ fok true (ld1 v8 w14) v9) ∧ (bindW (st 7 v13 v6 w14) fun w16 =>
bindW (st 7 v15 v11 w16) fun w18 =>
bindP (pNil x0) fun v20 =>
bindP (pFieldAddr 0 v20) fun v21 =>
bindP (ld1 v21 w18) fun v22 =>
callP G90 [v22] w18 fun v24 w23 =>
eCallV (tabOf T54) v3 [(.string ⟨#[110, 111, 119]⟩), v24] w23 fun _ w25 =>
bindP (pFieldAddr 0 v13) fun v27 =>
bindP (ld1 v27 w25) fun v28 =>
eCallV (tabOf T54) v3 [(.string ⟨#[105, 110, 112, 117, 116, 115]⟩), v28] w25 fun _ w29 =>
bindP (pFieldAddr 1 v13) fun v31 =>
bindP (ld1 v31 w29) fun v32 =>
eCallV (tabOf T54) v3 [(.string ⟨#[101, 118, 101, 110, 116, 115]⟩), v32] w29 fun _ w33 =>
bindP (pFieldAddr 2 v13) fun v35 =>
bindP (ld1 v35 w33) fun v36 =>
eCallV (tabOf T54) v3 [(.string ⟨#[100, 114, 111, 112, 115]⟩), v36] w33 fun _ w37 =>
bindP (pFieldAddr 3 v13) fun v39 =>
bindP (ld1 v39 w37) fun v40 =>
eCallV (tabOf T54) v3 [(.string ⟨#[110, 111, 110, 101, 115]⟩), v40] w37 fun _ w41 =>
bindP (pFieldAddr 4 v13) fun v43 =>
bindP (ld1 v43 w41) fun v44 =>
eCallV (tabOf T54) v3 [(.string ⟨#[98, 97, 100, 115]⟩), v44] w41 fun _ w45 =>
bindP (pFieldAddr 5 v13) fun v47 =>
bindP (ld1 v47 w45) fun v48 =>
eCallV (tabOf T54) v3 [(.string ⟨#[99, 111, 109, 109, 97, 110, 100, 115]⟩), v48] w45 fun _ w49 =>
bindP (pFieldAddr 6 v13) fun v51 =>
bindP (ld1 v51 w49) fun v52 =>
eCallV (tabOf T54) v3 [(.string ⟨#[97, 99, 107, 115]⟩), v52] w49 fun _ w53 =>
bindP (pFieldAddr 0 v15) fun v55 =>
bindP (ld1 v55 w53) fun v56 =>
eCallV (tabOf T54) v3 [(.string ⟨#[115, 117, 112, 112, 114, 101, 115, 115, 101, 100]⟩), v56] w53 fun _ w57 =>
bindP (pFieldAddr 1 v15) fun v59 =>
bindP (ld1 v59 w57) fun v60 =>
eCallV (tabOf T54) v3 [(.string ⟨#[112, 97, 105, 114, 101, 100]⟩), v60] w57 fun _ w61 =>
bindP (pFieldAddr 2 v15) fun v63 =>
bindP (ld1 v63 w61) fun v64 =>
eCallV (tabOf T54) v3 [(.string ⟨#[104, 101, 108, 100]⟩), v64] w61 fun _ w65 =>
bindP (pFieldAddr 3 v15) fun v67 =>
bindP (ld1 v67 w65) fun v68 =>
eCallV (tabOf T54) v3 [(.string ⟨#[102, 105, 114, 101, 100]⟩), v68] w65 fun _ w69 =>
bindP (pFieldAddr 4 v15) fun v71 =>
bindP (ld1 v71 w69) fun v72 =>
eCallV (tabOf T54) v3 [(.string ⟨#[115, 116, 114, 97, 121]⟩), v72] w69 fun _ w73 =>
bindP (pFieldAddr 5 v15) fun v75 =>
bindP (ld1 v75 w73) fun v76 =>
eCallV (tabOf T54) v3 [(.string ⟨#[108, 111, 115, 116]⟩), v76] w73 fun _ w77 =>
bindP (pFieldAddr 6 v15) fun v79 =>
bindP (ld1 v79 w77) fun v80 =>
eCallV (tabOf T54) v3 [(.string ⟨#[101, 120, 112, 105, 114, 101, 100]⟩), v80] w77 fun _ w81 =>
bindP (pNil x0) fun v83 =>
bindP (pFieldAddr 0 v83) fun v84 =>
bindP (ld1 v84 w81) fun v85 =>
callP G7 [v85] w81 fun v87 w86 =>
callP G91 [v87] w86 fun v89 w88 =>
eCallV (tabOf T54) v3 [(.string ⟨#[114, 111, 119, 115]⟩), v89] w88 fun _ w90 =>
bindP (pNil x0) fun v92 =>
bindP (pFieldAddr 0 v92) fun v93 =>
bindP (ld1 v93 w90) fun v94 =>
callP G92 [v94] w90 fun v96 w95 =>
callP G93 [v96] w95 fun v98 w97 =>
eCallV (tabOf T54) v3 [(.string ⟨#[99, 111, 110, 116, 101, 120, 116, 115]⟩), v98] w97 fun _ w99 =>
bindP (pNil x0) fun v101 =>
bindP (pFieldAddr 1 v101) fun v102 =>
bindP (ld1 v102 w99) fun v103 =>
callP G15 [v103] w99 fun v105 w104 =>
eCallV (tabOf T54) v3 [(.string ⟨#[116, 105, 99, 107, 101, 116, 115]⟩), v105] w104 fun _ w106 =>
bindP (pNil x0) fun v108 =>
bindP (pFieldAddr 1 v108) fun v109 =>
bindP (ld1 v109 w106) fun v110 =>
callP G94 [v110] w106 fun v112 w111 =>
eCallV (tabOf T54) v3 [(.string ⟨#[116, 111, 108, 100]⟩), v112] w111 fun _ w113 =>
bindP (pNil x0) fun v115 =>
bindP (pFieldAddr 1 v115) fun v116 =>
bindP (ld1 v116 w113) fun v117 =>
callP G95 [v117] w113 fun v119 w118 =>
eCallV (tabOf T54) v3 [(.string ⟨#[114, 101, 102, 117, 115, 101, 100]⟩), v119] w118 fun _ w120 =>
bindP (ld1 v2 w120) fun v122 =>
K v122 w120))) ∧ (eAlloc Tryz.prog 84 w10 fun v124 w123 =>
(fok true (ldN 7 v5 w123) v6 ∧ fok true (ld1 v8 w123) v9) ∧ (eAlloc Tryz.prog 33 w123 fun v126 w125 =>
(fok true (ldN 7 v5 w125) v6 ∧ fok true (ld1 v8 w125) v9) ∧ (bindW (st 7 v126 v6 w125) fun w127 =>
bindW (st 7 v124 v11 w127) fun w129 =>
bindP (pNil x0) fun v131 =>
bindP (pFieldAddr 0 v131) fun v132 =>
bindP (ld1 v132 w129) fun v133 =>
callP G90 [v133] w129 fun v135 w134 =>
eCallV (tabOf T54) v3 [(.string ⟨#[110, 111, 119]⟩), v135] w134 fun _ w136 =>
bindP (pFieldAddr 0 v126) fun v138 =>
bindP (ld1 v138 w136) fun v139 =>
eCallV (tabOf T54) v3 [(.string ⟨#[105, 110, 112, 117, 116, 115]⟩), v139] w136 fun _ w140 =>
bindP (pFieldAddr 1 v126) fun v142 =>
bindP (ld1 v142 w140) fun v143 =>
eCallV (tabOf T54) v3 [(.string ⟨#[101, 118, 101, 110, 116, 115]⟩), v143] w140 fun _ w144 =>
bindP (pFieldAddr 2 v126) fun v146 =>
bindP (ld1 v146 w144) fun v147 =>
eCallV (tabOf T54) v3 [(.string ⟨#[100, 114, 111, 112, 115]⟩), v147] w144 fun _ w148 =>
bindP (pFieldAddr 3 v126) fun v150 =>
bindP (ld1 v150 w148) fun v151 =>
eCallV (tabOf T54) v3 [(.string ⟨#[110, 111, 110, 101, 115]⟩), v151] w148 fun _ w152 =>
bindP (pFieldAddr 4 v126) fun v154 =>
bindP (ld1 v154 w152) fun v155 =>
eCallV (tabOf T54) v3 [(.string ⟨#[98, 97, 100, 115]⟩), v155] w152 fun _ w156 =>
bindP (pFieldAddr 5 v126) fun v158 =>
bindP (ld1 v158 w156) fun v159 =>
eCallV (tabOf T54) v3 [(.string ⟨#[99, 111, 109, 109, 97, 110, 100, 115]⟩), v159] w156 fun _ w160 =>
bindP (pFieldAddr 6 v126) fun v162 =>
bindP (ld1 v162 w160) fun v163 =>
eCallV (tabOf T54) v3 [(.string ⟨#[97, 99, 107, 115]⟩), v163] w160 fun _ w164 =>
bindP (pFieldAddr 0 v124) fun v166 =>
bindP (ld1 v166 w164) fun v167 =>
eCallV (tabOf T54) v3 [(.string ⟨#[115, 117, 112, 112, 114, 101, 115, 115, 101, 100]⟩), v167] w164 fun _ w168 =>
bindP (pFieldAddr 1 v124) fun v170 =>
bindP (ld1 v170 w168) fun v171 =>
eCallV (tabOf T54) v3 [(.string ⟨#[112, 97, 105, 114, 101, 100]⟩), v171] w168 fun _ w172 =>
bindP (pFieldAddr 2 v124) fun v174 =>
bindP (ld1 v174 w172) fun v175 =>
eCallV (tabOf T54) v3 [(.string ⟨#[104, 101, 108, 100]⟩), v175] w172 fun _ w176 =>
bindP (pFieldAddr 3 v124) fun v178 =>
bindP (ld1 v178 w176) fun v179 =>
eCallV (tabOf T54) v3 [(.string ⟨#[102, 105, 114, 101, 100]⟩), v179] w176 fun _ w180 =>
bindP (pFieldAddr 4 v124) fun v182 =>
bindP (ld1 v182 w180) fun v183 =>
eCallV (tabOf T54) v3 [(.string ⟨#[115, 116, 114, 97, 121]⟩), v183] w180 fun _ w184 =>
bindP (pFieldAddr 5 v124) fun v186 =>
bindP (ld1 v186 w184) fun v187 =>
eCallV (tabOf T54) v3 [(.string ⟨#[108, 111, 115, 116]⟩), v187] w184 fun _ w188 =>
bindP (pFieldAddr 6 v124) fun v190 =>
bindP (ld1 v190 w188) fun v191 =>
eCallV (tabOf T54) v3 [(.string ⟨#[101, 120, 112, 105, 114, 101, 100]⟩), v191] w188 fun _ w192 =>
bindP (pNil x0) fun v194 =>
bindP (pFieldAddr 0 v194) fun v195 =>
bindP (ld1 v195 w192) fun v196 =>
callP G7 [v196] w192 fun v198 w197 =>
callP G91 [v198] w197 fun v200 w199 =>
eCallV (tabOf T54) v3 [(.string ⟨#[114, 111, 119, 115]⟩), v200] w199 fun _ w201 =>
bindP (pNil x0) fun v203 =>
bindP (pFieldAddr 0 v203) fun v204 =>
bindP (ld1 v204 w201) fun v205 =>
callP G92 [v205] w201 fun v207 w206 =>
callP G93 [v207] w206 fun v209 w208 =>
eCallV (tabOf T54) v3 [(.string ⟨#[99, 111, 110, 116, 101, 120, 116, 115]⟩), v209] w208 fun _ w210 =>
bindP (pNil x0) fun v212 =>
bindP (pFieldAddr 1 v212) fun v213 =>
bindP (ld1 v213 w210) fun v214 =>
callP G15 [v214] w210 fun v216 w215 =>
eCallV (tabOf T54) v3 [(.string ⟨#[116, 105, 99, 107, 101, 116, 115]⟩), v216] w215 fun _ w217 =>
bindP (pNil x0) fun v219 =>
bindP (pFieldAddr 1 v219) fun v220 =>
bindP (ld1 v220 w217) fun v221 =>
callP G94 [v221] w217 fun v223 w222 =>
eCallV (tabOf T54) v3 [(.string ⟨#[116, 111, 108, 100]⟩), v223] w222 fun _ w224 =>
bindP (pNil x0) fun v226 =>
bindP (pFieldAddr 1 v226) fun v227 =>
bindP (ld1 v227 w224) fun v228 =>
callP G95 [v228] w224 fun v230 w229 =>
eCallV (tabOf T54) v3 [(.string ⟨#[114, 101, 102, 117, 115, 101, 100]⟩), v230] w229 fun _ w231 =>
bindP (ld1 v2 w231) fun v233 =>
K v233 w231))))) ∧ (eAlloc Tryz.prog 33 w1.drew fun v235 w234 =>
(fok true (ldN 7 v5 w234) v6 ∧ fok true (ld1 v8 w234) v9) ∧ ((callP G89 [v9] w234 fun v237 w236 =>
fok true (ldN 7 v5 w236) v6 ∧ (eAlloc Tryz.prog 84 w236 fun v239 w238 =>
(fok true (ldN 7 v5 w238) v6 ∧ fok true (ld1 v8 w238) v9) ∧ (bindW (st 7 v235 v6 w238) fun w240 =>
bindW (st 7 v239 v237 w240) fun w242 =>
bindP (pNil x0) fun v244 =>
bindP (pFieldAddr 0 v244) fun v245 =>
bindP (ld1 v245 w242) fun v246 =>
callP G90 [v246] w242 fun v248 w247 =>
eCallV (tabOf T54) v3 [(.string ⟨#[110, 111, 119]⟩), v248] w247 fun _ w249 =>
bindP (pFieldAddr 0 v235) fun v251 =>
bindP (ld1 v251 w249) fun v252 =>
eCallV (tabOf T54) v3 [(.string ⟨#[105, 110, 112, 117, 116, 115]⟩), v252] w249 fun _ w253 =>
bindP (pFieldAddr 1 v235) fun v255 =>
bindP (ld1 v255 w253) fun v256 =>
eCallV (tabOf T54) v3 [(.string ⟨#[101, 118, 101, 110, 116, 115]⟩), v256] w253 fun _ w257 =>
bindP (pFieldAddr 2 v235) fun v259 =>
bindP (ld1 v259 w257) fun v260 =>
eCallV (tabOf T54) v3 [(.string ⟨#[100, 114, 111, 112, 115]⟩), v260] w257 fun _ w261 =>
bindP (pFieldAddr 3 v235) fun v263 =>
bindP (ld1 v263 w261) fun v264 =>
eCallV (tabOf T54) v3 [(.string ⟨#[110, 111, 110, 101, 115]⟩), v264] w261 fun _ w265 =>
bindP (pFieldAddr 4 v235) fun v267 =>
bindP (ld1 v267 w265) fun v268 =>
eCallV (tabOf T54) v3 [(.string ⟨#[98, 97, 100, 115]⟩), v268] w265 fun _ w269 =>
bindP (pFieldAddr 5 v235) fun v271 =>
bindP (ld1 v271 w269) fun v272 =>
eCallV (tabOf T54) v3 [(.string ⟨#[99, 111, 109, 109, 97, 110, 100, 115]⟩), v272] w269 fun _ w273 =>
bindP (pFieldAddr 6 v235) fun v275 =>
bindP (ld1 v275 w273) fun v276 =>
eCallV (tabOf T54) v3 [(.string ⟨#[97, 99, 107, 115]⟩), v276] w273 fun _ w277 =>
bindP (pFieldAddr 0 v239) fun v279 =>
bindP (ld1 v279 w277) fun v280 =>
eCallV (tabOf T54) v3 [(.string ⟨#[115, 117, 112, 112, 114, 101, 115, 115, 101, 100]⟩), v280] w277 fun _ w281 =>
bindP (pFieldAddr 1 v239) fun v283 =>
bindP (ld1 v283 w281) fun v284 =>
eCallV (tabOf T54) v3 [(.string ⟨#[112, 97, 105, 114, 101, 100]⟩), v284] w281 fun _ w285 =>
bindP (pFieldAddr 2 v239) fun v287 =>
bindP (ld1 v287 w285) fun v288 =>
eCallV (tabOf T54) v3 [(.string ⟨#[104, 101, 108, 100]⟩), v288] w285 fun _ w289 =>
bindP (pFieldAddr 3 v239) fun v291 =>
bindP (ld1 v291 w289) fun v292 =>
eCallV (tabOf T54) v3 [(.string ⟨#[102, 105, 114, 101, 100]⟩), v292] w289 fun _ w293 =>
bindP (pFieldAddr 4 v239) fun v295 =>
bindP (ld1 v295 w293) fun v296 =>
eCallV (tabOf T54) v3 [(.string ⟨#[115, 116, 114, 97, 121]⟩), v296] w293 fun _ w297 =>
bindP (pFieldAddr 5 v239) fun v299 =>
bindP (ld1 v299 w297) fun v300 =>
eCallV (tabOf T54) v3 [(.string ⟨#[108, 111, 115, 116]⟩), v300] w297 fun _ w301 =>
bindP (pFieldAddr 6 v239) fun v303 =>
bindP (ld1 v303 w301) fun v304 =>
eCallV (tabOf T54) v3 [(.string ⟨#[101, 120, 112, 105, 114, 101, 100]⟩), v304] w301 fun _ w305 =>
bindP (pNil x0) fun v307 =>
bindP (pFieldAddr 0 v307) fun v308 =>
bindP (ld1 v308 w305) fun v309 =>
callP G7 [v309] w305 fun v311 w310 =>
callP G91 [v311] w310 fun v313 w312 =>
eCallV (tabOf T54) v3 [(.string ⟨#[114, 111, 119, 115]⟩), v313] w312 fun _ w314 =>
bindP (pNil x0) fun v316 =>
bindP (pFieldAddr 0 v316) fun v317 =>
bindP (ld1 v317 w314) fun v318 =>
callP G92 [v318] w314 fun v320 w319 =>
callP G93 [v320] w319 fun v322 w321 =>
eCallV (tabOf T54) v3 [(.string ⟨#[99, 111, 110, 116, 101, 120, 116, 115]⟩), v322] w321 fun _ w323 =>
bindP (pNil x0) fun v325 =>
bindP (pFieldAddr 1 v325) fun v326 =>
bindP (ld1 v326 w323) fun v327 =>
callP G15 [v327] w323 fun v329 w328 =>
eCallV (tabOf T54) v3 [(.string ⟨#[116, 105, 99, 107, 101, 116, 115]⟩), v329] w328 fun _ w330 =>
bindP (pNil x0) fun v332 =>
bindP (pFieldAddr 1 v332) fun v333 =>
bindP (ld1 v333 w330) fun v334 =>
callP G94 [v334] w330 fun v336 w335 =>
eCallV (tabOf T54) v3 [(.string ⟨#[116, 111, 108, 100]⟩), v336] w335 fun _ w337 =>
bindP (pNil x0) fun v339 =>
bindP (pFieldAddr 1 v339) fun v340 =>
bindP (ld1 v340 w337) fun v341 =>
callP G95 [v341] w337 fun v343 w342 =>
eCallV (tabOf T54) v3 [(.string ⟨#[114, 101, 102, 117, 115, 101, 100]⟩), v343] w342 fun _ w344 =>
bindP (ld1 v2 w344) fun v346 =>
K v346 w344))) ∧ (eAlloc Tryz.prog 84 w234 fun v348 w347 =>
(fok true (ldN 7 v5 w347) v6 ∧ fok true (ld1 v8 w347) v9) ∧ (callP G89 [v9] w347 fun v350 w349 =>
fok true (ldN 7 v5 w349) v6 ∧ (bindW (st 7 v235 v6 w349) fun w351 =>
bindW (st 7 v348 v350 w351) fun w353 =>
bindP (pNil x0) fun v355 =>
bindP (pFieldAddr 0 v355) fun v356 =>
bindP (ld1 v356 w353) fun v357 =>
callP G90 [v357] w353 fun v359 w358 =>
eCallV (tabOf T54) v3 [(.string ⟨#[110, 111, 119]⟩), v359] w358 fun _ w360 =>
bindP (pFieldAddr 0 v235) fun v362 =>
bindP (ld1 v362 w360) fun v363 =>
eCallV (tabOf T54) v3 [(.string ⟨#[105, 110, 112, 117, 116, 115]⟩), v363] w360 fun _ w364 =>
bindP (pFieldAddr 1 v235) fun v366 =>
bindP (ld1 v366 w364) fun v367 =>
eCallV (tabOf T54) v3 [(.string ⟨#[101, 118, 101, 110, 116, 115]⟩), v367] w364 fun _ w368 =>
bindP (pFieldAddr 2 v235) fun v370 =>
bindP (ld1 v370 w368) fun v371 =>
eCallV (tabOf T54) v3 [(.string ⟨#[100, 114, 111, 112, 115]⟩), v371] w368 fun _ w372 =>
bindP (pFieldAddr 3 v235) fun v374 =>
bindP (ld1 v374 w372) fun v375 =>
eCallV (tabOf T54) v3 [(.string ⟨#[110, 111, 110, 101, 115]⟩), v375] w372 fun _ w376 =>
bindP (pFieldAddr 4 v235) fun v378 =>
bindP (ld1 v378 w376) fun v379 =>
eCallV (tabOf T54) v3 [(.string ⟨#[98, 97, 100, 115]⟩), v379] w376 fun _ w380 =>
bindP (pFieldAddr 5 v235) fun v382 =>
bindP (ld1 v382 w380) fun v383 =>
eCallV (tabOf T54) v3 [(.string ⟨#[99, 111, 109, 109, 97, 110, 100, 115]⟩), v383] w380 fun _ w384 =>
bindP (pFieldAddr 6 v235) fun v386 =>
bindP (ld1 v386 w384) fun v387 =>
eCallV (tabOf T54) v3 [(.string ⟨#[97, 99, 107, 115]⟩), v387] w384 fun _ w388 =>
bindP (pFieldAddr 0 v348) fun v390 =>
bindP (ld1 v390 w388) fun v391 =>
eCallV (tabOf T54) v3 [(.string ⟨#[115, 117, 112, 112, 114, 101, 115, 115, 101, 100]⟩), v391] w388 fun _ w392 =>
bindP (pFieldAddr 1 v348) fun v394 =>
bindP (ld1 v394 w392) fun v395 =>
eCallV (tabOf T54) v3 [(.string ⟨#[112, 97, 105, 114, 101, 100]⟩), v395] w392 fun _ w396 =>
bindP (pFieldAddr 2 v348) fun v398 =>
bindP (ld1 v398 w396) fun v399 =>
eCallV (tabOf T54) v3 [(.string ⟨#[104, 101, 108, 100]⟩), v399] w396 fun _ w400 =>
bindP (pFieldAddr 3 v348) fun v402 =>
bindP (ld1 v402 w400) fun v403 =>
eCallV (tabOf T54) v3 [(.string ⟨#[102, 105, 114, 101, 100]⟩), v403] w400 fun _ w404 =>
bindP (pFieldAddr 4 v348) fun v406 =>
bindP (ld1 v406 w404) fun v407 =>
eCallV (tabOf T54) v3 [(.string ⟨#[115, 116, 114, 97, 121]⟩), v407] w404 fun _ w408 =>
bindP (pFieldAddr 5 v348) fun v410 =>
bindP (ld1 v410 w408) fun v411 =>
eCallV (tabOf T54) v3 [(.string ⟨#[108, 111, 115, 116]⟩), v411] w408 fun _ w412 =>
bindP (pFieldAddr 6 v348) fun v414 =>
bindP (ld1 v414 w412) fun v415 =>
eCallV (tabOf T54) v3 [(.string ⟨#[101, 120, 112, 105, 114, 101, 100]⟩), v415] w412 fun _ w416 =>
bindP (pNil x0) fun v418 =>
bindP (pFieldAddr 0 v418) fun v419 =>
bindP (ld1 v419 w416) fun v420 =>
callP G7 [v420] w416 fun v422 w421 =>
callP G91 [v422] w421 fun v424 w423 =>
eCallV (tabOf T54) v3 [(.string ⟨#[114, 111, 119, 115]⟩), v424] w423 fun _ w425 =>
bindP (pNil x0) fun v427 =>
bindP (pFieldAddr 0 v427) fun v428 =>
bindP (ld1 v428 w425) fun v429 =>
callP G92 [v429] w425 fun v431 w430 =>
callP G93 [v431] w430 fun v433 w432 =>
eCallV (tabOf T54) v3 [(.string ⟨#[99, 111, 110, 116, 101, 120, 116, 115]⟩), v433] w432 fun _ w434 =>
bindP (pNil x0) fun v436 =>
bindP (pFieldAddr 1 v436) fun v437 =>
bindP (ld1 v437 w434) fun v438 =>
callP G15 [v438] w434 fun v440 w439 =>
eCallV (tabOf T54) v3 [(.string ⟨#[116, 105, 99, 107, 101, 116, 115]⟩), v440] w439 fun _ w441 =>
bindP (pNil x0) fun v443 =>
bindP (pFieldAddr 1 v443) fun v444 =>
bindP (ld1 v444 w441) fun v445 =>
callP G94 [v445] w441 fun v447 w446 =>
eCallV (tabOf T54) v3 [(.string ⟨#[116, 111, 108, 100]⟩), v447] w446 fun _ w448 =>
bindP (pNil x0) fun v450 =>
bindP (pFieldAddr 1 v450) fun v451 =>
bindP (ld1 v451 w448) fun v452 =>
callP G95 [v452] w448 fun v454 w453 =>
eCallV (tabOf T54) v3 [(.string ⟨#[114, 101, 102, 117, 115, 101, 100]⟩), v454] w453 fun _ w455 =>
bindP (ld1 v2 w455) fun v457 =>
K v457 w455))))) ∧ (eAlloc Tryz.prog 84 w1.drew fun v459 w458 =>
(fok true (ldN 7 v5 w458) v6 ∧ fok true (ld1 v8 w458) v9) ∧ ((callP G89 [v9] w458 fun v461 w460 =>
fok true (ldN 7 v5 w460) v6 ∧ (eAlloc Tryz.prog 33 w460 fun v463 w462 =>
(fok true (ldN 7 v5 w462) v6 ∧ fok true (ld1 v8 w462) v9) ∧ (bindW (st 7 v463 v6 w462) fun w464 =>
bindW (st 7 v459 v461 w464) fun w466 =>
bindP (pNil x0) fun v468 =>
bindP (pFieldAddr 0 v468) fun v469 =>
bindP (ld1 v469 w466) fun v470 =>
callP G90 [v470] w466 fun v472 w471 =>
eCallV (tabOf T54) v3 [(.string ⟨#[110, 111, 119]⟩), v472] w471 fun _ w473 =>
bindP (pFieldAddr 0 v463) fun v475 =>
bindP (ld1 v475 w473) fun v476 =>
eCallV (tabOf T54) v3 [(.string ⟨#[105, 110, 112, 117, 116, 115]⟩), v476] w473 fun _ w477 =>
bindP (pFieldAddr 1 v463) fun v479 =>
bindP (ld1 v479 w477) fun v480 =>
eCallV (tabOf T54) v3 [(.string ⟨#[101, 118, 101, 110, 116, 115]⟩), v480] w477 fun _ w481 =>
bindP (pFieldAddr 2 v463) fun v483 =>
bindP (ld1 v483 w481) fun v484 =>
eCallV (tabOf T54) v3 [(.string ⟨#[100, 114, 111, 112, 115]⟩), v484] w481 fun _ w485 =>
bindP (pFieldAddr 3 v463) fun v487 =>
bindP (ld1 v487 w485) fun v488 =>
eCallV (tabOf T54) v3 [(.string ⟨#[110, 111, 110, 101, 115]⟩), v488] w485 fun _ w489 =>
bindP (pFieldAddr 4 v463) fun v491 =>
bindP (ld1 v491 w489) fun v492 =>
eCallV (tabOf T54) v3 [(.string ⟨#[98, 97, 100, 115]⟩), v492] w489 fun _ w493 =>
bindP (pFieldAddr 5 v463) fun v495 =>
bindP (ld1 v495 w493) fun v496 =>
eCallV (tabOf T54) v3 [(.string ⟨#[99, 111, 109, 109, 97, 110, 100, 115]⟩), v496] w493 fun _ w497 =>
bindP (pFieldAddr 6 v463) fun v499 =>
bindP (ld1 v499 w497) fun v500 =>
eCallV (tabOf T54) v3 [(.string ⟨#[97, 99, 107, 115]⟩), v500] w497 fun _ w501 =>
bindP (pFieldAddr 0 v459) fun v503 =>
bindP (ld1 v503 w501) fun v504 =>
eCallV (tabOf T54) v3 [(.string ⟨#[115, 117, 112, 112, 114, 101, 115, 115, 101, 100]⟩), v504] w501 fun _ w505 =>
bindP (pFieldAddr 1 v459) fun v507 =>
bindP (ld1 v507 w505) fun v508 =>
eCallV (tabOf T54) v3 [(.string ⟨#[112, 97, 105, 114, 101, 100]⟩), v508] w505 fun _ w509 =>
bindP (pFieldAddr 2 v459) fun v511 =>
bindP (ld1 v511 w509) fun v512 =>
eCallV (tabOf T54) v3 [(.string ⟨#[104, 101, 108, 100]⟩), v512] w509 fun _ w513 =>
bindP (pFieldAddr 3 v459) fun v515 =>
bindP (ld1 v515 w513) fun v516 =>
eCallV (tabOf T54) v3 [(.string ⟨#[102, 105, 114, 101, 100]⟩), v516] w513 fun _ w517 =>
bindP (pFieldAddr 4 v459) fun v519 =>
bindP (ld1 v519 w517) fun v520 =>
eCallV (tabOf T54) v3 [(.string ⟨#[115, 116, 114, 97, 121]⟩), v520] w517 fun _ w521 =>
bindP (pFieldAddr 5 v459) fun v523 =>
bindP (ld1 v523 w521) fun v524 =>
eCallV (tabOf T54) v3 [(.string ⟨#[108, 111, 115, 116]⟩), v524] w521 fun _ w525 =>
bindP (pFieldAddr 6 v459) fun v527 =>
bindP (ld1 v527 w525) fun v528 =>
eCallV (tabOf T54) v3 [(.string ⟨#[101, 120, 112, 105, 114, 101, 100]⟩), v528] w525 fun _ w529 =>
bindP (pNil x0) fun v531 =>
bindP (pFieldAddr 0 v531) fun v532 =>
bindP (ld1 v532 w529) fun v533 =>
callP G7 [v533] w529 fun v535 w534 =>
callP G91 [v535] w534 fun v537 w536 =>
eCallV (tabOf T54) v3 [(.string ⟨#[114, 111, 119, 115]⟩), v537] w536 fun _ w538 =>
bindP (pNil x0) fun v540 =>
bindP (pFieldAddr 0 v540) fun v541 =>
bindP (ld1 v541 w538) fun v542 =>
callP G92 [v542] w538 fun v544 w543 =>
callP G93 [v544] w543 fun v546 w545 =>
eCallV (tabOf T54) v3 [(.string ⟨#[99, 111, 110, 116, 101, 120, 116, 115]⟩), v546] w545 fun _ w547 =>
bindP (pNil x0) fun v549 =>
bindP (pFieldAddr 1 v549) fun v550 =>
bindP (ld1 v550 w547) fun v551 =>
callP G15 [v551] w547 fun v553 w552 =>
eCallV (tabOf T54) v3 [(.string ⟨#[116, 105, 99, 107, 101, 116, 115]⟩), v553] w552 fun _ w554 =>
bindP (pNil x0) fun v556 =>
bindP (pFieldAddr 1 v556) fun v557 =>
bindP (ld1 v557 w554) fun v558 =>
callP G94 [v558] w554 fun v560 w559 =>
eCallV (tabOf T54) v3 [(.string ⟨#[116, 111, 108, 100]⟩), v560] w559 fun _ w561 =>
bindP (pNil x0) fun v563 =>
bindP (pFieldAddr 1 v563) fun v564 =>
bindP (ld1 v564 w561) fun v565 =>
callP G95 [v565] w561 fun v567 w566 =>
eCallV (tabOf T54) v3 [(.string ⟨#[114, 101, 102, 117, 115, 101, 100]⟩), v567] w566 fun _ w568 =>
bindP (ld1 v2 w568) fun v570 =>
K v570 w568))) ∧ (eAlloc Tryz.prog 33 w458 fun v572 w571 =>
(fok true (ldN 7 v5 w571) v6 ∧ fok true (ld1 v8 w571) v9) ∧ (callP G89 [v9] w571 fun v574 w573 =>
fok true (ldN 7 v5 w573) v6 ∧ (bindW (st 7 v572 v6 w573) fun w575 =>
bindW (st 7 v459 v574 w575) fun w577 =>
bindP (pNil x0) fun v579 =>
bindP (pFieldAddr 0 v579) fun v580 =>
bindP (ld1 v580 w577) fun v581 =>
callP G90 [v581] w577 fun v583 w582 =>
eCallV (tabOf T54) v3 [(.string ⟨#[110, 111, 119]⟩), v583] w582 fun _ w584 =>
bindP (pFieldAddr 0 v572) fun v586 =>
bindP (ld1 v586 w584) fun v587 =>
eCallV (tabOf T54) v3 [(.string ⟨#[105, 110, 112, 117, 116, 115]⟩), v587] w584 fun _ w588 =>
bindP (pFieldAddr 1 v572) fun v590 =>
bindP (ld1 v590 w588) fun v591 =>
eCallV (tabOf T54) v3 [(.string ⟨#[101, 118, 101, 110, 116, 115]⟩), v591] w588 fun _ w592 =>
bindP (pFieldAddr 2 v572) fun v594 =>
bindP (ld1 v594 w592) fun v595 =>
eCallV (tabOf T54) v3 [(.string ⟨#[100, 114, 111, 112, 115]⟩), v595] w592 fun _ w596 =>
bindP (pFieldAddr 3 v572) fun v598 =>
bindP (ld1 v598 w596) fun v599 =>
eCallV (tabOf T54) v3 [(.string ⟨#[110, 111, 110, 101, 115]⟩), v599] w596 fun _ w600 =>
bindP (pFieldAddr 4 v572) fun v602 =>
bindP (ld1 v602 w600) fun v603 =>
eCallV (tabOf T54) v3 [(.string ⟨#[98, 97, 100, 115]⟩), v603] w600 fun _ w604 =>
bindP (pFieldAddr 5 v572) fun v606 =>
bindP (ld1 v606 w604) fun v607 =>
eCallV (tabOf T54) v3 [(.string ⟨#[99, 111, 109, 109, 97, 110, 100, 115]⟩), v607] w604 fun _ w608 =>
bindP (pFieldAddr 6 v572) fun v610 =>
bindP (ld1 v610 w608) fun v611 =>
eCallV (tabOf T54) v3 [(.string ⟨#[97, 99, 107, 115]⟩), v611] w608 fun _ w612 =>
bindP (pFieldAddr 0 v459) fun v614 =>
bindP (ld1 v614 w612) fun v615 =>
eCallV (tabOf T54) v3 [(.string ⟨#[115, 117, 112, 112, 114, 101, 115, 115, 101, 100]⟩), v615] w612 fun _ w616 =>
bindP (pFieldAddr 1 v459) fun v618 =>
bindP (ld1 v618 w616) fun v619 =>
eCallV (tabOf T54) v3 [(.string ⟨#[112, 97, 105, 114, 101, 100]⟩), v619] w616 fun _ w620 =>
bindP (pFieldAddr 2 v459) fun v622 =>
bindP (ld1 v622 w620) fun v623 =>
eCallV (tabOf T54) v3 [(.string ⟨#[104, 101, 108, 100]⟩), v623] w620 fun _ w624 =>
bindP (pFieldAddr 3 v459) fun v626 =>
bindP (ld1 v626 w624) fun v627 =>
eCallV (tabOf T54) v3 [(.string ⟨#[102, 105, 114, 101, 100]⟩), v627] w624 fun _ w628 =>
bindP (pFieldAddr 4 v459) fun v630 =>
bindP (ld1 v630 w628) fun v631 =>
eCallV (tabOf T54) v3 [(.string ⟨#[115, 116, 114, 97, 121]⟩), v631] w628 fun _ w632 =>
bindP (pFieldAddr 5 v459) fun v634 =>
bindP (ld1 v634 w632) fun v635 =>
eCallV (tabOf T54) v3 [(.string ⟨#[108, 111, 115, 116]⟩), v635] w632 fun _ w636 =>
bindP (pFieldAddr 6 v459) fun v638 =>
bindP (ld1 v638 w636) fun v639 =>
eCallV (tabOf T54) v3 [(.string ⟨#[101, 120, 112, 105, 114, 101, 100]⟩), v639] w636 fun _ w640 =>
bindP (pNil x0) fun v642 =>
bindP (pFieldAddr 0 v642) fun v643 =>
bindP (ld1 v643 w640) fun v644 =>
callP G7 [v644] w640 fun v646 w645 =>
callP G91 [v646] w645 fun v648 w647 =>
eCallV (tabOf T54) v3 [(.string ⟨#[114, 111, 119, 115]⟩), v648] w647 fun _ w649 =>
bindP (pNil x0) fun v651 =>
bindP (pFieldAddr 0 v651) fun v652 =>
bindP (ld1 v652 w649) fun v653 =>
callP G92 [v653] w649 fun v655 w654 =>
callP G93 [v655] w654 fun v657 w656 =>
eCallV (tabOf T54) v3 [(.string ⟨#[99, 111, 110, 116, 101, 120, 116, 115]⟩), v657] w656 fun _ w658 =>
bindP (pNil x0) fun v660 =>
bindP (pFieldAddr 1 v660) fun v661 =>
bindP (ld1 v661 w658) fun v662 =>
callP G15 [v662] w658 fun v664 w663 =>
eCallV (tabOf T54) v3 [(.string ⟨#[116, 105, 99, 107, 101, 116, 115]⟩), v664] w663 fun _ w665 =>
bindP (pNil x0) fun v667 =>
bindP (pFieldAddr 1 v667) fun v668 =>
bindP (ld1 v668 w665) fun v669 =>
callP G94 [v669] w665 fun v671 w670 =>
eCallV (tabOf T54) v3 [(.string ⟨#[116, 111, 108, 100]⟩), v671] w670 fun _ w672 =>
bindP (pNil x0) fun v674 =>
bindP (pFieldAddr 1 v674) fun v675 =>
bindP (ld1 v675 w672) fun v676 =>
callP G95 [v676] w672 fun v678 w677 =>
eCallV (tabOf T54) v3 [(.string ⟨#[114, 101, 102, 117, 115, 101, 100]⟩), v678] w677 fun _ w679 =>
bindP (ld1 v2 w679) fun v681 =>
K v681 w679)))))
def G54 : FnT := fun args w K => on1 (fun x0 => F54 x0 w K) args
theorem c54 {x0 : Value} {w : World} {K : V1} (h : F54 x0 w K) : callP G54 [x0] w K := callP_intro (on1_mk (p := fun x0 => F54 x0 w K) h)
theorem ok54 : OkF Tryz.prog 54 G54 := by
  refine okF_of (tab_ok (l := T54) ⟨ok7, ok15, ok88, ok89, ok90, ok91, ok92, ok93, ok94, ok95, trivial⟩) mixed (n := fuel) Tryz.func54 Tryz.call54 fun args w K h => ?_
  obtain ⟨x0, rfl, hh⟩ := of_on1 h
  exact fnD_list (c := bodyOf Tryz.f54) (by kernel_rfl) (by kernel_rfl) (Eq.mp (by kernel_rfl) hh)
def T53 : List (Nat × FnT) := [(54, G54)]
def F53 (x0 : Value) (w : World) (K : V1) : Prop :=
callP G54 [x0] w fun v2 w1 =>
K (.tuple #[v2, (.int .i64 0)]) w1
def G53 : FnT := fun args w K => on1 (fun x0 => F53 x0 w K) args
theorem c53 {x0 : Value} {w : World} {K : V1} (h : F53 x0 w K) : callP G53 [x0] w K := callP_intro (on1_mk (p := fun x0 => F53 x0 w K) h)
theorem ok53 : OkF Tryz.prog 53 G53 := by
  refine okF_of (tab_ok (l := T53) ⟨ok54, trivial⟩) mixed (n := fuel) Tryz.func53 Tryz.call53 fun args w K h => ?_
  obtain ⟨x0, rfl, hh⟩ := of_on1 h
  exact fnD_list (c := bodyOf Tryz.f53) (by kernel_rfl) (by kernel_rfl) (Eq.mp (by kernel_rfl) hh)
def T87 : List (Nat × FnT) := [(7, G7), (11, G11), (13, G13)]
def F87 (x0 x1 : Value) (w : World) (K : V1) : Prop :=
bindP (pNil x0) fun v1 =>
bindP (pFieldAddr 0 v1) fun v2 =>
bindP (ld1 v2 w.drew) fun v3 =>
bindP (ld1 x1 w.drew) fun v4 =>
(callP G7 [v3] w.drew fun v6 w5 =>
fok true (ld1 x1 w5) v4 ∧ ((callP G13 [v6, v4] w5 fun v8 w7 =>
bindP (pTuple v8 0) fun v9 =>
bindP (pTuple v8 1) fun v10 =>
eAlloc Tryz.prog 45 w7 fun v12 w11 =>
(fok true (ld1 v2 w11) v3 ∧ fok true (ld1 x1 w11) v4) ∧ (bindW (st 11 v12 v9 w11) fun w13 =>
bindP (uNot v10) fun v15 =>
ifB v15 (
K (.tuple #[(.slice none 0 0), (.int .i64 5)]) w13) (
bindP (ldN 11 v12 w13) fun v16 =>
callP G11 [v16] w13 fun v18 w17 =>
eBuildSl Tryz.prog 38 1 [(0, v18)] w17 fun v20 w19 =>
K (.tuple #[v20, (.int .i64 0)]) w19))) ∧ (eAlloc Tryz.prog 45 w5 fun v22 w21 =>
(fok true (ld1 v2 w21) v3 ∧ fok true (ld1 x1 w21) v4) ∧ (callP G13 [v6, v4] w21 fun v24 w23 =>
bindP (pTuple v24 0) fun v25 =>
bindP (pTuple v24 1) fun v26 =>
bindW (st 11 v22 v25 w23) fun w27 =>
bindP (uNot v26) fun v29 =>
ifB v29 (
K (.tuple #[(.slice none 0 0), (.int .i64 5)]) w27) (
bindP (ldN 11 v22 w27) fun v30 =>
callP G11 [v30] w27 fun v32 w31 =>
eBuildSl Tryz.prog 38 1 [(0, v32)] w31 fun v34 w33 =>
K (.tuple #[v34, (.int .i64 0)]) w33))))) ∧ (eAlloc Tryz.prog 45 w.drew fun v36 w35 =>
(fok true (ld1 v2 w35) v3 ∧ fok true (ld1 x1 w35) v4) ∧ (callP G7 [v3] w35 fun v38 w37 =>
fok true (ld1 x1 w37) v4 ∧ (callP G13 [v38, v4] w37 fun v40 w39 =>
bindP (pTuple v40 0) fun v41 =>
bindP (pTuple v40 1) fun v42 =>
bindW (st 11 v36 v41 w39) fun w43 =>
bindP (uNot v42) fun v45 =>
ifB v45 (
K (.tuple #[(.slice none 0 0), (.int .i64 5)]) w43) (
bindP (ldN 11 v36 w43) fun v46 =>
callP G11 [v46] w43 fun v48 w47 =>
eBuildSl Tryz.prog 38 1 [(0, v48)] w47 fun v50 w49 =>
K (.tuple #[v50, (.int .i64 0)]) w49))))
def G87 : FnT := fun args w K => on2 (fun x0 x1 => F87 x0 x1 w K) args
theorem c87 {x0 x1 : Value} {w : World} {K : V1} (h : F87 x0 x1 w K) : callP G87 [x0, x1] w K := callP_intro (on2_mk (p := fun x0 x1 => F87 x0 x1 w K) h)
theorem ok87 : OkF Tryz.prog 87 G87 := by
  refine okF_of (tab_ok (l := T87) ⟨ok7, ok11, ok13, trivial⟩) mixed (n := fuel) Tryz.func87 Tryz.call87 fun args w K h => ?_
  obtain ⟨x0, x1, rfl, hh⟩ := of_on2 h
  exact fnD_list (c := bodyOf Tryz.f87) (by kernel_rfl) (by kernel_rfl) (Eq.mp (by kernel_rfl) hh)
def T9 : List (Nat × FnT) := [(26, G26), (50, G50), (51, G51), (53, G53), (87, G87)]
def F9 (x0 x1 : Value) (w : World) (K : V1) : Prop :=
callP G26 [x1] w fun v2 w1 =>
bindP (pTuple v2 0) fun v3 =>
bindP (pTuple v2 1) fun v4 =>
eAlloc Tryz.prog 98 w1 fun v6 w5 =>
bindW (st 1 v6 v3 w5) fun w7 =>
bindP (uNot v4) fun v9 =>
ifB v9 (
K (.tuple #[(.slice none 0 0), (.int .i64 300)]) w7) (
bindP (pFieldAddr 0 v6) fun v10 =>
bindP (ld1 v10 w7) fun v11 =>
eCallV (tabOf T9) v11 [x0] w7 fun v13 w12 =>
bindP (pTuple v13 0) fun v14 =>
bindP (pTuple v13 1) fun v15 =>
K (.tuple #[v14, v15]) w12)
def G9 : FnT := fun args w K => on2 (fun x0 x1 => F9 x0 x1 w K) args
theorem c9 {x0 x1 : Value} {w : World} {K : V1} (h : F9 x0 x1 w K) : callP G9 [x0, x1] w K := callP_intro (on2_mk (p := fun x0 x1 => F9 x0 x1 w K) h)
theorem ok9 : OkF Tryz.prog 9 G9 := by
  refine okF_of (tab_ok (l := T9) ⟨ok26, ok50, ok51, ok53, ok87, trivial⟩) mixed (n := fuel) Tryz.func9 Tryz.call9 fun args w K h => ?_
  obtain ⟨x0, x1, rfl, hh⟩ := of_on2 h
  exact fnD_list (c := bodyOf Tryz.f9) (by kernel_rfl) (by kernel_rfl) (Eq.mp (by kernel_rfl) hh)
def T132 : List (Nat × FnT) := []
def F132_3b (s3 : Value) (w : World) (K : V1) : Prop :=
K s3 w
def F132_3 (s3 : Value) (w : World) (K : V1) : Prop := F132_3b s3 w K
theorem ok132_3 {K : V1}
    (hn : HN (fun e w => K (e 2) w) kn) (hr : HR Tryz.prog [.tmp 2] K kr) (he : HE noE ke) :
    ∀ e w, F132_3 (e 3) w K → denL Tryz.prog (tabOf T132) 18 fuel ((flat (bodyOf Tryz.f132)).drop 4) e w kn kr ke := by
  intro e w h
  unfold F132_3 at h
  have e1 : ∀ (_ : Unit), F132_3b (e 3) w K = denL Tryz.prog (tabOf T132) 18 fuel ((flat (bodyOf Tryz.f132)).drop 4) e w (fun e w => K (e 2) w) (endD Tryz.prog [.tmp 2] K) noE := by intro _; kernel_rfl
  exact seg_end (Eq.mp (e1 ()) h) hn hr he
def F132_2b (s3 s6 s7 s8 : Value) (w : World) (K : V1) (Y0 : V4) (Y1 : V1) : Prop :=
bindP (bLt s8 s7) fun v1 =>
ifB v1 (
bindP (pIndexL 1 s6 s8) fun v2 =>
bindP (ld1 v2 w) fun v3 =>
bindP (bNe Tryz.prog 3 (.tmp 12) (.tmp 13) v3 s3) fun v4 =>
ifB v4 (
K v3 w) (
bindP (bAdd s8 (.int .i64 1)) fun v5 =>
Y0 s3 s6 s7 v5 w)) (
Y1 s3 w)
def F132_2L : Nat → Value → Value → Value → Value → World → (V1) → Prop
  | 0, _, _, _, _, _, _ => False
  | n + 1, s3, s6, s7, s8, w, K => F132_2b s3 s6 s7 s8 w K (fun a3 a6 a7 a8 w => F132_2L n a3 a6 a7 a8 w K) (fun a3 w => F132_3 a3 w K)
def F132_2 (s3 s6 s7 s8 : Value) (w : World) (K : V1) : Prop := F132_2L fuel s3 s6 s7 s8 w K
theorem ok132_2 {K : V1}
    (hn : HN (fun e w => K (e 2) w) kn) (hr : HR Tryz.prog [.tmp 2] K kr) (he : HE noE ke) :
    ∀ e w, F132_2 (e 3) (e 6) (e 7) (e 8) w K → denL Tryz.prog (tabOf T132) 18 fuel ((flat (bodyOf Tryz.f132)).drop 3) e w kn kr ke := by
  intro e w h
  unfold F132_2 at h
  refine seg_loop (id := 0) (body := (loopB (blkB (nthC (flat (bodyOf Tryz.f132)) 3)))) (l2 := (flat (bodyOf Tryz.f132)).drop 4) (by kernel_rfl) ?_
  refine loop_ok (FL := fun m e w => F132_2L m (e 3) (e 6) (e 7) (e 8) w K) (fr := endD Tryz.prog [.tmp 2] K) (fe := (blkK 0 (fun e w => F132_3 (e 3) w K) noE)) (fun _ _ h => h) ?_ hr (blkK_mono (fun e w h => ok132_3 hn hr he e w h) he) fuel e w h
  intro m e w h
  have h : F132_2L (m + 1) (e 3) (e 6) (e 7) (e 8) w K := h
  rw [F132_2L] at h
  have e1 : ∀ (Y0 : V4) (Y1 : V1), F132_2b (e 3) (e 6) (e 7) (e 8) w K Y0 Y1 = denL Tryz.prog (tabOf T132) 18 fuel (flat (loopB (blkB (nthC (flat (bodyOf Tryz.f132)) 3)))) e w (fun e w => Y0 (e 3) (e 6) (e 7) (e 8) w) (endD Tryz.prog [.tmp 2] K) (blkK 0 (fun e w => Y1 (e 3) w) noE) := by intro Y0 Y1; kernel_rfl
  exact Eq.mp (e1 (fun a3 a6 a7 a8 w => F132_2L m a3 a6 a7 a8 w K) (fun a3 w => F132_3 a3 w K)) h
def F132_1b (s0 : Value) (w : World) (_K : V1) (Y0 : V4) : Prop :=
bindP (lenL s0) fun v6 =>
Y0 (.int .i64 0) s0 v6 (.int .i64 0) w
def F132_1 (s0 : Value) (w : World) (K : V1) : Prop := F132_1b s0 w K (fun a3 a6 a7 a8 w => F132_2 a3 a6 a7 a8 w K)
theorem ok132_1 {K : V1}
    (hn : HN (fun e w => K (e 2) w) kn) (hr : HR Tryz.prog [.tmp 2] K kr) (he : HE noE ke) :
    ∀ e w, F132_1 (e 0) w K → denL Tryz.prog (tabOf T132) 18 fuel ((flat (bodyOf Tryz.f132)).drop 0) e w kn kr ke := by
  intro e w h
  unfold F132_1 at h
  have e1 : ∀ (Y0 : V4), F132_1b (e 0) w K Y0 = denL Tryz.prog (tabOf T132) 18 fuel (((flat (bodyOf Tryz.f132)).drop 0).take 3) e w (fun e w => Y0 (e 3) (e 6) (e 7) (e 8) w) (endD Tryz.prog [.tmp 2] K) noE := by intro Y0; kernel_rfl
  exact seg 3 (Eq.mp (e1 (fun a3 a6 a7 a8 w => F132_2 a3 a6 a7 a8 w K)) h) (fun e w h => ok132_2 hn hr he e w h) hr he
def F132 (x0 : Value) (w : World) (K : V1) : Prop := F132_1 x0 w K
def G132 : FnT := fun args w K => on1 (fun x0 => F132 x0 w K) args
theorem c132 {x0 : Value} {w : World} {K : V1} (h : F132 x0 w K) : callP G132 [x0] w K := callP_intro (on1_mk (p := fun x0 => F132 x0 w K) h)
theorem ok132 : OkF Tryz.prog 132 G132 := by
  refine okF_of (tab_ok (l := T132) trivial) mixed (n := fuel) Tryz.func132 Tryz.call132 fun args w K h => ?_
  obtain ⟨x0, rfl, hh⟩ := of_on1 h
  unfold F132 at hh
  exact fnD_list (c := bodyOf Tryz.f132) (by kernel_rfl) (by kernel_rfl) (ok132_1 (fun _ _ h => h) (fun _ _ h => h) (fun _ _ _ h => h) (initE [x0]) w hh)
def T131 : List (Nat × FnT) := [(47, G47), (127, G127), (128, G128), (129, G129), (130, G130), (132, G132), (137, G137), (183, G183)]
def F131 (x0 x1 x2 : Value) (w : World) (K : V1) : Prop :=
eBox 45 x0 w fun v2 w1 =>
eBox 45 x1 w1 fun v4 w3 =>
bindP (ld1 x2 w3.drew) fun v5 =>
bindP (ldN 11 v4 w3.drew) fun v6 =>
bindP (ld1 x2 w3.drew) fun v7 =>
bindP (ldN 11 v2 w3.drew) fun v8 =>
bindP (pFieldAddr 0 v2) fun v9 =>
bindP (ld1 v9 w3.drew) fun v10 =>
bindP (pFieldAddr 0 v4) fun v11 =>
bindP (ld1 v11 w3.drew) fun v12 =>
eCallV (tabOf T131) v5 [v6] w3.drew fun v14 w13 =>
(fok true (ld1 x2 w13) v7 ∧ fok true (ldN 11 v2 w13) v8 ∧ fok true (ld1 v9 w13) v10 ∧ fok true (ld1 v11 w13) v12) ∧ (eCallV (tabOf T131) v7 [v8] w13 fun v16 w15 =>
(fok true (ld1 v9 w15) v10 ∧ fok true (ld1 v11 w15) v12) ∧ (callP G47 [v14, v16] w15 fun v18 w17 =>
(fok true (ld1 v9 w17) v10 ∧ fok true (ld1 v11 w17) v12) ∧ (callP G47 [v10, v12] w17 fun v20 w19 =>
eBuildSl Tryz.prog 269 2 [(0, v18), (1, v20)] w19 fun v22 w21 =>
callP G132 [v22] w21 fun v24 w23 =>
K v24 w23)))
def G131 : FnT := fun args w K => on3 (fun x0 x1 x2 => F131 x0 x1 x2 w K) args
theorem c131 {x0 x1 x2 : Value} {w : World} {K : V1} (h : F131 x0 x1 x2 w K) : callP G131 [x0, x1, x2] w K := callP_intro (on3_mk (p := fun x0 x1 x2 => F131 x0 x1 x2 w K) h)
theorem ok131 : OkF Tryz.prog 131 G131 := by
  refine okF_of (tab_ok (l := T131) ⟨ok47, ok127, ok128, ok129, ok130, ok132, ok137, ok183, trivial⟩) mixed (n := fuel) Tryz.func131 Tryz.call131 fun args w K h => ?_
  obtain ⟨x0, x1, x2, rfl, hh⟩ := of_on3 h
  exact fnD_list (c := bodyOf Tryz.f131) (by kernel_rfl) (by kernel_rfl) (Eq.mp (by kernel_rfl) hh)
end Go.Proofs.Gong

/- Al0 -/
namespace Go.Proofs.Gong
open Go Go.Sx Go.Proofs
set_option maxRecDepth 100000
section
variable {κ ν : Type} [DecidableEq κ] {k : κ} {x : ν} {m : List (κ × ν)}
theorem aGet_none_of {k : κ} {m : List (κ × ν)} (h : ∀ y, (k, y) ∉ m) : aGet k m = none := by
  cases hg : aGet k m with
  | none => rfl
  | some y => exact absurd (aGet_mem hg) (h y)
theorem aSet_new {k : κ} {x : ν} : ∀ {m : List (κ × ν)}, aGet k m = none → aSet k x m = m ++ [(k, x)]
  | [], _ => rfl
  | z :: r, h => by
    unfold aGet at h
    by_cases hk : k = z.1
    · simp [hk] at h
    · simp only [hk, if_false] at h
      simp [aSet, hk, aSet_new h]
theorem aDel_perm {k : κ} {x : ν} : ∀ {m : List (κ × ν)}, aGet k m = some x → ((k, x) :: aDel k m).Perm m
  | [], h => by simp [aGet] at h
  | z :: r, h => by
    unfold aGet at h
    by_cases hk : k = z.1
    · simp only [hk, if_true, Option.some.injEq] at h
      subst h
      simp [aDel, hk]
    · simp only [hk, if_false] at h
      simp only [aDel, hk, if_false]
      exact (List.Perm.swap _ _ _).trans ((aDel_perm h).cons z)
theorem aSet_perm {k : κ} {x y : ν} : ∀ {m : List (κ × ν)}, aGet k m = some y → (aSet k x m).Perm ((k, x) :: aDel k m)
  | [], h => by simp [aGet] at h
  | z :: r, h => by
    unfold aGet at h
    by_cases hk : k = z.1
    · simp [aSet, aDel, hk]
    · simp only [hk, if_false] at h
      simp only [aDel, aSet, hk, if_false]
      exact ((aSet_perm h).cons z).trans (List.Perm.swap _ _ _)
end
end Go.Proofs.Gong

/- Ks0 -/
namespace Go.Proofs.Gong
open Go Go.Sx Go.Proofs
theorem aDel_no {κ ν : Type} [DecidableEq κ] {k : κ} : ∀ {m : List (κ × ν)}, aGet k m = none → aDel k m = m
  | [], _ => rfl
  | z :: r, h => by
    unfold aGet at h
    by_cases hk : k = z.1
    · simp [hk] at h
    · simp only [hk, if_false] at h
      simp [aDel, hk, aDel_no h]
structure STO {κ : Type} (lt : κ → κ → Bool) : Prop where
  irr : ∀ a, lt a a = false
  trans : ∀ {a b c}, lt a b = true → lt b c = true → lt a c = true
  tot : ∀ {a b}, lt a b = false → lt b a = false → a = b
section
variable {α κ ν : Type} [DecidableEq κ] (lt : κ → κ → Bool) (key : α → κ) (val : α → ν)
def kGet (k : κ) (l : List α) : Option α := l.find? fun x => decide (key x = k)
def kDel (k : κ) (l : List α) : List α := l.filter fun x => decide (key x ≠ k)
def kIns (x : α) (l : List α) : List α := l.takeWhile (fun d => lt (key d) (key x)) ++ x :: l.dropWhile (fun d => lt (key d) (key x))
def kPut (x : α) (l : List α) : List α := kIns lt key x (kDel key (key x) l)
def KAsc (l : List α) : Prop := l.Pairwise fun a b => lt (key a) (key b) = true
structure KInv (M : List (κ × ν)) (l : List α) : Prop where
  pm : M.Perm (l.map fun x => (key x, val x))
  asc : KAsc lt key l
variable {lt key val}
theorem KAsc.ne (S : STO lt) {l : List α} (h : KAsc lt key l) : l.Pairwise fun a b => key a ≠ key b :=
  h.imp fun h e => by rw [e, S.irr] at h; cases h
theorem kasc_nd (S : STO lt) {l : List α} (h : KAsc lt key l) : (l.map key).Nodup := List.pairwise_map.2 (h.ne S)
theorem kasc_split (S : STO lt) {l : List α} {x : α} (h : KAsc lt key l) (hx : x ∈ l) : ∃ a b, l = a ++ x :: b ∧ (∀ d ∈ a, key d ≠ key x) ∧ (∀ d ∈ b, key d ≠ key x) := by
  obtain ⟨a, b, rfl⟩ := List.append_of_mem hx
  have h2 := h.ne S
  rw [List.pairwise_append] at h2
  exact ⟨a, b, rfl, fun d hd => h2.2.2 d hd x (by simp), fun d hd e => (List.pairwise_cons.1 h2.2.1).1 d hd e.symm⟩
theorem kGet_mem {l : List α} {k : κ} {x : α} (h : kGet key k l = some x) : x ∈ l ∧ key x = k := by
  unfold kGet at h
  exact ⟨List.mem_of_find?_eq_some h, by simpa using List.find?_some h⟩
theorem kGet_none {l : List α} {k : κ} : kGet key k l = none ↔ ∀ x ∈ l, key x ≠ k := by
  unfold kGet
  rw [List.find?_eq_none]
  simp
theorem kIns_perm (x : α) (l : List α) : (kIns lt key x l).Perm (x :: l) := by
  unfold kIns
  exact List.perm_middle.trans (by rw [List.takeWhile_append_dropWhile])
theorem kIns_asc (S : STO lt) {x : α} : ∀ {l : List α}, KAsc lt key l → (∀ d ∈ l, key d ≠ key x) → KAsc lt key (kIns lt key x l)
  | [], _, _ => by simp [kIns, KAsc]
  | d :: r, h, hn => by
    obtain ⟨h1, h2⟩ := List.pairwise_cons.1 h
    by_cases g : lt (key d) (key x) = true
    · have e : kIns lt key x (d :: r) = d :: kIns lt key x r := by simp [kIns, g]
      rw [e]
      refine List.pairwise_cons.2 ⟨fun y hy => ?_, kIns_asc S h2 fun y hy => hn y (List.mem_cons_of_mem _ hy)⟩
      rcases List.mem_cons.1 ((kIns_perm x r).mem_iff.1 hy) with rfl | hy
      · exact g
      · exact h1 y hy
    · have g2 : lt (key d) (key x) = false := by simpa using g
      have e : kIns lt key x (d :: r) = x :: d :: r := by simp [kIns, g2]
      rw [e]
      have hxd : lt (key x) (key d) = true := by
        cases hh : lt (key x) (key d) with
        | true => rfl
        | false => exact absurd (S.tot g2 hh) (hn d (by simp))
      refine List.pairwise_cons.2 ⟨fun y hy => ?_, h⟩
      rcases List.mem_cons.1 hy with rfl | hy
      · exact hxd
      · exact S.trans hxd (h1 y hy)
theorem kDel_asc {l : List α} {k : κ} (h : KAsc lt key l) : KAsc lt key (kDel key k l) := h.filter _
theorem kDel_no {l : List α} {k : κ} : ∀ d ∈ kDel key k l, key d ≠ k := fun d hd => by simpa using (List.mem_filter.1 hd).2
theorem kDel_id {l : List α} {k : κ} (h : ∀ d ∈ l, key d ≠ k) : kDel key k l = l := List.filter_eq_self.2 fun d hd => by simpa using h d hd
theorem kDel_split {l r : List α} {x : α} (h1 : ∀ d ∈ l, key d ≠ key x) (h2 : ∀ d ∈ r, key d ≠ key x) : kDel key (key x) (l ++ x :: r) = l ++ r := by
  unfold kDel
  rw [List.filter_append, List.filter_cons, List.filter_eq_self.2 (fun d hd => by simpa using h1 d hd), List.filter_eq_self.2 (fun d hd => by simpa using h2 d hd)]
  simp
theorem kPut_asc (S : STO lt) {l : List α} {x : α} (h : KAsc lt key l) : KAsc lt key (kPut lt key x l) := kIns_asc S (kDel_asc h) kDel_no
theorem kPut_perm (l : List α) (x : α) : (kPut lt key x l).Perm (x :: kDel key (key x) l) := kIns_perm _ _
theorem kPut_last {l : List α} {x : α} (S : STO lt) (h : ∀ d ∈ l, lt (key d) (key x) = true) : kPut lt key x l = l ++ [x] := by
  unfold kPut
  rw [kDel_id fun d hd e => by have := h d hd; rw [e, S.irr] at this; cases this]
  clear S
  induction l with
  | nil => rfl
  | cons d l ih =>
    have hd := h d (by simp)
    have e : kIns lt key x (d :: l) = d :: kIns lt key x l := by simp [kIns, hd]
    rw [e, ih fun x hx => h x (List.mem_cons_of_mem _ hx)]
    rfl
section
variable {M : List (κ × ν)} {l : List α}
theorem KInv.nil : KInv lt key val ([] : List (κ × ν)) [] := ⟨.nil, .nil⟩
variable (H : KInv lt key val M l) (S : STO lt)
include H
theorem KInv.len : M.length = l.length := by have := H.pm.length_eq; simpa using this
include S
theorem KInv.keys : (M.map Prod.fst).Nodup := by
  refine ((H.pm.map Prod.fst).nodup_iff).2 ?_
  rw [List.map_map]
  exact kasc_nd S H.asc
theorem KInv.get (k : κ) : aGet k M = (kGet key k l).map val := by
  cases hg : kGet key k l with
  | none =>
    refine aGet_none_of fun y hy => ?_
    obtain ⟨x, hx, e⟩ := List.mem_map.1 (H.pm.mem_iff.1 hy)
    simp only [Prod.mk.injEq] at e
    exact kGet_none.1 hg x hx e.1
  | some x =>
    obtain ⟨h1, rfl⟩ := kGet_mem hg
    exact mem_aGet (H.keys S) (H.pm.mem_iff.2 (List.mem_map.2 ⟨x, h1, rfl⟩))
theorem KInv.del (k : κ) : KInv lt key val (aDel k M) (kDel key k l) := by
  refine ⟨?_, kDel_asc H.asc⟩
  cases hg : kGet key k l with
  | none =>
    rw [kDel_id (kGet_none.1 hg)]
    have : aGet k M = none := by rw [H.get S, hg]; rfl
    rw [aDel_no this]
    exact H.pm
  | some x =>
    obtain ⟨h1, rfl⟩ := kGet_mem hg
    have hv : aGet (key x) M = some (val x) := by rw [H.get S, hg]; rfl
    obtain ⟨a, b, rfl, h2, h3⟩ := kasc_split S H.asc h1
    rw [kDel_split h2 h3]
    have := ((aDel_perm hv).trans H.pm)
    rw [List.map_append, List.map_cons] at this
    rw [List.map_append]
    exact List.Perm.cons_inv (this.trans List.perm_middle)
theorem KInv.put (x : α) : KInv lt key val (aSet (key x) (val x) M) (kPut lt key x l) := by
  refine ⟨?_, kPut_asc S H.asc⟩
  have hp := ((kPut_perm (lt := lt) (key := key) l x).map fun x => (key x, val x))
  rw [List.map_cons] at hp
  refine .trans ?_ hp.symm
  have hd := (H.del S (key x)).pm
  cases hg : kGet key (key x) l with
  | none =>
    have h0 : aGet (key x) M = none := by rw [H.get S, hg]; rfl
    rw [aSet_new h0]
    rw [aDel_no h0] at hd
    exact List.perm_append_comm.trans (hd.cons _)
  | some y =>
    obtain ⟨h1, e⟩ := kGet_mem hg
    have hv : aGet (key x) M = some (val y) := by rw [H.get S, hg]; rfl
    exact (aSet_perm hv).trans (hd.cons _)
end
end
def ltI (a b : Int) : Bool := decide (a < b)
theorem STO.int : STO ltI := ⟨fun a => by simp [ltI], fun h1 h2 => by simp [ltI] at *; omega, fun h1 h2 => by simp [ltI] at *; omega⟩
end Go.Proofs.Gong

/- Hp0 -/
namespace Go.Proofs.Gong
open Go.Sx
abbrev It := Int × Int
def itLt (x y : It) : Bool := decide (x.2 < y.2) || (decide (x.2 = y.2) && decide (x.1 < y.1))
theorem itSWO : SWO itLt := by
  constructor
  · rintro ⟨a, b⟩ ⟨c, d⟩ h; simp [itLt] at *; omega
  · rintro ⟨a, b⟩ ⟨c, d⟩ ⟨e, f⟩ h1 h2; simp [itLt] at *; omega
theorem itTot (a b : It) (h1 : itLt a b = false) (h2 : itLt b a = false) : a = b := by
  rcases a with ⟨a1, a2⟩; rcases b with ⟨b1, b2⟩
  simp only [itLt, Bool.or_eq_false_iff, decide_eq_false_iff_not, Bool.and_eq_false_iff] at h1 h2
  have e1 : a2 = b2 := by omega
  have e2 : a1 = b1 := by omega
  rw [e1, e2]
abbrev Pl := List (Int × Int)
structure Idx (l : List It) (m : Pl) : Prop where
  a : ∀ id j, aGet id m = some j → ∃ (k : Nat) (t : Int), j = k ∧ l[k]? = some (id, t)
  b : ∀ (k : Nat) (x : It), l[k]? = some x → aGet x.1 m = some (k : Int)
theorem Idx.inj {l : List It} {m : Pl} (h : Idx l m) {i j : Nat} {x y : It} (hi : l[i]? = some x) (hj : l[j]? = some y) (e : x.1 = y.1) : i = j := by
  have h1 := h.b i x hi
  have h2 := h.b j y hj
  rw [e, h2] at h1
  simp at h1; omega
theorem Idx.ext {l : List It} {m m' : Pl} (h : Idx l m) (e : ∀ k, aGet k m' = aGet k m) : Idx l m' :=
  ⟨fun id j hj => h.a id j (by rw [← e]; exact hj), fun k x hx => by rw [e]; exact h.b k x hx⟩
theorem Idx.move {l : List It} {m : Pl} {i a : Nat} {x y : It} (hi : i < l.length) (ha : l[a]? = some y) (hne : a ≠ i) (h : Idx (l.set i x) (aSet x.1 i m)) :
    Idx ((l.set i y).set a x) (aSet x.1 a (aSet y.1 i m)) := by
  have hal : a < l.length := (List.getElem?_eq_some_iff.1 ha).1
  have hxi : (l.set i x)[i]? = some x := by simp [hi]
  have hya : (l.set i x)[a]? = some y := by rw [List.getElem?_set_ne (Ne.symm hne)]; exact ha
  have hxy : x.1 ≠ y.1 := fun e => hne (h.inj hya hxi e.symm)
  have get : ∀ k, ((l.set i y).set a x)[k]? = if k = a then some x else if k = i then some y else l[k]? := by
    intro k
    simp only [List.getElem?_set, List.length_set]
    by_cases h1 : a = k
    · subst h1; simp [hal]
    · by_cases h2 : i = k
      · subst h2; simp [h1, hi, Ne.symm h1]
      · simp [h1, h2, Ne.symm h1, Ne.symm h2]
  have old : ∀ k, k ≠ i → (l.set i x)[k]? = l[k]? := fun k hk => List.getElem?_set_ne (Ne.symm hk)
  constructor
  · intro id j hj
    rw [aGet_set] at hj
    by_cases e1 : id = x.1
    · simp [e1] at hj; subst hj
      exact ⟨a, x.2, rfl, by rw [get]; simp [e1]⟩
    · simp only [e1, if_false] at hj
      rw [aGet_set] at hj
      by_cases e2 : id = y.1
      · simp [e2] at hj; subst hj
        exact ⟨i, y.2, rfl, by rw [get]; simp [Ne.symm hne, e2]⟩
      · simp only [e2, if_false] at hj
        obtain ⟨k, t, hk, hl⟩ := h.a id j (by rw [aGet_set]; simp [e1, hj])
        refine ⟨k, t, hk, ?_⟩
        have k1 : k ≠ a := fun e => by subst e; rw [hya] at hl; cases hl; exact e2 rfl
        have k2 : k ≠ i := fun e => by subst e; rw [hxi] at hl; cases hl; exact e1 rfl
        rw [get]; simp only [k1, k2, if_false]
        rw [← old k k2]; exact hl
  · intro k z hz
    rw [get] at hz
    by_cases k1 : k = a
    · simp [k1] at hz; subst hz; subst k1; rw [aGet_set]; simp
    · simp only [k1, if_false] at hz
      by_cases k2 : k = i
      · simp [k2] at hz; subst hz; subst k2; rw [aGet_set, aGet_set]; simp [Ne.symm hxy]
      · simp only [k2, if_false] at hz
        rw [← old k k2] at hz
        have e1 : z.1 ≠ x.1 := fun e => k2 (h.inj hz hxi e)
        have e2 : z.1 ≠ y.1 := fun e => k1 (h.inj hz hya e)
        have := h.b k z hz
        rw [aGet_set] at this ⊢
        simp only [e1, if_false] at this ⊢
        rw [aGet_set]; simp only [e2, if_false]; exact this
def okAt (l : List It) (k : Nat) : Prop := ∀ x y, l[k]? = some x → l[(k - 1) / 2]? = some y → itLt x y = false
structure Up (l : List It) (i : Nat) (x : It) : Prop where
  o : ∀ k, 0 < k → k ≠ i → (k - 1) / 2 ≠ i → okAt l k
  c : ∀ k y z, 0 < k → 0 < i → (k - 1) / 2 = i → l[k]? = some y → l[(i - 1) / 2]? = some z → itLt y z = false
structure Dn (l : List It) (i : Nat) (x : It) : Prop where
  o : ∀ k, 0 < k → k ≠ i → (k - 1) / 2 ≠ i → okAt l k
  p : ∀ y, 0 < i → l[(i - 1) / 2]? = some y → itLt x y = false
  c : ∀ k y z, 0 < k → 0 < i → (k - 1) / 2 = i → l[k]? = some y → l[(i - 1) / 2]? = some z → itLt y z = false
theorem get_set (l : List It) (i k : Nat) (x : It) (hi : i < l.length) : (l.set i x)[k]? = if k = i then some x else l[k]? := by
  rw [List.getElem?_set]
  by_cases h : i = k
  · subst h; simp [hi]
  · simp [h, Ne.symm h]
def Hp (l : List It) : Prop := ∀ k, 0 < k → okAt l k
end Go.Proofs.Gong

/- Hp1 -/
namespace Go.Proofs.Gong
open Go.Sx
def Asc (M : List It) : Prop := M.Pairwise fun x y => itLt y x = false
def dropM (id : Int) (M : List It) : List It := M.filter fun x => decide (x.1 ≠ id)
def insM (x : It) (M : List It) : List It := M.takeWhile (fun y => itLt y x) ++ x :: M.dropWhile (fun y => itLt y x)
def getM (id : Int) (M : List It) : Option Int := (M.find? fun x => decide (x.1 = id)).map (·.2)
theorem insM_perm (x : It) (M : List It) : (insM x M).Perm (x :: M) := by
  unfold insM
  refine List.perm_middle.trans ?_
  rw [List.takeWhile_append_dropWhile]
theorem Asc.ins {M : List It} (h : Asc M) (x : It) : Asc (insM x M) := by
  induction M with
  | nil => simp [insM, Asc]
  | cons y M ih =>
    unfold Asc at h
    rw [List.pairwise_cons] at h
    obtain ⟨h1, h2⟩ := h
    by_cases hlt : itLt y x = true
    · have e : insM x (y :: M) = y :: insM x M := by simp [insM, hlt]
      rw [e]
      unfold Asc
      rw [List.pairwise_cons]
      refine ⟨fun z hz => ?_, ih h2⟩
      rcases List.mem_cons.1 ((insM_perm x M).subset hz) with rfl | hz
      · exact itSWO.asym _ _ hlt
      · exact h1 z hz
    · have e : insM x (y :: M) = x :: y :: M := by simp [insM, hlt]
      rw [e]
      unfold Asc
      rw [List.pairwise_cons]
      refine ⟨fun z hz => ?_, List.pairwise_cons.2 ⟨h1, h2⟩⟩
      rcases List.mem_cons.1 hz with rfl | hz
      · simpa using hlt
      · exact itSWO.tr _ _ _ (by simpa using hlt) (h1 z hz)
theorem Asc.drop {M : List It} (h : Asc M) (id : Int) : Asc (dropM id M) := List.Pairwise.sublist List.filter_sublist h
theorem Asc.eq {M N : List It} (h : Asc M) (h' : Asc N) (p : M.Perm N) : M = N := sorted_unique (lt := itLt) (fun a b h1 h2 => itTot a b h1 h2) p h h'
structure HRep (l : List It) (m : Pl) (M : List It) : Prop where
  i : Idx l m
  h : Hp l
  p : l.Perm M
  s : Asc M
theorem Hp.first {l : List It} (h : Hp l) {x : It} (hx : l[0]? = some x) : ∀ y ∈ l, itLt y x = false := by
  have key : ∀ (k : Nat) (y : It), l[k]? = some y → itLt y x = false := by
    intro k
    induction k using Nat.strongRecOn with
    | ind k ih =>
      intro y hy
      by_cases h0 : 0 < k
      · have hk : k < l.length := (List.getElem?_eq_some_iff.1 hy).1
        have hz : l[(k - 1) / 2]? = some l[(k - 1) / 2] := List.getElem?_eq_getElem (by omega)
        exact itSWO.tr _ _ _ (ih _ (by omega) _ hz) (h k h0 y _ hy hz)
      · have : k = 0 := by omega
        subst this; rw [hx] at hy; cases hy; exact itSWO.irr _
  intro y hy
  obtain ⟨k, hk⟩ := List.getElem?_of_mem hy
  exact key k y hk
theorem HRep.first {l : List It} {m : Pl} {M : List It} (R : HRep l m M) : l.head? = M.head? := by
  cases l with
  | nil => have := R.p.length_eq; simp at this; rw [List.eq_nil_of_length_eq_zero this.symm]
  | cons x l =>
    cases M with
    | nil => have := R.p.length_eq; simp at this
    | cons y M =>
      have h1 := R.h.first (x := x) rfl y (R.p.symm.subset (by simp))
      have h2 : itLt x y = false := by
        rcases List.mem_cons.1 (R.p.subset (show x ∈ x :: l by simp)) with e | e
        · rw [e]; exact itSWO.irr _
        · exact (List.pairwise_cons.1 R.s).1 x e
      have := itTot x y h2 h1
      simp [this]
theorem HRep.ids {l : List It} {m : Pl} {M : List It} (R : HRep l m M) : (M.map (·.1)).Nodup := by
  have : (l.map (·.1)).Nodup := by
    rw [List.nodup_iff_pairwise_ne, List.pairwise_iff_getElem]
    intro i j hi hj hij e
    simp at hi hj e
    have := R.i.inj (List.getElem?_eq_getElem hi) (List.getElem?_eq_getElem hj) e
    omega
  exact (R.p.map _).nodup this
theorem find_of {M : List It} {id t : Int} (hn : (M.map (·.1)).Nodup) (hm : (id, t) ∈ M) : getM id M = some t := by
  induction M with
  | nil => simp at hm
  | cons x M ih =>
    simp only [List.map_cons, List.nodup_cons] at hn
    rcases List.mem_cons.1 hm with rfl | hm
    · simp [getM]
    · have : x.1 ≠ id := fun e => hn.1 (by rw [e]; exact List.mem_map_of_mem (f := (·.1)) hm)
      have := ih hn.2 hm
      unfold getM at *
      rw [List.find?_cons, decide_eq_false ‹x.1 ≠ id›]
      exact this
theorem find_none {M : List It} {id : Int} (h : ∀ t, (id, t) ∉ M) : getM id M = none := by
  unfold getM
  rw [Option.map_eq_none_iff, List.find?_eq_none]
  intro x hx
  simp
  intro e
  exact h x.2 (by rw [← e]; exact hx)
theorem HRep.get {l : List It} {m : Pl} {M : List It} (R : HRep l m M) (id : Int) :
    (∃ (k : Nat) (t : Int), aGet id m = some (k : Int) ∧ l[k]? = some (id, t) ∧ getM id M = some t) ∨ (aGet id m = none ∧ getM id M = none ∧ ∀ t, (id, t) ∉ M) := by
  cases h : aGet id m with
  | some j =>
    obtain ⟨k, t, rfl, hl⟩ := R.i.a id j h
    exact .inl ⟨k, t, rfl, hl, find_of R.ids (R.p.subset (List.mem_of_getElem? hl))⟩
  | none =>
    have hn : ∀ t, (id, t) ∉ M := by
      intro t ht
      obtain ⟨k, hk⟩ := List.getElem?_of_mem (R.p.symm.subset ht)
      have := R.i.b k _ hk
      simp [h] at this
    exact .inr ⟨rfl, find_none hn, hn⟩
theorem drop_absent {M : List It} {id : Int} (h : ∀ t, (id, t) ∉ M) : dropM id M = M := by
  unfold dropM
  rw [List.filter_eq_self]
  intro x hx
  simp
  intro e
  exact h x.2 (by rw [← e]; exact hx)
theorem drop_perm {M : List It} {id t : Int} (hn : (M.map (·.1)).Nodup) (hm : (id, t) ∈ M) : ((id, t) :: dropM id M).Perm M := by
  induction M with
  | nil => simp at hm
  | cons x M ih =>
    simp only [List.map_cons, List.nodup_cons] at hn
    rcases List.mem_cons.1 hm with rfl | hm'
    · have : dropM id ((id, t) :: M) = dropM id M := by simp [dropM]
      rw [this, drop_absent fun t' h => hn.1 (List.mem_map_of_mem (f := (·.1)) h)]
    · have hne : x.1 ≠ id := fun e => hn.1 (by rw [e]; exact List.mem_map_of_mem (f := (·.1)) hm')
      have : dropM id (x :: M) = x :: dropM id M := by simp [dropM, hne]
      rw [this]
      exact (List.Perm.swap _ _ _).trans ((ih hn.2 hm').cons x)
end Go.Proofs.Gong

/- Hp2 -/
namespace Go.Proofs.Gong
open Go.Sx
def setM (id t : Int) (M : List It) : List It := insM (id, t) (dropM id M)
theorem set_perm {l : List It} {k : Nat} {x y : It} (hk : l[k]? = some y) : (y :: l.set k x).Perm (x :: l) := by
  obtain ⟨h1, h2⟩ := List.getElem?_eq_some_iff.1 hk
  have e1 : l = l.take k ++ y :: l.drop (k + 1) := by rw [← h2, List.getElem_cons_drop, List.take_append_drop]
  have e2 : l.set k x = l.take k ++ x :: l.drop (k + 1) := by rw [List.set_eq_take_append_cons_drop, if_pos h1]
  rw [e2]
  refine (List.perm_middle.cons y).trans ?_
  refine (List.Perm.swap _ _ _).trans ?_
  refine List.Perm.cons x ?_
  refine List.perm_middle.symm.trans ?_
  rw [← e1]
theorem Hp.up_set {l : List It} (h : Hp l) {k : Nat} {x : It} (hk : k < l.length) : Up (l.set k x) k x := by
  have hy : l[k]? = some l[k] := List.getElem?_eq_getElem hk
  constructor
  · intro j h0 h1 h2 a b ha hb
    rw [get_set _ _ _ _ hk, if_neg h1] at ha
    rw [get_set _ _ _ _ hk, if_neg h2] at hb
    exact h j h0 a b ha hb
  · intro j y z h0 h1 h2 hy' hz
    rw [get_set _ _ _ _ hk, if_neg (by omega)] at hy'
    rw [get_set _ _ _ _ hk, if_neg (by omega)] at hz
    have a1 := h j h0 y l[k] hy' (by rw [h2]; exact hy)
    have a2 := h k h1 l[k] z hy hz
    exact itSWO.tr _ _ _ a2 a1
theorem aSet_same {m : Pl} {id : Int} {j : Int} (h : aGet id m = some j) (k : Int) : aGet k (aSet id j m) = aGet k m := by
  rw [aGet_set]; split
  · rename_i e; rw [e, h]
  · rfl
theorem HRep.put {l : List It} {m : Pl} {M : List It} (R : HRep l m M) {k : Nat} {id t t' : Int} (hl : l[k]? = some (id, t)) :
    Up (l.set k (id, t')) k (id, t') ∧ Idx (l.set k (id, t')) (aSet id k m) ∧ (l.set k (id, t')).Perm (setM id t' M) := by
  have hk : k < l.length := (List.getElem?_eq_some_iff.1 hl).1
  refine ⟨R.h.up_set hk, ?_, ?_⟩
  · have h0 := R.i
    have hg := R.i.b k _ hl
    constructor
    · intro id' j hj
      rw [aSet_same hg] at hj
      obtain ⟨k', t'', rfl, h2⟩ := h0.a id' j hj
      by_cases e : k' = k
      · subst e; rw [hl] at h2; cases h2
        exact ⟨k', t', rfl, by simp [hk]⟩
      · exact ⟨k', t'', rfl, by rw [get_set _ _ _ _ hk, if_neg e]; exact h2⟩
    · intro j y hy
      rw [aSet_same hg]
      rw [get_set _ _ _ _ hk] at hy
      by_cases e : j = k
      · rw [if_pos e] at hy; cases hy; subst e; exact hg
      · rw [if_neg e] at hy; exact h0.b j y hy
  · have h1 := set_perm (x := (id, t')) hl
    have hm : (id, t) ∈ M := R.p.subset (List.mem_of_getElem? hl)
    have h2 : ((id, t') :: l).Perm ((id, t) :: (id, t') :: dropM id M) := ((R.p.trans (drop_perm R.ids hm).symm).cons _).trans (List.Perm.swap _ _ _)
    have h3 := (h1.trans h2).cons_inv
    exact h3.trans (insM_perm _ _).symm
theorem HRep.add {l : List It} {m : Pl} {M : List It} (R : HRep l m M) {id t' : Int} (hn : aGet id m = none) :
    Up (l ++ [(id, t')]) l.length (id, t') ∧ Idx (l ++ [(id, t')]) (aSet id l.length m) ∧ (l ++ [(id, t')]).Perm (setM id t' M) := by
  have hnm : ∀ t, (id, t) ∉ M := by
    rcases R.get id with ⟨k, t, h, _⟩ | ⟨_, _, h⟩
    · rw [hn] at h; cases h
    · exact h
  have get : ∀ k, (l ++ [(id, t')])[k]? = if k = l.length then some (id, t') else l[k]? := by
    intro k
    rw [List.getElem?_append]
    by_cases h1 : k < l.length
    · rw [if_pos h1, if_neg (by omega)]
    · rw [if_neg h1]
      by_cases h2 : k = l.length
      · simp [h2]
      · rw [if_neg h2, List.getElem?_eq_none (by simp; omega), List.getElem?_eq_none (by omega)]
  refine ⟨⟨?_, ?_⟩, ⟨?_, ?_⟩, ?_⟩
  · intro k h0 h1 h2 a b ha hb
    rw [get, if_neg h1] at ha
    rw [get, if_neg h2] at hb
    exact R.h k h0 a b ha hb
  · intro k y z h0 h1 h2 hy hz
    rw [get, if_neg (by omega)] at hy
    have := (List.getElem?_eq_some_iff.1 hy).1
    omega
  · intro id' j hj
    rw [aGet_set] at hj
    by_cases e : id' = id
    · simp [e] at hj; subst hj
      exact ⟨l.length, t', rfl, by rw [get]; simp [e]⟩
    · simp only [e, if_false] at hj
      obtain ⟨k, t, rfl, hk⟩ := R.i.a id' j hj
      have := (List.getElem?_eq_some_iff.1 hk).1
      exact ⟨k, t, rfl, by rw [get, if_neg (by omega)]; exact hk⟩
  · intro k x hx
    rw [get] at hx
    rw [aGet_set]
    by_cases e : k = l.length
    · rw [if_pos e] at hx; cases hx; simp [e]
    · rw [if_neg e] at hx
      have h1 := R.i.b k x hx
      have : x.1 ≠ id := fun e => by rw [e, hn] at h1; cases h1
      rw [if_neg this]; exact h1
  · refine List.Perm.trans ?_ (insM_perm _ _).symm
    rw [drop_absent hnm]
    exact List.perm_append_comm.trans (R.p.cons _)
end Go.Proofs.Gong

/- Hp3 -/
namespace Go.Proofs.Gong
open Go Go.Sx Go.Proofs
set_option maxRecDepth 100000
@[reducible] def cIt (x : It) : List Value := [.int .i64 x.1, .int .i64 x.2]
def ekI (n : Int) : Value := .int .i64 n
def evI (n : Int) : Value := .int .i64 n
def HeapI (v : Value) (n : Int) (l : List It) (m : Pl) : HP := HEx fun p => HEx fun sv => HEx fun mv => HPr (v = ptr p) (HS [Cl p #[.int .i64 n, sv, mv] 320, LsH cIt 2 414 sv l, MapH ekI evI mv m])
section
variable {w0 w : World} {L : List HP} {K : Value → World → Prop} {v : Value} {n : Int} {l : List It} {m : Pl}
theorem heapI_iff : Sat w0 (HeapI v n l m :: L) w ↔ ∃ p sv mv, v = ptr p ∧ Sat w0 (Cl p #[.int .i64 n, sv, mv] 320 :: LsH cIt 2 414 sv l :: MapH ekI evI mv m :: L) w := by
  simp only [HeapI, Sat.ex_iff, Sat.pr_iff, Sat.hs_iff, List.cons_append, List.nil_append]
theorem heapI_mk {p : Nat} {sv mv : Value} (h : Sat w0 (Cl p #[.int .i64 n, sv, mv] 320 :: LsH cIt 2 414 sv l :: MapH ekI evI mv m :: L) w) : Sat w0 (HeapI (ptr p) n l m :: L) w := heapI_iff.2 ⟨p, sv, mv, rfl, h⟩
theorem nan_spec {a : Int} (hK : K (.bool false) w) : callP G80 [.int .i64 a] w K := by
  refine c80 ?_
  unfold F80
  simpa using hK
theorem cmp_spec {a b : Int} (hK : K (.int .i64 (if a < b then -1 else if b < a then 1 else 0)) w) : callP G47 [.int .i64 a, .int .i64 b] w K := by
  refine c47 ?_
  unfold F47
  refine nan_spec (nan_spec ?_)
  simp
  by_cases h1 : a < b
  · simp [h1] at hK ⊢; exact hK
  · by_cases h2 : b < a
    · simp [h1, h2] at hK ⊢; exact hK
    · simp [h1, h2] at hK ⊢; exact hK
theorem or_loop {s : Value} {cs : List Int} (hr : Rd w 1 s cs.length (cs.flatMap cI)) (hlen : cs.length < 1000) (hK : K (.int .i64 ((cs.find? (fun c => decide (c ≠ 0))).getD 0)) w) :
    ∀ (d i : Nat), cs.length - i < d → i ≤ cs.length → (∀ c ∈ cs.take i, c = 0) → F132_2L d (.int .i64 0) s (.int .i64 cs.length) (.int .i64 i) w K := by
  intro d
  induction d with
  | zero => intro i hd; omega
  | succ d ih =>
    intro i hd hi h0
    rw [F132_2L]
    unfold F132_2b
    by_cases hlt : i < cs.length
    · have e1 := rd_ld1 (g := fun c => .int .i64 c) hr hlt
      simp [hlt, ix_el hr hlt, e1]
      by_cases hc : cs[i] = 0
      · simp [hc, wrap_id (show -9223372036854775808 ≤ (i : Int) + 1 ∧ (i : Int) + 1 ≤ 9223372036854775807 by omega)]
        refine ih (i + 1) (by omega) (by omega) fun c hc' => ?_
        rw [List.take_succ_eq_append_getElem hlt] at hc'
        rcases List.mem_append.1 hc' with h | h
        · exact h0 c h
        · simp at h; rw [h, hc]
      · simp [hc]
        have : cs.find? (fun c => decide (c ≠ 0)) = some cs[i] := by
          rw [List.find?_eq_some_iff_getElem]
          refine ⟨by simpa using hc, i, hlt, rfl, fun j hj => ?_⟩
          have := h0 cs[j] (by rw [List.mem_take_iff_getElem]; exact ⟨j, by omega, rfl⟩)
          simp [this]
        rw [this] at hK; exact hK
    · have : ¬ ((i : Int) < cs.length) := by omega
      simp [this, F132_3, F132_3b]
      have : cs.find? (fun c => decide (c ≠ 0)) = none := by
        rw [List.find?_eq_none]
        intro c hc
        rw [List.take_of_length_le (by omega)] at h0
        simp [h0 c hc]
      rw [this] at hK; exact hK
theorem or_spec {s : Value} {cs : List Int} (hr : Rd w 1 s cs.length (cs.flatMap cI)) (hlen : cs.length < 1000) (hK : K (.int .i64 ((cs.find? (fun c => decide (c ≠ 0))).getD 0)) w) : callP G132 [s] w K := by
  refine c132 ?_
  unfold F132 F132_1 F132_1b
  simp [hr.len]
  exact or_loop hr hlen hK fuel 0 (by unfold fuel; omega) (by omega) (by simp)
end
end Go.Proofs.Gong

/- Hp4 -/
namespace Go.Proofs.Gong
open Go Go.Sx Go.Proofs
set_option maxRecDepth 100000
section
variable {w0 w : World} {L : List HP} {K : Value → World → Prop} {v : Value} {n : Int} {l : List It} {m : Pl}
end
end Go.Proofs.Gong

/- Hp5 -/
namespace Go.Proofs.Gong
open Go Go.Sx Go.Proofs
set_option maxRecDepth 100000
def HeapH (v : Value) (n : Int) (M : List It) : HP := HEx fun l => HEx fun m => HPr (HRep l m M ∧ (l.length : Int) ≤ n ∧ n ≤ 65536) (HeapI v n l m)
section
variable {w0 w : World} {L : List HP} {K : Value → World → Prop} {v : Value} {n : Int} {l : List It} {m : Pl} {M : List It}
theorem heap_iff : Sat w0 (HeapH v n M :: L) w ↔ ∃ l m, (HRep l m M ∧ (l.length : Int) ≤ n ∧ n ≤ 65536) ∧ Sat w0 (HeapI v n l m :: L) w := by
  simp only [HeapH, Sat.ex_iff, Sat.pr_iff]
theorem heap_mk (R : HRep l m M) (h1 : (l.length : Int) ≤ n) (h2 : n ≤ 65536) (h : Sat w0 (HeapI v n l m :: L) w) : Sat w0 (HeapH v n M :: L) w := heap_iff.2 ⟨l, m, ⟨R, h1, h2⟩, h⟩
def setR (n id t : Int) (M : List It) : Int × List It :=
  if t < 0 ∨ 2305843009213693952 < t then (1, M) else if getM id M = none ∧ n ≤ M.length then (200, M) else (0, setM id t M)
end
end Go.Proofs.Gong

/- Hp6 -/
namespace Go.Proofs.Gong
open Go Go.Sx Go.Proofs
set_option maxRecDepth 100000
section
variable {w0 w : World} {L : List HP} {K : Value → World → Prop} {v : Value} {n : Int} {l : List It} {m : Pl} {M : List It}
end
end Go.Proofs.Gong

/- Hp7 -/
namespace Go.Proofs.Gong
open Go Go.Sx Go.Proofs
set_option maxRecDepth 100000
section
variable {w0 w : World} {L : List HP} {K : Value → World → Prop} {v : Value} {n : Int} {l : List It} {m : Pl} {M : List It}
theorem new_spec {n : Int} (h : Sat w0 L w) (hK0 : (n < 1 ∨ 65536 < n) → K (.tuple #[.pointer none, .int .i64 1]) w)
    (hK : ∀ p w', 1 ≤ n → n ≤ 65536 → Sat w0 (HeapH (ptr p) n [] :: L) w' → K (.tuple #[ptr p, .int .i64 0]) w') : callP G159 [.int .i64 n] w K := by
  refine c159 ?_
  unfold F159
  by_cases h1 : n < 1
  · simp [h1]; exact hK0 (.inl h1)
  by_cases h2 : 65536 < n
  · simp [h1, h2]; exact hK0 (.inr h2)
  simp [h1, h2]
  refine eMakeMap_sat ekI evI h fun mv w1 g1 => ?_
  have := map_one g1
  obtain ⟨r, es, c, ⟨rfl, _⟩, _⟩ := map_iff.1 g1
  have e : fBuild Tryz.prog 320 [(0, .int .i64 n), (2, .map (some r))] = some (.agg #[.int .i64 n, .slice none 0 0, .map (some r)]) := by kernel_rfl
  rw [e]
  simp only [bindP_some]
  refine eBox_sat g1 fun p w2 g2 => ?_
  refine hK p w2 (by omega) (by omega) (heap_mk (l := []) (m := []) ⟨⟨by simp [aGet], by simp⟩, fun k h x y hx => by simp at hx, .refl _, by simp [Asc]⟩ (by simp; omega) (by omega) (heapI_mk (p := p) (sv := .slice none 0 0) (mv := .map (some r)) ?_))
  exact (ls_nil g2).f1
end
end Go.Proofs.Gong

/- Bk0 -/
namespace Go.Proofs.Gong
open Go Go.Sx Go.Proofs
def bel (x n : Int) : Int := (x.tmod n + n).tmod n
section
variable {w : World} {K : Value → World → Prop}
theorem Below_spec {x n : Int} (hn : 0 < n) (hn2 : n ≤ 4611686018427387904) (hK : ∀ r : Int, 0 ≤ r → r < n → r = bel x n → K (.int .i64 r) w) : callP G12 [.int .i64 x, .int .i64 n] w K := by
  refine c12 ?_
  unfold F12
  have h1 := Int.tmod_lt_of_pos x hn
  have h2 : -n < x.tmod n := by
    have := Int.lt_tmod_of_pos x hn
    omega
  have h3 := Int.tmod_nonneg n (show (0 : Int) ≤ x.tmod n + n by omega)
  have h4 := Int.tmod_lt_of_pos (x.tmod n + n) hn
  simp [bRem_int _ _ _ (show n ≠ 0 by omega), wrap_id (show -9223372036854775808 ≤ x.tmod n + n ∧ x.tmod n + n ≤ 9223372036854775807 by omega)]
  exact hK _ h3 h4 rfl
end
end Go.Proofs.Gong

/- Hp9 -/
namespace Go.Proofs.Gong
open Go Go.Sx Go.Proofs
set_option maxRecDepth 100000
attribute [local irreducible] fBuild fLook fZero eqv bEqv Cl MapH LsH SlH ld1 ldN st callP eBox eAlloc lenM lenL eMapSet eDelete eAppend eBuildSl eRange eNext
section
variable {w0 w : World} {L : List HP} {K : Value → World → Prop} {v : Value} {n : Int} {M : List It}
end
end Go.Proofs.Gong

/- Nm0 -/
namespace Go.Proofs.Gong
open Go Go.Sx
def longP (b : Nat) : Nat × Nat := if b < 128 then (1, b) else if b / 32 = 6 then (2, b % 32) else if b / 16 = 14 then (3, b % 16) else if b / 8 = 30 then (4, b % 8) else (0, 0)
def leastP (n : Nat) : Nat := if n = 2 then 128 else if n = 3 then 2048 else if n = 4 then 65536 else 0
def isC (c : Nat) : Bool := decide (c ≤ 1114111) && (decide (c < 55296) || decide (57343 < c))
def contP : Nat → Nat → List UInt8 → Option Nat
  | 0, c, _ => some c
  | _ + 1, _, [] => none
  | k + 1, c, b :: s => if b.toNat / 64 = 2 then contP k (c * 64 + b.toNat % 64) s else none
def firstP : List UInt8 → Option (Nat × Nat)
  | [] => none
  | b :: s => if (longP b.toNat).1 = 0 ∨ s.length + 1 < (longP b.toNat).1 then none else
    match contP ((longP b.toNat).1 - 1) (longP b.toNat).2 s with
    | none => none
    | some c => if isC c = true ∧ leastP (longP b.toNat).1 ≤ c then some (c, (longP b.toNat).1) else none
def madeP (c : Nat) : List UInt8 :=
  if c < 128 then [UInt8.ofNat c] else if c < 2048 then [UInt8.ofNat (192 + c / 64), UInt8.ofNat (128 + c % 64)] else
  if c < 65536 then [UInt8.ofNat (224 + c / 4096), UInt8.ofNat (128 + c / 64 % 64), UInt8.ofNat (128 + c % 64)] else
  [UInt8.ofNat (240 + c / 262144), UInt8.ofNat (128 + c / 4096 % 64), UInt8.ofNat (128 + c / 64 % 64), UInt8.ofNat (128 + c % 64)]
def foldP (c : Nat) (l : List UInt8) : Nat := l.foldl (fun c b => c * 64 + b.toNat % 64) c
def guessP (s : List UInt8) (n : Nat) : Nat := match s with
  | [] => 0
  | b :: t => if n = 1 then b.toNat else foldP (if n = 2 then b.toNat % 32 else if n = 3 then b.toNat % 16 else b.toNat % 8) (t.take (n - 1))
def hitP (s : List UInt8) (n : Nat) : Bool := isC (guessP s n) && decide (madeP (guessP s n) = s.take n)
def refP (s : List UInt8) : Nat → Nat → Option (Nat × Nat)
  | 0, _ => none
  | k + 1, n => if n ≤ s.length then if hitP s n = true then some (guessP s n, n) else refP s k (n + 1) else none
theorem u8eq {x : Nat} {b : UInt8} : UInt8.ofNat x = b ↔ x % 256 = b.toNat := by
  rw [← UInt8.toNat_inj]; simp
theorem isC_iff (x : Nat) : isC x = true ↔ x ≤ 1114111 ∧ (x < 55296 ∨ 57343 < x) := by simp [isC]
theorem made1 {x : Nat} (h : x < 128) : madeP x = [UInt8.ofNat x] := by unfold madeP; rw [if_pos h]
theorem made2 {x : Nat} (h1 : ¬ x < 128) (h2 : x < 2048) : madeP x = [UInt8.ofNat (192 + x / 64), UInt8.ofNat (128 + x % 64)] := by unfold madeP; rw [if_neg h1, if_pos h2]
theorem made3 {x : Nat} (h1 : ¬ x < 128) (h2 : ¬ x < 2048) (h3 : x < 65536) : madeP x = [UInt8.ofNat (224 + x / 4096), UInt8.ofNat (128 + x / 64 % 64), UInt8.ofNat (128 + x % 64)] := by unfold madeP; rw [if_neg h1, if_neg h2, if_pos h3]
theorem made4 {x : Nat} (h1 : ¬ x < 128) (h2 : ¬ x < 2048) (h3 : ¬ x < 65536) : madeP x = [UInt8.ofNat (240 + x / 262144), UInt8.ofNat (128 + x / 4096 % 64), UInt8.ofNat (128 + x / 64 % 64), UInt8.ofNat (128 + x % 64)] := by unfold madeP; rw [if_neg h1, if_neg h2, if_neg h3]
theorem hit1 (a : UInt8) (t : List UInt8) : hitP (a :: t) 1 = true ↔ a.toNat < 128 := by
  have := a.toNat_lt
  have hg : guessP (a :: t) 1 = a.toNat := rfl
  rw [hitP, hg, Bool.and_eq_true, decide_eq_true_eq, isC_iff, List.take_succ_cons, List.take_zero]
  by_cases h : a.toNat < 128
  · rw [made1 h]; simp only [List.cons.injEq, u8eq, and_true]; omega
  · rw [made2 h (by omega)]; simp only [List.cons.injEq, reduceCtorEq, and_false, false_iff]; exact h
theorem hit2 (a b : UInt8) (t : List UInt8) : hitP (a :: b :: t) 2 = true ↔ a.toNat / 32 = 6 ∧ b.toNat / 64 = 2 ∧ 128 ≤ a.toNat % 32 * 64 + b.toNat % 64 := by
  have := a.toNat_lt
  have := b.toNat_lt
  have hg : guessP (a :: b :: t) 2 = a.toNat % 32 * 64 + b.toNat % 64 := rfl
  rw [hitP, hg, Bool.and_eq_true, decide_eq_true_eq, isC_iff, List.take_succ_cons, List.take_succ_cons, List.take_zero]
  generalize hx : a.toNat % 32 * 64 + b.toNat % 64 = x
  by_cases h1 : x < 128
  · rw [made1 h1]; simp only [List.cons.injEq, reduceCtorEq, and_false, false_iff]; omega
  · rw [made2 h1 (by omega)]; simp only [List.cons.injEq, u8eq, and_true]; omega
theorem hit3 (a b c : UInt8) (t : List UInt8) : hitP (a :: b :: c :: t) 3 = true ↔ a.toNat / 16 = 14 ∧ b.toNat / 64 = 2 ∧ c.toNat / 64 = 2 ∧ isC ((a.toNat % 16 * 64 + b.toNat % 64) * 64 + c.toNat % 64) = true ∧ 2048 ≤ (a.toNat % 16 * 64 + b.toNat % 64) * 64 + c.toNat % 64 := by
  have := a.toNat_lt
  have := b.toNat_lt
  have := c.toNat_lt
  have hg : guessP (a :: b :: c :: t) 3 = (a.toNat % 16 * 64 + b.toNat % 64) * 64 + c.toNat % 64 := rfl
  rw [hitP, hg, Bool.and_eq_true, decide_eq_true_eq, isC_iff, List.take_succ_cons, List.take_succ_cons, List.take_succ_cons, List.take_zero]
  generalize hx : (a.toNat % 16 * 64 + b.toNat % 64) * 64 + c.toNat % 64 = x
  by_cases h1 : x < 128
  · rw [made1 h1]; simp only [List.cons.injEq, reduceCtorEq, and_false, false_iff]; omega
  · by_cases h2 : x < 2048
    · rw [made2 h1 h2]; simp only [List.cons.injEq, reduceCtorEq, and_false, false_iff]; omega
    · rw [made3 h1 h2 (by omega)]; simp only [List.cons.injEq, u8eq, and_true]; omega
theorem hit4 (a b c d : UInt8) (t : List UInt8) : hitP (a :: b :: c :: d :: t) 4 = true ↔ a.toNat / 8 = 30 ∧ b.toNat / 64 = 2 ∧ c.toNat / 64 = 2 ∧ d.toNat / 64 = 2 ∧ isC (((a.toNat % 8 * 64 + b.toNat % 64) * 64 + c.toNat % 64) * 64 + d.toNat % 64) = true ∧ 65536 ≤ ((a.toNat % 8 * 64 + b.toNat % 64) * 64 + c.toNat % 64) * 64 + d.toNat % 64 := by
  have := a.toNat_lt
  have := b.toNat_lt
  have := c.toNat_lt
  have := d.toNat_lt
  have hg : guessP (a :: b :: c :: d :: t) 4 = ((a.toNat % 8 * 64 + b.toNat % 64) * 64 + c.toNat % 64) * 64 + d.toNat % 64 := rfl
  rw [hitP, hg, Bool.and_eq_true, decide_eq_true_eq, isC_iff, List.take_succ_cons, List.take_succ_cons, List.take_succ_cons, List.take_succ_cons, List.take_zero]
  generalize hx : ((a.toNat % 8 * 64 + b.toNat % 64) * 64 + c.toNat % 64) * 64 + d.toNat % 64 = x
  by_cases h1 : x < 128
  · rw [made1 h1]; simp only [List.cons.injEq, reduceCtorEq, and_false, false_iff]; omega
  · by_cases h2 : x < 2048
    · rw [made2 h1 h2]; simp only [List.cons.injEq, reduceCtorEq, and_false, false_iff]; omega
    · by_cases h3 : x < 65536
      · rw [made3 h1 h2 h3]; simp only [List.cons.injEq, reduceCtorEq, and_false, false_iff]; omega
      · rw [made4 h1 h2 h3]; simp only [List.cons.injEq, u8eq, and_true]; omega
theorem refP_step {s : List UInt8} {k n : Nat} (h : n ≤ s.length) : refP s (k + 1) n = if hitP s n = true then some (guessP s n, n) else refP s k (n + 1) := by rw [refP, if_pos h]
theorem refP_end {s : List UInt8} {k n : Nat} (h : s.length < n) : refP s k n = none := by
  cases k with
  | zero => rfl
  | succ k => rw [refP, if_neg (by omega)]
theorem first_of {b : UInt8} {s : List UInt8} {n c0 : Nat} (hl : longP b.toNat = (n, c0)) (hn : n ≠ 0) : firstP (b :: s) = if s.length + 1 < n then none else match contP (n - 1) c0 s with
    | none => none
    | some c => if isC c = true ∧ leastP n ≤ c then some (c, n) else none := by
  rw [firstP, hl]
  simp only
  by_cases h : s.length + 1 < n
  · rw [if_pos (.inr h), if_pos h]
  · rw [if_neg (by rintro (h' | h') <;> omega), if_neg h]
theorem ref_skip {s : List UInt8} {k n : Nat} (h : n ≤ s.length → ¬ hitP s n = true) : refP s (k + 1) n = refP s k (n + 1) := by
  by_cases hl : n ≤ s.length
  · rw [refP_step hl, if_neg (h hl)]
  · rw [refP_end (by omega), refP_end (by omega)]
theorem miss2 {a : UInt8} {t : List UInt8} (h : a.toNat / 32 ≠ 6) (hl : 2 ≤ (a :: t).length) : ¬ hitP (a :: t) 2 = true := by
  match t, hl with
  | b :: t, _ => rw [hit2]; omega
theorem miss3 {a : UInt8} {t : List UInt8} (h : a.toNat / 16 ≠ 14) (hl : 3 ≤ (a :: t).length) : ¬ hitP (a :: t) 3 = true := by
  match t, hl with
  | b :: c :: t, _ => rw [hit3]; exact fun x => h x.1
theorem miss4 {a : UInt8} {t : List UInt8} (h : a.toNat / 8 ≠ 30) (hl : 4 ≤ (a :: t).length) : ¬ hitP (a :: t) 4 = true := by
  match t, hl with
  | b :: c :: d :: t, _ => rw [hit4]; exact fun x => h x.1
theorem refP_first (s : List UInt8) : refP s 4 1 = firstP s := by
  cases s with
  | nil => rfl
  | cons a t =>
    have ha := a.toNat_lt
    by_cases h1 : a.toNat < 128
    · rw [refP_step (by simp), if_pos ((hit1 a t).2 h1), first_of (n := 1) (c0 := a.toNat) (by simp [longP, h1]) (by omega), if_neg (by omega)]
      have : isC a.toNat = true := by rw [isC_iff]; omega
      simp [contP, this, leastP, guessP]
    · rw [ref_skip (fun _ => by rw [hit1]; exact h1)]
      by_cases h2 : a.toNat / 32 = 6
      · rw [first_of (n := 2) (c0 := a.toNat % 32) (by simp [longP, h1, h2]) (by omega)]
        cases t with
        | nil => rw [refP_end (by simp)]; simp
        | cons b t =>
          rw [if_neg (by simp)]
          have hb := b.toNat_lt
          by_cases hb2 : b.toNat / 64 = 2
          · simp only [contP, hb2, if_true, show (2 - 1 : Nat) = 0 + 1 from rfl]
            by_cases hc : 128 ≤ a.toNat % 32 * 64 + b.toNat % 64
            · rw [refP_step (by simp), if_pos ((hit2 a b t).2 ⟨h2, hb2, hc⟩), if_pos ⟨by rw [isC_iff]; omega, by simpa [leastP] using hc⟩]
              rfl
            · rw [ref_skip (fun _ => by rw [hit2]; omega), ref_skip (fun h => miss3 (by omega) h), ref_skip (fun h => miss4 (by omega) h), if_neg (by rintro ⟨_, h⟩; apply hc; simpa [leastP] using h)]
              rfl
          · rw [ref_skip (fun _ => by rw [hit2]; omega), ref_skip (fun h => miss3 (by omega) h), ref_skip (fun h => miss4 (by omega) h)]
            simp [contP, hb2, refP]
      · rw [ref_skip (fun h => miss2 h2 h)]
        by_cases h3 : a.toNat / 16 = 14
        · rw [first_of (n := 3) (c0 := a.toNat % 16) (by simp [longP, h1, h2, h3]) (by omega)]
          match t with
          | [] => rw [refP_end (by simp)]; simp
          | [b] => rw [refP_end (by simp)]; simp
          | b :: c :: t =>
            rw [if_neg (by simp)]
            have hb := b.toNat_lt
            have hc := c.toNat_lt
            by_cases hb2 : b.toNat / 64 = 2
            · by_cases hc2 : c.toNat / 64 = 2
              · simp only [contP, hb2, hc2, if_true, show (3 - 1 : Nat) = 0 + 1 + 1 from rfl]
                by_cases hk : isC ((a.toNat % 16 * 64 + b.toNat % 64) * 64 + c.toNat % 64) = true ∧ 2048 ≤ (a.toNat % 16 * 64 + b.toNat % 64) * 64 + c.toNat % 64
                · rw [refP_step (by simp), if_pos ((hit3 a b c t).2 ⟨h3, hb2, hc2, hk⟩), if_pos ⟨hk.1, by simpa [leastP] using hk.2⟩]
                  rfl
                · rw [ref_skip (fun _ => by rw [hit3]; exact fun x => hk ⟨x.2.2.2.1, x.2.2.2.2⟩), ref_skip (fun h => miss4 (by omega) h), if_neg (by rintro ⟨g, h⟩; apply hk; exact ⟨g, by simpa [leastP] using h⟩)]
                  rfl
              · rw [ref_skip (fun _ => by rw [hit3]; exact fun x => hc2 x.2.2.1), ref_skip (fun h => miss4 (by omega) h)]
                simp [contP, hb2, hc2, refP]
            · rw [ref_skip (fun _ => by rw [hit3]; exact fun x => hb2 x.2.1), ref_skip (fun h => miss4 (by omega) h)]
              simp [contP, hb2, refP]
        · rw [ref_skip (fun h => miss3 h3 h)]
          by_cases h4 : a.toNat / 8 = 30
          · rw [first_of (n := 4) (c0 := a.toNat % 8) (by simp [longP, h1, h2, h3, h4]) (by omega)]
            match t with
            | [] => rw [refP_end (by simp)]; simp
            | [b] => rw [refP_end (by simp)]; simp
            | [b, c] => rw [refP_end (by simp)]; simp
            | b :: c :: d :: t =>
              rw [if_neg (by simp)]
              by_cases hb2 : b.toNat / 64 = 2
              · by_cases hc2 : c.toNat / 64 = 2
                · by_cases hd2 : d.toNat / 64 = 2
                  · simp only [contP, hb2, hc2, hd2, if_true, show (4 - 1 : Nat) = 0 + 1 + 1 + 1 from rfl]
                    by_cases hk : isC (((a.toNat % 8 * 64 + b.toNat % 64) * 64 + c.toNat % 64) * 64 + d.toNat % 64) = true ∧ 65536 ≤ ((a.toNat % 8 * 64 + b.toNat % 64) * 64 + c.toNat % 64) * 64 + d.toNat % 64
                    · rw [refP_step (by simp), if_pos ((hit4 a b c d t).2 ⟨h4, hb2, hc2, hd2, hk⟩), if_pos ⟨hk.1, by simpa [leastP] using hk.2⟩]
                      rfl
                    · rw [ref_skip (fun _ => by rw [hit4]; exact fun x => hk x.2.2.2.2), if_neg (by rintro ⟨g, h⟩; apply hk; exact ⟨g, by simpa [leastP] using h⟩)]
                      rfl
                  · rw [ref_skip (fun _ => by rw [hit4]; exact fun x => hd2 x.2.2.2.1)]
                    simp [contP, hb2, hc2, hd2, refP]
                · rw [ref_skip (fun _ => by rw [hit4]; exact fun x => hc2 x.2.2.1)]
                  simp [contP, hb2, hc2, refP]
              · rw [ref_skip (fun _ => by rw [hit4]; exact fun x => hb2 x.2.1)]
                simp [contP, hb2, refP]
          · rw [ref_skip (fun h => miss4 h4 h)]
            have : longP a.toNat = (0, 0) := by simp [longP, h1, h2, h3, h4]
            rw [firstP, this]
            simp [refP]
end Go.Proofs.Gong

/- Nm1 -/
namespace Go.Proofs.Gong
open Go Go.Sx Go.Proofs
set_option maxRecDepth 100000
theorem nil_b : (⟨#[]⟩ : ByteArray) = bs [] := by simp [bs]
theorem gd_undef (b : Bool) : gd b undef = false := by cases b <;> rfl
theorem and31 : ∀ n : Fin 256, bBits .and .u8 (n.val : Int) 31 = some ((n.val % 32 : Nat) : Int) := by decide +kernel
theorem and15 : ∀ n : Fin 256, bBits .and .u8 (n.val : Int) 15 = some ((n.val % 16 : Nat) : Int) := by decide +kernel
theorem and7 : ∀ n : Fin 256, bBits .and .u8 (n.val : Int) 7 = some ((n.val % 8 : Nat) : Int) := by decide +kernel
theorem and63 : ∀ n : Fin 256, bBits .and .u8 (n.val : Int) 63 = some ((n.val % 64 : Nat) : Int) := by decide +kernel
theorem bAnd_u8 {k m : Nat} (h : ∀ n : Fin 256, bBits .and .u8 (n.val : Int) (k : Int) = some ((n.val % m : Nat) : Int)) (b : UInt8) : bBit .and (.int .u8 b.toNat) (.int .u8 k) = some (.int .u8 ((b.toNat % m : Nat))) := by
  have := h ⟨b.toNat, b.toNat_lt⟩
  simp only at this
  simp only [bBit, if_true, this, Option.map_some]
theorem shr_u8 (n k : Nat) (h : k ≤ 8) : bShr (.int .u8 n) (.int .u64 k) = some (.int .u8 ((n / 2 ^ k : Nat))) := bShr_nat (j := .u8) (by exact h)
theorem to64 (n : Nat) (h : n < 9223372036854775808) : cInt .i64 (.int .u8 n) = some (.int .i64 n) := by
  simp only [cInt]; rw [wrap_id (by omega)]
theorem shl6 {n : Nat} (h : n < 72057594037927936) : bShl (.int .i64 n) (.int .u64 6) = some (.int .i64 ((n * 64 : Nat))) := by
  have e : min ((6 : Int).toNat) IntKind.i64.bits = 6 := by decide
  simp only [bShl]
  rw [if_neg (by decide), e, show ((n : Int) * 2 ^ 6) = ((n * 64 : Nat) : Int) by omega, wrap_id (by omega)]
theorem plus1 {a : Nat} (h : a + 1 < 9223372036854775808) : bAdd (.int .i64 a) (.int .i64 1) = some (.int .i64 ((a + 1 : Nat))) := by
  rw [bAdd_int, show ((a : Int) + 1) = ((a + 1 : Nat) : Int) by omega, wrap_id (by omega)]
section
variable {w : World} {K : Value → World → Prop}
theorem long_spec {b : UInt8} (hK : K (.tuple #[.int .i64 (longP b.toNat).1, .int .i64 (longP b.toNat).2]) w) : callP G252 [.int .u8 b.toNat] w K := by
  refine c252 ?_
  unfold F252
  have hb := b.toNat_lt
  unfold longP at hK
  by_cases h1 : b.toNat < 128
  · rw [if_pos h1] at hK
    have e : bLt (.int .u8 (b.toNat : Int)) (.int .u8 128) = some (.bool true) := by simp; omega
    simp only [e, bindP_some, ifB_true, to64 _ (show b.toNat < 9223372036854775808 by omega)]
    exact hK
  · rw [if_neg h1] at hK
    have e : bLt (.int .u8 (b.toNat : Int)) (.int .u8 128) = some (.bool false) := by simp; omega
    have s5 : bShr (.int .u8 (b.toNat : Int)) (.int .u64 5) = some (.int .u8 ((b.toNat / 32 : Nat))) := shr_u8 _ 5 (by omega)
    have s4 : bShr (.int .u8 (b.toNat : Int)) (.int .u64 4) = some (.int .u8 ((b.toNat / 16 : Nat))) := shr_u8 _ 4 (by omega)
    have s3 : bShr (.int .u8 (b.toNat : Int)) (.int .u64 3) = some (.int .u8 ((b.toNat / 8 : Nat))) := shr_u8 _ 3 (by omega)
    have a31 : bBit .and (.int .u8 (b.toNat : Int)) (.int .u8 31) = _ := bAnd_u8 (k := 31) and31 b
    have a15 : bBit .and (.int .u8 (b.toNat : Int)) (.int .u8 15) = _ := bAnd_u8 (k := 15) and15 b
    have a7 : bBit .and (.int .u8 (b.toNat : Int)) (.int .u8 7) = _ := bAnd_u8 (k := 7) and7 b
    simp only [e, bindP_some, ifB_false, s5, s4, s3, a31, a15, a7, bEq_int]
    by_cases h2 : b.toNat / 32 = 6
    · rw [if_pos h2] at hK
      have : decide (((b.toNat / 32 : Nat) : Int) = 6) = true := by rw [h2]; rfl
      simp only [this, ifB_true, to64 _ (show b.toNat % 32 < 9223372036854775808 by omega), bindP_some]
      exact hK
    · rw [if_neg h2] at hK
      have : decide (((b.toNat / 32 : Nat) : Int) = 6) = false := by rw [decide_eq_false_iff_not]; omega
      simp only [this, ifB_false]
      by_cases h3 : b.toNat / 16 = 14
      · rw [if_pos h3] at hK
        have : decide (((b.toNat / 16 : Nat) : Int) = 14) = true := by rw [h3]; rfl
        simp only [this, ifB_true, to64 _ (show b.toNat % 16 < 9223372036854775808 by omega), bindP_some]
        exact hK
      · rw [if_neg h3] at hK
        have : decide (((b.toNat / 16 : Nat) : Int) = 14) = false := by rw [decide_eq_false_iff_not]; omega
        simp only [this, ifB_false]
        by_cases h4 : b.toNat / 8 = 30
        · rw [if_pos h4] at hK
          have : decide (((b.toNat / 8 : Nat) : Int) = 30) = true := by rw [h4]; rfl
          simp only [this, ifB_true, to64 _ (show b.toNat % 8 < 9223372036854775808 by omega), bindP_some]
          exact hK
        · rw [if_neg h4] at hK
          have : decide (((b.toNat / 8 : Nat) : Int) = 30) = false := by rw [decide_eq_false_iff_not]; omega
          simp only [this, ifB_false]
          exact hK
theorem is_spec {c : Nat} (hK : K (.bool (isC c)) w) : callP G253 [.int .i64 c] w K := by
  refine c253 ?_
  unfold F253
  unfold isC at hK
  by_cases h1 : c ≤ 1114111
  · by_cases h2 : c < 55296
    · have e1 : decide ((c : Int) ≥ 0) = true := by simp
      have e2 : decide ((c : Int) ≤ 1114111) = true := by simp; omega
      have e3 : decide ((c : Int) < 55296) = true := by simp; omega
      simp only [bGe_int, bLe_int, bLt_int, e1, e2, e3, bindP_some, gd_true, gd_false, Bool.not_true, stepM_true, stepM_false, stepG_true, stepG_false, pPick_true]
      simpa [h1, h2] using hK
    · have e1 : decide ((c : Int) ≥ 0) = true := by simp
      have e2 : decide ((c : Int) ≤ 1114111) = true := by simp; omega
      have e3 : decide ((c : Int) < 55296) = false := by simp; omega
      have e4 : decide ((c : Int) > 57343) = decide (57343 < c) := by rw [decide_eq_decide]; omega
      simp only [bGe_int, bLe_int, bLt_int, bGt_int, e1, e2, e3, e4, bindP_some, gd_true, gd_false, Bool.not_false, stepM_true, stepG_true, pPick_true, pPick_false]
      simpa [h1, h2] using hK
  · have e1 : decide ((c : Int) ≥ 0) = true := by simp
    have e2 : decide ((c : Int) ≤ 1114111) = false := by simp; omega
    simp only [bGe_int, bLe_int, e1, e2, bindP_some, gd_true, gd_false, Bool.not_false, stepM_true, stepM_false, stepG_true, stepG_false, pPick_true, pPick_false, gd_undef]
    simpa [h1] using hK
theorem least_spec {n : Nat} (hK : K (.int .i64 (leastP n)) w) : callP G254 [.int .i64 n] w K := by
  refine c254 ?_
  unfold F254
  unfold leastP at hK
  by_cases h2 : n = 2
  · subst h2; simpa using hK
  · by_cases h3 : n = 3
    · subst h3; simpa using hK
    · by_cases h4 : n = 4
      · subst h4; simpa using hK
      · have e2 : decide ((n : Int) = 2) = false := by rw [decide_eq_false_iff_not]; omega
        have e3 : decide ((n : Int) = 3) = false := by rw [decide_eq_false_iff_not]; omega
        have e4 : decide ((n : Int) = 4) = false := by rw [decide_eq_false_iff_not]; omega
        simp only [bEq_int, e2, e3, e4, bindP_some, ifB_false]
        simpa [h2, h3, h4] using hK
def errV : Value := .tuple #[.int .i64 0, .int .i64 0, .int .i64 40]
def firstV (s : List UInt8) : Value := match firstP s with
  | some x => .tuple #[.int .i64 x.1, .int .i64 x.2, .int .i64 0]
  | none => errV
theorem cont_spec {s : List UInt8} {n : Nat} (hs : n ≤ s.length) (h4 : n ≤ 4) : ∀ (k i c m : Nat), k + i = n → k ≤ m → c < 256 * 64 ^ i → (match contP k c (s.drop i) with | none => K errV w | some c' => F214_3 (.int .i64 c') (.int .i64 n) w K) →
    F214_2L (m + 1) (.string (bs s)) (.int .i64 c) (.int .i64 n) (.int .i64 i) w K := by
  intro k
  induction k with
  | zero =>
    intro i c m hk hm hc hK
    rw [F214_2L]; unfold F214_2b
    obtain rfl : i = n := by omega
    rw [bLt_int]
    simp only [bindP_some, Int.lt_irrefl, decide_false, ifB_false]
    simpa [contP] using hK
  | succ k ih =>
    intro i c m hk hm hc hK
    obtain ⟨m, rfl⟩ : ∃ j, m = j + 1 := ⟨m - 1, by omega⟩
    rw [F214_2L]; unfold F214_2b
    have hi : i < s.length := by omega
    have e : bLt (.int .i64 (i : Int)) (.int .i64 n) = some (.bool true) := by simp; omega
    have hdr : s.drop i = s[i] :: s.drop (i + 1) := List.drop_eq_getElem_cons hi
    rw [hdr] at hK
    rw [e]
    simp only [bindP_some, ifB_true, ix_txt hi]
    generalize s[i] = b at hK
    have hb := b.toNat_lt
    have s6 : bShr (.int .u8 (b.toNat : Int)) (.int .u64 6) = some (.int .u8 ((b.toNat / 64 : Nat))) := shr_u8 _ 6 (by omega)
    simp only [s6, bindP_some, bNe_int]
    simp only [contP] at hK
    by_cases h2 : b.toNat / 64 = 2
    · rw [if_pos h2] at hK
      have : (!decide (((b.toNat / 64 : Nat) : Int) = 2)) = false := by rw [h2]; rfl
      have a63 : bBit .and (.int .u8 (b.toNat : Int)) (.int .u8 63) = _ := bAnd_u8 (k := 63) and63 b
      have hp : 64 ^ i ≤ 64 ^ 4 := Nat.pow_le_pow_right (by omega) (by omega)
      have e4 : 64 ^ 4 = 16777216 := by decide
      simp only [this, ifB_false, shl6 (show c < 72057594037927936 by omega), a63, to64 _ (show b.toNat % 64 < 9223372036854775808 by omega), bindP_some]
      rw [bOr_i64 (by omega) (by omega), or_add (a := c) (i := 6) (by omega)]
      simp only [bindP_some, plus1 (show i + 1 < 9223372036854775808 by omega)]
      refine ih (i + 1) (c * 64 + b.toNat % 64) m (by omega) (by omega) (by rw [Nat.pow_succ]; omega) hK
    · rw [if_neg h2] at hK
      have : (!decide (((b.toNat / 64 : Nat) : Int) = 2)) = true := by simp; omega
      simp only [this, ifB_true]
      exact hK
theorem first_spec4 {s : List UInt8} (hK : K (firstV s) w) : callP G214 [.string (bs s)] w K := by
  refine c214 ?_
  unfold F214 F214_1 F214_1b
  rw [nil_b]
  cases s with
  | nil =>
    simp only [bEq_str, bs_beq, decide_true, bindP_some, ifB_true]
    exact hK
  | cons b s =>
    have e : decide (bs (b :: s) = bs []) = false := by simp
    have ix := ix_txt (l := b :: s) (i := 0) (j := .i64) (by simp)
    simp only [List.getElem_cons_zero] at ix
    have ix0 : pIndexS (.string (bs (b :: s))) (.int .i64 0) = some (.int .u8 b.toNat) := ix
    simp only [bEq_str, bs_beq, e, bindP_some, ifB_false, ix0]
    refine long_spec ?_
    simp only [pTuple, List.getElem?_toArray, List.getElem?_cons_zero, List.getElem?_cons_succ, bindP_some, bEq_int]
    have hl4 : (longP b.toNat).1 ≤ 4 ∧ (longP b.toNat).2 < 256 := by
      have := b.toNat_lt
      unfold longP
      split
      · exact ⟨by simp, by simp; omega⟩
      · split
        · exact ⟨by simp, by simp; omega⟩
        · split
          · exact ⟨by simp, by simp; omega⟩
          · split
            · exact ⟨by simp, by simp; omega⟩
            · exact ⟨by simp, by simp⟩
    unfold firstV firstP at hK
    simp only at hK
    generalize longP b.toNat = x at hK hl4
    by_cases h0 : x.1 = 0
    · rw [if_pos (.inl h0)] at hK
      have : decide ((x.1 : Int) = 0) = true := by simp; omega
      simp only [this, gd_false, Bool.not_true, stepM_false, stepG_false, pPick_true, bindP_some, ifB_true]
      exact hK
    · have : decide ((x.1 : Int) = 0) = false := by simp; omega
      simp only [this, gd_false, Bool.not_false, stepM_true, stepG_true, lenS_mk, bs_size, bGt_int, pPick_false, bindP_some]
      by_cases h1 : s.length + 1 < x.1
      · rw [if_pos (.inr h1)] at hK
        have : decide ((x.1 : Int) > ((b :: s).length : Int)) = true := by simp; omega
        simp only [this, ifB_true]
        exact hK
      · rw [if_neg (by rintro (h | h) <;> omega)] at hK
        have : decide ((x.1 : Int) > ((b :: s).length : Int)) = false := by simp; omega
        simp only [this, ifB_false]
        unfold F214_2
        refine cont_spec (n := x.1) (by simp; omega) hl4.1 (x.1 - 1) 1 x.2 (fuel - 1) (by omega) (Nat.le_trans (show x.1 - 1 ≤ 4 by omega) (by decide)) (by omega) ?_
        simp only [List.drop_succ_cons, List.drop_zero]
        cases hc : contP (x.1 - 1) x.2 s with
        | none => rw [hc] at hK; exact hK
        | some c =>
          rw [hc] at hK
          simp only at hK ⊢
          unfold F214_3 F214_3b
          refine is_spec ?_
          by_cases h5 : isC c = true
          · simp only [h5, uNot_bool, Bool.not_true, bindP_some, gd_false, Bool.not_false, stepM_true, stepE_true]
            refine least_spec ?_
            by_cases h6 : leastP x.1 ≤ c
            · rw [if_pos ⟨h5, h6⟩] at hK
              have : decide ((c : Int) < (leastP x.1 : Int)) = false := by simp; omega
              simp only [bLt_int, this, stepG_true, bindP_some, pPick_false, ifB_false]
              exact hK
            · rw [if_neg (fun h => h6 h.2)] at hK
              have : decide ((c : Int) < (leastP x.1 : Int)) = true := by simp; omega
              simp only [bLt_int, this, stepG_true, bindP_some, pPick_false, ifB_true]
              exact hK
          · rw [if_neg (fun h => h5 h.1)] at hK
            have h5' : isC c = false := by simpa using h5
            simp only [h5', uNot_bool, Bool.not_false, bindP_some, gd_false, Bool.not_true, stepM_false, stepG_false, stepE_false, pPick_true, ifB_true]
            exact hK
end
end Go.Proofs.Gong

/- Nm2 -/
namespace Go.Proofs.Gong
open Go Go.Sx Go.Proofs
set_option maxRecDepth 100000
theorem to8n (n : Nat) : cInt .u8 (.int .i64 n) = some (.int .u8 (UInt8.ofNat n).toNat) := by
  simp only [cInt]; rw [wrap_u8]; congr 2
theorem quoN (n k : Nat) (hk : k ≠ 0) (h : n < 9223372036854775808) : bQuo (.int .i64 n) (.int .i64 k) = some (.int .i64 ((n / k : Nat))) := by
  rw [bQuo_int _ _ _ (by omega)]
  have e : (n : Int).tdiv k = ((n / k : Nat) : Int) := by rw [Int.tdiv_eq_ediv_of_nonneg (by omega)]; rfl
  have hq := Nat.div_le_self n k
  rw [e]
  generalize n / k = q at hq
  rw [wrap_id (by omega)]
theorem remN (j : IntKind) (n k : Nat) (hk : k ≠ 0) : bRem (.int j n) (.int j k) = some (.int j ((n % k : Nat))) := by
  rw [bRem_int _ _ _ (by omega)]
  have e : (n : Int).tmod k = ((n % k : Nat) : Int) := by rw [Int.tmod_eq_emod_of_nonneg (by omega)]; rfl
  rw [e]
theorem addN {a b : Nat} (h : a + b < 9223372036854775808) : bAdd (.int .i64 a) (.int .i64 b) = some (.int .i64 ((a + b : Nat))) := by
  rw [bAdd_int, show ((a : Int) + b) = ((a + b : Nat) : Int) by omega, wrap_id (by omega)]
theorem mul64 {n : Nat} (h : n < 72057594037927936) : bMul (.int .i64 n) (.int .i64 64) = some (.int .i64 ((n * 64 : Nat))) := by
  rw [bMul_int, show ((n : Int) * 64) = ((n * 64 : Nat) : Int) by omega, wrap_id (by omega)]
section
variable {w0 w : World} {L : List HP} {K : Value → World → Prop}
theorem fis_spec {c : Nat} (hK : K (.bool (isC c)) w) : callP G250 [.int .i64 c] w K := by
  refine c250 ?_
  unfold F250
  unfold isC at hK
  by_cases h1 : c ≤ 1114111
  · by_cases h2 : c < 55296
    · have e1 : decide ((c : Int) ≥ 0) = true := by simp
      have e2 : decide ((c : Int) ≤ 1114111) = true := by simp; omega
      have e3 : decide ((c : Int) < 55296) = true := by simp; omega
      simp only [bGe_int, bLe_int, bLt_int, e1, e2, e3, bindP_some, gd_true, gd_false, Bool.not_true, stepM_true, stepM_false, stepG_true, stepG_false, pPick_true]
      simpa [h1, h2] using hK
    · have e1 : decide ((c : Int) ≥ 0) = true := by simp
      have e2 : decide ((c : Int) ≤ 1114111) = true := by simp; omega
      have e3 : decide ((c : Int) < 55296) = false := by simp; omega
      have e4 : decide ((c : Int) > 57343) = decide (57343 < c) := by rw [decide_eq_decide]; omega
      simp only [bGe_int, bLe_int, bLt_int, bGt_int, e1, e2, e3, e4, bindP_some, gd_true, gd_false, Bool.not_false, stepM_true, stepG_true, pPick_true, pPick_false]
      simpa [h1, h2] using hK
  · have e1 : decide ((c : Int) ≥ 0) = true := by simp
    have e2 : decide ((c : Int) ≤ 1114111) = false := by simp; omega
    simp only [bGe_int, bLe_int, e1, e2, bindP_some, gd_true, gd_false, Bool.not_false, stepM_true, stepM_false, stepG_true, stepG_false, pPick_true, pPick_false, gd_undef]
    simpa [h1] using hK
theorem guessL_spec {s : List UInt8} {n : Nat} (hs : n ≤ s.length) (h4 : n ≤ 4) : ∀ (k i c m : Nat), k + i = n → k ≤ m → c < 256 * 64 ^ i → K (.int .i64 (foldP c ((s.drop i).take k))) w →
    F249_3L (m + 1) (.string (bs s)) (.int .i64 n) (.int .i64 c) (.int .i64 i) w K := by
  intro k
  induction k with
  | zero =>
    intro i c m hk hm hc hK
    rw [F249_3L]; unfold F249_3b F249_4 F249_4b
    obtain rfl : i = n := by omega
    rw [bLt_int]
    simp only [bindP_some, Int.lt_irrefl, decide_false, ifB_false]
    simpa [foldP] using hK
  | succ k ih =>
    intro i c m hk hm hc hK
    obtain ⟨m, rfl⟩ : ∃ j, m = j + 1 := ⟨m - 1, by omega⟩
    rw [F249_3L]; unfold F249_3b
    have hi : i < s.length := by omega
    have e : bLt (.int .i64 (i : Int)) (.int .i64 n) = some (.bool true) := by simp; omega
    have hdr : s.drop i = s[i] :: s.drop (i + 1) := List.drop_eq_getElem_cons hi
    rw [hdr, List.take_succ_cons] at hK
    have hp : 64 ^ i ≤ 64 ^ 4 := Nat.pow_le_pow_right (by omega) (by omega)
    have e4 : 64 ^ 4 = 16777216 := by decide
    rw [e]
    simp only [bindP_some, ifB_true, ix_txt hi]
    generalize s[i] = b at hK
    have hb := b.toNat_lt
    have r64 : bRem (.int .u8 (b.toNat : Int)) (.int .u8 64) = some (.int .u8 ((b.toNat % 64 : Nat))) := remN .u8 _ 64 (by omega)
    simp only [mul64 (show c < 72057594037927936 by omega), r64, bindP_some, to64 _ (show b.toNat % 64 < 9223372036854775808 by omega)]
    rw [addN (by omega)]
    simp only [bindP_some, plus1 (show i + 1 < 9223372036854775808 by omega)]
    exact ih (i + 1) (c * 64 + b.toNat % 64) m (by omega) (by omega) (by rw [Nat.pow_succ]; omega) hK
theorem guess_spec {s : List UInt8} {n : Nat} (hn : 1 ≤ n ∧ n ≤ 4) (hs : n ≤ s.length) (hK : K (.int .i64 (guessP s n)) w) : callP G249 [.string (bs s), .int .i64 n] w K := by
  refine c249 ?_
  unfold F249 F249_1 F249_1b
  cases s with
  | nil => simp at hs; omega
  | cons b t =>
    have ix : pIndexS (.string (bs (b :: t))) (.int .i64 0) = some (.int .u8 b.toNat) := ix_txt (l := b :: t) (i := 0) (j := .i64) (by simp)
    have hb := b.toNat_lt
    have r32 : bRem (.int .i64 (b.toNat : Int)) (.int .i64 32) = some (.int .i64 ((b.toNat % 32 : Nat))) := remN .i64 _ 32 (by omega)
    have r16 : bRem (.int .i64 (b.toNat : Int)) (.int .i64 16) = some (.int .i64 ((b.toNat % 16 : Nat))) := remN .i64 _ 16 (by omega)
    have r8 : bRem (.int .i64 (b.toNat : Int)) (.int .i64 8) = some (.int .i64 ((b.toNat % 8 : Nat))) := remN .i64 _ 8 (by omega)
    have go : ∀ c : Nat, c < 256 → n ≠ 1 → K (.int .i64 (foldP c (t.take (n - 1)))) w → F249_2 (.string (bs (b :: t))) (.int .i64 n) (.int .i64 c) w K := by
      intro c hc h1 hk
      unfold F249_2 F249_2b F249_3
      exact guessL_spec hs hn.2 (n - 1) 1 c (fuel - 1) (by omega) (Nat.le_trans (show n - 1 ≤ 4 by omega) (by decide)) (by omega) (by simpa using hk)
    simp only [ix, bindP_some, to64 _ (show b.toNat < 9223372036854775808 by omega), bEq_int, r32, r16, r8]
    unfold guessP at hK
    simp only at hK
    by_cases h1 : n = 1
    · rw [if_pos h1] at hK
      have e1 : decide ((n : Int) = 1) = true := by rw [h1]; rfl
      simp only [e1, ifB_true]
      exact hK
    · rw [if_neg h1] at hK
      have e1 : decide ((n : Int) = 1) = false := by rw [decide_eq_false_iff_not]; omega
      simp only [e1, ifB_false]
      by_cases h2 : n = 2
      · rw [if_pos h2] at hK
        have e2 : decide ((n : Int) = 2) = true := by simp; omega
        simp only [e2, ifB_true]
        exact go _ (by omega) h1 hK
      · rw [if_neg h2] at hK
        have e2 : decide ((n : Int) = 2) = false := by rw [decide_eq_false_iff_not]; omega
        simp only [e2, ifB_false]
        by_cases h3 : n = 3
        · rw [if_pos h3] at hK
          have e3 : decide ((n : Int) = 3) = true := by simp; omega
          simp only [e3, ifB_true]
          exact go _ (by omega) h1 hK
        · rw [if_neg h3] at hK
          have e3 : decide ((n : Int) = 3) = false := by rw [decide_eq_false_iff_not]; omega
          simp only [e3, ifB_false]
          exact go _ (by omega) h1 hK
theorem bytesOfN {l : List UInt8} {parts : List (Nat × Value)} {n : Nat} {k : Value → World → Prop} (h : Sat w0 L w) (hb : fBuildSl Tryz.prog 5 n parts = some (cellsB l).toArray) (hn : l.length = n) (h0 : 0 < n) (hK : ∀ sv w', Sat w0 L w' → cBytes sv w' = some (.string (bs l)) → k sv w') : eBuildSl Tryz.prog 150 n parts w k := by
  refine eBuildSl_sat (es := 1) h u150 hb (by simp [hn]) fun s w' h' => hK s w' h'.drop ?_
  have := h'.rd
  exact cBytes_rd this h0
theorem d65 {c : Nat} (h : c < 65536) : decide ((c : Int) < 65536) = true := by simp; omega
theorem n65 {c : Nat} (h : ¬ c < 65536) : decide ((c : Int) < 65536) = false := by simp; omega
theorem d128 {c : Nat} (h : c < 128) : decide ((c : Int) < 128) = true := by simp; omega
theorem n128 {c : Nat} (h : ¬ c < 128) : decide ((c : Int) < 128) = false := by simp; omega
theorem d2048 {c : Nat} (h : c < 2048) : decide ((c : Int) < 2048) = true := by simp; omega
theorem n2048 {c : Nat} (h : ¬ c < 2048) : decide ((c : Int) < 2048) = false := by simp; omega
theorem made_a {c : Nat} (h1 : c < 128) (h : Sat w0 L w) (hK : ∀ w', Sat w0 L w' → K (.string (bs (madeP c))) w') : callP G251 [.int .i64 c] w K := by
  refine c251 ?_
  unfold F251
  simp only [bLt_int, bindP_some, d128 h1, ifB_true, to8n]
  rw [made1 h1] at hK
  exact bytesOfN (l := [_]) h (by kernel_rfl) rfl (by omega) fun sv w1 h1 hb => by rw [hb]; exact hK _ h1
theorem made_b {c : Nat} (h1 : ¬ c < 128) (h2 : c < 2048) (h : Sat w0 L w) (hK : ∀ w', Sat w0 L w' → K (.string (bs (madeP c))) w') : callP G251 [.int .i64 c] w K := by
  have q64 : bQuo (.int .i64 (c : Int)) (.int .i64 64) = some (.int .i64 ((c / 64 : Nat))) := quoN _ 64 (by omega) (by omega)
  have r64 : ∀ n : Nat, bRem (.int .i64 (n : Int)) (.int .i64 64) = some (.int .i64 ((n % 64 : Nat))) := fun n => remN .i64 _ 64 (by omega)
  have a192 : ∀ n : Nat, n < 16777216 → bAdd (.int .i64 192) (.int .i64 (n : Int)) = some (.int .i64 ((192 + n : Nat))) := fun n hn => addN (a := 192) (by omega)
  have a128 : ∀ n : Nat, n < 16777216 → bAdd (.int .i64 128) (.int .i64 (n : Int)) = some (.int .i64 ((128 + n : Nat))) := fun n hn => addN (a := 128) (by omega)
  refine c251 ?_
  unfold F251
  simp only [bLt_int, bindP_some, n128 h1, d2048 h2, ifB_true, ifB_false, q64, r64, a192 (c / 64) (by omega), a128 (c % 64) (by omega), to8n]
  rw [made2 h1 h2] at hK
  exact bytesOfN (l := [_, _]) h (by kernel_rfl) rfl (by omega) fun sv w1 h1 hb => by rw [hb]; exact hK _ h1
theorem made_c {c : Nat} (h1 : ¬ c < 128) (h2 : ¬ c < 2048) (h3 : c < 65536) (h : Sat w0 L w) (hK : ∀ w', Sat w0 L w' → K (.string (bs (madeP c))) w') : callP G251 [.int .i64 c] w K := by
  have q64 : bQuo (.int .i64 (c : Int)) (.int .i64 64) = some (.int .i64 ((c / 64 : Nat))) := quoN _ 64 (by omega) (by omega)
  have q4096 : bQuo (.int .i64 (c : Int)) (.int .i64 4096) = some (.int .i64 ((c / 4096 : Nat))) := quoN _ 4096 (by omega) (by omega)
  have r64 : ∀ n : Nat, bRem (.int .i64 (n : Int)) (.int .i64 64) = some (.int .i64 ((n % 64 : Nat))) := fun n => remN .i64 _ 64 (by omega)
  have a128 : ∀ n : Nat, n < 16777216 → bAdd (.int .i64 128) (.int .i64 (n : Int)) = some (.int .i64 ((128 + n : Nat))) := fun n hn => addN (a := 128) (by omega)
  have a224 : ∀ n : Nat, n < 16777216 → bAdd (.int .i64 224) (.int .i64 (n : Int)) = some (.int .i64 ((224 + n : Nat))) := fun n hn => addN (a := 224) (by omega)
  refine c251 ?_
  unfold F251
  simp only [bLt_int, bindP_some, n128 h1, n2048 h2, d65 h3, ifB_true, ifB_false, q64, q4096, r64, a224 (c / 4096) (by omega), a128 (c / 64 % 64) (by omega), a128 (c % 64) (by omega), to8n]
  rw [made3 h1 h2 h3] at hK
  exact bytesOfN (l := [_, _, _]) h (by kernel_rfl) rfl (by omega) fun sv w1 h1 hb => by rw [hb]; exact hK _ h1
theorem made_d {c : Nat} (hc : c < 16777216) (h1 : ¬ c < 128) (h2 : ¬ c < 2048) (h3 : ¬ c < 65536) (h : Sat w0 L w) (hK : ∀ w', Sat w0 L w' → K (.string (bs (madeP c))) w') : callP G251 [.int .i64 c] w K := by
  have q64 : bQuo (.int .i64 (c : Int)) (.int .i64 64) = some (.int .i64 ((c / 64 : Nat))) := quoN _ 64 (by omega) (by omega)
  have q4096 : bQuo (.int .i64 (c : Int)) (.int .i64 4096) = some (.int .i64 ((c / 4096 : Nat))) := quoN _ 4096 (by omega) (by omega)
  have q26 : bQuo (.int .i64 (c : Int)) (.int .i64 262144) = some (.int .i64 ((c / 262144 : Nat))) := quoN _ 262144 (by omega) (by omega)
  have r64 : ∀ n : Nat, bRem (.int .i64 (n : Int)) (.int .i64 64) = some (.int .i64 ((n % 64 : Nat))) := fun n => remN .i64 _ 64 (by omega)
  have a128 : ∀ n : Nat, n < 16777216 → bAdd (.int .i64 128) (.int .i64 (n : Int)) = some (.int .i64 ((128 + n : Nat))) := fun n hn => addN (a := 128) (by omega)
  have a240 : ∀ n : Nat, n < 16777216 → bAdd (.int .i64 240) (.int .i64 (n : Int)) = some (.int .i64 ((240 + n : Nat))) := fun n hn => addN (a := 240) (by omega)
  refine c251 ?_
  unfold F251
  simp only [bLt_int, bindP_some, n128 h1, n2048 h2, n65 h3, ifB_false, q64, q4096, q26, r64, a240 (c / 262144) (by omega), a128 (c / 4096 % 64) (by omega), a128 (c / 64 % 64) (by omega), a128 (c % 64) (by omega), to8n]
  rw [made4 h1 h2 h3] at hK
  exact bytesOfN (l := [_, _, _, _]) h (by kernel_rfl) rfl (by omega) fun sv w1 h1 hb => by rw [hb]; exact hK _ h1
theorem made_spec {c : Nat} (hc : c < 16777216) (h : Sat w0 L w) (hK : ∀ w', Sat w0 L w' → K (.string (bs (madeP c))) w') : callP G251 [.int .i64 c] w K := by
  by_cases h1 : c < 128
  · exact made_a h1 h hK
  · by_cases h2 : c < 2048
    · exact made_b h1 h2 h hK
    · by_cases h3 : c < 65536
      · exact made_c h1 h2 h3 h hK
      · exact made_d hc h1 h2 h3 h hK
end
end Go.Proofs.Gong

/- Nm3 -/
namespace Go.Proofs.Gong
open Go Go.Sx Go.Proofs
set_option maxRecDepth 100000
def optV (o : Option (Nat × Nat)) : Value := match o with
  | some x => .tuple #[.int .i64 x.1, .int .i64 x.2, .int .i64 0]
  | none => errV
theorem isC_lt {c : Nat} (h : isC c = true) : c < 16777216 := by rw [isC_iff] at h; omega
section
variable {w0 w : World} {L : List HP} {K : Value → World → Prop}
theorem ffL_spec {s : List UInt8} : ∀ (k n m : Nat) (w : World), k + n = 5 → 1 ≤ n → k ≤ m → Sat w0 L w → (∀ w', Sat w0 L w' → K (optV (refP s k n)) w') → F213_2L (m + 1) (.string (bs s)) (.int .i64 n) w K := by
  intro k
  induction k with
  | zero =>
    intro n m w hk h1 hm hs hK
    rw [F213_2L]; unfold F213_2b F213_3 F213_3b
    have e : decide ((n : Int) ≤ 4) = false := by simp; omega
    simp only [bLe_int, e, bindP_some, gd_true, stepM_false, stepG_false, pPick_false, ifB_false]
    exact hK _ hs
  | succ k ih =>
    intro n m w hk h1 hm hs hK
    obtain ⟨m, rfl⟩ : ∃ j, m = j + 1 := ⟨m - 1, by omega⟩
    rw [F213_2L]; unfold F213_2b
    have e : decide ((n : Int) ≤ 4) = true := by simp; omega
    by_cases hl : n ≤ s.length
    · have e2 : decide ((n : Int) ≤ (s.length : Int)) = true := by simp; omega
      simp only [bLe_int, e, e2, bindP_some, gd_true, stepM_true, stepG_true, lenS_mk, bs_size, pPick_true, ifB_true]
      refine guess_spec ⟨h1, by omega⟩ hl ?_
      refine fis_spec ?_
      rw [refP_step hl] at hK
      have hs' := hs.drew
      have next : hitP s n = false → ∀ w2, Sat w0 L w2 → bindP (bAdd (.int .i64 (n : Int)) (.int .i64 1)) (fun v19 => F213_2L (m + 1) (.string (bs s)) v19 w2 K) := by
        intro hh w2 h2
        rw [if_neg (by rw [hh]; decide)] at hK
        rw [plus1 (by omega)]
        simp only [bindP_some]
        exact ih (n + 1) m w2 (by omega) (by omega) (by omega) h2 hK
      by_cases hi : isC (guessP s n) = true
      · simp only [hi, gd_true, stepM_true, stepG_true, stepE_true]
        have e3 : pSliceS (.string (bs s)) none (some (.int .i64 (n : Int))) = _ := sub_to hl
        rw [e3]
        simp only [bindP_some]
        refine made_spec (isC_lt hi) hs' fun w3 h3 => ?_
        simp only [bEq_str, bs_beq, bs_inj, bindP_some, pPick_true]
        by_cases hm2 : madeP (guessP s n) = s.take n
        · have hh : hitP s n = true := by simp [hitP, hi, hm2]
          rw [if_pos hh] at hK
          simp only [hm2, decide_true, ifB_true]
          exact hK _ h3
        · have hh : hitP s n = false := by simp [hitP, hm2]
          simp only [hm2, decide_false, ifB_false]
          exact next hh _ h3
      · have hi' : isC (guessP s n) = false := by simpa using hi
        have hh : hitP s n = false := by simp [hitP, hi']
        simp only [hi', gd_true, stepM_false, stepG_false, stepE_false, bindP_some, pPick_false, ifB_false]
        exact next hh _ hs'
    · have e2 : decide ((n : Int) ≤ (s.length : Int)) = false := by simp; omega
      simp only [bLe_int, e, e2, bindP_some, gd_true, stepM_true, stepG_true, lenS_mk, bs_size, pPick_true, ifB_false]
      unfold F213_3 F213_3b
      rw [refP_end (by omega)] at hK
      exact hK _ hs
theorem ffirst_spec {s : List UInt8} (h : Sat w0 L w) (hK : ∀ w', Sat w0 L w' → K (optV (firstP s)) w') : callP G213 [.string (bs s)] w K := by
  refine c213 ?_
  unfold F213 F213_1 F213_1b F213_2
  rw [← refP_first] at hK
  exact ffL_spec 4 1 (fuel - 1) w (by omega) (by omega) (by decide) h hK
def charsF : Nat → List UInt8 → Option (List Int)
  | _, [] => some []
  | 0, _ :: _ => none
  | k + 1, b :: s => match firstP (b :: s) with
    | none => none
    | some x => (charsF k ((b :: s).drop x.2)).map ((x.1 : Int) :: ·)
def charsP (s : List UInt8) : Option (List Int) := charsF s.length s
theorem firstP_len {s : List UInt8} {c n : Nat} (h : firstP s = some (c, n)) : 1 ≤ n ∧ n ≤ s.length := by
  cases s with
  | nil => simp [firstP] at h
  | cons b s =>
    unfold firstP at h
    simp only at h
    split at h
    · cases h
    · rename_i hn
      split at h
      · cases h
      · split at h
        · simp only [Option.some.injEq, Prod.mk.injEq] at h
          simp only [List.length_cons]
          omega
        · cases h
theorem one_lit {c : Int} {v : Value} {l : List Int} (h : Sat w0 (LsH cI 1 3 v l :: L) w) (hl : l.length < 1073741824) (hK : ∀ v' w', Sat w0 (LsH cI 1 3 v' (l ++ [c]) :: L) w' → K v' w') :
    eBuildSl Tryz.prog 269 1 [(0, .int .i64 c)] w fun v9 w8 => eAppend Tryz.prog 269 269 v v9 w8 K := by
  have hb : fBuildSl Tryz.prog 3 1 [(0, .int .i64 c)] = some #[.int .i64 c] := by kernel_rfl
  refine ls_lit (m := [c]) CI h u269 hb rfl fun sv w1 h1 => ?_
  exact ls_app (m := [c]) CI h1.f1 sl269 ss269 (ls_rd h1) (by simp; omega) fun s' w' h' => hK s' w' (h'.f1.drop)
theorem chL_spec : ∀ (k m : Nat) (s : List UInt8) (l : List Int) (v : Value) (w : World), s.length ≤ k → k ≤ m → l.length + s.length < 1073741824 → Sat w0 (LsH cI 1 3 v l :: L) w →
    (∀ w', Sat w0 L w' → charsF k s = none → K (.tuple #[.slice none 0 0, .int .i64 40]) w') → (∀ v' r w', charsF k s = some r → Sat w0 (LsH cI 1 3 v' (l ++ r) :: L) w' → K (.tuple #[v', .int .i64 0]) w') →
    F167_2L (m + 1) (.string (bs s)) v w K := by
  intro k
  induction k with
  | zero =>
    intro m s l v w hs hm hl h hN hK
    obtain rfl : s = [] := List.length_eq_zero_iff.1 (by omega)
    rw [F167_2L]; unfold F167_2b F167_3 F167_3b
    rw [nil_b]
    simp only [bNe_str, bs_beq, decide_true, Bool.not_true, bindP_some, ifB_false]
    exact hK v [] w rfl (by simpa using h)
  | succ k ih =>
    intro m s l v w hs hm hl h hN hK
    obtain ⟨m, rfl⟩ : ∃ j, m = j + 1 := ⟨m - 1, by omega⟩
    rw [F167_2L]; unfold F167_2b
    rw [nil_b]
    cases s with
    | nil =>
      unfold F167_3 F167_3b
      simp only [bNe_str, bs_beq, decide_true, Bool.not_true, bindP_some, ifB_false]
      exact hK v [] w rfl (by simpa using h)
    | cons b s =>
      have e : (!decide (bs (b :: s) = bs [])) = true := by simp
      simp only [bNe_str, bs_beq, e, bindP_some, ifB_true]
      refine first_spec4 ?_
      unfold firstV
      cases hf : firstP (b :: s) with
      | none =>
        have e1 : (!decide ((40 : Int) = 0)) = true := by decide
        simp only [errV, pTuple, List.getElem?_toArray, List.getElem?_cons_zero, List.getElem?_cons_succ, bindP_some, bNe_int, e1, ifB_true]
        exact hN w h.drop (by simp [charsF, hf])
      | some x =>
        obtain ⟨g1, g2⟩ := firstP_len (c := x.1) (n := x.2) hf
        simp only [pTuple, List.getElem?_toArray, List.getElem?_cons_zero, List.getElem?_cons_succ, bindP_some, bNe_int, decide_true, Bool.not_true, ifB_false]
        refine one_lit h (by omega) fun v' w' h' => ?_
        rw [sub_from g2]
        simp only [bindP_some]
        refine ih m ((b :: s).drop x.2) (l ++ [(x.1 : Int)]) v' w' (by simp at hs ⊢; omega) (by omega) (by simp at hl ⊢; omega) h' (fun w2 h2 hn => hN w2 h2 (by simp [charsF, hf, hn])) fun v2 r w2 hr h2 => ?_
        refine hK v2 ((x.1 : Int) :: r) w2 (by simp [charsF, hf, hr]) ?_
        simpa using h2
theorem chars_spec {s : List UInt8} (hs : s.length < 1073741824) (h : Sat w0 L w) (hN : ∀ w', Sat w0 L w' → charsP s = none → K (.tuple #[.slice none 0 0, .int .i64 40]) w')
    (hK : ∀ v' r w', charsP s = some r → Sat w0 (LsH cI 1 3 v' r :: L) w' → K (.tuple #[v', .int .i64 0]) w') : callP G167 [.string (bs s)] w K := by
  refine c167 ?_
  unfold F167 F167_1 F167_1b F167_2
  exact chL_spec s.length (fuel - 1) s [] _ w (Nat.le_refl _) (Nat.le_trans (show s.length ≤ 1073741824 by omega) (by decide)) (by simpa using hs) (ls_nil h) hN fun v' r w' hr h' => hK v' r w' hr (by simpa using h')
theorem fchL_spec {s : List UInt8} (hsl : s.length < 1073741824) : ∀ (k m a : Nat) (l : List Int) (v : Value) (w : World), a ≤ s.length → (s.drop a).length ≤ k → k ≤ m → l.length + (s.drop a).length < 1073741824 → Sat w0 (LsH cI 1 3 v l :: L) w →
    (∀ w', Sat w0 L w' → charsF k (s.drop a) = none → K (.tuple #[.slice none 0 0, .int .i64 40]) w') → (∀ v' r w', charsF k (s.drop a) = some r → Sat w0 (LsH cI 1 3 v' (l ++ r) :: L) w' → K (.tuple #[v', .int .i64 0]) w') →
    F166_2L (m + 1) (.string (bs s)) v (.int .i64 a) w K := by
  intro k
  induction k with
  | zero =>
    intro m a l v w ha hs hm hl h hN hK
    rw [F166_2L]; unfold F166_2b F166_3 F166_3b
    have hal : a = s.length := by simp at hs; omega
    have e : decide ((a : Int) < (s.length : Int)) = false := by simp; omega
    simp only [lenS_mk, bs_size, bLt_int, e, bindP_some, ifB_false]
    exact hK v [] w (by rw [List.drop_of_length_le (by omega)]; rfl) (by simpa using h)
  | succ k ih =>
    intro m a l v w ha hs hm hl h hN hK
    obtain ⟨m, rfl⟩ : ∃ j, m = j + 1 := ⟨m - 1, by omega⟩
    rw [F166_2L]; unfold F166_2b
    by_cases hal : a = s.length
    · unfold F166_3 F166_3b
      have e : decide ((a : Int) < (s.length : Int)) = false := by simp; omega
      simp only [lenS_mk, bs_size, bLt_int, e, bindP_some, ifB_false]
      exact hK v [] w (by rw [List.drop_of_length_le (by omega)]; rfl) (by simpa using h)
    · have e : decide ((a : Int) < (s.length : Int)) = true := by simp; omega
      simp only [lenS_mk, bs_size, bLt_int, e, bindP_some, ifB_true, sub_from ha]
      have hdl : (s.drop a).length = s.length - a := by simp
      generalize hd : s.drop a = t at *
      refine ffirst_spec h fun w1 h1 => ?_
      cases t with
      | nil => simp at hdl; omega
      | cons b t =>
      cases hf : firstP (b :: t) with
      | none =>
        have e1 : (!decide ((40 : Int) = 0)) = true := by decide
        simp only [optV, errV, pTuple, List.getElem?_toArray, List.getElem?_cons_zero, List.getElem?_cons_succ, bindP_some, bNe_int, e1, ifB_true]
        exact hN w1 h1.drop (by simp [charsF, hf])
      | some x =>
        obtain ⟨g1, g2⟩ := firstP_len (c := x.1) (n := x.2) hf
        simp only [optV, pTuple, List.getElem?_toArray, List.getElem?_cons_zero, List.getElem?_cons_succ, bindP_some, bNe_int, decide_true, Bool.not_true, ifB_false]
        refine one_lit h1 (by omega) fun v' w' h' => ?_
        have ea : bAdd (.int .i64 (a : Int)) (.int .i64 (x.2 : Int)) = some (.int .i64 ((a + x.2 : Nat))) := addN (by omega)
        rw [ea]
        simp only [bindP_some]
        have hd2 : s.drop (a + x.2) = (b :: t).drop x.2 := by rw [← List.drop_drop, hd]
        refine ih m (a + x.2) (l ++ [(x.1 : Int)]) v' w' (by omega) (by rw [hd2]; simp at hs ⊢; omega) (by omega) (by rw [hd2]; simp at hl ⊢; omega) h' (fun w2 h2 hn => hN w2 h2 (by rw [hd2] at hn; simp [charsF, hf, hn])) fun v2 r w2 hr h2 => ?_
        refine hK v2 ((x.1 : Int) :: r) w2 (by rw [hd2] at hr; simp [charsF, hf, hr]) ?_
        simpa using h2
theorem fchars_spec {s : List UInt8} (hs : s.length < 1073741824) (h : Sat w0 L w) (hN : ∀ w', Sat w0 L w' → charsP s = none → K (.tuple #[.slice none 0 0, .int .i64 40]) w')
    (hK : ∀ v' r w', charsP s = some r → Sat w0 (LsH cI 1 3 v' r :: L) w' → K (.tuple #[v', .int .i64 0]) w') : callP G166 [.string (bs s)] w K := by
  refine c166 ?_
  unfold F166 F166_1 F166_1b F166_2
  exact fchL_spec hs s.length (fuel - 1) 0 [] _ w (by omega) (by simp) (Nat.le_trans (show s.length ≤ 1073741824 by omega) (by decide)) (by simpa using hs) (ls_nil h) hN fun v' r w' hr h' => hK v' r w' hr (by simpa using h')
end
end Go.Proofs.Gong

/- Nm4 -/
namespace Go.Proofs.Gong
open Go Go.Sx Go.Proofs
set_option maxRecDepth 100000
def ctlP (c : Int) : Bool := decide (c < 32) || decide (c = 127)
def plainP (s : List UInt8) (most : Nat) : Bool := match charsP s with
  | none => false
  | some l => !(l.any ctlP) && decide (s.length ≤ most)
section
variable {w0 w : World} {L : List HP} {K : Value → World → Prop}
theorem ctl_spec {c : Int} (hK : K (.bool (ctlP c)) w) : callP G169 [.int .i64 c] w K := by
  refine c169 ?_
  unfold F169
  unfold ctlP at hK
  by_cases h : c < 32
  · simp [h] at hK ⊢; exact hK
  · simp [h] at hK ⊢; exact hK
def fnV : Value := .func (.func 169) #[] #[]
theorem ixL_spec {l : List Int} {v : Value} (h : Rd w 1 v l.length (l.flatMap cI)) (hl : l.length ≤ 1073741824) : ∀ (k i m : Nat), k + i = l.length → k ≤ m → (∀ j : Int, (decide (j ≥ 0) = (l.drop i).any ctlP) → K (.int .i64 j) w) →
    F215_2L (m + 1) v fnV (.int .i64 l.length) (.int .i64 i) w K := by
  intro k
  induction k with
  | zero =>
    intro i m hk hm hK
    rw [F215_2L]; unfold F215_2b F215_3 F215_3b
    obtain rfl : i = l.length := by omega
    rw [bLt_int]
    simp only [bindP_some, Int.lt_irrefl, decide_false, ifB_false]
    exact hK (-1) (by simp)
  | succ k ih =>
    intro i m hk hm hK
    obtain ⟨m, rfl⟩ : ∃ j, m = j + 1 := ⟨m - 1, by omega⟩
    rw [F215_2L]; unfold F215_2b
    have hi : i < l.length := by omega
    have e : bLt (.int .i64 (i : Int)) (.int .i64 l.length) = some (.bool true) := by simp; omega
    have e1 := ix_el h hi
    have e2 := rd_ld1 (g := fun c : Int => Value.int .i64 c) h hi
    have hdr : l.drop i = l[i] :: l.drop (i + 1) := List.drop_eq_getElem_cons hi
    rw [hdr, List.any_cons] at hK
    rw [e]
    simp only [bindP_some, ifB_true, e1, e2]
    generalize l[i] = c at hK
    have call : ∀ k : Value → World → Prop, callP G169 [.int .i64 c] w k → eCallV (tabOf T215) fnV [.int .i64 c] w k := by
      intro k h
      show callP (tabOf T215 169) _ _ _
      exact h
    refine call _ (ctl_spec ?_)
    by_cases hc : ctlP c = true
    · simp only [hc, ifB_true]
      exact hK i (by simp [hc])
    · have hc' : ctlP c = false := by simpa using hc
      simp only [hc', ifB_false, plus1 (show i + 1 < 9223372036854775808 by omega), bindP_some]
      exact ih (i + 1) m (by omega) (by omega) fun j hj => hK j (by rw [hj, hc']; simp)
theorem contains_spec {l : List Int} {v : Value} (h : Rd w 1 v l.length (l.flatMap cI)) (hl : l.length ≤ 1073741824) (hK : K (.bool (l.any ctlP)) w) : callP G168 [v, fnV] w K := by
  refine c168 ?_
  unfold F168
  refine c215 ?_
  unfold F215 F215_1 F215_1b
  rw [h.len]
  simp only [bindP_some]
  unfold F215_2
  refine ixL_spec h hl l.length 0 (fuel - 1) (by omega) (Nat.le_trans hl (by decide)) fun j hj => ?_
  simp only [bGe_int, bindP_some]
  rw [hj, List.drop_zero]
  exact hK
theorem charsF_len : ∀ (k : Nat) (s : List UInt8) (r : List Int), charsF k s = some r → r.length ≤ s.length
  | _, [], r, h => by
    have : some r = some [] := by rw [← h]; cases ‹Nat› <;> rfl
    simp at this; subst this; simp
  | 0, _ :: _, r, h => by simp [charsF] at h
  | k + 1, b :: s, r, h => by
    unfold charsF at h
    split at h
    · cases h
    · rename_i x hf
      obtain ⟨g1, g2⟩ := firstP_len (c := x.1) (n := x.2) hf
      simp only [Option.map_eq_some_iff] at h
      obtain ⟨r', h1, rfl⟩ := h
      have := charsF_len k _ r' h1
      simp at this ⊢
      simp at g2
      omega
theorem plain_spec {s : List UInt8} {most : Nat} (hs : s.length < 1073741824) (h : Sat w0 L w) (hK : ∀ w', Sat w0 L w' → K (.bool (plainP s most)) w') : callP G115 [.string (bs s), .int .i64 most] w K := by
  refine c115 ?_
  unfold F115
  unfold plainP at hK
  refine chars_spec hs h (fun w1 h1 hn => ?_) fun v r w1 hr h1 => ?_
  · rw [hn] at hK
    simp only [pTuple, List.getElem?_toArray, List.getElem?_cons_zero, List.getElem?_cons_succ, bindP_some]
    refine contains_spec (l := []) (.emp _ _) (by simp) ?_
    have e : decide ((40 : Int) = 0) = false := by decide
    simp only [bEq_int, e, bindP_some, gd_true, stepM_false, stepG_false, pPick_false]
    exact hK _ h1
  · rw [hr] at hK
    have hl := charsF_len _ _ _ hr
    simp only [pTuple, List.getElem?_toArray, List.getElem?_cons_zero, List.getElem?_cons_succ, bindP_some]
    refine contains_spec (ls_rd h1) (by omega) ?_
    have hk := hK _ h1.drop
    simp only at hk
    by_cases hc : r.any ctlP = true
    · simp only [hc, Bool.not_true, Bool.false_and] at hk
      simp only [bEq_int, decide_true, bindP_some, gd_true, stepM_true, stepG_true, hc, uNot_bool, Bool.not_true, pPick_true, stepM_false, stepG_false, pPick_false]
      exact hk
    · have hc' : r.any ctlP = false := by simpa using hc
      simp only [hc', Bool.not_false, Bool.true_and] at hk
      have e : decide ((s.length : Int) ≤ (most : Int)) = decide (s.length ≤ most) := by rw [decide_eq_decide]; omega
      simp only [bEq_int, decide_true, bindP_some, gd_true, stepM_true, stepG_true, hc', uNot_bool, Bool.not_false, pPick_true, lenS_mk, bs_size, bLe_int, e]
      exact hk
theorem fpL_spec {s : List UInt8} {most : Nat} {l : List Int} {v : Value} (h : Rd w 1 v l.length (l.flatMap cI)) (hl : l.length ≤ 1073741824) (hK : K (.bool (!(l.any ctlP) && decide (s.length ≤ most))) w) : ∀ (k i m : Nat), k + i = l.length → k ≤ m → (l.take i).any ctlP = false →
    F114_2L (m + 1) (.string (bs s)) (.int .i64 most) v (.int .i64 0) (.int .i64 i) w K := by
  intro k
  have e0 : decide ((s.length : Int) ≤ (most : Int)) = decide (s.length ≤ most) := by rw [decide_eq_decide]; omega
  induction k with
  | zero =>
    intro i m hk hm hi
    rw [F114_2L]; unfold F114_2b F114_3 F114_3b
    obtain rfl : i = l.length := by omega
    rw [List.take_length] at hi
    rw [hi] at hK
    rw [h.len]
    simp only [bLt_int, bindP_some, Int.lt_irrefl, decide_false, ifB_false, bEq_int, decide_true, gd_true, stepM_true, stepG_true, lenS_mk, bs_size, bLe_int, e0, pPick_true]
    simpa using hK
  | succ k ih =>
    intro i m hk hm hi0
    obtain ⟨m, rfl⟩ : ∃ j, m = j + 1 := ⟨m - 1, by omega⟩
    rw [F114_2L]; unfold F114_2b
    have hi : i < l.length := by omega
    have e : bLt (.int .i64 (i : Int)) (.int .i64 l.length) = some (.bool true) := by simp; omega
    have e1 := ix_el h hi
    have e2 := rd_ld1 (g := fun c : Int => Value.int .i64 c) h hi
    rw [h.len]
    simp only [bindP_some, e, ifB_true, e1, e2]
    have htk : (l.take (i + 1)).any ctlP = ctlP l[i] := by
      rw [List.take_succ_eq_append_getElem hi, List.any_append, hi0]; simp
    have hany : ctlP l[i] = true → l.any ctlP = true := fun h => List.any_eq_true.2 ⟨l[i], List.getElem_mem hi, h⟩
    generalize l[i] = c at htk hany e2 ⊢
    unfold ctlP at htk hany
    have out : ctlP c = true → K (.bool false) w := by
      intro hc
      have := hany hc
      rw [show (fun c => decide (c < 32) || decide (c = 127)) = ctlP from rfl] at this
      rw [this] at hK
      simpa using hK
    have step : ctlP c = false → bindP (bAdd (.int .i64 (i : Int)) (.int .i64 1)) (fun v18 => F114_2L (m + 1) (.string (bs s)) (.int .i64 most) v (.int .i64 0) v18 w K) := by
      intro hc
      rw [plus1 (by omega)]
      simp only [bindP_some]
      refine ih (i + 1) m (by omega) (by omega) ?_
      rw [show ctlP = (fun c => decide (c < 32) || decide (c = 127)) from rfl] at hc ⊢
      rw [htk]; exact hc
    by_cases h1 : c < 32
    · simp only [bLt_int, h1, decide_true, bindP_some, gd_false, Bool.not_true, stepM_false, stepG_false, pPick_true, ifB_true]
      exact out (by simp [ctlP, h1])
    · simp only [bLt_int, h1, decide_false, bindP_some, gd_false, Bool.not_false, stepM_true, stepG_true, e1, e2, bEq_int, pPick_false]
      by_cases h2 : c = 127
      · simp only [h2, decide_true, ifB_true]
        exact out (by simp [ctlP, h2])
      · simp only [h2, decide_false, ifB_false]
        exact step (by simp [ctlP, h1, h2])
theorem fplain_spec {s : List UInt8} {most : Nat} (hs : s.length < 1073741824) (h : Sat w0 L w) (hK : ∀ w', Sat w0 L w' → K (.bool (plainP s most)) w') : callP G114 [.string (bs s), .int .i64 most] w K := by
  refine c114 ?_
  unfold F114 F114_1 F114_1b
  unfold plainP at hK
  refine fchars_spec hs h (fun w1 h1 hn => ?_) fun v r w1 hr h1 => ?_
  · rw [hn] at hK
    simp only [pTuple, List.getElem?_toArray, List.getElem?_cons_zero, List.getElem?_cons_succ, bindP_some]
    unfold F114_2
    obtain ⟨m, hm⟩ : ∃ m, fuel = m + 1 := ⟨fuel - 1, by decide⟩
    rw [hm, F114_2L]
    unfold F114_2b F114_3 F114_3b
    have e : decide ((40 : Int) = 0) = false := by decide
    have e1 : bLt (.int .i64 0) (.int .i64 ((0 : Nat) : Int)) = some (.bool false) := by simp
    simp only [lenL_mk, e1, bEq_int, e, bindP_some, ifB_false, gd_true, stepM_false, stepG_false, pPick_false]
    exact hK _ h1
  · rw [hr] at hK
    have hl := charsF_len _ _ _ hr
    simp only [pTuple, List.getElem?_toArray, List.getElem?_cons_zero, List.getElem?_cons_succ, bindP_some]
    unfold F114_2
    exact fpL_spec (ls_rd h1) (by omega) (hK _ h1.drop) r.length 0 (fuel - 1) (by omega) (Nat.le_trans (show r.length ≤ 1073741824 by omega) (by decide)) (by simp)
end
end Go.Proofs.Gong

/- Nm5 -/
namespace Go.Proofs.Gong
open Go Go.Sx Go.Proofs
set_option maxRecDepth 100000
structure Evt where
  node : List UInt8
  cls : List UInt8
  key : List UInt8
  level : Int
  text : List UInt8
  deriving DecidableEq
@[reducible] def cEv (e : Evt) : List Value := [.string (bs e.node), .string (bs e.cls), .string (bs e.key), .int .i64 e.level, .string (bs e.text)]
abbrev evV (e : Evt) : Value := .agg (cEv e).toArray
def Evt.fits (e : Evt) : Prop := e.node.length < 1073741824 ∧ e.cls.length < 1073741824 ∧ e.key.length < 1073741824 ∧ e.text.length < 1073741824
def okE (e : Evt) : Bool := !decide (e.node = []) && !decide (e.cls = []) && plainP e.node 64 && plainP e.cls 64 && plainP e.key 128 && plainP e.text 1024 && decide (0 ≤ e.level) && decide (e.level ≤ 5)
def chkE (e : Evt) : Int := if okE e = true then 0 else 180
section
variable {w0 w : World} {L : List HP} {K : Value → World → Prop} {e : Evt}
theorem ncheck_spec (he : e.fits) (h : Sat w0 L w) (hK : ∀ w', Sat w0 L w' → K (.int .i64 (chkE e)) w') : callP G76 [evV e] w K := by
  refine c76 ?_
  unfold F76
  refine eBox_sat h fun p w1 h1 => ?_
  have e0 : (evV e).cells = (cEv e).toArray := rfl
  rw [e0] at h1
  have cs : ∀ {w' : World}, Sat w0 (Cl p (cEv e).toArray 43 :: L) w' → ∀ i, w'.cell? ⟨p, i, none⟩ = (cEv e)[i]? := fun h i => by rw [cell_of h.cl, List.getElem?_toArray]
  have k0 : (cEv e)[0]? = some (.string (bs e.node)) := rfl
  have k1 : (cEv e)[1]? = some (.string (bs e.cls)) := rfl
  have k2 : (cEv e)[2]? = some (.string (bs e.key)) := rfl
  have k3 : (cEv e)[3]? = some (.int .i64 e.level) := rfl
  have k4 : (cEv e)[4]? = some (.string (bs e.text)) := rfl
  obtain ⟨f1, f2, f3, f4⟩ := he
  unfold chkE okE at hK
  rw [nil_b]
  simp only [ptr, pFieldAddr_ptr, bindP_some, Nat.zero_add, ld1_ptr, cs h1, k0, k1, bNe_str, bs_beq, bs_inj]
  have bad : ∀ w', Sat w0 (Cl p (cEv e).toArray 43 :: L) w' → okE e = false → K (.int .i64 180) w' := by
    intro w' hs ho
    have := hK _ hs.drop
    unfold okE at ho
    rw [ho] at this
    exact this
  by_cases n1 : e.node = []
  · have ho : okE e = false := by simp [okE, n1]
    simp only [ld1_ptr, k0, k1, k2, k3, k4, bNe_str, bs_beq, bs_inj, cs h1, n1, decide_true, Bool.not_true, gd_true, stepG_false, stepE_false, pPick_false, bindP_some, uNot_bool, Bool.not_false, gd_false, pPick_true, ifB_true]
    exact bad _ h1 ho
  · by_cases n2 : e.cls = []
    · have ho : okE e = false := by simp [okE, n2]
      simp only [ld1_ptr, k0, k1, k2, k3, k4, bNe_str, bs_beq, bs_inj, cs h1, n1, n2, decide_true, decide_false, Bool.not_true, Bool.not_false, gd_true, stepG_true, stepG_false, stepE_false, pPick_true, pPick_false, bindP_some, uNot_bool, gd_false, ifB_true]
      exact bad _ h1 ho
    · simp only [ld1_ptr, k0, k1, k2, k3, k4, bNe_str, bs_beq, bs_inj, cs h1, n1, n2, decide_false, Bool.not_false, gd_true, stepG_true, stepE_true, pPick_true, bindP_some]
      refine plain_spec (most := 64) f1 h1 fun w2 h2 => ?_
      by_cases p1 : plainP e.node 64 = true
      · simp only [ld1_ptr, k0, k1, k2, k3, k4, bNe_str, bs_beq, bs_inj, p1, pPick_true, bindP_some, gd_true, stepG_true, stepE_true, cs h2, k1]
        refine plain_spec (most := 64) f2 h2 fun w3 h3 => ?_
        by_cases p2 : plainP e.cls 64 = true
        · simp only [ld1_ptr, k0, k1, k2, k3, k4, bNe_str, bs_beq, bs_inj, p2, pPick_true, bindP_some, uNot_bool, Bool.not_true, gd_false, Bool.not_false, stepG_true, stepE_true, cs h3, k2]
          refine plain_spec (most := 128) f3 h3 fun w4 h4 => ?_
          by_cases p3 : plainP e.key 128 = true
          · simp only [ld1_ptr, k0, k1, k2, k3, k4, bNe_str, bs_beq, bs_inj, p3, uNot_bool, Bool.not_true, pPick_false, bindP_some, gd_false, Bool.not_false, stepG_true, stepE_true, cs h4, k4]
            refine plain_spec (most := 1024) f4 h4 fun w5 h5 => ?_
            by_cases p4 : plainP e.text 1024 = true
            · simp only [ld1_ptr, k0, k1, k2, k3, k4, bNe_str, bs_beq, bs_inj, p4, uNot_bool, Bool.not_true, pPick_false, bindP_some, gd_false, Bool.not_false, stepG_true, cs h5, k3, bLt_int]
              by_cases l1 : e.level < 0
              · have ho : okE e = false := by
                  have : ¬ (0 ≤ e.level) := by omega
                  simp [okE, this]
                simp only [ld1_ptr, k0, k1, k2, k3, k4, bNe_str, bs_beq, bs_inj, l1, decide_true, pPick_true, bindP_some, gd_false, Bool.not_true, stepG_false, ifB_true]
                exact bad _ h5 ho
              · by_cases l2 : e.level > 5
                · have ho : okE e = false := by
                    have : ¬ (e.level ≤ 5) := by omega
                    simp [okE, this]
                  simp only [ld1_ptr, k0, k1, k2, k3, k4, bNe_str, bs_beq, bs_inj, cs h5, l1, l2, bGt_int, decide_true, decide_false, pPick_false, bindP_some, gd_false, Bool.not_false, stepG_true, ifB_true]
                  exact bad _ h5 ho
                · have hk := hK _ h5.drop
                  have g1 : 0 ≤ e.level := by omega
                  have g2 : e.level ≤ 5 := by omega
                  simp only [n1, n2, p1, p2, p3, p4, g1, g2, decide_true, decide_false, Bool.not_false, Bool.and_self, if_true] at hk
                  simp only [ld1_ptr, k0, k1, k2, k3, k4, bNe_str, bs_beq, bs_inj, cs h5, l1, l2, bGt_int, decide_false, pPick_false, bindP_some, gd_false, Bool.not_false, stepG_true, ifB_false]
                  exact hk
            · have p4' : plainP e.text 1024 = false := by simpa using p4
              have ho : okE e = false := by simp [okE, p4']
              simp only [ld1_ptr, k0, k1, k2, k3, k4, bNe_str, bs_beq, bs_inj, p4', uNot_bool, Bool.not_false, pPick_false, pPick_true, bindP_some, gd_false, Bool.not_true, stepG_false, ifB_true]
              exact bad _ h5 ho
          · have p3' : plainP e.key 128 = false := by simpa using p3
            have ho : okE e = false := by simp [okE, p3']
            simp only [ld1_ptr, k0, k1, k2, k3, k4, bNe_str, bs_beq, bs_inj, p3', uNot_bool, Bool.not_false, pPick_false, pPick_true, bindP_some, gd_false, Bool.not_true, stepG_false, stepE_false, ifB_true]
            exact bad _ h4 ho
        · have p2' : plainP e.cls 64 = false := by simpa using p2
          have ho : okE e = false := by simp [okE, p2']
          simp only [ld1_ptr, k0, k1, k2, k3, k4, bNe_str, bs_beq, bs_inj, p2', uNot_bool, Bool.not_false, pPick_false, pPick_true, bindP_some, gd_false, Bool.not_true, stepG_false, stepE_false, ifB_true]
          exact bad _ h3 ho
      · have p1' : plainP e.node 64 = false := by simpa using p1
        have ho : okE e = false := by simp [okE, p1']
        simp only [ld1_ptr, k0, k1, k2, k3, k4, bNe_str, bs_beq, bs_inj, p1', gd_true, uNot_bool, Bool.not_false, pPick_false, pPick_true, bindP_some, gd_false, Bool.not_true, stepG_false, stepE_false, ifB_true]
        exact bad _ h2 ho
theorem nfcheck_spec (he : e.fits) (h : Sat w0 L w) (hK : ∀ w', Sat w0 L w' → K (.int .i64 (chkE e)) w') : callP G71 [evV e] w K := by
  refine c71 ?_
  unfold F71
  refine eBox_sat h fun p w1 h1 => ?_
  have e0 : (evV e).cells = (cEv e).toArray := rfl
  rw [e0] at h1
  have cs : ∀ {w' : World}, Sat w0 (Cl p (cEv e).toArray 43 :: L) w' → ∀ i, w'.cell? ⟨p, i, none⟩ = (cEv e)[i]? := fun h i => by rw [cell_of h.cl, List.getElem?_toArray]
  have k0 : (cEv e)[0]? = some (.string (bs e.node)) := rfl
  have k1 : (cEv e)[1]? = some (.string (bs e.cls)) := rfl
  have k2 : (cEv e)[2]? = some (.string (bs e.key)) := rfl
  have k3 : (cEv e)[3]? = some (.int .i64 e.level) := rfl
  have k4 : (cEv e)[4]? = some (.string (bs e.text)) := rfl
  obtain ⟨f1, f2, f3, f4⟩ := he
  unfold chkE okE at hK
  rw [nil_b]
  simp only [ptr, pFieldAddr_ptr, bindP_some, Nat.zero_add, ld1_ptr, cs h1, k0, k1, bEq_str, bs_beq, bs_inj]
  have bad : ∀ w', Sat w0 (Cl p (cEv e).toArray 43 :: L) w' → okE e = false → K (.int .i64 180) w' := by
    intro w' hs ho
    have := hK _ hs.drop
    unfold okE at ho
    rw [ho] at this
    exact this
  by_cases n1 : e.node = []
  · have ho : okE e = false := by simp [okE, n1]
    simp only [cs h1, n1, ld1_ptr, k0, k1, k2, k3, k4, bEq_str, bs_beq, bs_inj, gd_undef, uNot_bool, decide_true, decide_false, Bool.not_true, Bool.not_false, gd_true, gd_false, stepG_true, stepG_false, stepE_true, stepE_false, stepM_true, stepM_false, pPick_true, pPick_false, bindP_some, ifB_true, ifB_false, bLt_int, bGt_int]
    exact bad _ h1 ho
  · by_cases n2 : e.cls = []
    · have ho : okE e = false := by simp [okE, n2]
      simp only [cs h1, n1, n2, ld1_ptr, k0, k1, k2, k3, k4, bEq_str, bs_beq, bs_inj, gd_undef, uNot_bool, decide_true, decide_false, Bool.not_true, Bool.not_false, gd_true, gd_false, stepG_true, stepG_false, stepE_true, stepE_false, stepM_true, stepM_false, pPick_true, pPick_false, bindP_some, ifB_true, ifB_false, bLt_int, bGt_int]
      exact bad _ h1 ho
    · simp only [cs h1, n1, n2, ld1_ptr, k0, k1, k2, k3, k4, bEq_str, bs_beq, bs_inj, gd_undef, uNot_bool, decide_true, decide_false, Bool.not_true, Bool.not_false, gd_true, gd_false, stepG_true, stepG_false, stepE_true, stepE_false, stepM_true, stepM_false, pPick_true, pPick_false, bindP_some, ifB_true, ifB_false, bLt_int, bGt_int]
      refine fplain_spec (most := 64) f1 h1 fun w2 h2 => ?_
      by_cases p1 : plainP e.node 64 = true
      · simp only [p1, cs h2, ld1_ptr, k0, k1, k2, k3, k4, bEq_str, bs_beq, bs_inj, gd_undef, uNot_bool, decide_true, decide_false, Bool.not_true, Bool.not_false, gd_true, gd_false, stepG_true, stepG_false, stepE_true, stepE_false, stepM_true, stepM_false, pPick_true, pPick_false, bindP_some, ifB_true, ifB_false, bLt_int, bGt_int]
        refine fplain_spec (most := 64) f2 h2 fun w3 h3 => ?_
        by_cases p2 : plainP e.cls 64 = true
        · simp only [p2, cs h3, ld1_ptr, k0, k1, k2, k3, k4, bEq_str, bs_beq, bs_inj, gd_undef, uNot_bool, decide_true, decide_false, Bool.not_true, Bool.not_false, gd_true, gd_false, stepG_true, stepG_false, stepE_true, stepE_false, stepM_true, stepM_false, pPick_true, pPick_false, bindP_some, ifB_true, ifB_false, bLt_int, bGt_int]
          refine fplain_spec (most := 128) f3 h3 fun w4 h4 => ?_
          by_cases p3 : plainP e.key 128 = true
          · simp only [p3, cs h4, ld1_ptr, k0, k1, k2, k3, k4, bEq_str, bs_beq, bs_inj, gd_undef, uNot_bool, decide_true, decide_false, Bool.not_true, Bool.not_false, gd_true, gd_false, stepG_true, stepG_false, stepE_true, stepE_false, stepM_true, stepM_false, pPick_true, pPick_false, bindP_some, ifB_true, ifB_false, bLt_int, bGt_int]
            refine fplain_spec (most := 1024) f4 h4 fun w5 h5 => ?_
            by_cases p4 : plainP e.text 1024 = true
            · simp only [p4, cs h5, ld1_ptr, k0, k1, k2, k3, k4, bEq_str, bs_beq, bs_inj, gd_undef, uNot_bool, decide_true, decide_false, Bool.not_true, Bool.not_false, gd_true, gd_false, stepG_true, stepG_false, stepE_true, stepE_false, stepM_true, stepM_false, pPick_true, pPick_false, bindP_some, ifB_true, ifB_false, bLt_int, bGt_int]
              by_cases l1 : e.level < 0
              · have ho : okE e = false := by
                  have : ¬ (0 ≤ e.level) := by omega
                  simp [okE, this]
                simp only [l1, cs h5, ld1_ptr, k0, k1, k2, k3, k4, bEq_str, bs_beq, bs_inj, gd_undef, uNot_bool, decide_true, decide_false, Bool.not_true, Bool.not_false, gd_true, gd_false, stepG_true, stepG_false, stepE_true, stepE_false, stepM_true, stepM_false, pPick_true, pPick_false, bindP_some, ifB_true, ifB_false, bLt_int, bGt_int]
                exact bad _ h5 ho
              · by_cases l2 : e.level > 5
                · have ho : okE e = false := by
                    have : ¬ (e.level ≤ 5) := by omega
                    simp [okE, this]
                  simp only [l1, l2, cs h5, ld1_ptr, k0, k1, k2, k3, k4, bEq_str, bs_beq, bs_inj, gd_undef, uNot_bool, decide_true, decide_false, Bool.not_true, Bool.not_false, gd_true, gd_false, stepG_true, stepG_false, stepE_true, stepE_false, stepM_true, stepM_false, pPick_true, pPick_false, bindP_some, ifB_true, ifB_false, bLt_int, bGt_int]
                  exact bad _ h5 ho
                · have hk := hK _ h5.drop
                  have g1 : 0 ≤ e.level := by omega
                  have g2 : e.level ≤ 5 := by omega
                  simp only [n1, n2, p1, p2, p3, p4, g1, g2, decide_true, decide_false, Bool.not_false, Bool.and_self, if_true] at hk
                  simp only [l1, l2, cs h5, ld1_ptr, k0, k1, k2, k3, k4, bEq_str, bs_beq, bs_inj, gd_undef, uNot_bool, decide_true, decide_false, Bool.not_true, Bool.not_false, gd_true, gd_false, stepG_true, stepG_false, stepE_true, stepE_false, stepM_true, stepM_false, pPick_true, pPick_false, bindP_some, ifB_true, ifB_false, bLt_int, bGt_int]
                  exact hk
            · have p4' : plainP e.text 1024 = false := by simpa using p4
              have ho : okE e = false := by simp [okE, p4']
              simp only [p4', cs h5, ld1_ptr, k0, k1, k2, k3, k4, bEq_str, bs_beq, bs_inj, gd_undef, uNot_bool, decide_true, decide_false, Bool.not_true, Bool.not_false, gd_true, gd_false, stepG_true, stepG_false, stepE_true, stepE_false, stepM_true, stepM_false, pPick_true, pPick_false, bindP_some, ifB_true, ifB_false, bLt_int, bGt_int]
              exact bad _ h5 ho
          · have p3' : plainP e.key 128 = false := by simpa using p3
            have ho : okE e = false := by simp [okE, p3']
            simp only [p3', cs h4, ld1_ptr, k0, k1, k2, k3, k4, bEq_str, bs_beq, bs_inj, gd_undef, uNot_bool, decide_true, decide_false, Bool.not_true, Bool.not_false, gd_true, gd_false, stepG_true, stepG_false, stepE_true, stepE_false, stepM_true, stepM_false, pPick_true, pPick_false, bindP_some, ifB_true, ifB_false, bLt_int, bGt_int]
            exact bad _ h4 ho
        · have p2' : plainP e.cls 64 = false := by simpa using p2
          have ho : okE e = false := by simp [okE, p2']
          simp only [p2', cs h3, ld1_ptr, k0, k1, k2, k3, k4, bEq_str, bs_beq, bs_inj, gd_undef, uNot_bool, decide_true, decide_false, Bool.not_true, Bool.not_false, gd_true, gd_false, stepG_true, stepG_false, stepE_true, stepE_false, stepM_true, stepM_false, pPick_true, pPick_false, bindP_some, ifB_true, ifB_false, bLt_int, bGt_int]
          exact bad _ h3 ho
      · have p1' : plainP e.node 64 = false := by simpa using p1
        have ho : okE e = false := by simp [okE, p1']
        simp only [p1', cs h2, ld1_ptr, k0, k1, k2, k3, k4, bEq_str, bs_beq, bs_inj, gd_undef, uNot_bool, decide_true, decide_false, Bool.not_true, Bool.not_false, gd_true, gd_false, stepG_true, stepG_false, stepE_true, stepE_false, stepM_true, stepM_false, pPick_true, pPick_false, bindP_some, ifB_true, ifB_false, bLt_int, bGt_int]
        exact bad _ h2 ho
end
end Go.Proofs.Gong

/- Bd0 -/
namespace Go.Proofs.Gong
open Go Go.Sx Go.Proofs
set_option maxRecDepth 100000
def timeP (t : Int) : Bool := decide (0 ≤ t) && decide (t ≤ 2305843009213693952)
def whoP (s : List UInt8) : Bool := !decide (s = []) && plainP s 64
theorem chk_who (s c : List UInt8) (hc : c ≠ []) (hp : plainP c 64 = true) : chkE ⟨s, c, [], 0, []⟩ = if whoP s = true then 0 else 180 := by
  have h1 : plainP [] 128 = true := by decide
  have h2 : plainP [] 1024 = true := by decide
  unfold chkE okE whoP
  simp [hc, hp, h1, h2]
section
variable {w0 w : World} {L : List HP} {K : Value → World → Prop}
theorem bistime_spec {t : Int} (hK : K (.bool (timeP t)) w) : callP G74 [.int .i64 t] w K := by
  refine c74 ?_
  unfold F74
  unfold timeP at hK
  by_cases g1 : 0 ≤ t <;> simp [g1] at hK ⊢ <;> exact hK
theorem fbistime_spec {t : Int} (hK : K (.bool (timeP t)) w) : callP G72 [.int .i64 t] w K := by
  refine c72 ?_
  unfold F72
  unfold timeP at hK
  by_cases g1 : 0 ≤ t <;> simp [g1] at hK ⊢ <;> exact hK
theorem iswho_spec {s : List UInt8} (hs : s.length < 1073741824) (h : Sat w0 L w) (hK : ∀ w', Sat w0 L w' → K (.bool (whoP s)) w') : callP G75 [.string (bs s)] w K := by
  refine c75 ?_
  unfold F75
  have eb : fBuild Tryz.prog 43 [(0, .string (bs s)), (1, .string ⟨#[99]⟩)] = some (evV ⟨s, [99], [], 0, []⟩) := by kernel_rfl
  rw [eb]
  simp only [bindP_some]
  refine ncheck_spec ⟨hs, by simp, by simp, by simp⟩ h fun w1 h1 => ?_
  rw [chk_who s [99] (by simp) (by decide)]
  have hk := hK _ h1
  by_cases hw : whoP s = true
  · rw [hw] at hk; rw [if_pos hw]; simpa using hk
  · rw [if_neg hw]
    have : whoP s = false := by simpa using hw
    rw [this] at hk; simpa using hk
theorem fiswho_spec {s : List UInt8} (hs : s.length < 1073741824) (h : Sat w0 L w) (hK : ∀ w', Sat w0 L w' → K (.bool (whoP s)) w') : callP G73 [.string (bs s)] w K := by
  refine c73 ?_
  unfold F73
  have eb : fBuild Tryz.prog 43 [(0, .string (bs s)), (1, .string ⟨#[120]⟩)] = some (evV ⟨s, [120], [], 0, []⟩) := by kernel_rfl
  rw [eb]
  simp only [bindP_some]
  refine nfcheck_spec ⟨hs, by simp, by simp, by simp⟩ h fun w1 h1 => ?_
  rw [chk_who s [120] (by simp) (by decide)]
  have hk := hK _ h1
  by_cases hw : whoP s = true
  · rw [hw] at hk; rw [if_pos hw]; simpa using hk
  · rw [if_neg hw]
    have : whoP s = false := by simpa using hw
    rw [this] at hk; simpa using hk
end
structure Row where
  id : Int
  e : Evt
  tally : Int
  first : Int
  last : Int
  acked : Bool
  who : List UInt8
  deriving DecidableEq
@[reducible] def cRow (r : Row) : List Value := [.int .i64 r.id, .string (bs r.e.node), .string (bs r.e.cls), .string (bs r.e.key), .int .i64 r.e.level, .string (bs r.e.text), .int .i64 r.tally, .int .i64 r.first, .int .i64 r.last, .bool r.acked, .string (bs r.who)]
abbrev rowV (r : Row) : Value := .agg (cRow r).toArray
def timesR (r : Row) : Bool := timeP r.first && timeP r.last && decide (r.first ≤ r.last)
def whoR (r : Row) : Bool := if r.acked = true then whoP r.who else decide (r.who = [])
def okR (r : Row) : Bool := decide (1 ≤ r.id) && decide (1 ≤ r.e.level) && decide (1 ≤ r.tally) && decide (r.tally ≤ 1099511627776) && timesR r && whoR r && okE r.e
def chkR (r : Row) : Int := if okR r = true then 0 else 4
end Go.Proofs.Gong
