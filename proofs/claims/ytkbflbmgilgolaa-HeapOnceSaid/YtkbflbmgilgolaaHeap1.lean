/- A part of the proofs: what stands below it, told in lemmas. No condition. -/
import Derived.Test.YtkbflbmgilgolaaHeap0
namespace Go.Proofs.Gong
open Go Go.Sx Go.Proofs
set_option maxRecDepth 100000
-- 214 slices.pdqsortCmpFunc[gong/heap.Item]
def T214 (GR214 : FnT) : List (Nat × FnT) := [(150, G150), (214, GR214), (247, G247), (248, G248), (249, G249), (250, G250), (251, G251), (252, G252), (253, G253), (254, G254)]
def F214_7b (GR214 : FnT) (s0 : Value) (s1 : Value) (s2 : Value) (s3 : Value) (s4 : Value) (s10 : Value) (s11 : Value) (s12 : Value) (s13 : Value) (w : World) (_K : Value → World → Prop) (R2 : Value → Value → Value → Value → Value → Value → Value → World → Prop) : Prop :=
bindP (bGt s1 (.int .i64 0)) fun v1 =>
stepM (gd true v1) s4 fun v2 =>
stepM (gd true v1) s0 fun v3 =>
stepM (gd true v1) s1 fun v4 =>
Sx.stepG (gd true v1) (bSub v4 (.int .i64 1)) fun v5 =>
Sx.stepG (gd true v1) (pIndexL 2 v3 v5) fun v6 =>
Sx.stepG (gd true v1) (ldN 2 v6 w.drew) fun v7 =>
stepM (gd true v1) s0 fun v8 =>
stepM (gd true v1) s13 fun v9 =>
Sx.stepG (gd true v1) (pIndexL 2 v8 v9) fun v10 =>
Sx.stepG (gd true v1) (ldN 2 v10 w.drew) fun v11 =>
stepE (gd true v1) (fun k => eCallV (tabOf (T214 GR214)) v2 [v7, v11] w.drew k) w.drew fun v13 w12 =>
Sx.stepG (gd true v1) (bLt v13 (.int .i64 0)) fun v14 =>
Sx.stepG (gd true v1) (uNot v14) fun v15 =>
bindP (pPick v1 v15 (.bool false)) fun v16 =>
ifB v16 (
callP G253 [s0, s1, s2, s13, s4] w12 fun v18 w17 =>
R2 s0 v18 s2 s3 s4 s10 s11 w17) (
callP G254 [s0, s1, s2, s13, s4] w12 fun v20 w19 =>
bindP (pTuple v20 0) fun v21 =>
bindP (pTuple v20 1) fun v22 =>
bindP (bSub v21 s1) fun v23 =>
bindP (bSub s2 v21) fun v24 =>
bindP (bQuo s12 (.int .i64 8)) fun v25 =>
bindP (bLt v23 v24) fun v26 =>
ifB v26 (
bindP (bGe v23 v25) fun v27 =>
callP GR214 [s0, s1, v21, s3, s4] w19 fun _ w28 =>
bindP (bAdd v21 (.int .i64 1)) fun v30 =>
R2 s0 v30 s2 s3 s4 v27 v22 w28) (
bindP (bGe v24 v25) fun v31 =>
bindP (bAdd v21 (.int .i64 1)) fun v32 =>
callP GR214 [s0, v32, s2, s3, s4] w19 fun _ w33 =>
R2 s0 s1 v21 s3 s4 v31 v22 w33))

def F214_7 (GR214 : FnT) (s0 : Value) (s1 : Value) (s2 : Value) (s3 : Value) (s4 : Value) (s10 : Value) (s11 : Value) (s12 : Value) (s13 : Value) (w : World) (K : Value → World → Prop) (R2 : Value → Value → Value → Value → Value → Value → Value → World → Prop) : Prop := F214_7b GR214 s0 s1 s2 s3 s4 s10 s11 s12 s13 w K R2

theorem ok214_7 (GR214 : FnT) (R2 : Value → Value → Value → Value → Value → Value → Value → World → Prop) {K : Value → World → Prop} {kn kr : Env → World → Prop} {ke : Nat → Env → World → Prop}
    (hn : ∀ e w, (fun e w => R2 (e 0) (e 1) (e 2) (e 3) (e 4) (e 10) (e 11) w) e w → kn e w) (hr : ∀ e w, endD Try.prog [] K e w → kr e w) (he : ∀ i e w, (blkK 1 (fun e w => R2 (e 0) (e 1) (e 2) (e 3) (e 4) (e 10) (e 11) w) (blkK 0 (fun e w => K (.tuple #[]) w) noE)) i e w → ke i e w) :
    ∀ e w, F214_7 GR214 (e 0) (e 1) (e 2) (e 3) (e 4) (e 10) (e 11) (e 12) (e 13) w K R2 → denL Try.prog (tabOf (T214 GR214)) 148 fuel ((flat (blkB (nthC (flat (loopB (blkB (nthC (flat (bodyOf Try.f214)) 2)))) 0))).drop 12) e w kn kr ke := by
  intro e w h
  unfold F214_7 at h
  have e1 : ∀ (_ : Unit), F214_7b GR214 (e 0) (e 1) (e 2) (e 3) (e 4) (e 10) (e 11) (e 12) (e 13) w K R2 = denL Try.prog (tabOf (T214 GR214)) 148 fuel ((flat (blkB (nthC (flat (loopB (blkB (nthC (flat (bodyOf Try.f214)) 2)))) 0))).drop 12) e w (fun e w => R2 (e 0) (e 1) (e 2) (e 3) (e 4) (e 10) (e 11) w) (endD Try.prog [] K) (blkK 1 (fun e w => R2 (e 0) (e 1) (e 2) (e 3) (e 4) (e 10) (e 11) w) (blkK 0 (fun e w => K (.tuple #[]) w) noE)) := by intro _; kernel_rfl
  exact seg_end (Eq.mp (e1 ()) h) hn hr he

def F214_6b (GR214 : FnT) (s0 : Value) (s1 : Value) (s2 : Value) (s3 : Value) (s4 : Value) (s10 : Value) (s11 : Value) (s12 : Value) (s13 : Value) (s14 : Value) (w : World) (K : Value → World → Prop) (R2 : Value → Value → Value → Value → Value → Value → Value → World → Prop) (Y0 : Value → Value → Value → Value → Value → Value → Value → Value → Value → World → Prop) : Prop :=
stepM (gd true s10) s11 fun v35 =>
bindP (pPick s10 v35 (.bool false)) fun v36 =>
stepM (gd true v36) s14 fun v37 =>
Sx.stepG (gd true v36) (bEq Try.prog 291 (.tmp 73) (.const (.int .i64 1)) v37 (.int .i64 1)) fun v38 =>
bindP (pPick v36 v38 (.bool false)) fun v39 =>
ifB v39 (
callP G252 [s0, s1, s2, s4] w fun v41 w40 =>
ifB v41 (
K (.tuple #[]) w40) (
Y0 s0 s1 s2 s3 s4 s10 s11 s12 s13 w40)) (
Y0 s0 s1 s2 s3 s4 s10 s11 s12 s13 w)

def F214_6 (GR214 : FnT) (s0 : Value) (s1 : Value) (s2 : Value) (s3 : Value) (s4 : Value) (s10 : Value) (s11 : Value) (s12 : Value) (s13 : Value) (s14 : Value) (w : World) (K : Value → World → Prop) (R2 : Value → Value → Value → Value → Value → Value → Value → World → Prop) : Prop := F214_6b GR214 s0 s1 s2 s3 s4 s10 s11 s12 s13 s14 w K R2 (fun a0 a1 a2 a3 a4 a10 a11 a12 a13 w => F214_7 GR214 a0 a1 a2 a3 a4 a10 a11 a12 a13 w K R2)

theorem ok214_6 (GR214 : FnT) (R2 : Value → Value → Value → Value → Value → Value → Value → World → Prop) {K : Value → World → Prop} {kn kr : Env → World → Prop} {ke : Nat → Env → World → Prop}
    (hn : ∀ e w, (fun e w => R2 (e 0) (e 1) (e 2) (e 3) (e 4) (e 10) (e 11) w) e w → kn e w) (hr : ∀ e w, endD Try.prog [] K e w → kr e w) (he : ∀ i e w, (blkK 1 (fun e w => R2 (e 0) (e 1) (e 2) (e 3) (e 4) (e 10) (e 11) w) (blkK 0 (fun e w => K (.tuple #[]) w) noE)) i e w → ke i e w) :
    ∀ e w, F214_6 GR214 (e 0) (e 1) (e 2) (e 3) (e 4) (e 10) (e 11) (e 12) (e 13) (e 14) w K R2 → denL Try.prog (tabOf (T214 GR214)) 148 fuel ((flat (blkB (nthC (flat (loopB (blkB (nthC (flat (bodyOf Try.f214)) 2)))) 0))).drop 10) e w kn kr ke := by
  intro e w h
  unfold F214_6 at h
  have e1 : ∀ (Y0 : Value → Value → Value → Value → Value → Value → Value → Value → Value → World → Prop), F214_6b GR214 (e 0) (e 1) (e 2) (e 3) (e 4) (e 10) (e 11) (e 12) (e 13) (e 14) w K R2 Y0 = denL Try.prog (tabOf (T214 GR214)) 148 fuel (((flat (blkB (nthC (flat (loopB (blkB (nthC (flat (bodyOf Try.f214)) 2)))) 0))).drop 10).take 2) e w (fun e w => Y0 (e 0) (e 1) (e 2) (e 3) (e 4) (e 10) (e 11) (e 12) (e 13) w) (endD Try.prog [] K) (blkK 1 (fun e w => R2 (e 0) (e 1) (e 2) (e 3) (e 4) (e 10) (e 11) w) (blkK 0 (fun e w => K (.tuple #[]) w) noE)) := by intro Y0; kernel_rfl
  exact seg 2 (Eq.mp (e1 (fun a0 a1 a2 a3 a4 a10 a11 a12 a13 w => F214_7 GR214 a0 a1 a2 a3 a4 a10 a11 a12 a13 w K R2)) h) (fun e w h => ok214_7 GR214 R2 hn hr he e w h) hr he

def F214_5b (GR214 : FnT) (s0 : Value) (s1 : Value) (s2 : Value) (s3 : Value) (s4 : Value) (s10 : Value) (s11 : Value) (s12 : Value) (w : World) (_K : Value → World → Prop) (R2 : Value → Value → Value → Value → Value → Value → Value → World → Prop) (Y0 : Value → Value → Value → Value → Value → Value → Value → Value → Value → Value → World → Prop) : Prop :=
callP G250 [s0, s1, s2, s4] w fun v43 w42 =>
bindP (pTuple v43 0) fun v44 =>
bindP (pTuple v43 1) fun v45 =>
bindP (bEq Try.prog 291 (.tmp 55) (.const (.int .i64 2)) v45 (.int .i64 2)) fun v46 =>
ifB v46 (
callP G251 [s0, s1, s2, s4] w42 fun _ w47 =>
bindP (bSub s2 (.int .i64 1)) fun v49 =>
bindP (bSub v44 s1) fun v50 =>
bindP (bSub v49 v50) fun v51 =>
Y0 s0 s1 s2 s3 s4 s10 s11 s12 v51 (.int .i64 1) w47) (
Y0 s0 s1 s2 s3 s4 s10 s11 s12 v44 v45 w42)

def F214_5 (GR214 : FnT) (s0 : Value) (s1 : Value) (s2 : Value) (s3 : Value) (s4 : Value) (s10 : Value) (s11 : Value) (s12 : Value) (w : World) (K : Value → World → Prop) (R2 : Value → Value → Value → Value → Value → Value → Value → World → Prop) : Prop := F214_5b GR214 s0 s1 s2 s3 s4 s10 s11 s12 w K R2 (fun a0 a1 a2 a3 a4 a10 a11 a12 a13 a14 w => F214_6 GR214 a0 a1 a2 a3 a4 a10 a11 a12 a13 a14 w K R2)

theorem ok214_5 (GR214 : FnT) (R2 : Value → Value → Value → Value → Value → Value → Value → World → Prop) {K : Value → World → Prop} {kn kr : Env → World → Prop} {ke : Nat → Env → World → Prop}
    (hn : ∀ e w, (fun e w => R2 (e 0) (e 1) (e 2) (e 3) (e 4) (e 10) (e 11) w) e w → kn e w) (hr : ∀ e w, endD Try.prog [] K e w → kr e w) (he : ∀ i e w, (blkK 1 (fun e w => R2 (e 0) (e 1) (e 2) (e 3) (e 4) (e 10) (e 11) w) (blkK 0 (fun e w => K (.tuple #[]) w) noE)) i e w → ke i e w) :
    ∀ e w, F214_5 GR214 (e 0) (e 1) (e 2) (e 3) (e 4) (e 10) (e 11) (e 12) w K R2 → denL Try.prog (tabOf (T214 GR214)) 148 fuel ((flat (blkB (nthC (flat (loopB (blkB (nthC (flat (bodyOf Try.f214)) 2)))) 0))).drop 7) e w kn kr ke := by
  intro e w h
  unfold F214_5 at h
  have e1 : ∀ (Y0 : Value → Value → Value → Value → Value → Value → Value → Value → Value → Value → World → Prop), F214_5b GR214 (e 0) (e 1) (e 2) (e 3) (e 4) (e 10) (e 11) (e 12) w K R2 Y0 = denL Try.prog (tabOf (T214 GR214)) 148 fuel (((flat (blkB (nthC (flat (loopB (blkB (nthC (flat (bodyOf Try.f214)) 2)))) 0))).drop 7).take 3) e w (fun e w => Y0 (e 0) (e 1) (e 2) (e 3) (e 4) (e 10) (e 11) (e 12) (e 13) (e 14) w) (endD Try.prog [] K) (blkK 1 (fun e w => R2 (e 0) (e 1) (e 2) (e 3) (e 4) (e 10) (e 11) w) (blkK 0 (fun e w => K (.tuple #[]) w) noE)) := by intro Y0; kernel_rfl
  exact seg 3 (Eq.mp (e1 (fun a0 a1 a2 a3 a4 a10 a11 a12 a13 a14 w => F214_6 GR214 a0 a1 a2 a3 a4 a10 a11 a12 a13 a14 w K R2)) h) (fun e w h => ok214_6 GR214 R2 hn hr he e w h) hr he

def F214_4b (GR214 : FnT) (s0 : Value) (s1 : Value) (s2 : Value) (s3 : Value) (s4 : Value) (s10 : Value) (s11 : Value) (w : World) (K : Value → World → Prop) (R2 : Value → Value → Value → Value → Value → Value → Value → World → Prop) (Y0 : Value → Value → Value → Value → Value → Value → Value → Value → World → Prop) : Prop :=
bindP (bSub s2 s1) fun v52 =>
bindP (bLe v52 (.int .i64 12)) fun v53 =>
ifB v53 (
callP G247 [s0, s1, s2, s4] w fun _ w54 =>
K (.tuple #[]) w54) (
bindP (bEq Try.prog 3 (.tmp 31) (.const (.int .i64 0)) s3 (.int .i64 0)) fun v56 =>
ifB v56 (
callP G248 [s0, s1, s2, s4] w fun _ w57 =>
K (.tuple #[]) w57) (
bindP (uNot s10) fun v59 =>
ifB v59 (
callP G249 [s0, s1, s2, s4] w fun _ w60 =>
bindP (bSub s3 (.int .i64 1)) fun v62 =>
Y0 s0 s1 s2 v62 s4 s10 s11 v52 w60) (
Y0 s0 s1 s2 s3 s4 s10 s11 v52 w)))

def F214_4 (GR214 : FnT) (s0 : Value) (s1 : Value) (s2 : Value) (s3 : Value) (s4 : Value) (s10 : Value) (s11 : Value) (w : World) (K : Value → World → Prop) (R2 : Value → Value → Value → Value → Value → Value → Value → World → Prop) : Prop := F214_4b GR214 s0 s1 s2 s3 s4 s10 s11 w K R2 (fun a0 a1 a2 a3 a4 a10 a11 a12 w => F214_5 GR214 a0 a1 a2 a3 a4 a10 a11 a12 w K R2)

theorem ok214_4 (GR214 : FnT) (R2 : Value → Value → Value → Value → Value → Value → Value → World → Prop) {K : Value → World → Prop} {kn kr : Env → World → Prop} {ke : Nat → Env → World → Prop}
    (hn : ∀ e w, (fun e w => R2 (e 0) (e 1) (e 2) (e 3) (e 4) (e 10) (e 11) w) e w → kn e w) (hr : ∀ e w, endD Try.prog [] K e w → kr e w) (he : ∀ i e w, (blkK 1 (fun e w => R2 (e 0) (e 1) (e 2) (e 3) (e 4) (e 10) (e 11) w) (blkK 0 (fun e w => K (.tuple #[]) w) noE)) i e w → ke i e w) :
    ∀ e w, F214_4 GR214 (e 0) (e 1) (e 2) (e 3) (e 4) (e 10) (e 11) w K R2 → denL Try.prog (tabOf (T214 GR214)) 148 fuel ((flat (blkB (nthC (flat (loopB (blkB (nthC (flat (bodyOf Try.f214)) 2)))) 0))).drop 0) e w kn kr ke := by
  intro e w h
  unfold F214_4 at h
  have e1 : ∀ (Y0 : Value → Value → Value → Value → Value → Value → Value → Value → World → Prop), F214_4b GR214 (e 0) (e 1) (e 2) (e 3) (e 4) (e 10) (e 11) w K R2 Y0 = denL Try.prog (tabOf (T214 GR214)) 148 fuel (((flat (blkB (nthC (flat (loopB (blkB (nthC (flat (bodyOf Try.f214)) 2)))) 0))).drop 0).take 7) e w (fun e w => Y0 (e 0) (e 1) (e 2) (e 3) (e 4) (e 10) (e 11) (e 12) w) (endD Try.prog [] K) (blkK 1 (fun e w => R2 (e 0) (e 1) (e 2) (e 3) (e 4) (e 10) (e 11) w) (blkK 0 (fun e w => K (.tuple #[]) w) noE)) := by intro Y0; kernel_rfl
  exact seg 7 (Eq.mp (e1 (fun a0 a1 a2 a3 a4 a10 a11 a12 w => F214_5 GR214 a0 a1 a2 a3 a4 a10 a11 a12 w K R2)) h) (fun e w h => ok214_5 GR214 R2 hn hr he e w h) hr he

def F214_3 (GR214 : FnT) (s0 : Value) (s1 : Value) (s2 : Value) (s3 : Value) (s4 : Value) (s10 : Value) (s11 : Value) (w : World) (K : Value → World → Prop) (R2 : Value → Value → Value → Value → Value → Value → Value → World → Prop) : Prop := F214_4 GR214 s0 s1 s2 s3 s4 s10 s11 w K R2

theorem ok214_3 (GR214 : FnT) (R2 : Value → Value → Value → Value → Value → Value → Value → World → Prop) {K : Value → World → Prop} {kn kr : Env → World → Prop} {ke : Nat → Env → World → Prop}
    (hn : ∀ e w, (fun e w => R2 (e 0) (e 1) (e 2) (e 3) (e 4) (e 10) (e 11) w) e w → kn e w) (hr : ∀ e w, endD Try.prog [] K e w → kr e w) (he : ∀ i e w, (blkK 0 (fun e w => K (.tuple #[]) w) noE) i e w → ke i e w) :
    ∀ e w, F214_3 GR214 (e 0) (e 1) (e 2) (e 3) (e 4) (e 10) (e 11) w K R2 → denL Try.prog (tabOf (T214 GR214)) 148 fuel ((flat (loopB (blkB (nthC (flat (bodyOf Try.f214)) 2)))).drop 0) e w kn kr ke := by
  intro e w h
  unfold F214_3 at h
  refine seg_block (id := 1) (body := (blkB (nthC (flat (loopB (blkB (nthC (flat (bodyOf Try.f214)) 2)))) 0))) (l2 := (flat (loopB (blkB (nthC (flat (bodyOf Try.f214)) 2)))).drop 1) (by kernel_rfl) ?_
  exact ok214_4 GR214 R2 hn hr (blkK_mono hn he) e w h

def F214_2L (GR214 : FnT) : Nat → Value → Value → Value → Value → Value → Value → Value → World → (Value → World → Prop) → Prop
  | 0, _, _, _, _, _, _, _, _, _ => False
  | n + 1, s0, s1, s2, s3, s4, s10, s11, w, K => F214_3 GR214 s0 s1 s2 s3 s4 s10 s11 w K (fun a0 a1 a2 a3 a4 a10 a11 w => F214_2L GR214 n a0 a1 a2 a3 a4 a10 a11 w K)

def F214_2 (GR214 : FnT) (s0 : Value) (s1 : Value) (s2 : Value) (s3 : Value) (s4 : Value) (s10 : Value) (s11 : Value) (w : World) (K : Value → World → Prop) : Prop := F214_2L GR214 fuel s0 s1 s2 s3 s4 s10 s11 w K

theorem ok214_2 (GR214 : FnT) {K : Value → World → Prop} {kn kr : Env → World → Prop} {ke : Nat → Env → World → Prop}
    (hn : ∀ e w, (fun e w => K (.tuple #[]) w) e w → kn e w) (hr : ∀ e w, endD Try.prog [] K e w → kr e w) (he : ∀ i e w, noE i e w → ke i e w) :
    ∀ e w, F214_2 GR214 (e 0) (e 1) (e 2) (e 3) (e 4) (e 10) (e 11) w K → denL Try.prog (tabOf (T214 GR214)) 148 fuel ((flat (bodyOf Try.f214)).drop 2) e w kn kr ke := by
  intro e w h
  unfold F214_2 at h
  refine seg_loop (id := 0) (body := (loopB (blkB (nthC (flat (bodyOf Try.f214)) 2)))) (l2 := (flat (bodyOf Try.f214)).drop 3) (by kernel_rfl) ?_
  refine loop_ok (FL := fun m e w => F214_2L GR214 m (e 0) (e 1) (e 2) (e 3) (e 4) (e 10) (e 11) w K) (fr := endD Try.prog [] K) (fe := (blkK 0 (fun e w => K (.tuple #[]) w) noE)) (fun _ _ h => h) ?_ hr (blkK_mono hn he) fuel e w h
  intro m e w h
  have h : F214_2L GR214 (m + 1) (e 0) (e 1) (e 2) (e 3) (e 4) (e 10) (e 11) w K := h
  rw [F214_2L] at h
  exact ok214_3 GR214 (fun a0 a1 a2 a3 a4 a10 a11 w => F214_2L GR214 m a0 a1 a2 a3 a4 a10 a11 w K) (fun _ _ h => h) (fun _ _ h => h) (fun _ _ _ h => h) e w h

def F214_1b (GR214 : FnT) (s0 : Value) (s1 : Value) (s2 : Value) (s3 : Value) (s4 : Value) (w : World) (_K : Value → World → Prop) (Y0 : Value → Value → Value → Value → Value → Value → Value → World → Prop) : Prop :=
Y0 s0 s1 s2 s3 s4 (.bool true) (.bool true) w

def F214_1 (GR214 : FnT) (s0 : Value) (s1 : Value) (s2 : Value) (s3 : Value) (s4 : Value) (w : World) (K : Value → World → Prop) : Prop := F214_1b GR214 s0 s1 s2 s3 s4 w K (fun a0 a1 a2 a3 a4 a10 a11 w => F214_2 GR214 a0 a1 a2 a3 a4 a10 a11 w K)

theorem ok214_1 (GR214 : FnT) {K : Value → World → Prop} {kn kr : Env → World → Prop} {ke : Nat → Env → World → Prop}
    (hn : ∀ e w, (fun e w => K (.tuple #[]) w) e w → kn e w) (hr : ∀ e w, endD Try.prog [] K e w → kr e w) (he : ∀ i e w, noE i e w → ke i e w) :
    ∀ e w, F214_1 GR214 (e 0) (e 1) (e 2) (e 3) (e 4) w K → denL Try.prog (tabOf (T214 GR214)) 148 fuel ((flat (bodyOf Try.f214)).drop 0) e w kn kr ke := by
  intro e w h
  unfold F214_1 at h
  have e1 : ∀ (Y0 : Value → Value → Value → Value → Value → Value → Value → World → Prop), F214_1b GR214 (e 0) (e 1) (e 2) (e 3) (e 4) w K Y0 = denL Try.prog (tabOf (T214 GR214)) 148 fuel (((flat (bodyOf Try.f214)).drop 0).take 2) e w (fun e w => Y0 (e 0) (e 1) (e 2) (e 3) (e 4) (e 10) (e 11) w) (endD Try.prog [] K) noE := by intro Y0; kernel_rfl
  exact seg 2 (Eq.mp (e1 (fun a0 a1 a2 a3 a4 a10 a11 w => F214_2 GR214 a0 a1 a2 a3 a4 a10 a11 w K)) h) (fun e w h => ok214_2 GR214 hn hr he e w h) hr he

def F214 (GR214 : FnT) (x0 : Value) (x1 : Value) (x2 : Value) (x3 : Value) (x4 : Value) (w : World) (K : Value → World → Prop) : Prop := F214_1 GR214 x0 x1 x2 x3 x4 w K

def Gn214 : Nat → FnT
  | 0 => fun _ _ _ => False
  | n + 1 => fun args w K => on5 (fun x0 x1 x2 x3 x4 => F214 (Gn214 n) x0 x1 x2 x3 x4 w K) args
theorem okn214 : ∀ n, OkF Try.prog 214 (Gn214 n) := by
  intro n
  induction n with
  | zero => exact (fun _ _ _ h => h.elim)
  | succ n ih =>
    have ih214 := ih
    refine okF_of (tab_ok (l := T214 (Gn214 n)) ⟨ok150, ih214, ok247, ok248, ok249, ok250, ok251, ok252, ok253, ok254, trivial⟩) mixed (n := fuel) Try.func214 Try.call214 fun args w K h => ?_
    unfold Gn214 at h
    obtain ⟨x0, x1, x2, x3, x4, rfl, hh⟩ := of_on5 h
    unfold F214 at hh
    exact fnD_list (c := bodyOf Try.f214) (by kernel_rfl) (by kernel_rfl) (ok214_1 (Gn214 n) (fun _ _ h => h) (fun _ _ h => h) (fun _ _ _ h => h) (initE [x0, x1, x2, x3, x4]) w hh)
def G214 : FnT := fun args w K => ∃ n, Gn214 n args w K
theorem ok214 : OkF Try.prog 214 G214 := fun args w K ⟨n, h⟩ => okn214 n args w K h
theorem cn214 (n : Nat) {x0 x1 x2 x3 x4 : Value} {w : World} {K : Value → World → Prop} (h : F214 (Gn214 n) x0 x1 x2 x3 x4 w K) : callP (Gn214 (n + 1)) [x0, x1, x2, x3, x4] w K := by
  refine callP_intro ?_
  rw [Gn214]
  exact h
theorem cg214 {n : Nat} {args : List Value} {w : World} {K : Value → World → Prop} (h : callP (Gn214 n) args w K) : callP G214 args w K := by
  obtain ⟨k, h1, h2⟩ := h
  exact ⟨k, ⟨n, h1⟩, h2⟩

-- 149 slices.SortFunc[[]gong/heap.Item,gong/heap.Item]
def T149 : List (Nat × FnT) := [(214, G214), (215, G215)]
def F149 (x0 : Value) (x1 : Value) (w : World) (K : Value → World → Prop) : Prop :=
bindP (lenL x0) fun v1 =>
bindP (cInt .u64 v1) fun v2 =>
callP G215 [v2] w fun v4 w3 =>
callP G214 [x0, (.int .i64 0), v1, v4, x1] w3 fun _ w5 =>
K (.tuple #[]) w5

def G149 : FnT := fun args w K => on2 (fun x0 x1 => F149 x0 x1 w K) args
theorem c149 {x0 x1 : Value} {w : World} {K : Value → World → Prop} (h : F149 x0 x1 w K) : callP G149 [x0, x1] w K := callP_intro h
theorem ok149 : OkF Try.prog 149 G149 := by
  refine okF_of (tab_ok (l := T149) ⟨ok214, ok215, trivial⟩) mixed (n := fuel) Try.func149 Try.call149 fun args w K h => ?_
  obtain ⟨x0, x1, rfl, hh⟩ := of_on2 h
  exact fnD_list (c := bodyOf Try.f149) (by kernel_rfl) (by kernel_rfl) (Eq.mp (by kernel_rfl) hh)

-- 59 (*gong/heap.Heap).All
def T59 : List (Nat × FnT) := [(118, G118), (149, G149)]
def F59 (x0 : Value) (w : World) (K : Value → World → Prop) : Prop :=
bindP (pNil x0) fun v1 =>
bindP (pFieldAddr 1 v1) fun v2 =>
bindP (ld1 v2 w) fun v3 =>
callP G118 [v3] w fun v5 w4 =>
callP G149 [v5, (.func (.func 150) #[] #[])] w4 fun _ w6 =>
K v5 w6

def G59 : FnT := fun args w K => on1 (fun x0 => F59 x0 w K) args
theorem c59 {x0 : Value} {w : World} {K : Value → World → Prop} (h : F59 x0 w K) : callP G59 [x0] w K := callP_intro h
theorem ok59 : OkF Try.prog 59 G59 := by
  refine okF_of (tab_ok (l := T59) ⟨ok118, ok149, trivial⟩) mixed (n := fuel) Try.func59 Try.call59 fun args w K h => ?_
  obtain ⟨x0, rfl, hh⟩ := of_on1 h
  exact fnD_list (c := bodyOf Try.f59) (by kernel_rfl) (by kernel_rfl) (Eq.mp (by kernel_rfl) hh)

-- 10 gong/gonglaw19.HeapSame
def T10 : List (Nat × FnT) := [(23, G23), (26, G26), (27, G27), (28, G28), (58, G58), (59, G59)]
def F10_5b (w : World) (K : Value → World → Prop) : Prop :=
K (.bool true) w

def F10_5 (w : World) (K : Value → World → Prop) : Prop := F10_5b w K

theorem ok10_5 {K : Value → World → Prop} {kn kr : Env → World → Prop} {ke : Nat → Env → World → Prop}
    (hn : ∀ e w, (fun e w => K (e 4) w) e w → kn e w) (hr : ∀ e w, endD Try.prog [.tmp 4] K e w → kr e w) (he : ∀ i e w, noE i e w → ke i e w) :
    ∀ e w, F10_5 w K → denL Try.prog (tabOf T10) 143 fuel ((flat (bodyOf Try.f10)).drop 13) e w kn kr ke := by
  intro e w h
  unfold F10_5 at h
  have e1 : ∀ (_ : Unit), F10_5b w K = denL Try.prog (tabOf T10) 143 fuel ((flat (bodyOf Try.f10)).drop 13) e w (fun e w => K (e 4) w) (endD Try.prog [.tmp 4] K) noE := by intro _; kernel_rfl
  exact seg_end (Eq.mp (e1 ()) h) hn hr he

def F10_4b (s13 : Value) (s14 : Value) (s129 : Value) (s130 : Value) (w : World) (K : Value → World → Prop) (Y0 : Value → Value → Value → Value → World → Prop) (Y1 : World → Prop) : Prop :=
bindP (bLt s130 s129) fun v1 =>
ifB v1 (
bindP (pIndexL 2 s13 s130) fun v2 =>
bindP (ldN 2 v2 w.drew) fun v3 =>
bindP (pIndexL 2 s14 s130) fun v4 =>
bindP (ldN 2 v4 w.drew) fun v5 =>
bindP (bNe Try.prog 49 (.tmp 136) (.tmp 140) v3 v5) fun v6 =>
ifB v6 (
K (.bool false) w.drew) (
bindP (bAdd s130 (.int .i64 1)) fun v7 =>
Y0 s13 s14 s129 v7 w.drew)) (
Y1 w)

def F10_4L : Nat → Value → Value → Value → Value → World → (Value → World → Prop) → Prop
  | 0, _, _, _, _, _, _ => False
  | n + 1, s13, s14, s129, s130, w, K => F10_4b s13 s14 s129 s130 w K (fun a13 a14 a129 a130 w => F10_4L n a13 a14 a129 a130 w K) (fun w => F10_5 w K)

def F10_4 (s13 : Value) (s14 : Value) (s129 : Value) (s130 : Value) (w : World) (K : Value → World → Prop) : Prop := F10_4L fuel s13 s14 s129 s130 w K

theorem ok10_4 {K : Value → World → Prop} {kn kr : Env → World → Prop} {ke : Nat → Env → World → Prop}
    (hn : ∀ e w, (fun e w => K (e 4) w) e w → kn e w) (hr : ∀ e w, endD Try.prog [.tmp 4] K e w → kr e w) (he : ∀ i e w, noE i e w → ke i e w) :
    ∀ e w, F10_4 (e 13) (e 14) (e 129) (e 130) w K → denL Try.prog (tabOf T10) 143 fuel ((flat (bodyOf Try.f10)).drop 12) e w kn kr ke := by
  intro e w h
  unfold F10_4 at h
  refine seg_loop (id := 2) (body := (loopB (blkB (nthC (flat (bodyOf Try.f10)) 12)))) (l2 := (flat (bodyOf Try.f10)).drop 13) (by kernel_rfl) ?_
  refine loop_ok (FL := fun m e w => F10_4L m (e 13) (e 14) (e 129) (e 130) w K) (fr := endD Try.prog [.tmp 4] K) (fe := (blkK 2 (fun e w => F10_5 w K) noE)) (fun _ _ h => h) ?_ hr (blkK_mono (fun e w h => ok10_5 hn hr he e w h) he) fuel e w h
  intro m e w h
  have h : F10_4L (m + 1) (e 13) (e 14) (e 129) (e 130) w K := h
  rw [F10_4L] at h
  have e1 : ∀ (Y0 : Value → Value → Value → Value → World → Prop) (Y1 : World → Prop), F10_4b (e 13) (e 14) (e 129) (e 130) w K Y0 Y1 = denL Try.prog (tabOf T10) 143 fuel (flat (loopB (blkB (nthC (flat (bodyOf Try.f10)) 12)))) e w (fun e w => Y0 (e 13) (e 14) (e 129) (e 130) w) (endD Try.prog [.tmp 4] K) (blkK 2 (fun e w => Y1 w) noE) := by intro Y0 Y1; kernel_rfl
  exact Eq.mp (e1 (fun a13 a14 a129 a130 w => F10_4L m a13 a14 a129 a130 w K) (fun w => F10_5 w K)) h

def F10_3b (s0 : Value) (s5 : Value) (s7 : Value) (w : World) (K : Value → World → Prop) (Y0 : Value → Value → Value → Value → World → Prop) : Prop :=
callP G59 [s5] w fun v9 w8 =>
callP G59 [s7] w8 fun v11 w10 =>
bindP (lenL v9) fun v12 =>
bindP (lenL v11) fun v13 =>
bindP (bNe Try.prog 3 (.tmp 117) (.tmp 119) v12 v13) fun v14 =>
stepM (gd false v14) v9 fun v15 =>
Sx.stepG (gd false v14) (lenL v15) fun v16 =>
stepM (gd false v14) s0 fun v17 =>
Sx.stepG (gd false v14) (lenL v17) fun v18 =>
Sx.stepG (gd false v14) (bNe Try.prog 3 (.tmp 123) (.tmp 125) v16 v18) fun v19 =>
bindP (pPick v14 (.bool true) v19) fun v20 =>
ifB v20 (
K (.bool false) w10) (
bindP (lenL v9) fun v21 =>
Y0 v9 v11 v21 (.int .i64 0) w10)

def F10_3 (s0 : Value) (s5 : Value) (s7 : Value) (w : World) (K : Value → World → Prop) : Prop := F10_3b s0 s5 s7 w K (fun a13 a14 a129 a130 w => F10_4 a13 a14 a129 a130 w K)

theorem ok10_3 {K : Value → World → Prop} {kn kr : Env → World → Prop} {ke : Nat → Env → World → Prop}
    (hn : ∀ e w, (fun e w => K (e 4) w) e w → kn e w) (hr : ∀ e w, endD Try.prog [.tmp 4] K e w → kr e w) (he : ∀ i e w, noE i e w → ke i e w) :
    ∀ e w, F10_3 (e 0) (e 5) (e 7) w K → denL Try.prog (tabOf T10) 143 fuel ((flat (bodyOf Try.f10)).drop 8) e w kn kr ke := by
  intro e w h
  unfold F10_3 at h
  have e1 : ∀ (Y0 : Value → Value → Value → Value → World → Prop), F10_3b (e 0) (e 5) (e 7) w K Y0 = denL Try.prog (tabOf T10) 143 fuel (((flat (bodyOf Try.f10)).drop 8).take 4) e w (fun e w => Y0 (e 13) (e 14) (e 129) (e 130) w) (endD Try.prog [.tmp 4] K) noE := by intro Y0; kernel_rfl
  exact seg 4 (Eq.mp (e1 (fun a13 a14 a129 a130 w => F10_4 a13 a14 a129 a130 w K)) h) (fun e w h => ok10_4 hn hr he e w h) hr he

def F10_7b (s0 : Value) (s1 : Value) (s5 : Value) (s7 : Value) (s48 : Value) (s49 : Value) (w : World) (_K : Value → World → Prop) (R5 : Value → Value → Value → Value → Value → Value → World → Prop) : Prop :=
bindP (bAdd s49 (.int .i64 1)) fun v22 =>
R5 s0 s1 s5 s7 s48 v22 w

def F10_7 (s0 : Value) (s1 : Value) (s5 : Value) (s7 : Value) (s48 : Value) (s49 : Value) (w : World) (K : Value → World → Prop) (R5 : Value → Value → Value → Value → Value → Value → World → Prop) : Prop := F10_7b s0 s1 s5 s7 s48 s49 w K R5

theorem ok10_7 (R5 : Value → Value → Value → Value → Value → Value → World → Prop) {K : Value → World → Prop} {kn kr : Env → World → Prop} {ke : Nat → Env → World → Prop}
    (hn : ∀ e w, (fun e w => R5 (e 0) (e 1) (e 5) (e 7) (e 48) (e 49) w) e w → kn e w) (hr : ∀ e w, endD Try.prog [.tmp 4] K e w → kr e w) (he : ∀ i e w, (blkK 0 (fun e w => F10_3 (e 0) (e 5) (e 7) w K) noE) i e w → ke i e w) :
    ∀ e w, F10_7 (e 0) (e 1) (e 5) (e 7) (e 48) (e 49) w K R5 → denL Try.prog (tabOf T10) 143 fuel ((flat (loopB (blkB (nthC (flat (bodyOf Try.f10)) 7)))).drop 3) e w kn kr ke := by
  intro e w h
  unfold F10_7 at h
  have e1 : ∀ (_ : Unit), F10_7b (e 0) (e 1) (e 5) (e 7) (e 48) (e 49) w K R5 = denL Try.prog (tabOf T10) 143 fuel ((flat (loopB (blkB (nthC (flat (bodyOf Try.f10)) 7)))).drop 3) e w (fun e w => R5 (e 0) (e 1) (e 5) (e 7) (e 48) (e 49) w) (endD Try.prog [.tmp 4] K) (blkK 0 (fun e w => F10_3 (e 0) (e 5) (e 7) w K) noE) := by intro _; kernel_rfl
  exact seg_end (Eq.mp (e1 ()) h) hn hr he

def F10_6b (s0 : Value) (s1 : Value) (s5 : Value) (s7 : Value) (s48 : Value) (s49 : Value) (w : World) (K : Value → World → Prop) (R5 : Value → Value → Value → Value → Value → Value → World → Prop) (Y0 : Value → Value → Value → Value → Value → Value → World → Prop) (Y1 : Value → Value → Value → World → Prop) : Prop :=
bindP (bLt s49 s48) fun v23 =>
ifB v23 (
bindP (pIndexL 2 s0 s49) fun v24 =>
bindP (ldN 2 v24 w.drew) fun v25 =>
bindP (lenL s0) fun v26 =>
bindP (bSub v26 (.int .i64 1)) fun v27 =>
bindP (bSub v27 s49) fun v28 =>
bindP (pIndexL 2 s0 v28) fun v29 =>
bindP (ldN 2 v29 w.drew) fun v30 =>
(eAlloc Try.prog 43 w.drew fun v32 w31 =>
(fok true (ldN 2 v24 w31) v25 ∧ fok true (lenL s0) v26 ∧ fok true (ldN 2 v29 w31) v30) ∧ (eAlloc Try.prog 43 w31 fun v34 w33 =>
(fok true (ldN 2 v24 w33) v25 ∧ fok true (lenL s0) v26 ∧ fok true (ldN 2 v29 w33) v30) ∧ (bindW (st 2 v32 v25 w33) fun w35 =>
(fok true (lenL s0) v26 ∧ fok true (ldN 2 v29 w35) v30) ∧ (bindW (st 2 v34 v30 w35) fun w37 =>
bindP (pIndexP 2 1 v32 (.int .i64 1)) fun v39 =>
bindP (ld1 v39 w37) fun v40 =>
callP G23 [v40, (.int .i64 100)] w37 fun v42 w41 =>
callP G28 [s5, s49, v42] w41 fun v44 w43 =>
bindP (bNe Try.prog 24 (.tmp 69) (.const (.int .i64 0)) v44 (.int .i64 0)) fun v45 =>
stepM (gd false v45) s7 fun v46 =>
stepM (gd false v45) s0 fun v47 =>
Sx.stepG (gd false v45) (lenL v47) fun v48 =>
Sx.stepG (gd false v45) (bSub v48 (.int .i64 1)) fun v49 =>
stepM (gd false v45) s49 fun v50 =>
Sx.stepG (gd false v45) (bSub v49 v50) fun v51 =>
Sx.stepG (gd false v45) (pIndexP 2 1 v34 (.int .i64 1)) fun v52 =>
Sx.stepG (gd false v45) (ld1 v52 w43) fun v53 =>
stepE (gd false v45) (fun k => callP G23 [v53, (.int .i64 100)] w43 k) w43 fun v55 w54 =>
stepE (gd false v45) (fun k => callP G28 [v46, v51, v55] w54 k) w54 fun v57 w56 =>
Sx.stepG (gd false v45) (bNe Try.prog 24 (.tmp 81) (.const (.int .i64 0)) v57 (.int .i64 0)) fun v58 =>
bindP (pPick v45 (.bool true) v58) fun v59 =>
ifB v59 (
K (.bool false) w56) (
bindP (lenL s1) fun v60 =>
bindP (bLt s49 v60) fun v61 =>
ifB v61 (
bindP (pIndexL 1 s1 s49) fun v62 =>
bindP (ld1 v62 w56) fun v63 =>
callP G23 [v63, (.int .i64 50)] w56 fun v65 w64 =>
bindP (bAdd (.int .i64 1000) v65) fun v66 =>
bindP (pIndexL 1 s1 s49) fun v67 =>
bindP (ld1 v67 w64) fun v68 =>
callP G23 [v68, (.int .i64 100)] w64 fun v70 w69 =>
callP G28 [s7, v66, v70] w69 fun _ w71 =>
callP G58 [s7, v66] w71 fun v74 w73 =>
bindP (uNot v74) fun v75 =>
stepM (gd false v75) s7 fun v76 =>
stepM (gd false v75) v66 fun v77 =>
stepE (gd false v75) (fun k => callP G58 [v76, v77] w73 k) w73 fun v79 w78 =>
bindP (pPick v75 (.bool true) v79) fun v80 =>
ifB v80 (
K (.bool false) w78) (
Y0 s0 s1 s5 s7 s48 s49 w78)) (
Y0 s0 s1 s5 s7 s48 s49 w56)))))) ∧ (eAlloc Try.prog 43 w.drew fun v82 w81 =>
(fok true (ldN 2 v24 w81) v25 ∧ fok true (lenL s0) v26 ∧ fok true (ldN 2 v29 w81) v30) ∧ (eAlloc Try.prog 43 w81 fun v84 w83 =>
(fok true (ldN 2 v24 w83) v25 ∧ fok true (lenL s0) v26 ∧ fok true (ldN 2 v29 w83) v30) ∧ (bindW (st 2 v84 v25 w83) fun w85 =>
(fok true (lenL s0) v26 ∧ fok true (ldN 2 v29 w85) v30) ∧ (bindW (st 2 v82 v30 w85) fun w87 =>
bindP (pIndexP 2 1 v84 (.int .i64 1)) fun v89 =>
bindP (ld1 v89 w87) fun v90 =>
callP G23 [v90, (.int .i64 100)] w87 fun v92 w91 =>
callP G28 [s5, s49, v92] w91 fun v94 w93 =>
bindP (bNe Try.prog 24 (.tmp 69) (.const (.int .i64 0)) v94 (.int .i64 0)) fun v95 =>
stepM (gd false v95) s7 fun v96 =>
stepM (gd false v95) s0 fun v97 =>
Sx.stepG (gd false v95) (lenL v97) fun v98 =>
Sx.stepG (gd false v95) (bSub v98 (.int .i64 1)) fun v99 =>
stepM (gd false v95) s49 fun v100 =>
Sx.stepG (gd false v95) (bSub v99 v100) fun v101 =>
Sx.stepG (gd false v95) (pIndexP 2 1 v82 (.int .i64 1)) fun v102 =>
Sx.stepG (gd false v95) (ld1 v102 w93) fun v103 =>
stepE (gd false v95) (fun k => callP G23 [v103, (.int .i64 100)] w93 k) w93 fun v105 w104 =>
stepE (gd false v95) (fun k => callP G28 [v96, v101, v105] w104 k) w104 fun v107 w106 =>
Sx.stepG (gd false v95) (bNe Try.prog 24 (.tmp 81) (.const (.int .i64 0)) v107 (.int .i64 0)) fun v108 =>
bindP (pPick v95 (.bool true) v108) fun v109 =>
ifB v109 (
K (.bool false) w106) (
bindP (lenL s1) fun v110 =>
bindP (bLt s49 v110) fun v111 =>
ifB v111 (
bindP (pIndexL 1 s1 s49) fun v112 =>
bindP (ld1 v112 w106) fun v113 =>
callP G23 [v113, (.int .i64 50)] w106 fun v115 w114 =>
bindP (bAdd (.int .i64 1000) v115) fun v116 =>
bindP (pIndexL 1 s1 s49) fun v117 =>
bindP (ld1 v117 w114) fun v118 =>
callP G23 [v118, (.int .i64 100)] w114 fun v120 w119 =>
callP G28 [s7, v116, v120] w119 fun _ w121 =>
callP G58 [s7, v116] w121 fun v124 w123 =>
bindP (uNot v124) fun v125 =>
stepM (gd false v125) s7 fun v126 =>
stepM (gd false v125) v116 fun v127 =>
stepE (gd false v125) (fun k => callP G58 [v126, v127] w123 k) w123 fun v129 w128 =>
bindP (pPick v125 (.bool true) v129) fun v130 =>
ifB v130 (
K (.bool false) w128) (
Y0 s0 s1 s5 s7 s48 s49 w128)) (
Y0 s0 s1 s5 s7 s48 s49 w106))))))) (
Y1 s0 s5 s7 w)

def F10_6 (s0 : Value) (s1 : Value) (s5 : Value) (s7 : Value) (s48 : Value) (s49 : Value) (w : World) (K : Value → World → Prop) (R5 : Value → Value → Value → Value → Value → Value → World → Prop) : Prop := F10_6b s0 s1 s5 s7 s48 s49 w K R5 (fun a0 a1 a5 a7 a48 a49 w => F10_7 a0 a1 a5 a7 a48 a49 w K R5) (fun a0 a5 a7 w => F10_3 a0 a5 a7 w K)

theorem ok10_6 (R5 : Value → Value → Value → Value → Value → Value → World → Prop) {K : Value → World → Prop} {kn kr : Env → World → Prop} {ke : Nat → Env → World → Prop}
    (hn : ∀ e w, (fun e w => R5 (e 0) (e 1) (e 5) (e 7) (e 48) (e 49) w) e w → kn e w) (hr : ∀ e w, endD Try.prog [.tmp 4] K e w → kr e w) (he : ∀ i e w, (blkK 0 (fun e w => F10_3 (e 0) (e 5) (e 7) w K) noE) i e w → ke i e w) :
    ∀ e w, F10_6 (e 0) (e 1) (e 5) (e 7) (e 48) (e 49) w K R5 → denL Try.prog (tabOf T10) 143 fuel ((flat (loopB (blkB (nthC (flat (bodyOf Try.f10)) 7)))).drop 0) e w kn kr ke := by
  intro e w h
  unfold F10_6 at h
  have e1 : ∀ (Y0 : Value → Value → Value → Value → Value → Value → World → Prop) (Y1 : Value → Value → Value → World → Prop), F10_6b (e 0) (e 1) (e 5) (e 7) (e 48) (e 49) w K R5 Y0 Y1 = denL Try.prog (tabOf T10) 143 fuel (((flat (loopB (blkB (nthC (flat (bodyOf Try.f10)) 7)))).drop 0).take 3) e w (fun e w => Y0 (e 0) (e 1) (e 5) (e 7) (e 48) (e 49) w) (endD Try.prog [.tmp 4] K) (blkK 0 (fun e w => Y1 (e 0) (e 5) (e 7) w) noE) := by intro Y0 Y1; kernel_rfl
  exact seg 3 (Eq.mp (e1 (fun a0 a1 a5 a7 a48 a49 w => F10_7 a0 a1 a5 a7 a48 a49 w K R5) (fun a0 a5 a7 w => F10_3 a0 a5 a7 w K)) h) (fun e w h => ok10_7 R5 hn hr he e w h) hr he

def F10_2L : Nat → Value → Value → Value → Value → Value → Value → World → (Value → World → Prop) → Prop
  | 0, _, _, _, _, _, _, _, _ => False
  | n + 1, s0, s1, s5, s7, s48, s49, w, K => F10_6 s0 s1 s5 s7 s48 s49 w K (fun a0 a1 a5 a7 a48 a49 w => F10_2L n a0 a1 a5 a7 a48 a49 w K)

def F10_2 (s0 : Value) (s1 : Value) (s5 : Value) (s7 : Value) (s48 : Value) (s49 : Value) (w : World) (K : Value → World → Prop) : Prop := F10_2L fuel s0 s1 s5 s7 s48 s49 w K

theorem ok10_2 {K : Value → World → Prop} {kn kr : Env → World → Prop} {ke : Nat → Env → World → Prop}
    (hn : ∀ e w, (fun e w => K (e 4) w) e w → kn e w) (hr : ∀ e w, endD Try.prog [.tmp 4] K e w → kr e w) (he : ∀ i e w, noE i e w → ke i e w) :
    ∀ e w, F10_2 (e 0) (e 1) (e 5) (e 7) (e 48) (e 49) w K → denL Try.prog (tabOf T10) 143 fuel ((flat (bodyOf Try.f10)).drop 7) e w kn kr ke := by
  intro e w h
  unfold F10_2 at h
  refine seg_loop (id := 0) (body := (loopB (blkB (nthC (flat (bodyOf Try.f10)) 7)))) (l2 := (flat (bodyOf Try.f10)).drop 8) (by kernel_rfl) ?_
  refine loop_ok (FL := fun m e w => F10_2L m (e 0) (e 1) (e 5) (e 7) (e 48) (e 49) w K) (fr := endD Try.prog [.tmp 4] K) (fe := (blkK 0 (fun e w => F10_3 (e 0) (e 5) (e 7) w K) noE)) (fun _ _ h => h) ?_ hr (blkK_mono (fun e w h => ok10_3 hn hr he e w h) he) fuel e w h
  intro m e w h
  have h : F10_2L (m + 1) (e 0) (e 1) (e 5) (e 7) (e 48) (e 49) w K := h
  rw [F10_2L] at h
  exact ok10_6 (fun a0 a1 a5 a7 a48 a49 w => F10_2L m a0 a1 a5 a7 a48 a49 w K) (fun _ _ h => h) (fun _ _ h => h) (fun _ _ _ h => h) e w h

def F10_1b (s0 : Value) (s1 : Value) (w : World) (K : Value → World → Prop) (Y0 : Value → Value → Value → Value → Value → Value → World → Prop) : Prop :=
callP G26 [(.int .i64 200)] w fun v132 w131 =>
bindP (pTuple v132 0) fun v133 =>
bindP (pTuple v132 1) fun v134 =>
callP G26 [(.int .i64 200)] w131 fun v136 w135 =>
bindP (pTuple v136 0) fun v137 =>
bindP (pTuple v136 1) fun v138 =>
bindP (bEq Try.prog 39 (.tmp 24) (.const (.pointer none)) v133 (.pointer none)) fun v139 =>
stepM (gd false v139) v137 fun v140 =>
Sx.stepG (gd false v139) (bEq Try.prog 39 (.tmp 27) (.const (.pointer none)) v140 (.pointer none)) fun v141 =>
bindP (pPick v139 (.bool true) v141) fun v142 =>
stepM (gd false v142) v134 fun v143 =>
Sx.stepG (gd false v142) (bNe Try.prog 24 (.tmp 31) (.const (.int .i64 0)) v143 (.int .i64 0)) fun v144 =>
bindP (pPick v142 (.bool true) v144) fun v145 =>
stepM (gd false v145) v138 fun v146 =>
Sx.stepG (gd false v145) (bNe Try.prog 24 (.tmp 35) (.const (.int .i64 0)) v146 (.int .i64 0)) fun v147 =>
bindP (pPick v145 (.bool true) v147) fun v148 =>
stepE (gd false v148) (fun k => callP G27 [] w135 k) w135 fun v150 w149 =>
Sx.stepG (gd false v148) (uNot v150) fun v151 =>
bindP (pPick v148 (.bool true) v151) fun v152 =>
ifB v152 (
K (.bool false) w149) (
bindP (lenL s0) fun v153 =>
bindP (pMin v153 (.int .i64 60)) fun v154 =>
bindP (pSliceL 2 s0 none (some v154) none) fun v155 =>
bindP (lenL v155) fun v156 =>
Y0 v155 s1 v133 v137 v156 (.int .i64 0) w149)

def F10_1 (s0 : Value) (s1 : Value) (w : World) (K : Value → World → Prop) : Prop := F10_1b s0 s1 w K (fun a0 a1 a5 a7 a48 a49 w => F10_2 a0 a1 a5 a7 a48 a49 w K)

theorem ok10_1 {K : Value → World → Prop} {kn kr : Env → World → Prop} {ke : Nat → Env → World → Prop}
    (hn : ∀ e w, (fun e w => K (e 4) w) e w → kn e w) (hr : ∀ e w, endD Try.prog [.tmp 4] K e w → kr e w) (he : ∀ i e w, noE i e w → ke i e w) :
    ∀ e w, F10_1 (e 0) (e 1) w K → denL Try.prog (tabOf T10) 143 fuel ((flat (bodyOf Try.f10)).drop 0) e w kn kr ke := by
  intro e w h
  unfold F10_1 at h
  have e1 : ∀ (Y0 : Value → Value → Value → Value → Value → Value → World → Prop), F10_1b (e 0) (e 1) w K Y0 = denL Try.prog (tabOf T10) 143 fuel (((flat (bodyOf Try.f10)).drop 0).take 7) e w (fun e w => Y0 (e 0) (e 1) (e 5) (e 7) (e 48) (e 49) w) (endD Try.prog [.tmp 4] K) noE := by intro Y0; kernel_rfl
  exact seg 7 (Eq.mp (e1 (fun a0 a1 a5 a7 a48 a49 w => F10_2 a0 a1 a5 a7 a48 a49 w K)) h) (fun e w h => ok10_2 hn hr he e w h) hr he

def F10 (x0 : Value) (x1 : Value) (w : World) (K : Value → World → Prop) : Prop := F10_1 x0 x1 w K

def G10 : FnT := fun args w K => on2 (fun x0 x1 => F10 x0 x1 w K) args
theorem c10 {x0 x1 : Value} {w : World} {K : Value → World → Prop} (h : F10 x0 x1 w K) : callP G10 [x0, x1] w K := callP_intro h
theorem ok10 : OkF Try.prog 10 G10 := by
  refine okF_of (tab_ok (l := T10) ⟨ok23, ok26, ok27, ok28, ok58, ok59, trivial⟩) mixed (n := fuel) Try.func10 Try.call10 fun args w K h => ?_
  obtain ⟨x0, x1, rfl, hh⟩ := of_on2 h
  unfold F10 at hh
  exact fnD_list (c := bodyOf Try.f10) (by kernel_rfl) (by kernel_rfl) (ok10_1 (fun _ _ h => h) (fun _ _ h => h) (fun _ _ _ h => h) (initE [x0, x1]) w hh)

-- 66 gong/gongref19.New
def T66 : List (Nat × FnT) := []
def F66 (x0 : Value) (w : World) (K : Value → World → Prop) : Prop :=
bindP (bLt x0 (.int .i64 1)) fun v1 =>
stepM (gd false v1) x0 fun v2 =>
Sx.stepG (gd false v1) (bGt v2 (.int .i64 65536)) fun v3 =>
bindP (pPick v1 (.bool true) v3) fun v4 =>
ifB v4 (
K (.tuple #[(.pointer none), (.int .i64 1)]) w) (
bindP (fBuild Try.prog 211 [(0, x0)]) fun v5 =>
eBox 211 v5 w fun v7 w6 =>
K (.tuple #[v7, (.int .i64 0)]) w6)

def G66 : FnT := fun args w K => on1 (fun x0 => F66 x0 w K) args
theorem c66 {x0 : Value} {w : World} {K : Value → World → Prop} (h : F66 x0 w K) : callP G66 [x0] w K := callP_intro h
theorem ok66 : OkF Try.prog 66 G66 := by
  refine okF_of (tab_ok (l := T66) trivial) mixed (n := fuel) Try.func66 Try.call66 fun args w K h => ?_
  obtain ⟨x0, rfl, hh⟩ := of_on1 h
  exact fnD_list (c := bodyOf Try.f66) (by kernel_rfl) (by kernel_rfl) (Eq.mp (by kernel_rfl) hh)

-- 68 (*gong/gongref19.Heap).Drop
def T68 : List (Nat × FnT) := []
def F68_3b (s0 : Value) (s5 : Value) (w : World) (K : Value → World → Prop) : Prop :=
bindP (lenL s5) fun v1 =>
bindP (pNil s0) fun v2 =>
bindP (pFieldAddr 1 v2) fun v3 =>
bindP (ld1 v3 w) fun v4 =>
bindP (lenL v4) fun v5 =>
bindP (bLt v1 v5) fun v6 =>
bindP (pNil s0) fun v7 =>
bindP (pFieldAddr 1 v7) fun v8 =>
bindW (st 1 v8 s5 w) fun w9 =>
K v6 w9

def F68_3 (s0 : Value) (s5 : Value) (w : World) (K : Value → World → Prop) : Prop := F68_3b s0 s5 w K

theorem ok68_3 {K : Value → World → Prop} {kn kr : Env → World → Prop} {ke : Nat → Env → World → Prop}
    (hn : ∀ e w, (fun e w => K (e 4) w) e w → kn e w) (hr : ∀ e w, endD Try.prog [.tmp 4] K e w → kr e w) (he : ∀ i e w, noE i e w → ke i e w) :
    ∀ e w, F68_3 (e 0) (e 5) w K → denL Try.prog (tabOf T68) 50 fuel ((flat (bodyOf Try.f68)).drop 4) e w kn kr ke := by
  intro e w h
  unfold F68_3 at h
  have e1 : ∀ (_ : Unit), F68_3b (e 0) (e 5) w K = denL Try.prog (tabOf T68) 50 fuel ((flat (bodyOf Try.f68)).drop 4) e w (fun e w => K (e 4) w) (endD Try.prog [.tmp 4] K) noE := by intro _; kernel_rfl
  exact seg_end (Eq.mp (e1 ()) h) hn hr he

def F68_5b (s0 : Value) (s1 : Value) (s5 : Value) (s6 : Value) (w : World) (_K : Value → World → Prop) (R3 : Value → Value → Value → Value → World → Prop) : Prop :=
bindP (bAdd s6 (.int .i64 1)) fun v11 =>
R3 s0 s1 s5 v11 w

def F68_5 (s0 : Value) (s1 : Value) (s5 : Value) (s6 : Value) (w : World) (K : Value → World → Prop) (R3 : Value → Value → Value → Value → World → Prop) : Prop := F68_5b s0 s1 s5 s6 w K R3

theorem ok68_5 (R3 : Value → Value → Value → Value → World → Prop) {K : Value → World → Prop} {kn kr : Env → World → Prop} {ke : Nat → Env → World → Prop}
    (hn : ∀ e w, (fun e w => R3 (e 0) (e 1) (e 5) (e 6) w) e w → kn e w) (hr : ∀ e w, endD Try.prog [.tmp 4] K e w → kr e w) (he : ∀ i e w, (blkK 0 (fun e w => F68_3 (e 0) (e 5) w K) noE) i e w → ke i e w) :
    ∀ e w, F68_5 (e 0) (e 1) (e 5) (e 6) w K R3 → denL Try.prog (tabOf T68) 50 fuel ((flat (loopB (blkB (nthC (flat (bodyOf Try.f68)) 3)))).drop 3) e w kn kr ke := by
  intro e w h
  unfold F68_5 at h
  have e1 : ∀ (_ : Unit), F68_5b (e 0) (e 1) (e 5) (e 6) w K R3 = denL Try.prog (tabOf T68) 50 fuel ((flat (loopB (blkB (nthC (flat (bodyOf Try.f68)) 3)))).drop 3) e w (fun e w => R3 (e 0) (e 1) (e 5) (e 6) w) (endD Try.prog [.tmp 4] K) (blkK 0 (fun e w => F68_3 (e 0) (e 5) w K) noE) := by intro _; kernel_rfl
  exact seg_end (Eq.mp (e1 ()) h) hn hr he

def F68_4b (s0 : Value) (s1 : Value) (s5 : Value) (s6 : Value) (w : World) (_K : Value → World → Prop) (R3 : Value → Value → Value → Value → World → Prop) (Y0 : Value → Value → Value → Value → World → Prop) (Y1 : Value → Value → World → Prop) : Prop :=
bindP (pNil s0) fun v12 =>
bindP (pFieldAddr 1 v12) fun v13 =>
bindP (ld1 v13 w) fun v14 =>
bindP (lenL v14) fun v15 =>
bindP (bLt s6 v15) fun v16 =>
ifB v16 (
bindP (pNil s0) fun v17 =>
bindP (pFieldAddr 1 v17) fun v18 =>
bindP (ld1 v18 w) fun v19 =>
bindP (pIndexL 2 v19 s6) fun v20 =>
bindP (pFieldAddr 0 v20) fun v21 =>
bindP (ld1 v21 w) fun v22 =>
bindP (bNe Try.prog 3 (.tmp 24) (.tmp 25) v22 s1) fun v23 =>
ifB v23 (
bindP (pNil s0) fun v24 =>
bindP (pFieldAddr 1 v24) fun v25 =>
bindP (ld1 v25 w) fun v26 =>
bindP (pIndexL 2 v26 s6) fun v27 =>
bindP (ldN 2 v27 w) fun v28 =>
eBuildSl Try.prog 95 1 [(0, v28)] w fun v30 w29 =>
eAppend Try.prog 95 95 s5 v30 w29 fun v32 w31 =>
Y0 s0 s1 v32 s6 w31) (
Y0 s0 s1 s5 s6 w)) (
Y1 s0 s5 w)

def F68_4 (s0 : Value) (s1 : Value) (s5 : Value) (s6 : Value) (w : World) (K : Value → World → Prop) (R3 : Value → Value → Value → Value → World → Prop) : Prop := F68_4b s0 s1 s5 s6 w K R3 (fun a0 a1 a5 a6 w => F68_5 a0 a1 a5 a6 w K R3) (fun a0 a5 w => F68_3 a0 a5 w K)

theorem ok68_4 (R3 : Value → Value → Value → Value → World → Prop) {K : Value → World → Prop} {kn kr : Env → World → Prop} {ke : Nat → Env → World → Prop}
    (hn : ∀ e w, (fun e w => R3 (e 0) (e 1) (e 5) (e 6) w) e w → kn e w) (hr : ∀ e w, endD Try.prog [.tmp 4] K e w → kr e w) (he : ∀ i e w, (blkK 0 (fun e w => F68_3 (e 0) (e 5) w K) noE) i e w → ke i e w) :
    ∀ e w, F68_4 (e 0) (e 1) (e 5) (e 6) w K R3 → denL Try.prog (tabOf T68) 50 fuel ((flat (loopB (blkB (nthC (flat (bodyOf Try.f68)) 3)))).drop 0) e w kn kr ke := by
  intro e w h
  unfold F68_4 at h
  have e1 : ∀ (Y0 : Value → Value → Value → Value → World → Prop) (Y1 : Value → Value → World → Prop), F68_4b (e 0) (e 1) (e 5) (e 6) w K R3 Y0 Y1 = denL Try.prog (tabOf T68) 50 fuel (((flat (loopB (blkB (nthC (flat (bodyOf Try.f68)) 3)))).drop 0).take 3) e w (fun e w => Y0 (e 0) (e 1) (e 5) (e 6) w) (endD Try.prog [.tmp 4] K) (blkK 0 (fun e w => Y1 (e 0) (e 5) w) noE) := by intro Y0 Y1; kernel_rfl
  exact seg 3 (Eq.mp (e1 (fun a0 a1 a5 a6 w => F68_5 a0 a1 a5 a6 w K R3) (fun a0 a5 w => F68_3 a0 a5 w K)) h) (fun e w h => ok68_5 R3 hn hr he e w h) hr he

def F68_2L : Nat → Value → Value → Value → Value → World → (Value → World → Prop) → Prop
  | 0, _, _, _, _, _, _ => False
  | n + 1, s0, s1, s5, s6, w, K => F68_4 s0 s1 s5 s6 w K (fun a0 a1 a5 a6 w => F68_2L n a0 a1 a5 a6 w K)

def F68_2 (s0 : Value) (s1 : Value) (s5 : Value) (s6 : Value) (w : World) (K : Value → World → Prop) : Prop := F68_2L fuel s0 s1 s5 s6 w K

theorem ok68_2 {K : Value → World → Prop} {kn kr : Env → World → Prop} {ke : Nat → Env → World → Prop}
    (hn : ∀ e w, (fun e w => K (e 4) w) e w → kn e w) (hr : ∀ e w, endD Try.prog [.tmp 4] K e w → kr e w) (he : ∀ i e w, noE i e w → ke i e w) :
    ∀ e w, F68_2 (e 0) (e 1) (e 5) (e 6) w K → denL Try.prog (tabOf T68) 50 fuel ((flat (bodyOf Try.f68)).drop 3) e w kn kr ke := by
  intro e w h
  unfold F68_2 at h
  refine seg_loop (id := 0) (body := (loopB (blkB (nthC (flat (bodyOf Try.f68)) 3)))) (l2 := (flat (bodyOf Try.f68)).drop 4) (by kernel_rfl) ?_
  refine loop_ok (FL := fun m e w => F68_2L m (e 0) (e 1) (e 5) (e 6) w K) (fr := endD Try.prog [.tmp 4] K) (fe := (blkK 0 (fun e w => F68_3 (e 0) (e 5) w K) noE)) (fun _ _ h => h) ?_ hr (blkK_mono (fun e w h => ok68_3 hn hr he e w h) he) fuel e w h
  intro m e w h
  have h : F68_2L (m + 1) (e 0) (e 1) (e 5) (e 6) w K := h
  rw [F68_2L] at h
  exact ok68_4 (fun a0 a1 a5 a6 w => F68_2L m a0 a1 a5 a6 w K) (fun _ _ h => h) (fun _ _ h => h) (fun _ _ _ h => h) e w h

def F68_1b (s0 : Value) (s1 : Value) (w : World) (_K : Value → World → Prop) (Y0 : Value → Value → Value → Value → World → Prop) : Prop :=
Y0 s0 s1 (.slice none 0 0) (.int .i64 0) w

def F68_1 (s0 : Value) (s1 : Value) (w : World) (K : Value → World → Prop) : Prop := F68_1b s0 s1 w K (fun a0 a1 a5 a6 w => F68_2 a0 a1 a5 a6 w K)

theorem ok68_1 {K : Value → World → Prop} {kn kr : Env → World → Prop} {ke : Nat → Env → World → Prop}
    (hn : ∀ e w, (fun e w => K (e 4) w) e w → kn e w) (hr : ∀ e w, endD Try.prog [.tmp 4] K e w → kr e w) (he : ∀ i e w, noE i e w → ke i e w) :
    ∀ e w, F68_1 (e 0) (e 1) w K → denL Try.prog (tabOf T68) 50 fuel ((flat (bodyOf Try.f68)).drop 0) e w kn kr ke := by
  intro e w h
  unfold F68_1 at h
  have e1 : ∀ (Y0 : Value → Value → Value → Value → World → Prop), F68_1b (e 0) (e 1) w K Y0 = denL Try.prog (tabOf T68) 50 fuel (((flat (bodyOf Try.f68)).drop 0).take 3) e w (fun e w => Y0 (e 0) (e 1) (e 5) (e 6) w) (endD Try.prog [.tmp 4] K) noE := by intro Y0; kernel_rfl
  exact seg 3 (Eq.mp (e1 (fun a0 a1 a5 a6 w => F68_2 a0 a1 a5 a6 w K)) h) (fun e w h => ok68_2 hn hr he e w h) hr he

def F68 (x0 : Value) (x1 : Value) (w : World) (K : Value → World → Prop) : Prop := F68_1 x0 x1 w K

def G68 : FnT := fun args w K => on2 (fun x0 x1 => F68 x0 x1 w K) args
theorem c68 {x0 x1 : Value} {w : World} {K : Value → World → Prop} (h : F68 x0 x1 w K) : callP G68 [x0, x1] w K := callP_intro h
theorem ok68 : OkF Try.prog 68 G68 := by
  refine okF_of (tab_ok (l := T68) trivial) mixed (n := fuel) Try.func68 Try.call68 fun args w K h => ?_
  obtain ⟨x0, x1, rfl, hh⟩ := of_on2 h
  unfold F68 at hh
  exact fnD_list (c := bodyOf Try.f68) (by kernel_rfl) (by kernel_rfl) (ok68_1 (fun _ _ h => h) (fun _ _ h => h) (fun _ _ _ h => h) (initE [x0, x1]) w hh)

-- 153 (*gong/gongref19.Heap).Get
def T153 : List (Nat × FnT) := []
def F153_3b (w : World) (K : Value → World → Prop) : Prop :=
K (.tuple #[(.int .i64 0), (.bool false)]) w

def F153_3 (w : World) (K : Value → World → Prop) : Prop := F153_3b w K

theorem ok153_3 {K : Value → World → Prop} {kn kr : Env → World → Prop} {ke : Nat → Env → World → Prop}
    (hn : ∀ e w, (fun e w => K (.tuple #[(e 4), (e 5)]) w) e w → kn e w) (hr : ∀ e w, endD Try.prog [.tmp 4, .tmp 5] K e w → kr e w) (he : ∀ i e w, noE i e w → ke i e w) :
    ∀ e w, F153_3 w K → denL Try.prog (tabOf T153) 34 fuel ((flat (bodyOf Try.f153)).drop 3) e w kn kr ke := by
  intro e w h
  unfold F153_3 at h
  have e1 : ∀ (_ : Unit), F153_3b w K = denL Try.prog (tabOf T153) 34 fuel ((flat (bodyOf Try.f153)).drop 3) e w (fun e w => K (.tuple #[(e 4), (e 5)]) w) (endD Try.prog [.tmp 4, .tmp 5] K) noE := by intro _; kernel_rfl
  exact seg_end (Eq.mp (e1 ()) h) hn hr he

def F153_2b (s0 : Value) (s1 : Value) (s6 : Value) (w : World) (K : Value → World → Prop) (Y0 : Value → Value → Value → World → Prop) (Y1 : World → Prop) : Prop :=
bindP (pNil s0) fun v1 =>
bindP (pFieldAddr 1 v1) fun v2 =>
bindP (ld1 v2 w) fun v3 =>
bindP (lenL v3) fun v4 =>
bindP (bLt s6 v4) fun v5 =>
ifB v5 (
bindP (pNil s0) fun v6 =>
bindP (pFieldAddr 1 v6) fun v7 =>
bindP (ld1 v7 w) fun v8 =>
bindP (pIndexL 2 v8 s6) fun v9 =>
bindP (pFieldAddr 0 v9) fun v10 =>
bindP (ld1 v10 w) fun v11 =>
bindP (bEq Try.prog 3 (.tmp 23) (.tmp 24) v11 s1) fun v12 =>
ifB v12 (
bindP (pNil s0) fun v13 =>
bindP (pFieldAddr 1 v13) fun v14 =>
bindP (ld1 v14 w) fun v15 =>
bindP (pIndexL 2 v15 s6) fun v16 =>
bindP (pFieldAddr 1 v16) fun v17 =>
bindP (ld1 v17 w) fun v18 =>
K (.tuple #[v18, (.bool true)]) w) (
bindP (bAdd s6 (.int .i64 1)) fun v19 =>
Y0 s0 s1 v19 w)) (
Y1 w)

def F153_2L : Nat → Value → Value → Value → World → (Value → World → Prop) → Prop
  | 0, _, _, _, _, _ => False
  | n + 1, s0, s1, s6, w, K => F153_2b s0 s1 s6 w K (fun a0 a1 a6 w => F153_2L n a0 a1 a6 w K) (fun w => F153_3 w K)

def F153_2 (s0 : Value) (s1 : Value) (s6 : Value) (w : World) (K : Value → World → Prop) : Prop := F153_2L fuel s0 s1 s6 w K

theorem ok153_2 {K : Value → World → Prop} {kn kr : Env → World → Prop} {ke : Nat → Env → World → Prop}
    (hn : ∀ e w, (fun e w => K (.tuple #[(e 4), (e 5)]) w) e w → kn e w) (hr : ∀ e w, endD Try.prog [.tmp 4, .tmp 5] K e w → kr e w) (he : ∀ i e w, noE i e w → ke i e w) :
    ∀ e w, F153_2 (e 0) (e 1) (e 6) w K → denL Try.prog (tabOf T153) 34 fuel ((flat (bodyOf Try.f153)).drop 2) e w kn kr ke := by
  intro e w h
  unfold F153_2 at h
  refine seg_loop (id := 0) (body := (loopB (blkB (nthC (flat (bodyOf Try.f153)) 2)))) (l2 := (flat (bodyOf Try.f153)).drop 3) (by kernel_rfl) ?_
  refine loop_ok (FL := fun m e w => F153_2L m (e 0) (e 1) (e 6) w K) (fr := endD Try.prog [.tmp 4, .tmp 5] K) (fe := (blkK 0 (fun e w => F153_3 w K) noE)) (fun _ _ h => h) ?_ hr (blkK_mono (fun e w h => ok153_3 hn hr he e w h) he) fuel e w h
  intro m e w h
  have h : F153_2L (m + 1) (e 0) (e 1) (e 6) w K := h
  rw [F153_2L] at h
  have e1 : ∀ (Y0 : Value → Value → Value → World → Prop) (Y1 : World → Prop), F153_2b (e 0) (e 1) (e 6) w K Y0 Y1 = denL Try.prog (tabOf T153) 34 fuel (flat (loopB (blkB (nthC (flat (bodyOf Try.f153)) 2)))) e w (fun e w => Y0 (e 0) (e 1) (e 6) w) (endD Try.prog [.tmp 4, .tmp 5] K) (blkK 0 (fun e w => Y1 w) noE) := by intro Y0 Y1; kernel_rfl
  exact Eq.mp (e1 (fun a0 a1 a6 w => F153_2L m a0 a1 a6 w K) (fun w => F153_3 w K)) h

def F153_1b (s0 : Value) (s1 : Value) (w : World) (_K : Value → World → Prop) (Y0 : Value → Value → Value → World → Prop) : Prop :=
Y0 s0 s1 (.int .i64 0) w

def F153_1 (s0 : Value) (s1 : Value) (w : World) (K : Value → World → Prop) : Prop := F153_1b s0 s1 w K (fun a0 a1 a6 w => F153_2 a0 a1 a6 w K)

theorem ok153_1 {K : Value → World → Prop} {kn kr : Env → World → Prop} {ke : Nat → Env → World → Prop}
    (hn : ∀ e w, (fun e w => K (.tuple #[(e 4), (e 5)]) w) e w → kn e w) (hr : ∀ e w, endD Try.prog [.tmp 4, .tmp 5] K e w → kr e w) (he : ∀ i e w, noE i e w → ke i e w) :
    ∀ e w, F153_1 (e 0) (e 1) w K → denL Try.prog (tabOf T153) 34 fuel ((flat (bodyOf Try.f153)).drop 0) e w kn kr ke := by
  intro e w h
  unfold F153_1 at h
  have e1 : ∀ (Y0 : Value → Value → Value → World → Prop), F153_1b (e 0) (e 1) w K Y0 = denL Try.prog (tabOf T153) 34 fuel (((flat (bodyOf Try.f153)).drop 0).take 2) e w (fun e w => Y0 (e 0) (e 1) (e 6) w) (endD Try.prog [.tmp 4, .tmp 5] K) noE := by intro Y0; kernel_rfl
  exact seg 2 (Eq.mp (e1 (fun a0 a1 a6 w => F153_2 a0 a1 a6 w K)) h) (fun e w h => ok153_2 hn hr he e w h) hr he

def F153 (x0 : Value) (x1 : Value) (w : World) (K : Value → World → Prop) : Prop := F153_1 x0 x1 w K

def G153 : FnT := fun args w K => on2 (fun x0 x1 => F153 x0 x1 w K) args
theorem c153 {x0 x1 : Value} {w : World} {K : Value → World → Prop} (h : F153 x0 x1 w K) : callP G153 [x0, x1] w K := callP_intro h
theorem ok153 : OkF Try.prog 153 G153 := by
  refine okF_of (tab_ok (l := T153) trivial) mixed (n := fuel) Try.func153 Try.call153 fun args w K h => ?_
  obtain ⟨x0, x1, rfl, hh⟩ := of_on2 h
  unfold F153 at hh
  exact fnD_list (c := bodyOf Try.f153) (by kernel_rfl) (by kernel_rfl) (ok153_1 (fun _ _ h => h) (fun _ _ h => h) (fun _ _ _ h => h) (initE [x0, x1]) w hh)

-- 67 (*gong/gongref19.Heap).Set
def T67 : List (Nat × FnT) := [(68, G68), (153, G153)]
def F67_3b (s0 : Value) (s1 : Value) (s2 : Value) (s9 : Value) (w : World) (K : Value → World → Prop) : Prop :=
bindP (pNil s0) fun v1 =>
bindP (pFieldAddr 1 v1) fun v2 =>
bindP (ld1 v2 w) fun v3 =>
bindP (pSliceL 2 v3 none (some s9) none) fun v4 =>
eAppend Try.prog 95 95 (.slice none 0 0) v4 w fun v6 w5 =>
bindP (fBuild Try.prog 213 [(0, s1), (1, s2)]) fun v7 =>
eBuildSl Try.prog 95 1 [(0, v7)] w5 fun v9 w8 =>
eAppend Try.prog 95 95 v6 v9 w8 fun v11 w10 =>
bindP (pNil s0) fun v12 =>
bindP (pFieldAddr 1 v12) fun v13 =>
bindP (ld1 v13 w10) fun v14 =>
bindP (pSliceL 2 v14 (some s9) none none) fun v15 =>
eAppend Try.prog 95 95 v11 v15 w10 fun v17 w16 =>
bindP (pNil s0) fun v18 =>
bindP (pFieldAddr 1 v18) fun v19 =>
bindW (st 1 v19 v17 w16) fun w20 =>
K (.int .i64 0) w20

def F67_3 (s0 : Value) (s1 : Value) (s2 : Value) (s9 : Value) (w : World) (K : Value → World → Prop) : Prop := F67_3b s0 s1 s2 s9 w K

theorem ok67_3 {K : Value → World → Prop} {kn kr : Env → World → Prop} {ke : Nat → Env → World → Prop}
    (hn : ∀ e w, (fun e w => K (e 6) w) e w → kn e w) (hr : ∀ e w, endD Try.prog [.tmp 6] K e w → kr e w) (he : ∀ i e w, noE i e w → ke i e w) :
    ∀ e w, F67_3 (e 0) (e 1) (e 2) (e 9) w K → denL Try.prog (tabOf T67) 110 fuel ((flat (bodyOf Try.f67)).drop 9) e w kn kr ke := by
  intro e w h
  unfold F67_3 at h
  have e1 : ∀ (_ : Unit), F67_3b (e 0) (e 1) (e 2) (e 9) w K = denL Try.prog (tabOf T67) 110 fuel ((flat (bodyOf Try.f67)).drop 9) e w (fun e w => K (e 6) w) (endD Try.prog [.tmp 6] K) noE := by intro _; kernel_rfl
  exact seg_end (Eq.mp (e1 ()) h) hn hr he

def F67_2b (s0 : Value) (s1 : Value) (s2 : Value) (s9 : Value) (w : World) (_K : Value → World → Prop) (Y0 : Value → Value → Value → Value → World → Prop) (Y1 : Value → Value → Value → Value → World → Prop) : Prop :=
bindP (pNil s0) fun v22 =>
bindP (pFieldAddr 1 v22) fun v23 =>
bindP (ld1 v23 w) fun v24 =>
bindP (lenL v24) fun v25 =>
bindP (bLt s9 v25) fun v26 =>
stepM (gd true v26) s0 fun v27 =>
Sx.stepG (gd true v26) (pNil v27) fun v28 =>
Sx.stepG (gd true v26) (pFieldAddr 1 v28) fun v29 =>
Sx.stepG (gd true v26) (ld1 v29 w) fun v30 =>
stepM (gd true v26) s9 fun v31 =>
Sx.stepG (gd true v26) (pIndexL 2 v30 v31) fun v32 =>
Sx.stepG (gd true v26) (pFieldAddr 1 v32) fun v33 =>
Sx.stepG (gd true v26) (ld1 v33 w) fun v34 =>
stepM (gd true v26) s2 fun v35 =>
Sx.stepG (gd true v26) (bLt v34 v35) fun v36 =>
stepM (gd true v26) v36 fun v37 =>
stepM (gd false v37) s0 fun v38 =>
Sx.stepG (gd false v37) (pNil v38) fun v39 =>
Sx.stepG (gd false v37) (pFieldAddr 1 v39) fun v40 =>
Sx.stepG (gd false v37) (ld1 v40 w) fun v41 =>
stepM (gd false v37) s9 fun v42 =>
Sx.stepG (gd false v37) (pIndexL 2 v41 v42) fun v43 =>
Sx.stepG (gd false v37) (pFieldAddr 1 v43) fun v44 =>
Sx.stepG (gd false v37) (ld1 v44 w) fun v45 =>
stepM (gd false v37) s2 fun v46 =>
Sx.stepG (gd false v37) (bEq Try.prog 3 (.tmp 66) (.tmp 67) v45 v46) fun v47 =>
stepM (gd false v37) v47 fun v48 =>
stepM (gd true v48) s0 fun v49 =>
Sx.stepG (gd true v48) (pNil v49) fun v50 =>
Sx.stepG (gd true v48) (pFieldAddr 1 v50) fun v51 =>
Sx.stepG (gd true v48) (ld1 v51 w) fun v52 =>
stepM (gd true v48) s9 fun v53 =>
Sx.stepG (gd true v48) (pIndexL 2 v52 v53) fun v54 =>
Sx.stepG (gd true v48) (pFieldAddr 0 v54) fun v55 =>
Sx.stepG (gd true v48) (ld1 v55 w) fun v56 =>
stepM (gd true v48) s1 fun v57 =>
Sx.stepG (gd true v48) (bLt v56 v57) fun v58 =>
Sx.stepG (gd false v37) (pPick v48 v58 (.bool false)) fun v59 =>
Sx.stepG (gd true v26) (pPick v37 (.bool true) v59) fun v60 =>
bindP (pPick v26 v60 (.bool false)) fun v61 =>
ifB v61 (
bindP (bAdd s9 (.int .i64 1)) fun v62 =>
Y0 s0 s1 s2 v62 w) (
Y1 s0 s1 s2 s9 w)

def F67_2L : Nat → Value → Value → Value → Value → World → (Value → World → Prop) → Prop
  | 0, _, _, _, _, _, _ => False
  | n + 1, s0, s1, s2, s9, w, K => F67_2b s0 s1 s2 s9 w K (fun a0 a1 a2 a9 w => F67_2L n a0 a1 a2 a9 w K) (fun a0 a1 a2 a9 w => F67_3 a0 a1 a2 a9 w K)

def F67_2 (s0 : Value) (s1 : Value) (s2 : Value) (s9 : Value) (w : World) (K : Value → World → Prop) : Prop := F67_2L fuel s0 s1 s2 s9 w K

theorem ok67_2 {K : Value → World → Prop} {kn kr : Env → World → Prop} {ke : Nat → Env → World → Prop}
    (hn : ∀ e w, (fun e w => K (e 6) w) e w → kn e w) (hr : ∀ e w, endD Try.prog [.tmp 6] K e w → kr e w) (he : ∀ i e w, noE i e w → ke i e w) :
    ∀ e w, F67_2 (e 0) (e 1) (e 2) (e 9) w K → denL Try.prog (tabOf T67) 110 fuel ((flat (bodyOf Try.f67)).drop 8) e w kn kr ke := by
  intro e w h
  unfold F67_2 at h
  refine seg_loop (id := 0) (body := (loopB (blkB (nthC (flat (bodyOf Try.f67)) 8)))) (l2 := (flat (bodyOf Try.f67)).drop 9) (by kernel_rfl) ?_
  refine loop_ok (FL := fun m e w => F67_2L m (e 0) (e 1) (e 2) (e 9) w K) (fr := endD Try.prog [.tmp 6] K) (fe := (blkK 0 (fun e w => F67_3 (e 0) (e 1) (e 2) (e 9) w K) noE)) (fun _ _ h => h) ?_ hr (blkK_mono (fun e w h => ok67_3 hn hr he e w h) he) fuel e w h
  intro m e w h
  have h : F67_2L (m + 1) (e 0) (e 1) (e 2) (e 9) w K := h
  rw [F67_2L] at h
  have e1 : ∀ (Y0 : Value → Value → Value → Value → World → Prop) (Y1 : Value → Value → Value → Value → World → Prop), F67_2b (e 0) (e 1) (e 2) (e 9) w K Y0 Y1 = denL Try.prog (tabOf T67) 110 fuel (flat (loopB (blkB (nthC (flat (bodyOf Try.f67)) 8)))) e w (fun e w => Y0 (e 0) (e 1) (e 2) (e 9) w) (endD Try.prog [.tmp 6] K) (blkK 0 (fun e w => Y1 (e 0) (e 1) (e 2) (e 9) w) noE) := by intro Y0 Y1; kernel_rfl
  exact Eq.mp (e1 (fun a0 a1 a2 a9 w => F67_2L m a0 a1 a2 a9 w K) (fun a0 a1 a2 a9 w => F67_3 a0 a1 a2 a9 w K)) h

def F67_1b (s0 : Value) (s1 : Value) (s2 : Value) (w : World) (K : Value → World → Prop) (Y0 : Value → Value → Value → Value → World → Prop) : Prop :=
bindP (bLt s2 (.int .i64 0)) fun v63 =>
stepM (gd false v63) s2 fun v64 =>
Sx.stepG (gd false v63) (bGt v64 (.int .i64 2305843009213693952)) fun v65 =>
bindP (pPick v63 (.bool true) v65) fun v66 =>
ifB v66 (
K (.int .i64 1) w) (
callP G153 [s0, s1] w fun v68 w67 =>
bindP (pTuple v68 0) fun _ =>
bindP (pTuple v68 1) fun v70 =>
bindP (uNot v70) fun v71 =>
stepM (gd true v71) s0 fun v72 =>
Sx.stepG (gd true v71) (pNil v72) fun v73 =>
Sx.stepG (gd true v71) (pFieldAddr 1 v73) fun v74 =>
Sx.stepG (gd true v71) (ld1 v74 w67.drew) fun v75 =>
Sx.stepG (gd true v71) (lenL v75) fun v76 =>
stepM (gd true v71) s0 fun v77 =>
Sx.stepG (gd true v71) (pNil v77) fun v78 =>
Sx.stepG (gd true v71) (pFieldAddr 0 v78) fun v79 =>
Sx.stepG (gd true v71) (ld1 v79 w67.drew) fun v80 =>
Sx.stepG (gd true v71) (bGe v76 v80) fun v81 =>
bindP (pPick v71 v81 (.bool false)) fun v82 =>
ifB v82 (
K (.int .i64 200) w67.drew) (
callP G68 [s0, s1] w67.drew fun _ w83 =>
Y0 s0 s1 s2 (.int .i64 0) w83))

def F67_1 (s0 : Value) (s1 : Value) (s2 : Value) (w : World) (K : Value → World → Prop) : Prop := F67_1b s0 s1 s2 w K (fun a0 a1 a2 a9 w => F67_2 a0 a1 a2 a9 w K)

theorem ok67_1 {K : Value → World → Prop} {kn kr : Env → World → Prop} {ke : Nat → Env → World → Prop}
    (hn : ∀ e w, (fun e w => K (e 6) w) e w → kn e w) (hr : ∀ e w, endD Try.prog [.tmp 6] K e w → kr e w) (he : ∀ i e w, noE i e w → ke i e w) :
    ∀ e w, F67_1 (e 0) (e 1) (e 2) w K → denL Try.prog (tabOf T67) 110 fuel ((flat (bodyOf Try.f67)).drop 0) e w kn kr ke := by
  intro e w h
  unfold F67_1 at h
  have e1 : ∀ (Y0 : Value → Value → Value → Value → World → Prop), F67_1b (e 0) (e 1) (e 2) w K Y0 = denL Try.prog (tabOf T67) 110 fuel (((flat (bodyOf Try.f67)).drop 0).take 8) e w (fun e w => Y0 (e 0) (e 1) (e 2) (e 9) w) (endD Try.prog [.tmp 6] K) noE := by intro Y0; kernel_rfl
  exact seg 8 (Eq.mp (e1 (fun a0 a1 a2 a9 w => F67_2 a0 a1 a2 a9 w K)) h) (fun e w h => ok67_2 hn hr he e w h) hr he

def F67 (x0 : Value) (x1 : Value) (x2 : Value) (w : World) (K : Value → World → Prop) : Prop := F67_1 x0 x1 x2 w K

def G67 : FnT := fun args w K => on3 (fun x0 x1 x2 => F67 x0 x1 x2 w K) args
theorem c67 {x0 x1 x2 : Value} {w : World} {K : Value → World → Prop} (h : F67 x0 x1 x2 w K) : callP G67 [x0, x1, x2] w K := callP_intro h
theorem ok67 : OkF Try.prog 67 G67 := by
  refine okF_of (tab_ok (l := T67) ⟨ok68, ok153, trivial⟩) mixed (n := fuel) Try.func67 Try.call67 fun args w K h => ?_
  obtain ⟨x0, x1, x2, rfl, hh⟩ := of_on3 h
  unfold F67 at hh
  exact fnD_list (c := bodyOf Try.f67) (by kernel_rfl) (by kernel_rfl) (ok67_1 (fun _ _ h => h) (fun _ _ h => h) (fun _ _ _ h => h) (initE [x0, x1, x2]) w hh)

-- 69 gong/gonglaw19.items
def T69 : List (Nat × FnT) := []
def F69_3b (w : World) (K : Value → World → Prop) : Prop :=
K (.bool true) w

def F69_3 (w : World) (K : Value → World → Prop) : Prop := F69_3b w K

theorem ok69_3 {K : Value → World → Prop} {kn kr : Env → World → Prop} {ke : Nat → Env → World → Prop}
    (hn : ∀ e w, (fun e w => K (e 4) w) e w → kn e w) (hr : ∀ e w, endD Try.prog [.tmp 4] K e w → kr e w) (he : ∀ i e w, noE i e w → ke i e w) :
    ∀ e w, F69_3 w K → denL Try.prog (tabOf T69) 41 fuel ((flat (bodyOf Try.f69)).drop 5) e w kn kr ke := by
  intro e w h
  unfold F69_3 at h
  have e1 : ∀ (_ : Unit), F69_3b w K = denL Try.prog (tabOf T69) 41 fuel ((flat (bodyOf Try.f69)).drop 5) e w (fun e w => K (e 4) w) (endD Try.prog [.tmp 4] K) noE := by intro _; kernel_rfl
  exact seg_end (Eq.mp (e1 ()) h) hn hr he

def F69_2b (s0 : Value) (s1 : Value) (s5 : Value) (w : World) (K : Value → World → Prop) (Y0 : Value → Value → Value → World → Prop) (Y1 : World → Prop) : Prop :=
bindP (lenL s0) fun v1 =>
bindP (bLt s5 v1) fun v2 =>
ifB v2 (
bindP (pIndexL 2 s0 s5) fun v3 =>
bindP (pFieldAddr 0 v3) fun v4 =>
bindP (ld1 v4 w.drew) fun v5 =>
bindP (pIndexL 2 s1 s5) fun v6 =>
bindP (pFieldAddr 0 v6) fun v7 =>
bindP (ld1 v7 w.drew) fun v8 =>
bindP (bNe Try.prog 3 (.tmp 21) (.tmp 26) v5 v8) fun v9 =>
stepM (gd false v9) s0 fun v10 =>
stepM (gd false v9) s5 fun v11 =>
Sx.stepG (gd false v9) (pIndexL 2 v10 v11) fun v12 =>
Sx.stepG (gd false v9) (pFieldAddr 1 v12) fun v13 =>
Sx.stepG (gd false v9) (ld1 v13 w.drew) fun v14 =>
stepM (gd false v9) s1 fun v15 =>
stepM (gd false v9) s5 fun v16 =>
Sx.stepG (gd false v9) (pIndexL 2 v15 v16) fun v17 =>
Sx.stepG (gd false v9) (pFieldAddr 1 v17) fun v18 =>
Sx.stepG (gd false v9) (ld1 v18 w.drew) fun v19 =>
Sx.stepG (gd false v9) (bNe Try.prog 3 (.tmp 33) (.tmp 38) v14 v19) fun v20 =>
bindP (pPick v9 (.bool true) v20) fun v21 =>
ifB v21 (
K (.bool false) w.drew) (
bindP (bAdd s5 (.int .i64 1)) fun v22 =>
Y0 s0 s1 v22 w.drew)) (
Y1 w)

def F69_2L : Nat → Value → Value → Value → World → (Value → World → Prop) → Prop
  | 0, _, _, _, _, _ => False
  | n + 1, s0, s1, s5, w, K => F69_2b s0 s1 s5 w K (fun a0 a1 a5 w => F69_2L n a0 a1 a5 w K) (fun w => F69_3 w K)

def F69_2 (s0 : Value) (s1 : Value) (s5 : Value) (w : World) (K : Value → World → Prop) : Prop := F69_2L fuel s0 s1 s5 w K

theorem ok69_2 {K : Value → World → Prop} {kn kr : Env → World → Prop} {ke : Nat → Env → World → Prop}
    (hn : ∀ e w, (fun e w => K (e 4) w) e w → kn e w) (hr : ∀ e w, endD Try.prog [.tmp 4] K e w → kr e w) (he : ∀ i e w, noE i e w → ke i e w) :
    ∀ e w, F69_2 (e 0) (e 1) (e 5) w K → denL Try.prog (tabOf T69) 41 fuel ((flat (bodyOf Try.f69)).drop 4) e w kn kr ke := by
  intro e w h
  unfold F69_2 at h
  refine seg_loop (id := 0) (body := (loopB (blkB (nthC (flat (bodyOf Try.f69)) 4)))) (l2 := (flat (bodyOf Try.f69)).drop 5) (by kernel_rfl) ?_
  refine loop_ok (FL := fun m e w => F69_2L m (e 0) (e 1) (e 5) w K) (fr := endD Try.prog [.tmp 4] K) (fe := (blkK 0 (fun e w => F69_3 w K) noE)) (fun _ _ h => h) ?_ hr (blkK_mono (fun e w h => ok69_3 hn hr he e w h) he) fuel e w h
  intro m e w h
  have h : F69_2L (m + 1) (e 0) (e 1) (e 5) w K := h
  rw [F69_2L] at h
  have e1 : ∀ (Y0 : Value → Value → Value → World → Prop) (Y1 : World → Prop), F69_2b (e 0) (e 1) (e 5) w K Y0 Y1 = denL Try.prog (tabOf T69) 41 fuel (flat (loopB (blkB (nthC (flat (bodyOf Try.f69)) 4)))) e w (fun e w => Y0 (e 0) (e 1) (e 5) w) (endD Try.prog [.tmp 4] K) (blkK 0 (fun e w => Y1 w) noE) := by intro Y0 Y1; kernel_rfl
  exact Eq.mp (e1 (fun a0 a1 a5 w => F69_2L m a0 a1 a5 w K) (fun w => F69_3 w K)) h

def F69_1b (s0 : Value) (s1 : Value) (w : World) (K : Value → World → Prop) (Y0 : Value → Value → Value → World → Prop) : Prop :=
bindP (lenL s0) fun v23 =>
bindP (lenL s1) fun v24 =>
bindP (bNe Try.prog 3 (.tmp 7) (.tmp 9) v23 v24) fun v25 =>
ifB v25 (
K (.bool false) w) (
Y0 s0 s1 (.int .i64 0) w)

def F69_1 (s0 : Value) (s1 : Value) (w : World) (K : Value → World → Prop) : Prop := F69_1b s0 s1 w K (fun a0 a1 a5 w => F69_2 a0 a1 a5 w K)

theorem ok69_1 {K : Value → World → Prop} {kn kr : Env → World → Prop} {ke : Nat → Env → World → Prop}
    (hn : ∀ e w, (fun e w => K (e 4) w) e w → kn e w) (hr : ∀ e w, endD Try.prog [.tmp 4] K e w → kr e w) (he : ∀ i e w, noE i e w → ke i e w) :
    ∀ e w, F69_1 (e 0) (e 1) w K → denL Try.prog (tabOf T69) 41 fuel ((flat (bodyOf Try.f69)).drop 0) e w kn kr ke := by
  intro e w h
  unfold F69_1 at h
  have e1 : ∀ (Y0 : Value → Value → Value → World → Prop), F69_1b (e 0) (e 1) w K Y0 = denL Try.prog (tabOf T69) 41 fuel (((flat (bodyOf Try.f69)).drop 0).take 4) e w (fun e w => Y0 (e 0) (e 1) (e 5) w) (endD Try.prog [.tmp 4] K) noE := by intro Y0; kernel_rfl
  exact seg 4 (Eq.mp (e1 (fun a0 a1 a5 w => F69_2 a0 a1 a5 w K)) h) (fun e w h => ok69_2 hn hr he e w h) hr he

def F69 (x0 : Value) (x1 : Value) (w : World) (K : Value → World → Prop) : Prop := F69_1 x0 x1 w K

def G69 : FnT := fun args w K => on2 (fun x0 x1 => F69 x0 x1 w K) args
theorem c69 {x0 x1 : Value} {w : World} {K : Value → World → Prop} (h : F69 x0 x1 w K) : callP G69 [x0, x1] w K := callP_intro h
theorem ok69 : OkF Try.prog 69 G69 := by
  refine okF_of (tab_ok (l := T69) trivial) mixed (n := fuel) Try.func69 Try.call69 fun args w K h => ?_
  obtain ⟨x0, x1, rfl, hh⟩ := of_on2 h
  unfold F69 at hh
  exact fnD_list (c := bodyOf Try.f69) (by kernel_rfl) (by kernel_rfl) (ok69_1 (fun _ _ h => h) (fun _ _ h => h) (fun _ _ _ h => h) (initE [x0, x1]) w hh)

-- 70 (*gong/gongref19.Heap).Due
def T70 : List (Nat × FnT) := []
def F70_3b (s0 : Value) (s5 : Value) (w : World) (K : Value → World → Prop) : Prop :=
eBuildSl Try.prog 95 0 [] w fun v2 w1 =>
bindP (pNil s0) fun v3 =>
bindP (pFieldAddr 1 v3) fun v4 =>
bindP (ld1 v4 w1) fun v5 =>
bindP (pSliceL 2 v5 none (some s5) none) fun v6 =>
eAppend Try.prog 95 95 v2 v6 w1 fun v8 w7 =>
eBuildSl Try.prog 95 0 [] w7 fun v10 w9 =>
bindP (pNil s0) fun v11 =>
bindP (pFieldAddr 1 v11) fun v12 =>
bindP (ld1 v12 w9) fun v13 =>
bindP (pSliceL 2 v13 (some s5) none none) fun v14 =>
eAppend Try.prog 95 95 v10 v14 w9 fun v16 w15 =>
bindP (pNil s0) fun v17 =>
bindP (pFieldAddr 1 v17) fun v18 =>
bindW (st 1 v18 v16 w15) fun w19 =>
K v8 w19

def F70_3 (s0 : Value) (s5 : Value) (w : World) (K : Value → World → Prop) : Prop := F70_3b s0 s5 w K

theorem ok70_3 {K : Value → World → Prop} {kn kr : Env → World → Prop} {ke : Nat → Env → World → Prop}
    (hn : ∀ e w, (fun e w => K (e 4) w) e w → kn e w) (hr : ∀ e w, endD Try.prog [.tmp 4] K e w → kr e w) (he : ∀ i e w, noE i e w → ke i e w) :
    ∀ e w, F70_3 (e 0) (e 5) w K → denL Try.prog (tabOf T70) 48 fuel ((flat (bodyOf Try.f70)).drop 3) e w kn kr ke := by
  intro e w h
  unfold F70_3 at h
  have e1 : ∀ (_ : Unit), F70_3b (e 0) (e 5) w K = denL Try.prog (tabOf T70) 48 fuel ((flat (bodyOf Try.f70)).drop 3) e w (fun e w => K (e 4) w) (endD Try.prog [.tmp 4] K) noE := by intro _; kernel_rfl
  exact seg_end (Eq.mp (e1 ()) h) hn hr he

def F70_2b (s0 : Value) (s1 : Value) (s5 : Value) (w : World) (_K : Value → World → Prop) (Y0 : Value → Value → Value → World → Prop) (Y1 : Value → Value → World → Prop) : Prop :=
bindP (pNil s0) fun v21 =>
bindP (pFieldAddr 1 v21) fun v22 =>
bindP (ld1 v22 w) fun v23 =>
bindP (lenL v23) fun v24 =>
bindP (bLt s5 v24) fun v25 =>
stepM (gd true v25) s0 fun v26 =>
Sx.stepG (gd true v25) (pNil v26) fun v27 =>
Sx.stepG (gd true v25) (pFieldAddr 1 v27) fun v28 =>
Sx.stepG (gd true v25) (ld1 v28 w) fun v29 =>
stepM (gd true v25) s5 fun v30 =>
Sx.stepG (gd true v25) (pIndexL 2 v29 v30) fun v31 =>
Sx.stepG (gd true v25) (pFieldAddr 1 v31) fun v32 =>
Sx.stepG (gd true v25) (ld1 v32 w) fun v33 =>
stepM (gd true v25) s1 fun v34 =>
Sx.stepG (gd true v25) (bLe v33 v34) fun v35 =>
bindP (pPick v25 v35 (.bool false)) fun v36 =>
ifB v36 (
bindP (bAdd s5 (.int .i64 1)) fun v37 =>
Y0 s0 s1 v37 w) (
Y1 s0 s5 w)

def F70_2L : Nat → Value → Value → Value → World → (Value → World → Prop) → Prop
  | 0, _, _, _, _, _ => False
  | n + 1, s0, s1, s5, w, K => F70_2b s0 s1 s5 w K (fun a0 a1 a5 w => F70_2L n a0 a1 a5 w K) (fun a0 a5 w => F70_3 a0 a5 w K)

def F70_2 (s0 : Value) (s1 : Value) (s5 : Value) (w : World) (K : Value → World → Prop) : Prop := F70_2L fuel s0 s1 s5 w K

theorem ok70_2 {K : Value → World → Prop} {kn kr : Env → World → Prop} {ke : Nat → Env → World → Prop}
    (hn : ∀ e w, (fun e w => K (e 4) w) e w → kn e w) (hr : ∀ e w, endD Try.prog [.tmp 4] K e w → kr e w) (he : ∀ i e w, noE i e w → ke i e w) :
    ∀ e w, F70_2 (e 0) (e 1) (e 5) w K → denL Try.prog (tabOf T70) 48 fuel ((flat (bodyOf Try.f70)).drop 2) e w kn kr ke := by
  intro e w h
  unfold F70_2 at h
  refine seg_loop (id := 0) (body := (loopB (blkB (nthC (flat (bodyOf Try.f70)) 2)))) (l2 := (flat (bodyOf Try.f70)).drop 3) (by kernel_rfl) ?_
  refine loop_ok (FL := fun m e w => F70_2L m (e 0) (e 1) (e 5) w K) (fr := endD Try.prog [.tmp 4] K) (fe := (blkK 0 (fun e w => F70_3 (e 0) (e 5) w K) noE)) (fun _ _ h => h) ?_ hr (blkK_mono (fun e w h => ok70_3 hn hr he e w h) he) fuel e w h
  intro m e w h
  have h : F70_2L (m + 1) (e 0) (e 1) (e 5) w K := h
  rw [F70_2L] at h
  have e1 : ∀ (Y0 : Value → Value → Value → World → Prop) (Y1 : Value → Value → World → Prop), F70_2b (e 0) (e 1) (e 5) w K Y0 Y1 = denL Try.prog (tabOf T70) 48 fuel (flat (loopB (blkB (nthC (flat (bodyOf Try.f70)) 2)))) e w (fun e w => Y0 (e 0) (e 1) (e 5) w) (endD Try.prog [.tmp 4] K) (blkK 0 (fun e w => Y1 (e 0) (e 5) w) noE) := by intro Y0 Y1; kernel_rfl
  exact Eq.mp (e1 (fun a0 a1 a5 w => F70_2L m a0 a1 a5 w K) (fun a0 a5 w => F70_3 a0 a5 w K)) h

def F70_1b (s0 : Value) (s1 : Value) (w : World) (_K : Value → World → Prop) (Y0 : Value → Value → Value → World → Prop) : Prop :=
Y0 s0 s1 (.int .i64 0) w

def F70_1 (s0 : Value) (s1 : Value) (w : World) (K : Value → World → Prop) : Prop := F70_1b s0 s1 w K (fun a0 a1 a5 w => F70_2 a0 a1 a5 w K)

theorem ok70_1 {K : Value → World → Prop} {kn kr : Env → World → Prop} {ke : Nat → Env → World → Prop}
    (hn : ∀ e w, (fun e w => K (e 4) w) e w → kn e w) (hr : ∀ e w, endD Try.prog [.tmp 4] K e w → kr e w) (he : ∀ i e w, noE i e w → ke i e w) :
    ∀ e w, F70_1 (e 0) (e 1) w K → denL Try.prog (tabOf T70) 48 fuel ((flat (bodyOf Try.f70)).drop 0) e w kn kr ke := by
  intro e w h
  unfold F70_1 at h
  have e1 : ∀ (Y0 : Value → Value → Value → World → Prop), F70_1b (e 0) (e 1) w K Y0 = denL Try.prog (tabOf T70) 48 fuel (((flat (bodyOf Try.f70)).drop 0).take 2) e w (fun e w => Y0 (e 0) (e 1) (e 5) w) (endD Try.prog [.tmp 4] K) noE := by intro Y0; kernel_rfl
  exact seg 2 (Eq.mp (e1 (fun a0 a1 a5 w => F70_2 a0 a1 a5 w K)) h) (fun e w h => ok70_2 hn hr he e w h) hr he

def F70 (x0 : Value) (x1 : Value) (w : World) (K : Value → World → Prop) : Prop := F70_1 x0 x1 w K

def G70 : FnT := fun args w K => on2 (fun x0 x1 => F70 x0 x1 w K) args
theorem c70 {x0 x1 : Value} {w : World} {K : Value → World → Prop} (h : F70 x0 x1 w K) : callP G70 [x0, x1] w K := callP_intro h
theorem ok70 : OkF Try.prog 70 G70 := by
  refine okF_of (tab_ok (l := T70) trivial) mixed (n := fuel) Try.func70 Try.call70 fun args w K h => ?_
  obtain ⟨x0, x1, rfl, hh⟩ := of_on2 h
  unfold F70 at hh
  exact fnD_list (c := bodyOf Try.f70) (by kernel_rfl) (by kernel_rfl) (ok70_1 (fun _ _ h => h) (fun _ _ h => h) (fun _ _ _ h => h) (initE [x0, x1]) w hh)

-- 154 (*gong/heap.Heap).Get
def T154 : List (Nat × FnT) := []
def F154 (x0 : Value) (x1 : Value) (w : World) (K : Value → World → Prop) : Prop :=
bindP (pNil x0) fun v1 =>
bindP (pFieldAddr 2 v1) fun v2 =>
bindP (ld1 v2 w) fun v3 =>
bindP (fLook Try.prog 42 v3 x1 true w) fun v4 =>
bindP (pTuple v4 0) fun v5 =>
bindP (pTuple v4 1) fun v6 =>
bindP (uNot v6) fun v7 =>
ifB v7 (
K (.tuple #[(.int .i64 0), (.bool false)]) w) (
bindP (pNil x0) fun v8 =>
bindP (pFieldAddr 1 v8) fun v9 =>
bindP (ld1 v9 w) fun v10 =>
bindP (pIndexL 2 v10 v5) fun v11 =>
bindP (pFieldAddr 1 v11) fun v12 =>
bindP (ld1 v12 w) fun v13 =>
K (.tuple #[v13, (.bool true)]) w)

def G154 : FnT := fun args w K => on2 (fun x0 x1 => F154 x0 x1 w K) args
theorem c154 {x0 x1 : Value} {w : World} {K : Value → World → Prop} (h : F154 x0 x1 w K) : callP G154 [x0, x1] w K := callP_intro h
theorem ok154 : OkF Try.prog 154 G154 := by
  refine okF_of (tab_ok (l := T154) trivial) mixed (n := fuel) Try.func154 Try.call154 fun args w K h => ?_
  obtain ⟨x0, x1, rfl, hh⟩ := of_on2 h
  exact fnD_list (c := bodyOf Try.f154) (by kernel_rfl) (by kernel_rfl) (Eq.mp (by kernel_rfl) hh)

-- 155 (*gong/gongref19.Heap).First
def T155 : List (Nat × FnT) := []
def F155 (x0 : Value) (w : World) (K : Value → World → Prop) : Prop :=
eAlloc Try.prog 213 w fun v2 w1 =>
bindP (pNil x0) fun v3 =>
bindP (pFieldAddr 1 v3) fun v4 =>
bindP (ld1 v4 w1) fun v5 =>
bindP (lenL v5) fun v6 =>
bindP (bEq Try.prog 3 (.tmp 8) (.const (.int .i64 0)) v6 (.int .i64 0)) fun v7 =>
ifB v7 (
bindP (fBuild Try.prog 213 []) fun v8 =>
bindW (st 2 v2 v8 w1) fun w9 =>
bindP (ldN 2 v2 w9) fun v11 =>
K (.tuple #[v11, (.bool false)]) w9) (
bindP (pNil x0) fun v12 =>
bindP (pFieldAddr 1 v12) fun v13 =>
bindP (ld1 v13 w1) fun v14 =>
bindP (pIndexL 2 v14 (.int .i64 0)) fun v15 =>
bindP (ldN 2 v15 w1) fun v16 =>
bindW (st 2 v2 v16 w1) fun w17 =>
bindP (ldN 2 v2 w17) fun v19 =>
K (.tuple #[v19, (.bool true)]) w17)

def G155 : FnT := fun args w K => on1 (fun x0 => F155 x0 w K) args
theorem c155 {x0 : Value} {w : World} {K : Value → World → Prop} (h : F155 x0 w K) : callP G155 [x0] w K := callP_intro h
theorem ok155 : OkF Try.prog 155 G155 := by
  refine okF_of (tab_ok (l := T155) trivial) mixed (n := fuel) Try.func155 Try.call155 fun args w K h => ?_
  obtain ⟨x0, rfl, hh⟩ := of_on1 h
  exact fnD_list (c := bodyOf Try.f155) (by kernel_rfl) (by kernel_rfl) (Eq.mp (by kernel_rfl) hh)

-- 71 gong/gonglaw19.stands
def T71 : List (Nat × FnT) := [(30, G30), (59, G59), (69, G69), (120, G120), (153, G153), (154, G154), (155, G155)]
def F71_3b (s0 : Value) (s1 : Value) (s7 : Value) (s8 : Value) (s9 : Value) (s10 : Value) (s11 : Value) (s12 : Value) (s13 : Value) (s14 : Value) (s16 : Value) (w : World) (K : Value → World → Prop) : Prop :=
stepM (gd true s16) s7 fun v1 =>
stepM (gd true s16) s9 fun v2 =>
Sx.stepG (gd true s16) (bEq Try.prog 3 (.tmp 60) (.tmp 61) v1 v2) fun v3 =>
bindP (pPick s16 v3 (.bool false)) fun v4 =>
stepM (gd true v4) s8 fun v5 =>
stepM (gd true v4) s10 fun v6 =>
Sx.stepG (gd true v4) (bEq Try.prog 4 (.tmp 65) (.tmp 66) v5 v6) fun v7 =>
bindP (pPick v4 v7 (.bool false)) fun v8 =>
Sx.stepG (gd true v8) (pFieldAddr 0 s11) fun v9 =>
Sx.stepG (gd true v8) (ld1 v9 w.drew) fun v10 =>
Sx.stepG (gd true v8) (pFieldAddr 0 s13) fun v11 =>
Sx.stepG (gd true v8) (ld1 v11 w.drew) fun v12 =>
Sx.stepG (gd true v8) (bEq Try.prog 3 (.tmp 71) (.tmp 73) v10 v12) fun v13 =>
bindP (pPick v8 v13 (.bool false)) fun v14 =>
Sx.stepG (gd true v14) (pFieldAddr 1 s11) fun v15 =>
Sx.stepG (gd true v14) (ld1 v15 w.drew) fun v16 =>
Sx.stepG (gd true v14) (pFieldAddr 1 s13) fun v17 =>
Sx.stepG (gd true v14) (ld1 v17 w.drew) fun v18 =>
Sx.stepG (gd true v14) (bEq Try.prog 3 (.tmp 78) (.tmp 80) v16 v18) fun v19 =>
bindP (pPick v14 v19 (.bool false)) fun v20 =>
stepM (gd true v20) s12 fun v21 =>
stepM (gd true v20) s14 fun v22 =>
Sx.stepG (gd true v20) (bEq Try.prog 4 (.tmp 84) (.tmp 85) v21 v22) fun v23 =>
bindP (pPick v20 v23 (.bool false)) fun v24 =>
stepM (gd true v24) s0 fun v25 =>
stepM (gd true v24) s1 fun v26 =>
Sx.stepG (gd true v24) (pNil v26) fun v27 =>
Sx.stepG (gd true v24) (pFieldAddr 1 v27) fun v28 =>
Sx.stepG (gd true v24) (ld1 v28 w.drew) fun v29 =>
Sx.stepG (gd true v24) (lenL v29) fun v30 =>
stepE (gd true v24) (fun k => callP G30 [v25] w.drew k) w.drew fun v32 w31 =>
(fok (gd true v24) (ld1 v28 w31) v29 ∧ fok (gd true v24) (lenL v29) v30) ∧ (Sx.stepG (gd true v24) (bEq Try.prog 3 (.tmp 90) (.tmp 95) v32 v30) fun v33 =>
bindP (pPick v24 v33 (.bool false)) fun v34 =>
stepM (gd true v34) s0 fun v35 =>
stepM (gd true v34) s1 fun v36 =>
Sx.stepG (gd true v34) (pNil v36) fun v37 =>
Sx.stepG (gd true v34) (pFieldAddr 1 v37) fun v38 =>
Sx.stepG (gd true v34) (ld1 v38 w31) fun v39 =>
stepE (gd true v34) (fun k => callP G59 [v35] w31 k) w31 fun v41 w40 =>
fok (gd true v34) (ld1 v38 w40) v39 ∧ (stepE (gd true v34) (fun k => callP G69 [v41, v39] w40 k) w40 fun v43 w42 =>
bindP (pPick v34 v43 (.bool false)) fun v44 =>
K v44 w42))

def F71_3 (s0 : Value) (s1 : Value) (s7 : Value) (s8 : Value) (s9 : Value) (s10 : Value) (s11 : Value) (s12 : Value) (s13 : Value) (s14 : Value) (s16 : Value) (w : World) (K : Value → World → Prop) : Prop := F71_3b s0 s1 s7 s8 s9 s10 s11 s12 s13 s14 s16 w K

theorem ok71_3 {K : Value → World → Prop} {kn kr : Env → World → Prop} {ke : Nat → Env → World → Prop}
    (hn : ∀ e w, (fun e w => K (e 6) w) e w → kn e w) (hr : ∀ e w, endD Try.prog [.tmp 6] K e w → kr e w) (he : ∀ i e w, noE i e w → ke i e w) :
    ∀ e w, F71_3 (e 0) (e 1) (e 7) (e 8) (e 9) (e 10) (e 11) (e 12) (e 13) (e 14) (e 16) w K → denL Try.prog (tabOf T71) 107 fuel ((flat (bodyOf Try.f71)).drop 9) e w kn kr ke := by
  intro e w h
  unfold F71_3 at h
  have e1 : ∀ (_ : Unit), F71_3b (e 0) (e 1) (e 7) (e 8) (e 9) (e 10) (e 11) (e 12) (e 13) (e 14) (e 16) w K = denL Try.prog (tabOf T71) 107 fuel ((flat (bodyOf Try.f71)).drop 9) e w (fun e w => K (e 6) w) (endD Try.prog [.tmp 6] K) noE := by intro _; kernel_rfl
  exact seg_end (Eq.mp (e1 ()) h) hn hr he

def F71_2b (s0 : Value) (s1 : Value) (s7 : Value) (s8 : Value) (s9 : Value) (s10 : Value) (s11 : Value) (s12 : Value) (s13 : Value) (s14 : Value) (s15 : Value) (s16 : Value) (s17 : Value) (w : World) (_K : Value → World → Prop) (Y0 : Value → Value → Value → Value → Value → Value → Value → Value → Value → Value → Value → Value → Value → World → Prop) (Y1 : Value → Value → Value → Value → Value → Value → Value → Value → Value → Value → Value → World → Prop) : Prop :=
bindP (lenL s15) fun v45 =>
bindP (bLt s17 v45) fun v46 =>
ifB v46 (
bindP (pIndexL 2 s15 s17) fun v47 =>
bindP (pFieldAddr 1 v47) fun v48 =>
bindW (st 1 v48 (.int .i64 (-7)) w) fun w49 =>
bindP (bAdd s17 (.int .i64 1)) fun v51 =>
Y0 s0 s1 s7 s8 s9 s10 s11 s12 s13 s14 s15 s16 v51 w49) (
Y1 s0 s1 s7 s8 s9 s10 s11 s12 s13 s14 s16 w)

def F71_2L : Nat → Value → Value → Value → Value → Value → Value → Value → Value → Value → Value → Value → Value → Value → World → (Value → World → Prop) → Prop
  | 0, _, _, _, _, _, _, _, _, _, _, _, _, _, _, _ => False
  | n + 1, s0, s1, s7, s8, s9, s10, s11, s12, s13, s14, s15, s16, s17, w, K => F71_2b s0 s1 s7 s8 s9 s10 s11 s12 s13 s14 s15 s16 s17 w K (fun a0 a1 a7 a8 a9 a10 a11 a12 a13 a14 a15 a16 a17 w => F71_2L n a0 a1 a7 a8 a9 a10 a11 a12 a13 a14 a15 a16 a17 w K) (fun a0 a1 a7 a8 a9 a10 a11 a12 a13 a14 a16 w => F71_3 a0 a1 a7 a8 a9 a10 a11 a12 a13 a14 a16 w K)

def F71_2 (s0 : Value) (s1 : Value) (s7 : Value) (s8 : Value) (s9 : Value) (s10 : Value) (s11 : Value) (s12 : Value) (s13 : Value) (s14 : Value) (s15 : Value) (s16 : Value) (s17 : Value) (w : World) (K : Value → World → Prop) : Prop := F71_2L fuel s0 s1 s7 s8 s9 s10 s11 s12 s13 s14 s15 s16 s17 w K

theorem ok71_2 {K : Value → World → Prop} {kn kr : Env → World → Prop} {ke : Nat → Env → World → Prop}
    (hn : ∀ e w, (fun e w => K (e 6) w) e w → kn e w) (hr : ∀ e w, endD Try.prog [.tmp 6] K e w → kr e w) (he : ∀ i e w, noE i e w → ke i e w) :
    ∀ e w, F71_2 (e 0) (e 1) (e 7) (e 8) (e 9) (e 10) (e 11) (e 12) (e 13) (e 14) (e 15) (e 16) (e 17) w K → denL Try.prog (tabOf T71) 107 fuel ((flat (bodyOf Try.f71)).drop 8) e w kn kr ke := by
  intro e w h
  unfold F71_2 at h
  refine seg_loop (id := 0) (body := (loopB (blkB (nthC (flat (bodyOf Try.f71)) 8)))) (l2 := (flat (bodyOf Try.f71)).drop 9) (by kernel_rfl) ?_
  refine loop_ok (FL := fun m e w => F71_2L m (e 0) (e 1) (e 7) (e 8) (e 9) (e 10) (e 11) (e 12) (e 13) (e 14) (e 15) (e 16) (e 17) w K) (fr := endD Try.prog [.tmp 6] K) (fe := (blkK 0 (fun e w => F71_3 (e 0) (e 1) (e 7) (e 8) (e 9) (e 10) (e 11) (e 12) (e 13) (e 14) (e 16) w K) noE)) (fun _ _ h => h) ?_ hr (blkK_mono (fun e w h => ok71_3 hn hr he e w h) he) fuel e w h
  intro m e w h
  have h : F71_2L (m + 1) (e 0) (e 1) (e 7) (e 8) (e 9) (e 10) (e 11) (e 12) (e 13) (e 14) (e 15) (e 16) (e 17) w K := h
  rw [F71_2L] at h
  have e1 : ∀ (Y0 : Value → Value → Value → Value → Value → Value → Value → Value → Value → Value → Value → Value → Value → World → Prop) (Y1 : Value → Value → Value → Value → Value → Value → Value → Value → Value → Value → Value → World → Prop), F71_2b (e 0) (e 1) (e 7) (e 8) (e 9) (e 10) (e 11) (e 12) (e 13) (e 14) (e 15) (e 16) (e 17) w K Y0 Y1 = denL Try.prog (tabOf T71) 107 fuel (flat (loopB (blkB (nthC (flat (bodyOf Try.f71)) 8)))) e w (fun e w => Y0 (e 0) (e 1) (e 7) (e 8) (e 9) (e 10) (e 11) (e 12) (e 13) (e 14) (e 15) (e 16) (e 17) w) (endD Try.prog [.tmp 6] K) (blkK 0 (fun e w => Y1 (e 0) (e 1) (e 7) (e 8) (e 9) (e 10) (e 11) (e 12) (e 13) (e 14) (e 16) w) noE) := by intro Y0 Y1; kernel_rfl
  exact Eq.mp (e1 (fun a0 a1 a7 a8 a9 a10 a11 a12 a13 a14 a15 a16 a17 w => F71_2L m a0 a1 a7 a8 a9 a10 a11 a12 a13 a14 a15 a16 a17 w K) (fun a0 a1 a7 a8 a9 a10 a11 a12 a13 a14 a16 w => F71_3 a0 a1 a7 a8 a9 a10 a11 a12 a13 a14 a16 w K)) h

def F71_1b (s0 : Value) (s1 : Value) (s2 : Value) (w : World) (_K : Value → World → Prop) (Y0 : Value → Value → Value → Value → Value → Value → Value → Value → Value → Value → Value → Value → Value → World → Prop) : Prop :=
callP G154 [s0, s2] w fun v53 w52 =>
bindP (pTuple v53 0) fun v54 =>
bindP (pTuple v53 1) fun v55 =>
callP G153 [s1, s2] w52 fun v57 w56 =>
bindP (pTuple v57 0) fun v58 =>
bindP (pTuple v57 1) fun v59 =>
callP G120 [s0] w56 fun v61 w60 =>
bindP (pTuple v61 0) fun v62 =>
bindP (pTuple v61 1) fun v63 =>
eAlloc Try.prog 49 w60 fun v65 w64 =>
bindW (st 2 v65 v62 w64) fun w66 =>
callP G155 [s1] w66 fun v69 w68 =>
bindP (pTuple v69 0) fun v70 =>
bindP (pTuple v69 1) fun v71 =>
eAlloc Try.prog 213 w68 fun v73 w72 =>
bindW (st 2 v73 v70 w72) fun w74 =>
callP G59 [s0] w74 fun v77 w76 =>
bindP (pNil s1) fun v78 =>
bindP (pFieldAddr 1 v78) fun v79 =>
bindP (ld1 v79 w76) fun v80 =>
callP G69 [v77, v80] w76 fun v82 w81 =>
Y0 s0 s1 v54 v55 v58 v59 v65 v63 v73 v71 v77 v82 (.int .i64 0) w81

def F71_1 (s0 : Value) (s1 : Value) (s2 : Value) (w : World) (K : Value → World → Prop) : Prop := F71_1b s0 s1 s2 w K (fun a0 a1 a7 a8 a9 a10 a11 a12 a13 a14 a15 a16 a17 w => F71_2 a0 a1 a7 a8 a9 a10 a11 a12 a13 a14 a15 a16 a17 w K)

theorem ok71_1 {K : Value → World → Prop} {kn kr : Env → World → Prop} {ke : Nat → Env → World → Prop}
    (hn : ∀ e w, (fun e w => K (e 6) w) e w → kn e w) (hr : ∀ e w, endD Try.prog [.tmp 6] K e w → kr e w) (he : ∀ i e w, noE i e w → ke i e w) :
    ∀ e w, F71_1 (e 0) (e 1) (e 2) w K → denL Try.prog (tabOf T71) 107 fuel ((flat (bodyOf Try.f71)).drop 0) e w kn kr ke := by
  intro e w h
  unfold F71_1 at h
  have e1 : ∀ (Y0 : Value → Value → Value → Value → Value → Value → Value → Value → Value → Value → Value → Value → Value → World → Prop), F71_1b (e 0) (e 1) (e 2) w K Y0 = denL Try.prog (tabOf T71) 107 fuel (((flat (bodyOf Try.f71)).drop 0).take 8) e w (fun e w => Y0 (e 0) (e 1) (e 7) (e 8) (e 9) (e 10) (e 11) (e 12) (e 13) (e 14) (e 15) (e 16) (e 17) w) (endD Try.prog [.tmp 6] K) noE := by intro Y0; kernel_rfl
  exact seg 8 (Eq.mp (e1 (fun a0 a1 a7 a8 a9 a10 a11 a12 a13 a14 a15 a16 a17 w => F71_2 a0 a1 a7 a8 a9 a10 a11 a12 a13 a14 a15 a16 a17 w K)) h) (fun e w h => ok71_2 hn hr he e w h) hr he

def F71 (x0 : Value) (x1 : Value) (x2 : Value) (w : World) (K : Value → World → Prop) : Prop := F71_1 x0 x1 x2 w K

def G71 : FnT := fun args w K => on3 (fun x0 x1 x2 => F71 x0 x1 x2 w K) args
theorem c71 {x0 x1 x2 : Value} {w : World} {K : Value → World → Prop} (h : F71 x0 x1 x2 w K) : callP G71 [x0, x1, x2] w K := callP_intro h
theorem ok71 : OkF Try.prog 71 G71 := by
  refine okF_of (tab_ok (l := T71) ⟨ok30, ok59, ok69, ok120, ok153, ok154, ok155, trivial⟩) mixed (n := fuel) Try.func71 Try.call71 fun args w K h => ?_
  obtain ⟨x0, x1, x2, rfl, hh⟩ := of_on3 h
  unfold F71 at hh
  exact fnD_list (c := bodyOf Try.f71) (by kernel_rfl) (by kernel_rfl) (ok71_1 (fun _ _ h => h) (fun _ _ h => h) (fun _ _ _ h => h) (initE [x0, x1, x2]) w hh)

-- 12 gong/gonglaw19.HeapPlays
def T12 : List (Nat × FnT) := [(23, G23), (26, G26), (27, G27), (28, G28), (29, G29), (31, G31), (58, G58), (66, G66), (67, G67), (68, G68), (69, G69), (70, G70), (71, G71)]
def F12_3b (w : World) (K : Value → World → Prop) : Prop :=
K (.bool true) w

def F12_3 (w : World) (K : Value → World → Prop) : Prop := F12_3b w K

theorem ok12_3 {K : Value → World → Prop} {kn kr : Env → World → Prop} {ke : Nat → Env → World → Prop}
    (hn : ∀ e w, (fun e w => K (e 4) w) e w → kn e w) (hr : ∀ e w, endD Try.prog [.tmp 4] K e w → kr e w) (he : ∀ i e w, noE i e w → ke i e w) :
    ∀ e w, F12_3 w K → denL Try.prog (tabOf T12) 123 fuel ((flat (bodyOf Try.f12)).drop 7) e w kn kr ke := by
  intro e w h
  unfold F12_3 at h
  have e1 : ∀ (_ : Unit), F12_3b w K = denL Try.prog (tabOf T12) 123 fuel ((flat (bodyOf Try.f12)).drop 7) e w (fun e w => K (e 4) w) (endD Try.prog [.tmp 4] K) noE := by intro _; kernel_rfl
  exact seg_end (Eq.mp (e1 ()) h) hn hr he

def F12_6b (s1 : Value) (s5 : Value) (s7 : Value) (s9 : Value) (w : World) (_K : Value → World → Prop) (R3 : Value → Value → Value → Value → World → Prop) : Prop :=
bindP (bAdd s9 (.int .i64 1)) fun v1 =>
R3 s1 s5 s7 v1 w

def F12_6 (s1 : Value) (s5 : Value) (s7 : Value) (s9 : Value) (w : World) (K : Value → World → Prop) (R3 : Value → Value → Value → Value → World → Prop) : Prop := F12_6b s1 s5 s7 s9 w K R3

theorem ok12_6 (R3 : Value → Value → Value → Value → World → Prop) {K : Value → World → Prop} {kn kr : Env → World → Prop} {ke : Nat → Env → World → Prop}
    (hn : ∀ e w, (fun e w => R3 (e 1) (e 5) (e 7) (e 9) w) e w → kn e w) (hr : ∀ e w, endD Try.prog [.tmp 4] K e w → kr e w) (he : ∀ i e w, (blkK 0 (fun e w => F12_3 w K) noE) i e w → ke i e w) :
    ∀ e w, F12_6 (e 1) (e 5) (e 7) (e 9) w K R3 → denL Try.prog (tabOf T12) 123 fuel ((flat (loopB (blkB (nthC (flat (bodyOf Try.f12)) 6)))).drop 3) e w kn kr ke := by
  intro e w h
  unfold F12_6 at h
  have e1 : ∀ (_ : Unit), F12_6b (e 1) (e 5) (e 7) (e 9) w K R3 = denL Try.prog (tabOf T12) 123 fuel ((flat (loopB (blkB (nthC (flat (bodyOf Try.f12)) 6)))).drop 3) e w (fun e w => R3 (e 1) (e 5) (e 7) (e 9) w) (endD Try.prog [.tmp 4] K) (blkK 0 (fun e w => F12_3 w K) noE) := by intro _; kernel_rfl
  exact seg_end (Eq.mp (e1 ()) h) hn hr he

def F12_8b (s1 : Value) (s5 : Value) (s7 : Value) (s9 : Value) (s10 : Value) (w : World) (K : Value → World → Prop) (R3 : Value → Value → Value → Value → World → Prop) (Y0 : Value → Value → Value → Value → World → Prop) : Prop :=
bindP (pFieldAddr 1 s10) fun v2 =>
bindP (ld1 v2 w) fun v3 =>
callP G71 [s5, s7, v3] w fun v5 w4 =>
bindP (uNot v5) fun v6 =>
ifB v6 (
K (.bool false) w4) (
Y0 s1 s5 s7 s9 w4)

def F12_8 (s1 : Value) (s5 : Value) (s7 : Value) (s9 : Value) (s10 : Value) (w : World) (K : Value → World → Prop) (R3 : Value → Value → Value → Value → World → Prop) : Prop := F12_8b s1 s5 s7 s9 s10 w K R3 (fun a1 a5 a7 a9 w => F12_6 a1 a5 a7 a9 w K R3)

theorem ok12_8 (R3 : Value → Value → Value → Value → World → Prop) {K : Value → World → Prop} {kn kr : Env → World → Prop} {ke : Nat → Env → World → Prop}
    (hn : ∀ e w, (fun e w => F12_6 (e 1) (e 5) (e 7) (e 9) w K R3) e w → kn e w) (hr : ∀ e w, endD Try.prog [.tmp 4] K e w → kr e w) (he : ∀ i e w, (blkK 1 (fun e w => F12_6 (e 1) (e 5) (e 7) (e 9) w K R3) (blkK 0 (fun e w => F12_3 w K) noE)) i e w → ke i e w) :
    ∀ e w, F12_8 (e 1) (e 5) (e 7) (e 9) (e 10) w K R3 → denL Try.prog (tabOf T12) 123 fuel ((flat (blkB (nthC (flat (loopB (blkB (nthC (flat (bodyOf Try.f12)) 6)))) 2))).drop 3) e w kn kr ke := by
  intro e w h
  unfold F12_8 at h
  have e1 : ∀ (Y0 : Value → Value → Value → Value → World → Prop), F12_8b (e 1) (e 5) (e 7) (e 9) (e 10) w K R3 Y0 = denL Try.prog (tabOf T12) 123 fuel ((flat (blkB (nthC (flat (loopB (blkB (nthC (flat (bodyOf Try.f12)) 6)))) 2))).drop 3) e w (fun e w => Y0 (e 1) (e 5) (e 7) (e 9) w) (endD Try.prog [.tmp 4] K) (blkK 1 (fun e w => Y0 (e 1) (e 5) (e 7) (e 9) w) (blkK 0 (fun e w => F12_3 w K) noE)) := by intro Y0; kernel_rfl
  exact seg_end (Eq.mp (e1 (fun a1 a5 a7 a9 w => F12_6 a1 a5 a7 a9 w K R3)) h) hn hr he

def F12_7b (s1 : Value) (s5 : Value) (s7 : Value) (s9 : Value) (w : World) (K : Value → World → Prop) (R3 : Value → Value → Value → Value → World → Prop) (Y0 : Value → Value → Value → Value → Value → World → Prop) : Prop :=
bindP (pIndexL 3 s1 s9) fun v7 =>
bindP (ldN 3 v7 w) fun v8 =>
eAlloc Try.prog 93 w fun v10 w9 =>
bindW (st 3 v10 v8 w9) fun w11 =>
bindP (pFieldAddr 0 v10) fun v13 =>
bindP (ld1 v13 w11) fun v14 =>
callP G23 [v14, (.int .i64 4)] w11 fun v16 w15 =>
bindP (bEq Try.prog 3 (.tmp 58) (.const (.int .i64 0)) v16 (.int .i64 0)) fun v17 =>
ifB v17 (
bindP (pFieldAddr 1 v10) fun v18 =>
bindP (ld1 v18 w15.drew) fun v19 =>
bindP (pFieldAddr 2 v10) fun v20 =>
bindP (ld1 v20 w15.drew) fun v21 =>
bindP (pFieldAddr 1 v10) fun v22 =>
bindP (ld1 v22 w15.drew) fun v23 =>
bindP (pFieldAddr 2 v10) fun v24 =>
bindP (ld1 v24 w15.drew) fun v25 =>
callP G28 [s5, v19, v21] w15.drew fun v27 w26 =>
(fok true (ld1 v22 w26) v23 ∧ fok true (ld1 v24 w26) v25) ∧ (callP G67 [s7, v23, v25] w26 fun v29 w28 =>
bindP (bNe Try.prog 24 (.tmp 86) (.tmp 92) v27 v29) fun v30 =>
ifB v30 (
K (.bool false) w28) (
Y0 s1 s5 s7 s9 v10 w28))) (
bindP (bEq Try.prog 3 (.tmp 58) (.const (.int .i64 1)) v16 (.int .i64 1)) fun v31 =>
ifB v31 (
bindP (pFieldAddr 1 v10) fun v32 =>
bindP (ld1 v32 w15.drew) fun v33 =>
bindP (pFieldAddr 1 v10) fun v34 =>
bindP (ld1 v34 w15.drew) fun v35 =>
callP G58 [s5, v33] w15.drew fun v37 w36 =>
fok true (ld1 v34 w36) v35 ∧ (callP G68 [s7, v35] w36 fun v39 w38 =>
bindP (bNe Try.prog 4 (.tmp 99) (.tmp 103) v37 v39) fun v40 =>
ifB v40 (
K (.bool false) w38) (
Y0 s1 s5 s7 s9 v10 w38))) (
bindP (bEq Try.prog 3 (.tmp 58) (.const (.int .i64 2)) v16 (.int .i64 2)) fun v41 =>
ifB v41 (
bindP (pFieldAddr 2 v10) fun v42 =>
bindP (ld1 v42 w15.drew) fun v43 =>
bindP (pFieldAddr 2 v10) fun v44 =>
bindP (ld1 v44 w15.drew) fun v45 =>
callP G31 [s5, v43] w15.drew fun v47 w46 =>
fok true (ld1 v44 w46) v45 ∧ (callP G70 [s7, v45] w46 fun v49 w48 =>
callP G69 [v47, v49] w48 fun v51 w50 =>
bindP (uNot v51) fun v52 =>
ifB v52 (
K (.bool false) w50) (
Y0 s1 s5 s7 s9 v10 w50))) (
callP G29 [s5] w15 fun v54 w53 =>
bindP (bEq Try.prog 39 (.tmp 61) (.const (.pointer none)) v54 (.pointer none)) fun v55 =>
stepM (gd false v55) v54 fun v56 =>
stepM (gd false v55) s7 fun v57 =>
Sx.stepG (gd false v55) (pFieldAddr 1 v10) fun v58 =>
Sx.stepG (gd false v55) (ld1 v58 w53) fun v59 =>
stepE (gd false v55) (fun k => callP G71 [v56, v57, v59] w53 k) w53 fun v61 w60 =>
Sx.stepG (gd false v55) (uNot v61) fun v62 =>
bindP (pPick v55 (.bool true) v62) fun v63 =>
ifB v63 (
K (.bool false) w60) (
bindP (pFieldAddr 1 v10) fun v64 =>
bindP (ld1 v64 w60) fun v65 =>
callP G28 [v54, v65, (.int .i64 5)] w60 fun _ w66 =>
bindP (pFieldAddr 2 v10) fun v68 =>
bindP (ld1 v68 w66) fun v69 =>
callP G31 [v54, v69] w66 fun _ w70 =>
Y0 s1 s5 s7 s9 v10 w70))))

def F12_7 (s1 : Value) (s5 : Value) (s7 : Value) (s9 : Value) (w : World) (K : Value → World → Prop) (R3 : Value → Value → Value → Value → World → Prop) : Prop := F12_7b s1 s5 s7 s9 w K R3 (fun a1 a5 a7 a9 a10 w => F12_8 a1 a5 a7 a9 a10 w K R3)

theorem ok12_7 (R3 : Value → Value → Value → Value → World → Prop) {K : Value → World → Prop} {kn kr : Env → World → Prop} {ke : Nat → Env → World → Prop}
    (hn : ∀ e w, (fun e w => F12_6 (e 1) (e 5) (e 7) (e 9) w K R3) e w → kn e w) (hr : ∀ e w, endD Try.prog [.tmp 4] K e w → kr e w) (he : ∀ i e w, (blkK 1 (fun e w => F12_6 (e 1) (e 5) (e 7) (e 9) w K R3) (blkK 0 (fun e w => F12_3 w K) noE)) i e w → ke i e w) :
    ∀ e w, F12_7 (e 1) (e 5) (e 7) (e 9) w K R3 → denL Try.prog (tabOf T12) 123 fuel ((flat (blkB (nthC (flat (loopB (blkB (nthC (flat (bodyOf Try.f12)) 6)))) 2))).drop 0) e w kn kr ke := by
  intro e w h
  unfold F12_7 at h
  have e1 : ∀ (Y0 : Value → Value → Value → Value → Value → World → Prop), F12_7b (e 1) (e 5) (e 7) (e 9) w K R3 Y0 = denL Try.prog (tabOf T12) 123 fuel (((flat (blkB (nthC (flat (loopB (blkB (nthC (flat (bodyOf Try.f12)) 6)))) 2))).drop 0).take 3) e w (fun e w => Y0 (e 1) (e 5) (e 7) (e 9) (e 10) w) (endD Try.prog [.tmp 4] K) (blkK 1 (fun e w => F12_6 (e 1) (e 5) (e 7) (e 9) w K R3) (blkK 0 (fun e w => F12_3 w K) noE)) := by intro Y0; kernel_rfl
  exact seg 3 (Eq.mp (e1 (fun a1 a5 a7 a9 a10 w => F12_8 a1 a5 a7 a9 a10 w K R3)) h) (fun e w h => ok12_8 R3 hn hr he e w h) hr he

def F12_5 (s1 : Value) (s5 : Value) (s7 : Value) (s9 : Value) (w : World) (K : Value → World → Prop) (R3 : Value → Value → Value → Value → World → Prop) : Prop := F12_7 s1 s5 s7 s9 w K R3

theorem ok12_5 (R3 : Value → Value → Value → Value → World → Prop) {K : Value → World → Prop} {kn kr : Env → World → Prop} {ke : Nat → Env → World → Prop}
    (hn : ∀ e w, (fun e w => R3 (e 1) (e 5) (e 7) (e 9) w) e w → kn e w) (hr : ∀ e w, endD Try.prog [.tmp 4] K e w → kr e w) (he : ∀ i e w, (blkK 0 (fun e w => F12_3 w K) noE) i e w → ke i e w) :
    ∀ e w, F12_5 (e 1) (e 5) (e 7) (e 9) w K R3 → denL Try.prog (tabOf T12) 123 fuel ((flat (loopB (blkB (nthC (flat (bodyOf Try.f12)) 6)))).drop 2) e w kn kr ke := by
  intro e w h
  unfold F12_5 at h
  refine seg_block (id := 1) (body := (blkB (nthC (flat (loopB (blkB (nthC (flat (bodyOf Try.f12)) 6)))) 2))) (l2 := (flat (loopB (blkB (nthC (flat (bodyOf Try.f12)) 6)))).drop 3) (by kernel_rfl) ?_
  exact ok12_7 R3 (fun e w h => ok12_6 R3 hn hr he e w h) hr (blkK_mono (fun e w h => ok12_6 R3 hn hr he e w h) he) e w h

def F12_4b (s1 : Value) (s5 : Value) (s7 : Value) (s9 : Value) (w : World) (_K : Value → World → Prop) (R3 : Value → Value → Value → Value → World → Prop) (Y0 : Value → Value → Value → Value → World → Prop) (Y1 : World → Prop) : Prop :=
bindP (bNe Try.prog 89 (.tmp 38) (.const (.pointer none)) s7 (.pointer none)) fun v72 =>
stepM (gd true v72) s9 fun v73 =>
stepM (gd true v72) s1 fun v74 =>
Sx.stepG (gd true v72) (lenL v74) fun v75 =>
Sx.stepG (gd true v72) (bLt v73 v75) fun v76 =>
bindP (pPick v72 v76 (.bool false)) fun v77 =>
stepM (gd true v77) s9 fun v78 =>
Sx.stepG (gd true v77) (bLt v78 (.int .i64 80)) fun v79 =>
bindP (pPick v77 v79 (.bool false)) fun v80 =>
ifB v80 (
Y0 s1 s5 s7 s9 w) (
Y1 w)

def F12_4 (s1 : Value) (s5 : Value) (s7 : Value) (s9 : Value) (w : World) (K : Value → World → Prop) (R3 : Value → Value → Value → Value → World → Prop) : Prop := F12_4b s1 s5 s7 s9 w K R3 (fun a1 a5 a7 a9 w => F12_5 a1 a5 a7 a9 w K R3) (fun w => F12_3 w K)

theorem ok12_4 (R3 : Value → Value → Value → Value → World → Prop) {K : Value → World → Prop} {kn kr : Env → World → Prop} {ke : Nat → Env → World → Prop}
    (hn : ∀ e w, (fun e w => R3 (e 1) (e 5) (e 7) (e 9) w) e w → kn e w) (hr : ∀ e w, endD Try.prog [.tmp 4] K e w → kr e w) (he : ∀ i e w, (blkK 0 (fun e w => F12_3 w K) noE) i e w → ke i e w) :
    ∀ e w, F12_4 (e 1) (e 5) (e 7) (e 9) w K R3 → denL Try.prog (tabOf T12) 123 fuel ((flat (loopB (blkB (nthC (flat (bodyOf Try.f12)) 6)))).drop 0) e w kn kr ke := by
  intro e w h
  unfold F12_4 at h
  have e1 : ∀ (Y0 : Value → Value → Value → Value → World → Prop) (Y1 : World → Prop), F12_4b (e 1) (e 5) (e 7) (e 9) w K R3 Y0 Y1 = denL Try.prog (tabOf T12) 123 fuel (((flat (loopB (blkB (nthC (flat (bodyOf Try.f12)) 6)))).drop 0).take 2) e w (fun e w => Y0 (e 1) (e 5) (e 7) (e 9) w) (endD Try.prog [.tmp 4] K) (blkK 0 (fun e w => Y1 w) noE) := by intro Y0 Y1; kernel_rfl
  exact seg 2 (Eq.mp (e1 (fun a1 a5 a7 a9 w => F12_5 a1 a5 a7 a9 w K R3) (fun w => F12_3 w K)) h) (fun e w h => ok12_5 R3 hn hr he e w h) hr he

def F12_2L : Nat → Value → Value → Value → Value → World → (Value → World → Prop) → Prop
  | 0, _, _, _, _, _, _ => False
  | n + 1, s1, s5, s7, s9, w, K => F12_4 s1 s5 s7 s9 w K (fun a1 a5 a7 a9 w => F12_2L n a1 a5 a7 a9 w K)

def F12_2 (s1 : Value) (s5 : Value) (s7 : Value) (s9 : Value) (w : World) (K : Value → World → Prop) : Prop := F12_2L fuel s1 s5 s7 s9 w K

theorem ok12_2 {K : Value → World → Prop} {kn kr : Env → World → Prop} {ke : Nat → Env → World → Prop}
    (hn : ∀ e w, (fun e w => K (e 4) w) e w → kn e w) (hr : ∀ e w, endD Try.prog [.tmp 4] K e w → kr e w) (he : ∀ i e w, noE i e w → ke i e w) :
    ∀ e w, F12_2 (e 1) (e 5) (e 7) (e 9) w K → denL Try.prog (tabOf T12) 123 fuel ((flat (bodyOf Try.f12)).drop 6) e w kn kr ke := by
  intro e w h
  unfold F12_2 at h
  refine seg_loop (id := 0) (body := (loopB (blkB (nthC (flat (bodyOf Try.f12)) 6)))) (l2 := (flat (bodyOf Try.f12)).drop 7) (by kernel_rfl) ?_
  refine loop_ok (FL := fun m e w => F12_2L m (e 1) (e 5) (e 7) (e 9) w K) (fr := endD Try.prog [.tmp 4] K) (fe := (blkK 0 (fun e w => F12_3 w K) noE)) (fun _ _ h => h) ?_ hr (blkK_mono (fun e w h => ok12_3 hn hr he e w h) he) fuel e w h
  intro m e w h
  have h : F12_2L (m + 1) (e 1) (e 5) (e 7) (e 9) w K := h
  rw [F12_2L] at h
  exact ok12_4 (fun a1 a5 a7 a9 w => F12_2L m a1 a5 a7 a9 w K) (fun _ _ h => h) (fun _ _ h => h) (fun _ _ _ h => h) e w h

def F12_1b (s0 : Value) (s1 : Value) (w : World) (K : Value → World → Prop) (Y0 : Value → Value → Value → Value → World → Prop) : Prop :=
callP G26 [s0] w fun v82 w81 =>
bindP (pTuple v82 0) fun v83 =>
bindP (pTuple v82 1) fun v84 =>
callP G66 [s0] w81 fun v86 w85 =>
bindP (pTuple v86 0) fun v87 =>
bindP (pTuple v86 1) fun v88 =>
bindP (bNe Try.prog 24 (.tmp 22) (.tmp 23) v84 v88) fun v89 =>
stepM (gd false v89) v83 fun v90 =>
Sx.stepG (gd false v89) (bEq Try.prog 39 (.tmp 26) (.const (.pointer none)) v90 (.pointer none)) fun v91 =>
stepM (gd false v89) v87 fun v92 =>
Sx.stepG (gd false v89) (bEq Try.prog 89 (.tmp 28) (.const (.pointer none)) v92 (.pointer none)) fun v93 =>
Sx.stepG (gd false v89) (bNe Try.prog 4 (.tmp 27) (.tmp 29) v91 v93) fun v94 =>
bindP (pPick v89 (.bool true) v94) fun v95 =>
bindP (pPick v95 (.bool true) (.bool false)) fun v96 =>
stepE (gd false v96) (fun k => callP G27 [] w85 k) w85 fun v98 w97 =>
Sx.stepG (gd false v96) (uNot v98) fun v99 =>
bindP (pPick v96 (.bool true) v99) fun v100 =>
ifB v100 (
K (.bool false) w97) (
Y0 s1 v83 v87 (.int .i64 0) w97)

def F12_1 (s0 : Value) (s1 : Value) (w : World) (K : Value → World → Prop) : Prop := F12_1b s0 s1 w K (fun a1 a5 a7 a9 w => F12_2 a1 a5 a7 a9 w K)

theorem ok12_1 {K : Value → World → Prop} {kn kr : Env → World → Prop} {ke : Nat → Env → World → Prop}
    (hn : ∀ e w, (fun e w => K (e 4) w) e w → kn e w) (hr : ∀ e w, endD Try.prog [.tmp 4] K e w → kr e w) (he : ∀ i e w, noE i e w → ke i e w) :
    ∀ e w, F12_1 (e 0) (e 1) w K → denL Try.prog (tabOf T12) 123 fuel ((flat (bodyOf Try.f12)).drop 0) e w kn kr ke := by
  intro e w h
  unfold F12_1 at h
  have e1 : ∀ (Y0 : Value → Value → Value → Value → World → Prop), F12_1b (e 0) (e 1) w K Y0 = denL Try.prog (tabOf T12) 123 fuel (((flat (bodyOf Try.f12)).drop 0).take 6) e w (fun e w => Y0 (e 1) (e 5) (e 7) (e 9) w) (endD Try.prog [.tmp 4] K) noE := by intro Y0; kernel_rfl
  exact seg 6 (Eq.mp (e1 (fun a1 a5 a7 a9 w => F12_2 a1 a5 a7 a9 w K)) h) (fun e w h => ok12_2 hn hr he e w h) hr he

def F12 (x0 : Value) (x1 : Value) (w : World) (K : Value → World → Prop) : Prop := F12_1 x0 x1 w K

def G12 : FnT := fun args w K => on2 (fun x0 x1 => F12 x0 x1 w K) args
theorem c12 {x0 x1 : Value} {w : World} {K : Value → World → Prop} (h : F12 x0 x1 w K) : callP G12 [x0, x1] w K := callP_intro h
theorem ok12 : OkF Try.prog 12 G12 := by
  refine okF_of (tab_ok (l := T12) ⟨ok23, ok26, ok27, ok28, ok29, ok31, ok58, ok66, ok67, ok68, ok69, ok70, ok71, trivial⟩) mixed (n := fuel) Try.func12 Try.call12 fun args w K h => ?_
  obtain ⟨x0, x1, rfl, hh⟩ := of_on2 h
  unfold F12 at hh
  exact fnD_list (c := bodyOf Try.f12) (by kernel_rfl) (by kernel_rfl) (ok12_1 (fun _ _ h => h) (fun _ _ h => h) (fun _ _ _ h => h) (initE [x0, x1]) w hh)

end Go.Proofs.Gong
