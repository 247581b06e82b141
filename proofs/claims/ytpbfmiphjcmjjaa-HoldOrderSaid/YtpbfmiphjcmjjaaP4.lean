/- A part of the proofs: what stands below it, told in lemmas. No condition. -/
import Derived.Test.YtpbfmiphjcmjjaaP1
import Derived.Test.YtpbfmiphjcmjjaaP2
import Derived.Test.YtpbfmiphjcmjjaaP3
set_option linter.all false

/- Hold1 -/
namespace Go.Proofs.Gong
open Go Go.Sx Go.Proofs
set_option linter.all false
set_option maxRecDepth 100000
-- 20 gong/gonglaw21.small
def T20 : List (Nat × FnT) := []
def F20 (x0 : Value) (w : World) (K : Value → World → Prop) : Prop :=
eBox 41 x0 w fun v2 w1 =>
bindP (pFieldAddr 2 v2) fun v3 =>
bindP (ld1 v3 w1) fun v4 =>
bindP (lenS v4) fun v5 =>
bindP (pFieldAddr 3 v2) fun v6 =>
bindP (ld1 v6 w1) fun v7 =>
bindP (lenS v7) fun v8 =>
bindP (bAdd v5 v8) fun v9 =>
bindP (pFieldAddr 5 v2) fun v10 =>
bindP (pFieldAddr 0 v10) fun v11 =>
bindP (ld1 v11 w1) fun v12 =>
bindP (lenS v12) fun v13 =>
bindP (bAdd v9 v13) fun v14 =>
bindP (pFieldAddr 5 v2) fun v15 =>
bindP (pFieldAddr 1 v15) fun v16 =>
bindP (ld1 v16 w1) fun v17 =>
bindP (lenS v17) fun v18 =>
bindP (bAdd v14 v18) fun v19 =>
bindP (pFieldAddr 5 v2) fun v20 =>
bindP (pFieldAddr 2 v20) fun v21 =>
bindP (ld1 v21 w1) fun v22 =>
bindP (lenS v22) fun v23 =>
bindP (bAdd v19 v23) fun v24 =>
bindP (pFieldAddr 5 v2) fun v25 =>
bindP (pFieldAddr 4 v25) fun v26 =>
bindP (ld1 v26 w1) fun v27 =>
bindP (lenS v27) fun v28 =>
bindP (bAdd v24 v28) fun v29 =>
bindP (bLt v29 (.int .i64 3000)) fun v30 =>
Sx.stepG (gd true v30) (pFieldAddr 10 v2) fun v31 =>
Sx.stepG (gd true v30) (ld1 v31 w1) fun v32 =>
Sx.stepG (gd true v30) (lenL v32) fun v33 =>
Sx.stepG (gd true v30) (bLt v33 (.int .i64 1100)) fun v34 =>
bindP (pPick v30 v34 (.bool false)) fun v35 =>
K v35 w1

def G20 : FnT := fun args w K => on1 (fun x0 => F20 x0 w K) args
theorem c20 {x0 : Value} {w : World} {K : Value → World → Prop} (h : F20 x0 w K) : callP G20 [x0] w K := callP_intro (on1_mk (p := fun x0 => F20 x0 w K) h)
theorem ok20 : OkF Try.prog 20 G20 := by
  refine okF_of (tab_ok (l := T20) trivial) mixed (n := fuel) Try.func20 Try.call20 fun args w K h => ?_
  obtain ⟨x0, rfl, hh⟩ := of_on1 h
  exact fnD_list (c := bodyOf Try.f20) (by kernel_rfl) (by kernel_rfl) (Eq.mp (by kernel_rfl) hh)

-- 104 gong/hold.empty
def T104 : List (Nat × FnT) := [(26, G26)]
def F104 (x0 : Value) (x1 : Value) (w : World) (K : Value → World → Prop) : Prop :=
callP G26 [x0] w fun v2 w1 =>
bindP (pTuple v2 0) fun v3 =>
bindP (pTuple v2 1) fun _ =>
bindP (fBuild Try.prog 155 [(0, v3)]) fun v5 =>
eMakeMap none w1 fun v7 w6 =>
eMakeMap none w6 fun v9 w8 =>
bindP (fBuild Try.prog 159 [(0, v5), (1, x0), (2, x1), (3, v7), (4, v9)]) fun v10 =>
eBox 159 v10 w8 fun v12 w11 =>
K v12 w11

def G104 : FnT := fun args w K => on2 (fun x0 x1 => F104 x0 x1 w K) args
theorem c104 {x0 x1 : Value} {w : World} {K : Value → World → Prop} (h : F104 x0 x1 w K) : callP G104 [x0, x1] w K := callP_intro (on2_mk (p := fun x0 x1 => F104 x0 x1 w K) h)
theorem ok104 : OkF Try.prog 104 G104 := by
  refine okF_of (tab_ok (l := T104) ⟨ok26, trivial⟩) mixed (n := fuel) Try.func104 Try.call104 fun args w K h => ?_
  obtain ⟨x0, x1, rfl, hh⟩ := of_on2 h
  exact fnD_list (c := bodyOf Try.f104) (by kernel_rfl) (by kernel_rfl) (Eq.mp (by kernel_rfl) hh)

-- 50 gong/hold.New
def T50 : List (Nat × FnT) := [(104, G104)]
def F50 (x0 : Value) (w : World) (K : Value → World → Prop) : Prop :=
bindP (bLt x0 (.int .i64 1)) fun v1 =>
stepM (gd false v1) x0 fun v2 =>
Sx.stepG (gd false v1) (bGt v2 (.int .i64 65536)) fun v3 =>
bindP (pPick v1 (.bool true) v3) fun v4 =>
ifB v4 (
K (.tuple #[(.pointer none), (.int .i64 1)]) w) (
callP G104 [x0, (.int .i64 1)] w fun v6 w5 =>
K (.tuple #[v6, (.int .i64 0)]) w5)

def G50 : FnT := fun args w K => on1 (fun x0 => F50 x0 w K) args
theorem c50 {x0 : Value} {w : World} {K : Value → World → Prop} (h : F50 x0 w K) : callP G50 [x0] w K := callP_intro (on1_mk (p := fun x0 => F50 x0 w K) h)
theorem ok50 : OkF Try.prog 50 G50 := by
  refine okF_of (tab_ok (l := T50) ⟨ok104, trivial⟩) mixed (n := fuel) Try.func50 Try.call50 fun args w K h => ?_
  obtain ⟨x0, rfl, hh⟩ := of_on1 h
  exact fnD_list (c := bodyOf Try.f50) (by kernel_rfl) (by kernel_rfl) (Eq.mp (by kernel_rfl) hh)

-- 113 cmp.Less[int]
def T113 : List (Nat × FnT) := [(139, G139)]
def F113 (x0 : Value) (x1 : Value) (w : World) (K : Value → World → Prop) : Prop :=
callP G139 [x0] w fun v2 w1 =>
stepM (gd true v2) x1 fun v3 =>
stepE (gd true v2) (fun k => callP G139 [v3] w1 k) w1 fun v5 w4 =>
Sx.stepG (gd true v2) (uNot v5) fun v6 =>
bindP (pPick v2 v6 (.bool false)) fun v7 =>
stepM (gd false v7) x0 fun v8 =>
stepM (gd false v7) x1 fun v9 =>
Sx.stepG (gd false v7) (bLt v8 v9) fun v10 =>
bindP (pPick v7 (.bool true) v10) fun v11 =>
K v11 w4

def G113 : FnT := fun args w K => on2 (fun x0 x1 => F113 x0 x1 w K) args
theorem c113 {x0 x1 : Value} {w : World} {K : Value → World → Prop} (h : F113 x0 x1 w K) : callP G113 [x0, x1] w K := callP_intro (on2_mk (p := fun x0 x1 => F113 x0 x1 w K) h)
theorem ok113 : OkF Try.prog 113 G113 := by
  refine okF_of (tab_ok (l := T113) ⟨ok139, trivial⟩) mixed (n := fuel) Try.func113 Try.call113 fun args w K h => ?_
  obtain ⟨x0, x1, rfl, hh⟩ := of_on2 h
  exact fnD_list (c := bodyOf Try.f113) (by kernel_rfl) (by kernel_rfl) (Eq.mp (by kernel_rfl) hh)

-- 71 slices.IsSorted[[]int,int]
def T71 : List (Nat × FnT) := [(113, G113)]
def F71_3b (w : World) (K : Value → World → Prop) : Prop :=
K (.bool true) w

def F71_3 (w : World) (K : Value → World → Prop) : Prop := F71_3b w K

theorem ok71_3 {K : Value → World → Prop} {kn kr : Env → World → Prop} {ke : Nat → Env → World → Prop}
    (hn : ∀ e w, (fun e w => K (e 2) w) e w → kn e w) (hr : ∀ e w, endD Try.prog [.tmp 2] K e w → kr e w) (he : ∀ i e w, noE i e w → ke i e w) :
    ∀ e w, F71_3 w K → denL Try.prog (tabOf T71) 21 fuel ((flat (bodyOf Try.f71)).drop 3) e w kn kr ke := by
  intro e w h
  unfold F71_3 at h
  have e1 : ∀ (_ : Unit), F71_3b w K = denL Try.prog (tabOf T71) 21 fuel ((flat (bodyOf Try.f71)).drop 3) e w (fun e w => K (e 2) w) (endD Try.prog [.tmp 2] K) noE := by intro _; kernel_rfl
  exact seg_end (Eq.mp (e1 ()) h) hn hr he

def F71_2b (s0 : Value) (s3 : Value) (w : World) (K : Value → World → Prop) (Y0 : Value → Value → World → Prop) (Y1 : World → Prop) : Prop :=
bindP (bGt s3 (.int .i64 0)) fun v1 =>
ifB v1 (
bindP (pIndexL 1 s0 s3) fun v2 =>
bindP (ld1 v2 w.drew) fun v3 =>
bindP (bSub s3 (.int .i64 1)) fun v4 =>
bindP (pIndexL 1 s0 v4) fun v5 =>
bindP (ld1 v5 w.drew) fun v6 =>
callP G113 [v3, v6] w.drew fun v8 w7 =>
ifB v8 (
K (.bool false) w7) (
bindP (bSub s3 (.int .i64 1)) fun v9 =>
Y0 s0 v9 w7)) (
Y1 w)

def F71_2L : Nat → Value → Value → World → (Value → World → Prop) → Prop
  | 0, _, _, _, _ => False
  | n + 1, s0, s3, w, K => F71_2b s0 s3 w K (fun a0 a3 w => F71_2L n a0 a3 w K) (fun w => F71_3 w K)

def F71_2 (s0 : Value) (s3 : Value) (w : World) (K : Value → World → Prop) : Prop := F71_2L fuel s0 s3 w K

theorem ok71_2 {K : Value → World → Prop} {kn kr : Env → World → Prop} {ke : Nat → Env → World → Prop}
    (hn : ∀ e w, (fun e w => K (e 2) w) e w → kn e w) (hr : ∀ e w, endD Try.prog [.tmp 2] K e w → kr e w) (he : ∀ i e w, noE i e w → ke i e w) :
    ∀ e w, F71_2 (e 0) (e 3) w K → denL Try.prog (tabOf T71) 21 fuel ((flat (bodyOf Try.f71)).drop 2) e w kn kr ke := by
  intro e w h
  unfold F71_2 at h
  refine seg_loop (id := 0) (body := (loopB (blkB (nthC (flat (bodyOf Try.f71)) 2)))) (l2 := (flat (bodyOf Try.f71)).drop 3) (by kernel_rfl) ?_
  refine loop_ok (FL := fun m e w => F71_2L m (e 0) (e 3) w K) (fr := endD Try.prog [.tmp 2] K) (fe := (blkK 0 (fun e w => F71_3 w K) noE)) (fun _ _ h => h) ?_ hr (blkK_mono (fun e w h => ok71_3 hn hr he e w h) he) fuel e w h
  intro m e w h
  have h : F71_2L (m + 1) (e 0) (e 3) w K := h
  rw [F71_2L] at h
  have e1 : ∀ (Y0 : Value → Value → World → Prop) (Y1 : World → Prop), F71_2b (e 0) (e 3) w K Y0 Y1 = denL Try.prog (tabOf T71) 21 fuel (flat (loopB (blkB (nthC (flat (bodyOf Try.f71)) 2)))) e w (fun e w => Y0 (e 0) (e 3) w) (endD Try.prog [.tmp 2] K) (blkK 0 (fun e w => Y1 w) noE) := by intro Y0 Y1; kernel_rfl
  exact Eq.mp (e1 (fun a0 a3 w => F71_2L m a0 a3 w K) (fun w => F71_3 w K)) h

def F71_1b (s0 : Value) (w : World) (_K : Value → World → Prop) (Y0 : Value → Value → World → Prop) : Prop :=
bindP (lenL s0) fun v10 =>
bindP (bSub v10 (.int .i64 1)) fun v11 =>
Y0 s0 v11 w

def F71_1 (s0 : Value) (w : World) (K : Value → World → Prop) : Prop := F71_1b s0 w K (fun a0 a3 w => F71_2 a0 a3 w K)

theorem ok71_1 {K : Value → World → Prop} {kn kr : Env → World → Prop} {ke : Nat → Env → World → Prop}
    (hn : ∀ e w, (fun e w => K (e 2) w) e w → kn e w) (hr : ∀ e w, endD Try.prog [.tmp 2] K e w → kr e w) (he : ∀ i e w, noE i e w → ke i e w) :
    ∀ e w, F71_1 (e 0) w K → denL Try.prog (tabOf T71) 21 fuel ((flat (bodyOf Try.f71)).drop 0) e w kn kr ke := by
  intro e w h
  unfold F71_1 at h
  have e1 : ∀ (Y0 : Value → Value → World → Prop), F71_1b (e 0) w K Y0 = denL Try.prog (tabOf T71) 21 fuel (((flat (bodyOf Try.f71)).drop 0).take 2) e w (fun e w => Y0 (e 0) (e 3) w) (endD Try.prog [.tmp 2] K) noE := by intro Y0; kernel_rfl
  exact seg 2 (Eq.mp (e1 (fun a0 a3 w => F71_2 a0 a3 w K)) h) (fun e w h => ok71_2 hn hr he e w h) hr he

def F71 (x0 : Value) (w : World) (K : Value → World → Prop) : Prop := F71_1 x0 w K

def G71 : FnT := fun args w K => on1 (fun x0 => F71 x0 w K) args
theorem c71 {x0 : Value} {w : World} {K : Value → World → Prop} (h : F71 x0 w K) : callP G71 [x0] w K := callP_intro (on1_mk (p := fun x0 => F71 x0 w K) h)
theorem ok71 : OkF Try.prog 71 G71 := by
  refine okF_of (tab_ok (l := T71) ⟨ok113, trivial⟩) mixed (n := fuel) Try.func71 Try.call71 fun args w K h => ?_
  obtain ⟨x0, rfl, hh⟩ := of_on1 h
  unfold F71 at hh
  exact fnD_list (c := bodyOf Try.f71) (by kernel_rfl) (by kernel_rfl) (ok71_1 (fun _ _ h => h) (fun _ _ h => h) (fun _ _ _ h => h) (initE [x0]) w hh)

-- 72 gong/hold.isTime
def T72 : List (Nat × FnT) := []
def F72 (x0 : Value) (w : World) (K : Value → World → Prop) : Prop :=
bindP (bGe x0 (.int .i64 0)) fun v1 =>
stepM (gd true v1) x0 fun v2 =>
Sx.stepG (gd true v1) (bLe v2 (.int .i64 2305843009213693952)) fun v3 =>
bindP (pPick v1 v3 (.bool false)) fun v4 =>
K v4 w

def G72 : FnT := fun args w K => on1 (fun x0 => F72 x0 w K) args
theorem c72 {x0 : Value} {w : World} {K : Value → World → Prop} (h : F72 x0 w K) : callP G72 [x0] w K := callP_intro (on1_mk (p := fun x0 => F72 x0 w K) h)
theorem ok72 : OkF Try.prog 72 G72 := by
  refine okF_of (tab_ok (l := T72) trivial) mixed (n := fuel) Try.func72 Try.call72 fun args w K h => ?_
  obtain ⟨x0, rfl, hh⟩ := of_on1 h
  exact fnD_list (c := bodyOf Try.f72) (by kernel_rfl) (by kernel_rfl) (Eq.mp (by kernel_rfl) hh)

-- 22 gong/hold.Check
def T22 : List (Nat × FnT) := [(61, G61), (71, G71), (72, G72)]
def F22_2b (s1 : Value) (s3 : Value) (s4 : Value) (s5 : Value) (w : World) (K : Value → World → Prop) : Prop :=
bindP (pFieldAddr 1 s1) fun v1 =>
bindP (ld1 v1 w) fun v2 =>
bindP (bLt v2 (.int .i64 0)) fun v3 =>
Sx.stepG (gd false v3) (pFieldAddr 1 s1) fun v4 =>
Sx.stepG (gd false v3) (ld1 v4 w) fun v5 =>
Sx.stepG (gd false v3) (bGt v5 (.int .i64 63)) fun v6 =>
bindP (pPick v3 (.bool true) v6) fun v7 =>
stepM (gd false v7) s3 fun v8 =>
Sx.stepG (gd false v7) (uNot v8) fun v9 =>
bindP (pPick v7 (.bool true) v9) fun v10 =>
stepM (gd false v10) s4 fun v11 =>
Sx.stepG (gd false v10) (uNot v11) fun v12 =>
bindP (pPick v10 (.bool true) v12) fun v13 =>
stepM (gd false v13) s5 fun v14 =>
Sx.stepG (gd false v13) (uNot v14) fun v15 =>
bindP (pPick v13 (.bool true) v15) fun v16 =>
Sx.stepG (gd false v16) (pFieldAddr 4 s1) fun v17 =>
Sx.stepG (gd false v16) (ld1 v17 w) fun v18 =>
stepE (gd false v16) (fun k => callP G72 [v18] w k) w fun v20 w19 =>
Sx.stepG (gd false v16) (uNot v20) fun v21 =>
bindP (pPick v16 (.bool true) v21) fun v22 =>
ifB v22 (
K (.int .i64 4) w19) (
K (.int .i64 0) w19)

def F22_2 (s1 : Value) (s3 : Value) (s4 : Value) (s5 : Value) (w : World) (K : Value → World → Prop) : Prop := F22_2b s1 s3 s4 s5 w K

theorem ok22_2 {K : Value → World → Prop} {kn kr : Env → World → Prop} {ke : Nat → Env → World → Prop}
    (hn : ∀ e w, (fun e w => K (e 2) w) e w → kn e w) (hr : ∀ e w, endD Try.prog [.tmp 2] K e w → kr e w) (he : ∀ i e w, noE i e w → ke i e w) :
    ∀ e w, F22_2 (e 1) (e 3) (e 4) (e 5) w K → denL Try.prog (tabOf T22) 81 fuel ((flat (bodyOf Try.f22)).drop 6) e w kn kr ke := by
  intro e w h
  unfold F22_2 at h
  have e1 : ∀ (_ : Unit), F22_2b (e 1) (e 3) (e 4) (e 5) w K = denL Try.prog (tabOf T22) 81 fuel ((flat (bodyOf Try.f22)).drop 6) e w (fun e w => K (e 2) w) (endD Try.prog [.tmp 2] K) noE := by intro _; kernel_rfl
  exact seg_end (Eq.mp (e1 ()) h) hn hr he

def F22_1b (s0 : Value) (w : World) (_K : Value → World → Prop) (Y0 : Value → Value → Value → Value → World → Prop) : Prop :=
eBox 41 s0 w fun v24 w23 =>
bindP (pFieldAddr 2 v24) fun v25 =>
bindP (ld1 v25 w23) fun v26 =>
bindP (pFieldAddr 3 v24) fun v27 =>
bindP (ld1 v27 w23) fun v28 =>
bindP (fBuild Try.prog 31 [(0, v26), (1, (.string ⟨#[99]⟩)), (2, v28)]) fun v29 =>
callP G61 [v29] w23 fun v31 w30 =>
bindP (bEq Try.prog 24 (.tmp 11) (.const (.int .i64 0)) v31 (.int .i64 0)) fun v32 =>
bindP (pFieldAddr 5 v24) fun v33 =>
bindP (ldN 5 v33 w30) fun v34 =>
bindP (fBuild Try.prog 31 []) fun v35 =>
bindP (bEq Try.prog 31 (.tmp 14) (.tmp 15) v34 v35) fun v36 =>
Sx.stepG (gd false v36) (pFieldAddr 5 v24) fun v37 =>
Sx.stepG (gd false v36) (ldN 5 v37 w30) fun v38 =>
stepE (gd false v36) (fun k => callP G61 [v38] w30 k) w30 fun v40 w39 =>
Sx.stepG (gd false v36) (bEq Try.prog 24 (.tmp 20) (.const (.int .i64 0)) v40 (.int .i64 0)) fun v41 =>
bindP (pPick v36 (.bool true) v41) fun v42 =>
bindP (pFieldAddr 10 v24) fun v43 =>
bindP (ld1 v43 w39) fun v44 =>
bindP (lenL v44) fun v45 =>
bindP (bLe v45 (.int .i64 1000)) fun v46 =>
Sx.stepG (gd true v46) (pFieldAddr 10 v24) fun v47 =>
Sx.stepG (gd true v46) (ld1 v47 w39) fun v48 =>
stepE (gd true v46) (fun k => callP G71 [v48] w39 k) w39 fun v50 w49 =>
bindP (pPick v46 v50 (.bool false)) fun v51 =>
Sx.stepG (gd true v51) (pFieldAddr 10 v24) fun v52 =>
Sx.stepG (gd true v51) (ld1 v52 w49) fun v53 =>
Sx.stepG (gd true v51) (lenL v53) fun v54 =>
Sx.stepG (gd true v51) (bGt v54 (.int .i64 0)) fun v55 =>
bindP (pPick v51 v55 (.bool false)) fun v56 =>
ifB v56 (
bindP (pFieldAddr 10 v24) fun v57 =>
bindP (ld1 v57 w49) fun v58 =>
bindP (pIndexL 1 v58 (.int .i64 0)) fun v59 =>
bindP (ld1 v59 w49) fun v60 =>
callP G72 [v60] w49 fun v62 w61 =>
Sx.stepG (gd true v62) (pFieldAddr 10 v24) fun v63 =>
Sx.stepG (gd true v62) (ld1 v63 w61) fun v64 =>
Sx.stepG (gd true v62) (pFieldAddr 10 v24) fun v65 =>
Sx.stepG (gd true v62) (ld1 v65 w61) fun v66 =>
Sx.stepG (gd true v62) (lenL v66) fun v67 =>
Sx.stepG (gd true v62) (bSub v67 (.int .i64 1)) fun v68 =>
Sx.stepG (gd true v62) (pIndexL 1 v64 v68) fun v69 =>
Sx.stepG (gd true v62) (ld1 v69 w61) fun v70 =>
stepE (gd true v62) (fun k => callP G72 [v70] w61 k) w61 fun v72 w71 =>
bindP (pPick v62 v72 (.bool false)) fun v73 =>
Y0 v24 v32 v42 v73 w71) (
Y0 v24 v32 v42 v51 w49)

def F22_1 (s0 : Value) (w : World) (K : Value → World → Prop) : Prop := F22_1b s0 w K (fun a1 a3 a4 a5 w => F22_2 a1 a3 a4 a5 w K)

theorem ok22_1 {K : Value → World → Prop} {kn kr : Env → World → Prop} {ke : Nat → Env → World → Prop}
    (hn : ∀ e w, (fun e w => K (e 2) w) e w → kn e w) (hr : ∀ e w, endD Try.prog [.tmp 2] K e w → kr e w) (he : ∀ i e w, noE i e w → ke i e w) :
    ∀ e w, F22_1 (e 0) w K → denL Try.prog (tabOf T22) 81 fuel ((flat (bodyOf Try.f22)).drop 0) e w kn kr ke := by
  intro e w h
  unfold F22_1 at h
  have e1 : ∀ (Y0 : Value → Value → Value → Value → World → Prop), F22_1b (e 0) w K Y0 = denL Try.prog (tabOf T22) 81 fuel (((flat (bodyOf Try.f22)).drop 0).take 6) e w (fun e w => Y0 (e 1) (e 3) (e 4) (e 5) w) (endD Try.prog [.tmp 2] K) noE := by intro Y0; kernel_rfl
  exact seg 6 (Eq.mp (e1 (fun a1 a3 a4 a5 w => F22_2 a1 a3 a4 a5 w K)) h) (fun e w h => ok22_2 hn hr he e w h) hr he

def F22 (x0 : Value) (w : World) (K : Value → World → Prop) : Prop := F22_1 x0 w K

def G22 : FnT := fun args w K => on1 (fun x0 => F22 x0 w K) args
theorem c22 {x0 : Value} {w : World} {K : Value → World → Prop} (h : F22 x0 w K) : callP G22 [x0] w K := callP_intro (on1_mk (p := fun x0 => F22 x0 w K) h)
theorem ok22 : OkF Try.prog 22 G22 := by
  refine okF_of (tab_ok (l := T22) ⟨ok61, ok71, ok72, trivial⟩) mixed (n := fuel) Try.func22 Try.call22 fun args w K h => ?_
  obtain ⟨x0, rfl, hh⟩ := of_on1 h
  unfold F22 at hh
  exact fnD_list (c := bodyOf Try.f22) (by kernel_rfl) (by kernel_rfl) (ok22_1 (fun _ _ h => h) (fun _ _ h => h) (fun _ _ _ h => h) (initE [x0]) w hh)

-- 73 gong/hold.of
def T73 : List (Nat × FnT) := []
def F73 (x0 : Value) (w : World) (K : Value → World → Prop) : Prop :=
eBox 41 x0 w fun v2 w1 =>
eAlloc Try.prog 122 w1 fun v4 w3 =>
bindP (pFieldAddr 1 v2) fun v5 =>
bindP (ld1 v5 w3) fun v6 =>
bindP (pFieldAddr 2 v2) fun v7 =>
bindP (ld1 v7 w3) fun v8 =>
bindP (pFieldAddr 3 v2) fun v9 =>
bindP (ld1 v9 w3) fun v10 =>
bindP (fBuild Try.prog 122 [(0, v6), (1, v8), (2, v10)]) fun v11 =>
bindW (st 3 v4 v11 w3) fun w12 =>
bindP (ldN 3 v4 w12) fun v14 =>
K v14 w12

def G73 : FnT := fun args w K => on1 (fun x0 => F73 x0 w K) args
theorem c73 {x0 : Value} {w : World} {K : Value → World → Prop} (h : F73 x0 w K) : callP G73 [x0] w K := callP_intro (on1_mk (p := fun x0 => F73 x0 w K) h)
theorem ok73 : OkF Try.prog 73 G73 := by
  refine okF_of (tab_ok (l := T73) trivial) mixed (n := fuel) Try.func73 Try.call73 fun args w K h => ?_
  obtain ⟨x0, rfl, hh⟩ := of_on1 h
  exact fnD_list (c := bodyOf Try.f73) (by kernel_rfl) (by kernel_rfl) (Eq.mp (by kernel_rfl) hh)

-- 130 slices.Clone[[]int,int]
def T130 : List (Nat × FnT) := []
def F130 (x0 : Value) (w : World) (K : Value → World → Prop) : Prop :=
bindP (bEq Try.prog 22 (.tmp 3) (.const (.slice none 0 0)) x0 (.slice none 0 0)) fun v1 =>
ifB v1 (
K (.slice none 0 0) w) (
eBuildSl Try.prog 22 0 [] w fun v3 w2 =>
eAppend Try.prog 22 22 v3 x0 w2 fun v5 w4 =>
K v5 w4)

def G130 : FnT := fun args w K => on1 (fun x0 => F130 x0 w K) args
theorem c130 {x0 : Value} {w : World} {K : Value → World → Prop} (h : F130 x0 w K) : callP G130 [x0] w K := callP_intro (on1_mk (p := fun x0 => F130 x0 w K) h)
theorem ok130 : OkF Try.prog 130 G130 := by
  refine okF_of (tab_ok (l := T130) trivial) mixed (n := fuel) Try.func130 Try.call130 fun args w K h => ?_
  obtain ⟨x0, rfl, hh⟩ := of_on1 h
  exact fnD_list (c := bodyOf Try.f130) (by kernel_rfl) (by kernel_rfl) (Eq.mp (by kernel_rfl) hh)

-- 105 gong/hold.own
def T105 : List (Nat × FnT) := [(130, G130)]
def F105 (x0 : Value) (w : World) (K : Value → World → Prop) : Prop :=
eBox 41 x0 w fun v2 w1 =>
eAlloc Try.prog 41 w1 fun v4 w3 =>
bindP (pFieldAddr 10 v2) fun v5 =>
bindP (ld1 v5 w3) fun v6 =>
callP G130 [v6] w3 fun v8 w7 =>
bindP (pFieldAddr 10 v2) fun v9 =>
bindW (st 1 v9 v8 w7) fun w10 =>
bindP (ldN 11 v2 w10) fun v12 =>
bindW (st 11 v4 v12 w10) fun w13 =>
bindP (ldN 11 v4 w13) fun v15 =>
K v15 w13

def G105 : FnT := fun args w K => on1 (fun x0 => F105 x0 w K) args
theorem c105 {x0 : Value} {w : World} {K : Value → World → Prop} (h : F105 x0 w K) : callP G105 [x0] w K := callP_intro (on1_mk (p := fun x0 => F105 x0 w K) h)
theorem ok105 : OkF Try.prog 105 G105 := by
  refine okF_of (tab_ok (l := T105) ⟨ok130, trivial⟩) mixed (n := fuel) Try.func105 Try.call105 fun args w K h => ?_
  obtain ⟨x0, rfl, hh⟩ := of_on1 h
  exact fnD_list (c := bodyOf Try.f105) (by kernel_rfl) (by kernel_rfl) (Eq.mp (by kernel_rfl) hh)

-- 131 (gong/hold.due).until
def T131 : List (Nat × FnT) := [(28, G28)]
def F131 (x0 : Value) (x1 : Value) (w : World) (K : Value → World → Prop) : Prop :=
eBox 155 x0 w fun v2 w1 =>
eBox 41 x1 w1 fun v4 w3 =>
bindP (pFieldAddr 0 v2) fun v5 =>
bindP (ld1 v5 w3) fun v6 =>
bindP (pFieldAddr 0 v4) fun v7 =>
bindP (ld1 v7 w3) fun v8 =>
bindP (pFieldAddr 4 v4) fun v9 =>
bindP (ld1 v9 w3) fun v10 =>
callP G28 [v6, v8, v10] w3 fun _ w11 =>
K (.tuple #[]) w11

def G131 : FnT := fun args w K => on2 (fun x0 x1 => F131 x0 x1 w K) args
theorem c131 {x0 x1 : Value} {w : World} {K : Value → World → Prop} (h : F131 x0 x1 w K) : callP G131 [x0, x1] w K := callP_intro (on2_mk (p := fun x0 x1 => F131 x0 x1 w K) h)
theorem ok131 : OkF Try.prog 131 G131 := by
  refine okF_of (tab_ok (l := T131) ⟨ok28, trivial⟩) mixed (n := fuel) Try.func131 Try.call131 fun args w K h => ?_
  obtain ⟨x0, x1, rfl, hh⟩ := of_on2 h
  exact fnD_list (c := bodyOf Try.f131) (by kernel_rfl) (by kernel_rfl) (Eq.mp (by kernel_rfl) hh)

-- 106 (*gong/hold.Hold).put
def T106 : List (Nat × FnT) := [(73, G73), (105, G105), (131, G131)]
def F106 (x0 : Value) (x1 : Value) (w : World) (K : Value → World → Prop) : Prop :=
eBox 41 x1 w fun v2 w1 =>
bindP (pNil x0) fun v3 =>
bindP (pFieldAddr 3 v3) fun v4 =>
bindP (ld1 v4 w1.drew) fun v5 =>
bindP (pFieldAddr 0 v2) fun v6 =>
bindP (ld1 v6 w1.drew) fun v7 =>
bindP (ldN 11 v2 w1.drew) fun v8 =>
callP G105 [v8] w1.drew fun v10 w9 =>
(fok true (ld1 v4 w9) v5 ∧ fok true (ld1 v6 w9) v7) ∧ (eMapSet Try.prog 156 v5 v7 v10 w9 fun _ w11 =>
bindP (pNil x0) fun v13 =>
bindP (pFieldAddr 4 v13) fun v14 =>
bindP (ld1 v14 w11.drew) fun v15 =>
bindP (ldN 11 v2 w11.drew) fun v16 =>
bindP (pFieldAddr 0 v2) fun v17 =>
bindP (ld1 v17 w11.drew) fun v18 =>
callP G73 [v16] w11.drew fun v20 w19 =>
(fok true (ld1 v14 w19) v15 ∧ fok true (ld1 v17 w19) v18) ∧ (eMapSet Try.prog 157 v15 v20 v18 w19 fun _ w21 =>
bindP (pNil x0) fun v23 =>
bindP (pFieldAddr 0 v23) fun v24 =>
bindP (ldN 1 v24 w21.drew) fun v25 =>
bindP (ldN 11 v2 w21.drew) fun v26 =>
callP G131 [v25, v26] w21.drew fun _ w27 =>
K (.tuple #[]) w27))

def G106 : FnT := fun args w K => on2 (fun x0 x1 => F106 x0 x1 w K) args
theorem c106 {x0 x1 : Value} {w : World} {K : Value → World → Prop} (h : F106 x0 x1 w K) : callP G106 [x0, x1] w K := callP_intro (on2_mk (p := fun x0 x1 => F106 x0 x1 w K) h)
theorem ok106 : OkF Try.prog 106 G106 := by
  refine okF_of (tab_ok (l := T106) ⟨ok73, ok105, ok131, trivial⟩) mixed (n := fuel) Try.func106 Try.call106 fun args w K h => ?_
  obtain ⟨x0, x1, rfl, hh⟩ := of_on2 h
  exact fnD_list (c := bodyOf Try.f106) (by kernel_rfl) (by kernel_rfl) (Eq.mp (by kernel_rfl) hh)

-- 53 (*gong/hold.Hold).Add
def T53 : List (Nat × FnT) := [(22, G22), (73, G73), (106, G106)]
def F53 (x0 : Value) (x1 : Value) (w : World) (K : Value → World → Prop) : Prop :=
eBox 41 x1 w fun v2 w1 =>
bindP (pNil x0) fun v3 =>
bindP (pFieldAddr 4 v3) fun v4 =>
bindP (ld1 v4 w1.drew) fun v5 =>
bindP (ldN 11 v2 w1.drew) fun v6 =>
callP G73 [v6] w1.drew fun v8 w7 =>
fok true (ld1 v4 w7) v5 ∧ (bindP (fLook Try.prog 157 v5 v8 true w7) fun v9 =>
bindP (pTuple v9 0) fun _ =>
bindP (pTuple v9 1) fun v11 =>
bindP (ldN 11 v2 w7) fun v12 =>
callP G22 [v12] w7 fun v14 w13 =>
bindP (bNe Try.prog 24 (.tmp 20) (.const (.int .i64 0)) v14 (.int .i64 0)) fun v15 =>
ifB v15 (
K (.tuple #[(.int .i64 0), (.int .i64 4)]) w13) (
ifB v11 (
K (.tuple #[(.int .i64 0), (.int .i64 6)]) w13) (
bindP (pNil x0) fun v16 =>
bindP (pFieldAddr 3 v16) fun v17 =>
bindP (ld1 v17 w13.drew) fun v18 =>
bindP (lenM v18 w13.drew) fun v19 =>
bindP (pNil x0) fun v20 =>
bindP (pFieldAddr 1 v20) fun v21 =>
bindP (ld1 v21 w13.drew) fun v22 =>
bindP (bGe v19 v22) fun v23 =>
ifB v23 (
K (.tuple #[(.int .i64 0), (.int .i64 200)]) w13.drew) (
bindP (pNil x0) fun v24 =>
bindP (pFieldAddr 2 v24) fun v25 =>
bindP (ld1 v25 w13.drew) fun v26 =>
bindP (pFieldAddr 0 v2) fun v27 =>
bindW (st 1 v27 v26 w13.drew) fun w28 =>
bindP (pNil x0) fun v30 =>
bindP (pFieldAddr 2 v30) fun v31 =>
bindP (ld1 v31 w28) fun v32 =>
bindP (bAdd v32 (.int .i64 1)) fun v33 =>
bindP (pNil x0) fun v34 =>
bindP (pFieldAddr 2 v34) fun v35 =>
bindW (st 1 v35 v33 w28) fun w36 =>
bindP (ldN 11 v2 w36) fun v38 =>
callP G106 [x0, v38] w36 fun _ w39 =>
bindP (pFieldAddr 0 v2) fun v41 =>
bindP (ld1 v41 w39) fun v42 =>
K (.tuple #[v42, (.int .i64 0)]) w39))))

def G53 : FnT := fun args w K => on2 (fun x0 x1 => F53 x0 x1 w K) args
theorem c53 {x0 x1 : Value} {w : World} {K : Value → World → Prop} (h : F53 x0 x1 w K) : callP G53 [x0, x1] w K := callP_intro (on2_mk (p := fun x0 x1 => F53 x0 x1 w K) h)
theorem ok53 : OkF Try.prog 53 G53 := by
  refine okF_of (tab_ok (l := T53) ⟨ok22, ok73, ok106, trivial⟩) mixed (n := fuel) Try.func53 Try.call53 fun args w K h => ?_
  obtain ⟨x0, x1, rfl, hh⟩ := of_on2 h
  exact fnD_list (c := bodyOf Try.f53) (by kernel_rfl) (by kernel_rfl) (Eq.mp (by kernel_rfl) hh)

-- 58 (*gong/hold.Hold).Len
def T58 : List (Nat × FnT) := []
def F58 (x0 : Value) (w : World) (K : Value → World → Prop) : Prop :=
bindP (pNil x0) fun v1 =>
bindP (pFieldAddr 3 v1) fun v2 =>
bindP (ld1 v2 w) fun v3 =>
bindP (lenM v3 w) fun v4 =>
K v4 w

def G58 : FnT := fun args w K => on1 (fun x0 => F58 x0 w K) args
theorem c58 {x0 : Value} {w : World} {K : Value → World → Prop} (h : F58 x0 w K) : callP G58 [x0] w K := callP_intro (on1_mk (p := fun x0 => F58 x0 w K) h)
theorem ok58 : OkF Try.prog 58 G58 := by
  refine okF_of (tab_ok (l := T58) trivial) mixed (n := fuel) Try.func58 Try.call58 fun args w K h => ?_
  obtain ⟨x0, rfl, hh⟩ := of_on1 h
  exact fnD_list (c := bodyOf Try.f58) (by kernel_rfl) (by kernel_rfl) (Eq.mp (by kernel_rfl) hh)

-- 21 gong/gonglaw21.works
def T21 : List (Nat × FnT) := [(50, G50), (53, G53), (58, G58)]
def F21 (w : World) (K : Value → World → Prop) : Prop :=
callP G50 [(.int .i64 9)] w fun v2 w1 =>
bindP (pTuple v2 0) fun v3 =>
bindP (pTuple v2 1) fun v4 =>
bindP (bEq Try.prog 93 (.tmp 12) (.const (.pointer none)) v3 (.pointer none)) fun v5 =>
stepM (gd false v5) v4 fun v6 =>
Sx.stepG (gd false v5) (bNe Try.prog 24 (.tmp 15) (.const (.int .i64 0)) v6 (.int .i64 0)) fun v7 =>
bindP (pPick v5 (.bool true) v7) fun v8 =>
ifB v8 (
K (.bool false) w1) (
bindP (fBuild Try.prog 41 [(2, (.string ⟨#[97]⟩))]) fun v9 =>
callP G53 [v3, v9] w1 fun v11 w10 =>
bindP (pTuple v11 0) fun v12 =>
bindP (pTuple v11 1) fun v13 =>
bindP (fBuild Try.prog 41 [(2, (.string ⟨#[98]⟩))]) fun v14 =>
callP G53 [v3, v14] w10 fun v16 w15 =>
bindP (pTuple v16 0) fun v17 =>
bindP (pTuple v16 1) fun v18 =>
bindP (fBuild Try.prog 41 [(2, (.string ⟨#[97]⟩))]) fun v19 =>
callP G53 [v3, v19] w15 fun v21 w20 =>
bindP (pTuple v21 0) fun _ =>
bindP (pTuple v21 1) fun v23 =>
bindP (bEq Try.prog 3 (.tmp 36) (.const (.int .i64 1)) v12 (.int .i64 1)) fun v24 =>
stepM (gd true v24) v13 fun v25 =>
Sx.stepG (gd true v24) (bEq Try.prog 24 (.tmp 39) (.const (.int .i64 0)) v25 (.int .i64 0)) fun v26 =>
bindP (pPick v24 v26 (.bool false)) fun v27 =>
stepM (gd true v27) v17 fun v28 =>
Sx.stepG (gd true v27) (bEq Try.prog 3 (.tmp 43) (.const (.int .i64 2)) v28 (.int .i64 2)) fun v29 =>
bindP (pPick v27 v29 (.bool false)) fun v30 =>
stepM (gd true v30) v18 fun v31 =>
Sx.stepG (gd true v30) (bEq Try.prog 24 (.tmp 47) (.const (.int .i64 0)) v31 (.int .i64 0)) fun v32 =>
bindP (pPick v30 v32 (.bool false)) fun v33 =>
stepM (gd true v33) v23 fun v34 =>
Sx.stepG (gd true v33) (bEq Try.prog 24 (.tmp 51) (.const (.int .i64 6)) v34 (.int .i64 6)) fun v35 =>
bindP (pPick v33 v35 (.bool false)) fun v36 =>
stepM (gd true v36) v3 fun v37 =>
stepE (gd true v36) (fun k => callP G58 [v37] w20 k) w20 fun v39 w38 =>
Sx.stepG (gd true v36) (bEq Try.prog 3 (.tmp 56) (.const (.int .i64 2)) v39 (.int .i64 2)) fun v40 =>
bindP (pPick v36 v40 (.bool false)) fun v41 =>
K v41 w38)

def G21 : FnT := fun args w K => on0 (F21 w K) args
theorem c21 {w : World} {K : Value → World → Prop} (h : F21 w K) : callP G21 [] w K := callP_intro (on0_mk (p := F21 w K) h)
theorem ok21 : OkF Try.prog 21 G21 := by
  refine okF_of (tab_ok (l := T21) ⟨ok50, ok53, ok58, trivial⟩) mixed (n := fuel) Try.func21 Try.call21 fun args w K h => ?_
  obtain ⟨rfl, hh⟩ := of_on0 h
  exact fnD_list (c := bodyOf Try.f21) (by kernel_rfl) (by kernel_rfl) (Eq.mp (by kernel_rfl) hh)

-- 23 gong/gongref21.Check
def T23 : List (Nat × FnT) := [(68, G68), (69, G69)]
def F23_3b (w : World) (K : Value → World → Prop) : Prop :=
K (.int .i64 0) w

def F23_3 (w : World) (K : Value → World → Prop) : Prop := F23_3b w K

theorem ok23_3 {K : Value → World → Prop} {kn kr : Env → World → Prop} {ke : Nat → Env → World → Prop}
    (hn : ∀ e w, (fun e w => K (e 2) w) e w → kn e w) (hr : ∀ e w, endD Try.prog [.tmp 2] K e w → kr e w) (he : ∀ i e w, noE i e w → ke i e w) :
    ∀ e w, F23_3 w K → denL Try.prog (tabOf T23) 83 fuel ((flat (bodyOf Try.f23)).drop 7) e w kn kr ke := by
  intro e w h
  unfold F23_3 at h
  have e1 : ∀ (_ : Unit), F23_3b w K = denL Try.prog (tabOf T23) 83 fuel ((flat (bodyOf Try.f23)).drop 7) e w (fun e w => K (e 2) w) (endD Try.prog [.tmp 2] K) noE := by intro _; kernel_rfl
  exact seg_end (Eq.mp (e1 ()) h) hn hr he

def F23_2b (s1 : Value) (s5 : Value) (w : World) (K : Value → World → Prop) (Y0 : Value → Value → World → Prop) (Y1 : World → Prop) : Prop :=
bindP (pFieldAddr 10 s1) fun v1 =>
bindP (ld1 v1 w) fun v2 =>
bindP (lenL v2) fun v3 =>
bindP (bLt s5 v3) fun v4 =>
ifB v4 (
bindP (pFieldAddr 10 s1) fun v5 =>
bindP (ld1 v5 w.drew) fun v6 =>
bindP (pIndexL 1 v6 s5) fun v7 =>
bindP (ld1 v7 w.drew) fun v8 =>
callP G69 [v8] w.drew fun v10 w9 =>
bindP (uNot v10) fun v11 =>
stepM (gd false v11) s5 fun v12 =>
Sx.stepG (gd false v11) (bGt v12 (.int .i64 0)) fun v13 =>
stepM (gd false v11) v13 fun v14 =>
Sx.stepG (gd true v14) (pFieldAddr 10 s1) fun v15 =>
Sx.stepG (gd true v14) (ld1 v15 w9) fun v16 =>
stepM (gd true v14) s5 fun v17 =>
Sx.stepG (gd true v14) (bSub v17 (.int .i64 1)) fun v18 =>
Sx.stepG (gd true v14) (pIndexL 1 v16 v18) fun v19 =>
Sx.stepG (gd true v14) (ld1 v19 w9) fun v20 =>
Sx.stepG (gd true v14) (pFieldAddr 10 s1) fun v21 =>
Sx.stepG (gd true v14) (ld1 v21 w9) fun v22 =>
stepM (gd true v14) s5 fun v23 =>
Sx.stepG (gd true v14) (pIndexL 1 v22 v23) fun v24 =>
Sx.stepG (gd true v14) (ld1 v24 w9) fun v25 =>
Sx.stepG (gd true v14) (bGt v20 v25) fun v26 =>
Sx.stepG (gd false v11) (pPick v14 v26 (.bool false)) fun v27 =>
bindP (pPick v11 (.bool true) v27) fun v28 =>
ifB v28 (
K (.int .i64 4) w9) (
bindP (bAdd s5 (.int .i64 1)) fun v29 =>
Y0 s1 v29 w9)) (
Y1 w)

def F23_2L : Nat → Value → Value → World → (Value → World → Prop) → Prop
  | 0, _, _, _, _ => False
  | n + 1, s1, s5, w, K => F23_2b s1 s5 w K (fun a1 a5 w => F23_2L n a1 a5 w K) (fun w => F23_3 w K)

def F23_2 (s1 : Value) (s5 : Value) (w : World) (K : Value → World → Prop) : Prop := F23_2L fuel s1 s5 w K

theorem ok23_2 {K : Value → World → Prop} {kn kr : Env → World → Prop} {ke : Nat → Env → World → Prop}
    (hn : ∀ e w, (fun e w => K (e 2) w) e w → kn e w) (hr : ∀ e w, endD Try.prog [.tmp 2] K e w → kr e w) (he : ∀ i e w, noE i e w → ke i e w) :
    ∀ e w, F23_2 (e 1) (e 5) w K → denL Try.prog (tabOf T23) 83 fuel ((flat (bodyOf Try.f23)).drop 6) e w kn kr ke := by
  intro e w h
  unfold F23_2 at h
  refine seg_loop (id := 0) (body := (loopB (blkB (nthC (flat (bodyOf Try.f23)) 6)))) (l2 := (flat (bodyOf Try.f23)).drop 7) (by kernel_rfl) ?_
  refine loop_ok (FL := fun m e w => F23_2L m (e 1) (e 5) w K) (fr := endD Try.prog [.tmp 2] K) (fe := (blkK 0 (fun e w => F23_3 w K) noE)) (fun _ _ h => h) ?_ hr (blkK_mono (fun e w h => ok23_3 hn hr he e w h) he) fuel e w h
  intro m e w h
  have h : F23_2L (m + 1) (e 1) (e 5) w K := h
  rw [F23_2L] at h
  have e1 : ∀ (Y0 : Value → Value → World → Prop) (Y1 : World → Prop), F23_2b (e 1) (e 5) w K Y0 Y1 = denL Try.prog (tabOf T23) 83 fuel (flat (loopB (blkB (nthC (flat (bodyOf Try.f23)) 6)))) e w (fun e w => Y0 (e 1) (e 5) w) (endD Try.prog [.tmp 2] K) (blkK 0 (fun e w => Y1 w) noE) := by intro Y0 Y1; kernel_rfl
  exact Eq.mp (e1 (fun a1 a5 w => F23_2L m a1 a5 w K) (fun w => F23_3 w K)) h

def F23_1b (s0 : Value) (w : World) (K : Value → World → Prop) (Y0 : Value → Value → World → Prop) : Prop :=
eBox 41 s0 w fun v31 w30 =>
bindP (pFieldAddr 2 v31) fun v32 =>
bindP (ld1 v32 w30) fun v33 =>
bindP (pFieldAddr 3 v31) fun v34 =>
bindP (ld1 v34 w30) fun v35 =>
bindP (fBuild Try.prog 31 [(0, v33), (1, (.string ⟨#[120]⟩)), (2, v35)]) fun v36 =>
callP G68 [v36] w30 fun v38 w37 =>
bindP (bEq Try.prog 24 (.tmp 11) (.const (.int .i64 0)) v38 (.int .i64 0)) fun v39 =>
bindP (pFieldAddr 5 v31) fun v40 =>
bindP (ldN 5 v40 w37) fun v41 =>
bindP (fBuild Try.prog 31 []) fun v42 =>
bindP (bEq Try.prog 31 (.tmp 14) (.tmp 15) v41 v42) fun v43 =>
Sx.stepG (gd false v43) (pFieldAddr 5 v31) fun v44 =>
Sx.stepG (gd false v43) (ldN 5 v44 w37) fun v45 =>
stepE (gd false v43) (fun k => callP G68 [v45] w37 k) w37 fun v47 w46 =>
Sx.stepG (gd false v43) (bEq Try.prog 24 (.tmp 20) (.const (.int .i64 0)) v47 (.int .i64 0)) fun v48 =>
bindP (pPick v43 (.bool true) v48) fun v49 =>
bindP (pFieldAddr 1 v31) fun v50 =>
bindP (ld1 v50 w46) fun v51 =>
bindP (bLt v51 (.int .i64 0)) fun v52 =>
Sx.stepG (gd false v52) (pFieldAddr 1 v31) fun v53 =>
Sx.stepG (gd false v52) (ld1 v53 w46) fun v54 =>
Sx.stepG (gd false v52) (bGt v54 (.int .i64 63)) fun v55 =>
bindP (pPick v52 (.bool true) v55) fun v56 =>
stepM (gd false v56) v39 fun v57 =>
Sx.stepG (gd false v56) (uNot v57) fun v58 =>
bindP (pPick v56 (.bool true) v58) fun v59 =>
Sx.stepG (gd false v59) (pFieldAddr 4 v31) fun v60 =>
Sx.stepG (gd false v59) (ld1 v60 w46) fun v61 =>
stepE (gd false v59) (fun k => callP G69 [v61] w46 k) w46 fun v63 w62 =>
Sx.stepG (gd false v59) (uNot v63) fun v64 =>
bindP (pPick v59 (.bool true) v64) fun v65 =>
stepM (gd false v65) v49 fun v66 =>
Sx.stepG (gd false v65) (uNot v66) fun v67 =>
bindP (pPick v65 (.bool true) v67) fun v68 =>
Sx.stepG (gd false v68) (pFieldAddr 10 v31) fun v69 =>
Sx.stepG (gd false v68) (ld1 v69 w62) fun v70 =>
Sx.stepG (gd false v68) (lenL v70) fun v71 =>
Sx.stepG (gd false v68) (bGt v71 (.int .i64 1000)) fun v72 =>
bindP (pPick v68 (.bool true) v72) fun v73 =>
ifB v73 (
K (.int .i64 4) w62) (
Y0 v31 (.int .i64 0) w62)

def F23_1 (s0 : Value) (w : World) (K : Value → World → Prop) : Prop := F23_1b s0 w K (fun a1 a5 w => F23_2 a1 a5 w K)

theorem ok23_1 {K : Value → World → Prop} {kn kr : Env → World → Prop} {ke : Nat → Env → World → Prop}
    (hn : ∀ e w, (fun e w => K (e 2) w) e w → kn e w) (hr : ∀ e w, endD Try.prog [.tmp 2] K e w → kr e w) (he : ∀ i e w, noE i e w → ke i e w) :
    ∀ e w, F23_1 (e 0) w K → denL Try.prog (tabOf T23) 83 fuel ((flat (bodyOf Try.f23)).drop 0) e w kn kr ke := by
  intro e w h
  unfold F23_1 at h
  have e1 : ∀ (Y0 : Value → Value → World → Prop), F23_1b (e 0) w K Y0 = denL Try.prog (tabOf T23) 83 fuel (((flat (bodyOf Try.f23)).drop 0).take 6) e w (fun e w => Y0 (e 1) (e 5) w) (endD Try.prog [.tmp 2] K) noE := by intro Y0; kernel_rfl
  exact seg 6 (Eq.mp (e1 (fun a1 a5 w => F23_2 a1 a5 w K)) h) (fun e w h => ok23_2 hn hr he e w h) hr he

def F23 (x0 : Value) (w : World) (K : Value → World → Prop) : Prop := F23_1 x0 w K

def G23 : FnT := fun args w K => on1 (fun x0 => F23 x0 w K) args
theorem c23 {x0 : Value} {w : World} {K : Value → World → Prop} (h : F23 x0 w K) : callP G23 [x0] w K := callP_intro (on1_mk (p := fun x0 => F23 x0 w K) h)
theorem ok23 : OkF Try.prog 23 G23 := by
  refine okF_of (tab_ok (l := T23) ⟨ok68, ok69, trivial⟩) mixed (n := fuel) Try.func23 Try.call23 fun args w K h => ?_
  obtain ⟨x0, rfl, hh⟩ := of_on1 h
  unfold F23 at hh
  exact fnD_list (c := bodyOf Try.f23) (by kernel_rfl) (by kernel_rfl) (ok23_1 (fun _ _ h => h) (fun _ _ h => h) (fun _ _ _ h => h) (initE [x0]) w hh)

-- 74 slices.Equal[[]int,int]
def T74 : List (Nat × FnT) := []
def F74_3b (w : World) (K : Value → World → Prop) : Prop :=
K (.bool true) w

def F74_3 (w : World) (K : Value → World → Prop) : Prop := F74_3b w K

theorem ok74_3 {K : Value → World → Prop} {kn kr : Env → World → Prop} {ke : Nat → Env → World → Prop}
    (hn : ∀ e w, (fun e w => K (e 4) w) e w → kn e w) (hr : ∀ e w, endD Try.prog [.tmp 4] K e w → kr e w) (he : ∀ i e w, noE i e w → ke i e w) :
    ∀ e w, F74_3 w K → denL Try.prog (tabOf T74) 26 fuel ((flat (bodyOf Try.f74)).drop 5) e w kn kr ke := by
  intro e w h
  unfold F74_3 at h
  have e1 : ∀ (_ : Unit), F74_3b w K = denL Try.prog (tabOf T74) 26 fuel ((flat (bodyOf Try.f74)).drop 5) e w (fun e w => K (e 4) w) (endD Try.prog [.tmp 4] K) noE := by intro _; kernel_rfl
  exact seg_end (Eq.mp (e1 ()) h) hn hr he

def F74_2b (s0 : Value) (s1 : Value) (s12 : Value) (s13 : Value) (w : World) (K : Value → World → Prop) (Y0 : Value → Value → Value → Value → World → Prop) (Y1 : World → Prop) : Prop :=
bindP (bLt s13 s12) fun v1 =>
ifB v1 (
bindP (pIndexL 1 s0 s13) fun v2 =>
bindP (ld1 v2 w.drew) fun v3 =>
bindP (pIndexL 1 s1 s13) fun v4 =>
bindP (ld1 v4 w.drew) fun v5 =>
bindP (bNe Try.prog 3 (.tmp 19) (.tmp 23) v3 v5) fun v6 =>
ifB v6 (
K (.bool false) w.drew) (
bindP (bAdd s13 (.int .i64 1)) fun v7 =>
Y0 s0 s1 s12 v7 w.drew)) (
Y1 w)

def F74_2L : Nat → Value → Value → Value → Value → World → (Value → World → Prop) → Prop
  | 0, _, _, _, _, _, _ => False
  | n + 1, s0, s1, s12, s13, w, K => F74_2b s0 s1 s12 s13 w K (fun a0 a1 a12 a13 w => F74_2L n a0 a1 a12 a13 w K) (fun w => F74_3 w K)

def F74_2 (s0 : Value) (s1 : Value) (s12 : Value) (s13 : Value) (w : World) (K : Value → World → Prop) : Prop := F74_2L fuel s0 s1 s12 s13 w K

theorem ok74_2 {K : Value → World → Prop} {kn kr : Env → World → Prop} {ke : Nat → Env → World → Prop}
    (hn : ∀ e w, (fun e w => K (e 4) w) e w → kn e w) (hr : ∀ e w, endD Try.prog [.tmp 4] K e w → kr e w) (he : ∀ i e w, noE i e w → ke i e w) :
    ∀ e w, F74_2 (e 0) (e 1) (e 12) (e 13) w K → denL Try.prog (tabOf T74) 26 fuel ((flat (bodyOf Try.f74)).drop 4) e w kn kr ke := by
  intro e w h
  unfold F74_2 at h
  refine seg_loop (id := 0) (body := (loopB (blkB (nthC (flat (bodyOf Try.f74)) 4)))) (l2 := (flat (bodyOf Try.f74)).drop 5) (by kernel_rfl) ?_
  refine loop_ok (FL := fun m e w => F74_2L m (e 0) (e 1) (e 12) (e 13) w K) (fr := endD Try.prog [.tmp 4] K) (fe := (blkK 0 (fun e w => F74_3 w K) noE)) (fun _ _ h => h) ?_ hr (blkK_mono (fun e w h => ok74_3 hn hr he e w h) he) fuel e w h
  intro m e w h
  have h : F74_2L (m + 1) (e 0) (e 1) (e 12) (e 13) w K := h
  rw [F74_2L] at h
  have e1 : ∀ (Y0 : Value → Value → Value → Value → World → Prop) (Y1 : World → Prop), F74_2b (e 0) (e 1) (e 12) (e 13) w K Y0 Y1 = denL Try.prog (tabOf T74) 26 fuel (flat (loopB (blkB (nthC (flat (bodyOf Try.f74)) 4)))) e w (fun e w => Y0 (e 0) (e 1) (e 12) (e 13) w) (endD Try.prog [.tmp 4] K) (blkK 0 (fun e w => Y1 w) noE) := by intro Y0 Y1; kernel_rfl
  exact Eq.mp (e1 (fun a0 a1 a12 a13 w => F74_2L m a0 a1 a12 a13 w K) (fun w => F74_3 w K)) h

def F74_1b (s0 : Value) (s1 : Value) (w : World) (K : Value → World → Prop) (Y0 : Value → Value → Value → Value → World → Prop) : Prop :=
bindP (lenL s0) fun v8 =>
bindP (lenL s1) fun v9 =>
bindP (bNe Try.prog 3 (.tmp 7) (.tmp 9) v8 v9) fun v10 =>
ifB v10 (
K (.bool false) w) (
bindP (lenL s0) fun v11 =>
Y0 s0 s1 v11 (.int .i64 0) w)

def F74_1 (s0 : Value) (s1 : Value) (w : World) (K : Value → World → Prop) : Prop := F74_1b s0 s1 w K (fun a0 a1 a12 a13 w => F74_2 a0 a1 a12 a13 w K)

theorem ok74_1 {K : Value → World → Prop} {kn kr : Env → World → Prop} {ke : Nat → Env → World → Prop}
    (hn : ∀ e w, (fun e w => K (e 4) w) e w → kn e w) (hr : ∀ e w, endD Try.prog [.tmp 4] K e w → kr e w) (he : ∀ i e w, noE i e w → ke i e w) :
    ∀ e w, F74_1 (e 0) (e 1) w K → denL Try.prog (tabOf T74) 26 fuel ((flat (bodyOf Try.f74)).drop 0) e w kn kr ke := by
  intro e w h
  unfold F74_1 at h
  have e1 : ∀ (Y0 : Value → Value → Value → Value → World → Prop), F74_1b (e 0) (e 1) w K Y0 = denL Try.prog (tabOf T74) 26 fuel (((flat (bodyOf Try.f74)).drop 0).take 4) e w (fun e w => Y0 (e 0) (e 1) (e 12) (e 13) w) (endD Try.prog [.tmp 4] K) noE := by intro Y0; kernel_rfl
  exact seg 4 (Eq.mp (e1 (fun a0 a1 a12 a13 w => F74_2 a0 a1 a12 a13 w K)) h) (fun e w h => ok74_2 hn hr he e w h) hr he

def F74 (x0 : Value) (x1 : Value) (w : World) (K : Value → World → Prop) : Prop := F74_1 x0 x1 w K

def G74 : FnT := fun args w K => on2 (fun x0 x1 => F74 x0 x1 w K) args
theorem c74 {x0 x1 : Value} {w : World} {K : Value → World → Prop} (h : F74 x0 x1 w K) : callP G74 [x0, x1] w K := callP_intro (on2_mk (p := fun x0 x1 => F74 x0 x1 w K) h)
theorem ok74 : OkF Try.prog 74 G74 := by
  refine okF_of (tab_ok (l := T74) trivial) mixed (n := fuel) Try.func74 Try.call74 fun args w K h => ?_
  obtain ⟨x0, x1, rfl, hh⟩ := of_on2 h
  unfold F74 at hh
  exact fnD_list (c := bodyOf Try.f74) (by kernel_rfl) (by kernel_rfl) (ok74_1 (fun _ _ h => h) (fun _ _ h => h) (fun _ _ _ h => h) (initE [x0, x1]) w hh)

-- 24 gong/hold.Same
def T24 : List (Nat × FnT) := [(73, G73), (74, G74)]
def F24 (x0 : Value) (x1 : Value) (w : World) (K : Value → World → Prop) : Prop :=
eBox 41 x0 w fun v2 w1 =>
eBox 41 x1 w1 fun v4 w3 =>
bindP (pFieldAddr 0 v2) fun v5 =>
bindP (ld1 v5 w3) fun v6 =>
bindP (pFieldAddr 1 v2) fun v7 =>
bindP (ld1 v7 w3) fun v8 =>
bindP (pFieldAddr 4 v2) fun v9 =>
bindP (ld1 v9 w3) fun v10 =>
bindP (fBuild Try.prog 120 [(0, v6), (1, v8), (2, v10)]) fun v11 =>
bindP (pFieldAddr 0 v4) fun v12 =>
bindP (ld1 v12 w3) fun v13 =>
bindP (pFieldAddr 1 v4) fun v14 =>
bindP (ld1 v14 w3) fun v15 =>
bindP (pFieldAddr 4 v4) fun v16 =>
bindP (ld1 v16 w3) fun v17 =>
bindP (fBuild Try.prog 120 [(0, v13), (1, v15), (2, v17)]) fun v18 =>
bindP (bEq Try.prog 120 (.tmp 12) (.tmp 19) v11 v18) fun v19 =>
Sx.stepG (gd true v19) (ldN 11 v2 w3.drew) fun v20 =>
Sx.stepG (gd true v19) (ldN 11 v4 w3.drew) fun v21 =>
stepE (gd true v19) (fun k => callP G73 [v20] w3.drew k) w3.drew fun v23 w22 =>
fok (gd true v19) (ldN 11 v4 w22) v21 ∧ (stepE (gd true v19) (fun k => callP G73 [v21] w22 k) w22 fun v25 w24 =>
Sx.stepG (gd true v19) (bEq Try.prog 122 (.tmp 24) (.tmp 26) v23 v25) fun v26 =>
bindP (pPick v19 v26 (.bool false)) fun v27 =>
Sx.stepG (gd true v27) (pFieldAddr 5 v2) fun v28 =>
Sx.stepG (gd true v27) (ldN 5 v28 w24) fun v29 =>
Sx.stepG (gd true v27) (pFieldAddr 5 v4) fun v30 =>
Sx.stepG (gd true v27) (ldN 5 v30 w24) fun v31 =>
Sx.stepG (gd true v27) (bEq Try.prog 31 (.tmp 31) (.tmp 33) v29 v31) fun v32 =>
bindP (pPick v27 v32 (.bool false)) fun v33 =>
Sx.stepG (gd true v33) (pFieldAddr 10 v2) fun v34 =>
Sx.stepG (gd true v33) (ld1 v34 w24) fun v35 =>
Sx.stepG (gd true v33) (pFieldAddr 10 v4) fun v36 =>
Sx.stepG (gd true v33) (ld1 v36 w24) fun v37 =>
stepE (gd true v33) (fun k => callP G74 [v35, v37] w24 k) w24 fun v39 w38 =>
bindP (pPick v33 v39 (.bool false)) fun v40 =>
K v40 w38)

def G24 : FnT := fun args w K => on2 (fun x0 x1 => F24 x0 x1 w K) args
theorem c24 {x0 x1 : Value} {w : World} {K : Value → World → Prop} (h : F24 x0 x1 w K) : callP G24 [x0, x1] w K := callP_intro (on2_mk (p := fun x0 x1 => F24 x0 x1 w K) h)
theorem ok24 : OkF Try.prog 24 G24 := by
  refine okF_of (tab_ok (l := T24) ⟨ok73, ok74, trivial⟩) mixed (n := fuel) Try.func24 Try.call24 fun args w K h => ?_
  obtain ⟨x0, x1, rfl, hh⟩ := of_on2 h
  exact fnD_list (c := bodyOf Try.f24) (by kernel_rfl) (by kernel_rfl) (Eq.mp (by kernel_rfl) hh)

-- 25 gong/gongref21.Same
def T25 : List (Nat × FnT) := []
def F25_3b (w : World) (K : Value → World → Prop) : Prop :=
K (.bool true) w

def F25_3 (w : World) (K : Value → World → Prop) : Prop := F25_3b w K

theorem ok25_3 {K : Value → World → Prop} {kn kr : Env → World → Prop} {ke : Nat → Env → World → Prop}
    (hn : ∀ e w, (fun e w => K (e 4) w) e w → kn e w) (hr : ∀ e w, endD Try.prog [.tmp 4] K e w → kr e w) (he : ∀ i e w, noE i e w → ke i e w) :
    ∀ e w, F25_3 w K → denL Try.prog (tabOf T25) 73 fuel ((flat (bodyOf Try.f25)).drop 5) e w kn kr ke := by
  intro e w h
  unfold F25_3 at h
  have e1 : ∀ (_ : Unit), F25_3b w K = denL Try.prog (tabOf T25) 73 fuel ((flat (bodyOf Try.f25)).drop 5) e w (fun e w => K (e 4) w) (endD Try.prog [.tmp 4] K) noE := by intro _; kernel_rfl
  exact seg_end (Eq.mp (e1 ()) h) hn hr he

def F25_2b (s2 : Value) (s3 : Value) (s5 : Value) (w : World) (K : Value → World → Prop) (Y0 : Value → Value → Value → World → Prop) (Y1 : World → Prop) : Prop :=
bindP (pFieldAddr 10 s2) fun v1 =>
bindP (ld1 v1 w) fun v2 =>
bindP (lenL v2) fun v3 =>
bindP (bLt s5 v3) fun v4 =>
ifB v4 (
bindP (pFieldAddr 10 s2) fun v5 =>
bindP (ld1 v5 w.drew) fun v6 =>
bindP (pIndexL 1 v6 s5) fun v7 =>
bindP (ld1 v7 w.drew) fun v8 =>
bindP (pFieldAddr 10 s3) fun v9 =>
bindP (ld1 v9 w.drew) fun v10 =>
bindP (pIndexL 1 v10 s5) fun v11 =>
bindP (ld1 v11 w.drew) fun v12 =>
bindP (bNe Try.prog 3 (.tmp 66) (.tmp 71) v8 v12) fun v13 =>
ifB v13 (
K (.bool false) w.drew) (
bindP (bAdd s5 (.int .i64 1)) fun v14 =>
Y0 s2 s3 v14 w.drew)) (
Y1 w)

def F25_2L : Nat → Value → Value → Value → World → (Value → World → Prop) → Prop
  | 0, _, _, _, _, _ => False
  | n + 1, s2, s3, s5, w, K => F25_2b s2 s3 s5 w K (fun a2 a3 a5 w => F25_2L n a2 a3 a5 w K) (fun w => F25_3 w K)

def F25_2 (s2 : Value) (s3 : Value) (s5 : Value) (w : World) (K : Value → World → Prop) : Prop := F25_2L fuel s2 s3 s5 w K

theorem ok25_2 {K : Value → World → Prop} {kn kr : Env → World → Prop} {ke : Nat → Env → World → Prop}
    (hn : ∀ e w, (fun e w => K (e 4) w) e w → kn e w) (hr : ∀ e w, endD Try.prog [.tmp 4] K e w → kr e w) (he : ∀ i e w, noE i e w → ke i e w) :
    ∀ e w, F25_2 (e 2) (e 3) (e 5) w K → denL Try.prog (tabOf T25) 73 fuel ((flat (bodyOf Try.f25)).drop 4) e w kn kr ke := by
  intro e w h
  unfold F25_2 at h
  refine seg_loop (id := 0) (body := (loopB (blkB (nthC (flat (bodyOf Try.f25)) 4)))) (l2 := (flat (bodyOf Try.f25)).drop 5) (by kernel_rfl) ?_
  refine loop_ok (FL := fun m e w => F25_2L m (e 2) (e 3) (e 5) w K) (fr := endD Try.prog [.tmp 4] K) (fe := (blkK 0 (fun e w => F25_3 w K) noE)) (fun _ _ h => h) ?_ hr (blkK_mono (fun e w h => ok25_3 hn hr he e w h) he) fuel e w h
  intro m e w h
  have h : F25_2L (m + 1) (e 2) (e 3) (e 5) w K := h
  rw [F25_2L] at h
  have e1 : ∀ (Y0 : Value → Value → Value → World → Prop) (Y1 : World → Prop), F25_2b (e 2) (e 3) (e 5) w K Y0 Y1 = denL Try.prog (tabOf T25) 73 fuel (flat (loopB (blkB (nthC (flat (bodyOf Try.f25)) 4)))) e w (fun e w => Y0 (e 2) (e 3) (e 5) w) (endD Try.prog [.tmp 4] K) (blkK 0 (fun e w => Y1 w) noE) := by intro Y0 Y1; kernel_rfl
  exact Eq.mp (e1 (fun a2 a3 a5 w => F25_2L m a2 a3 a5 w K) (fun w => F25_3 w K)) h

def F25_1b (s0 : Value) (s1 : Value) (w : World) (K : Value → World → Prop) (Y0 : Value → Value → Value → World → Prop) : Prop :=
eBox 41 s0 w fun v16 w15 =>
eBox 41 s1 w15 fun v18 w17 =>
bindP (pFieldAddr 0 v16) fun v19 =>
bindP (ld1 v19 w17) fun v20 =>
bindP (pFieldAddr 0 v18) fun v21 =>
bindP (ld1 v21 w17) fun v22 =>
bindP (bNe Try.prog 3 (.tmp 7) (.tmp 9) v20 v22) fun v23 =>
Sx.stepG (gd false v23) (pFieldAddr 1 v16) fun v24 =>
Sx.stepG (gd false v23) (ld1 v24 w17) fun v25 =>
Sx.stepG (gd false v23) (pFieldAddr 1 v18) fun v26 =>
Sx.stepG (gd false v23) (ld1 v26 w17) fun v27 =>
Sx.stepG (gd false v23) (bNe Try.prog 3 (.tmp 13) (.tmp 15) v25 v27) fun v28 =>
bindP (pPick v23 (.bool true) v28) fun v29 =>
Sx.stepG (gd false v29) (pFieldAddr 2 v16) fun v30 =>
Sx.stepG (gd false v29) (ld1 v30 w17) fun v31 =>
Sx.stepG (gd false v29) (pFieldAddr 2 v18) fun v32 =>
Sx.stepG (gd false v29) (ld1 v32 w17) fun v33 =>
Sx.stepG (gd false v29) (bNe Try.prog 9 (.tmp 20) (.tmp 22) v31 v33) fun v34 =>
bindP (pPick v29 (.bool true) v34) fun v35 =>
Sx.stepG (gd false v35) (pFieldAddr 3 v16) fun v36 =>
Sx.stepG (gd false v35) (ld1 v36 w17) fun v37 =>
Sx.stepG (gd false v35) (pFieldAddr 3 v18) fun v38 =>
Sx.stepG (gd false v35) (ld1 v38 w17) fun v39 =>
Sx.stepG (gd false v35) (bNe Try.prog 9 (.tmp 27) (.tmp 29) v37 v39) fun v40 =>
bindP (pPick v35 (.bool true) v40) fun v41 =>
Sx.stepG (gd false v41) (pFieldAddr 4 v16) fun v42 =>
Sx.stepG (gd false v41) (ld1 v42 w17) fun v43 =>
Sx.stepG (gd false v41) (pFieldAddr 4 v18) fun v44 =>
Sx.stepG (gd false v41) (ld1 v44 w17) fun v45 =>
Sx.stepG (gd false v41) (bNe Try.prog 3 (.tmp 34) (.tmp 36) v43 v45) fun v46 =>
bindP (pPick v41 (.bool true) v46) fun v47 =>
Sx.stepG (gd false v47) (pFieldAddr 5 v16) fun v48 =>
Sx.stepG (gd false v47) (ldN 5 v48 w17) fun v49 =>
Sx.stepG (gd false v47) (pFieldAddr 5 v18) fun v50 =>
Sx.stepG (gd false v47) (ldN 5 v50 w17) fun v51 =>
Sx.stepG (gd false v47) (bNe Try.prog 31 (.tmp 41) (.tmp 43) v49 v51) fun v52 =>
bindP (pPick v47 (.bool true) v52) fun v53 =>
Sx.stepG (gd false v53) (pFieldAddr 10 v16) fun v54 =>
Sx.stepG (gd false v53) (ld1 v54 w17) fun v55 =>
Sx.stepG (gd false v53) (lenL v55) fun v56 =>
Sx.stepG (gd false v53) (pFieldAddr 10 v18) fun v57 =>
Sx.stepG (gd false v53) (ld1 v57 w17) fun v58 =>
Sx.stepG (gd false v53) (lenL v58) fun v59 =>
Sx.stepG (gd false v53) (bNe Try.prog 3 (.tmp 49) (.tmp 52) v56 v59) fun v60 =>
bindP (pPick v53 (.bool true) v60) fun v61 =>
ifB v61 (
K (.bool false) w17) (
Y0 v16 v18 (.int .i64 0) w17)

def F25_1 (s0 : Value) (s1 : Value) (w : World) (K : Value → World → Prop) : Prop := F25_1b s0 s1 w K (fun a2 a3 a5 w => F25_2 a2 a3 a5 w K)

theorem ok25_1 {K : Value → World → Prop} {kn kr : Env → World → Prop} {ke : Nat → Env → World → Prop}
    (hn : ∀ e w, (fun e w => K (e 4) w) e w → kn e w) (hr : ∀ e w, endD Try.prog [.tmp 4] K e w → kr e w) (he : ∀ i e w, noE i e w → ke i e w) :
    ∀ e w, F25_1 (e 0) (e 1) w K → denL Try.prog (tabOf T25) 73 fuel ((flat (bodyOf Try.f25)).drop 0) e w kn kr ke := by
  intro e w h
  unfold F25_1 at h
  have e1 : ∀ (Y0 : Value → Value → Value → World → Prop), F25_1b (e 0) (e 1) w K Y0 = denL Try.prog (tabOf T25) 73 fuel (((flat (bodyOf Try.f25)).drop 0).take 4) e w (fun e w => Y0 (e 2) (e 3) (e 5) w) (endD Try.prog [.tmp 4] K) noE := by intro Y0; kernel_rfl
  exact seg 4 (Eq.mp (e1 (fun a2 a3 a5 w => F25_2 a2 a3 a5 w K)) h) (fun e w h => ok25_2 hn hr he e w h) hr he

def F25 (x0 : Value) (x1 : Value) (w : World) (K : Value → World → Prop) : Prop := F25_1 x0 x1 w K

def G25 : FnT := fun args w K => on2 (fun x0 x1 => F25 x0 x1 w K) args
theorem c25 {x0 x1 : Value} {w : World} {K : Value → World → Prop} (h : F25 x0 x1 w K) : callP G25 [x0, x1] w K := callP_intro (on2_mk (p := fun x0 x1 => F25 x0 x1 w K) h)
theorem ok25 : OkF Try.prog 25 G25 := by
  refine okF_of (tab_ok (l := T25) trivial) mixed (n := fuel) Try.func25 Try.call25 fun args w K h => ?_
  obtain ⟨x0, x1, rfl, hh⟩ := of_on2 h
  unfold F25 at hh
  exact fnD_list (c := bodyOf Try.f25) (by kernel_rfl) (by kernel_rfl) (ok25_1 (fun _ _ h => h) (fun _ _ h => h) (fun _ _ _ h => h) (initE [x0, x1]) w hh)

-- 5 gong/gonglaw21.HoldChecks
def T5 : List (Nat × FnT) := [(20, G20), (21, G21), (22, G22), (23, G23), (24, G24), (25, G25)]
def F5 (x0 : Value) (x1 : Value) (w : World) (K : Value → World → Prop) : Prop :=
eBox 41 x0 w fun v2 w1 =>
eBox 41 x1 w1 fun v4 w3 =>
bindP (ldN 11 v2 w3) fun v5 =>
callP G20 [v5] w3 fun v7 w6 =>
bindP (uNot v7) fun v8 =>
Sx.stepG (gd false v8) (ldN 11 v4 w6) fun v9 =>
stepE (gd false v8) (fun k => callP G20 [v9] w6 k) w6 fun v11 w10 =>
Sx.stepG (gd false v8) (uNot v11) fun v12 =>
bindP (pPick v8 (.bool true) v12) fun v13 =>
ifB v13 (
callP G21 [] w10 fun v15 w14 =>
K v15 w14) (
bindP (ldN 11 v2 w10.drew) fun v16 =>
bindP (ldN 11 v2 w10.drew) fun v17 =>
callP G22 [v16] w10.drew fun v19 w18 =>
fok true (ldN 11 v2 w18) v17 ∧ (callP G23 [v17] w18 fun v21 w20 =>
bindP (bEq Try.prog 24 (.tmp 15) (.tmp 17) v19 v21) fun v22 =>
Sx.stepG (gd true v22) (ldN 11 v2 w20) fun v23 =>
Sx.stepG (gd true v22) (ldN 11 v4 w20) fun v24 =>
Sx.stepG (gd true v22) (ldN 11 v2 w20) fun v25 =>
Sx.stepG (gd true v22) (ldN 11 v4 w20) fun v26 =>
stepE (gd true v22) (fun k => callP G24 [v23, v24] w20 k) w20 fun v28 w27 =>
(fok (gd true v22) (ldN 11 v2 w27) v25 ∧ fok (gd true v22) (ldN 11 v4 w27) v26) ∧ (stepE (gd true v22) (fun k => callP G25 [v25, v26] w27 k) w27 fun v30 w29 =>
Sx.stepG (gd true v22) (bEq Try.prog 4 (.tmp 22) (.tmp 25) v28 v30) fun v31 =>
bindP (pPick v22 v31 (.bool false)) fun v32 =>
Sx.stepG (gd true v32) (ldN 11 v2 w29) fun v33 =>
Sx.stepG (gd true v32) (ldN 11 v2 w29) fun v34 =>
stepE (gd true v32) (fun k => callP G24 [v33, v34] w29 k) w29 fun v36 w35 =>
bindP (pPick v32 v36 (.bool false)) fun v37 =>
stepE (gd true v37) (fun k => callP G21 [] w35 k) w35 fun v39 w38 =>
bindP (pPick v37 v39 (.bool false)) fun v40 =>
K v40 w38)))

def G5 : FnT := fun args w K => on2 (fun x0 x1 => F5 x0 x1 w K) args
theorem c5 {x0 x1 : Value} {w : World} {K : Value → World → Prop} (h : F5 x0 x1 w K) : callP G5 [x0, x1] w K := callP_intro (on2_mk (p := fun x0 x1 => F5 x0 x1 w K) h)
theorem ok5 : OkF Try.prog 5 G5 := by
  refine okF_of (tab_ok (l := T5) ⟨ok20, ok21, ok22, ok23, ok24, ok25, trivial⟩) mixed (n := fuel) Try.func5 Try.call5 fun args w K h => ?_
  obtain ⟨x0, x1, rfl, hh⟩ := of_on2 h
  exact fnD_list (c := bodyOf Try.f5) (by kernel_rfl) (by kernel_rfl) (Eq.mp (by kernel_rfl) hh)

end Go.Proofs.Gong

/- Ho0 -/
namespace Go.Proofs.Gong
open Go Go.Sx Go.Proofs
set_option maxRecDepth 100000
attribute [local irreducible] fBuild fLook fZero eqv bEqv Cl MapH LsH SlH ld1 ldN st callP eBox eAlloc lenM lenL eMapSet eDelete eAppend eBuildSl eRange eNext
instance : CodC cI 1 := ⟨CI⟩
theorem bs_sEq' (a b : List UInt8) : sEq (bs a) (bs b) = decide (a = b) := by rw [sEq_eq, bs_beq]; simp
/-- a slice that is there, wherever the parts are -/
def RdL {α : Type} (w0 : World) (L : List HP) (f : α → List Value) (es : Nat) (v : Value) (l : List α) : Prop := ∀ w, Sat w0 L w → Rd w es v l.length (l.flatMap f)
theorem RdL.of_arg {α : Type} {w0 : World} {L : List HP} {f : α → List Value} {es : Nat} {v : Value} {l : List α} (h : Rd w0 es v l.length (l.flatMap f)) : RdL w0 L f es v l := fun _ hs => h.sat hs
theorem RdL.get {α : Type} {w0 : World} {L L' : List HP} {f : α → List Value} {es : Nat} {v : Value} {l : List α} (h : RdL w0 L f es v l) (g : Get L' L) : RdL w0 L' f es v l := fun w hs => h w (hs.get g)
theorem RdL.cons {α : Type} {w0 : World} {L : List HP} {X : HP} {f : α → List Value} {es : Nat} {v : Value} {l : List α} (h : RdL w0 L f es v l) : RdL w0 (X :: L) f es v l := h.get (.skip .done)
theorem RdL.of_ls {α : Type} {w0 : World} {L : List HP} {f : α → List Value} {es : Nat} {ty : TypeId} {v : Value} {l : List α} (m : LsIn v L α f es ty l) : RdL w0 L f es v l := fun _ hs => ls_of hs (.refl _) m
def ascI : List Int → Bool
  | a :: b :: r => decide (a ≤ b) && ascI (b :: r)
  | _ => true
theorem ascI_drop : ∀ (k : Nat) (l : List Int), ascI l = true → ascI (l.drop k) = true
  | 0, l, h => h
  | k + 1, [], _ => by simp [ascI]
  | k + 1, [a], _ => by simp [ascI]
  | k + 1, a :: b :: r, h => by
    simp only [ascI, Bool.and_eq_true] at h
    exact ascI_drop k (b :: r) h.2
theorem ascI_at {l : List Int} {i : Nat} (h : i + 1 < l.length) : ascI (l.drop i) = (decide (l[i] ≤ l[i + 1]) && ascI (l.drop (i + 1))) := by
  rw [List.drop_eq_getElem_cons (by omega : i < l.length), List.drop_eq_getElem_cons h]; rfl
section
variable {w0 w : World} {L : List HP} {K : Value → World → Prop}
theorem nanI_spec {a : Int} (hK : K (.bool false) w) : callP G139 [.int .i64 a] w K := by
  refine c139 ?_
  unfold F139
  (repeat (first
 | (simp (disch := omega) only [evA, evB, bAdd_i64, bSub_i64, ptr, Nat.zero_add, Bool.not_true, Bool.not_false, Option.isNone_some, Option.isNone_none, Option.isSome_some, Option.isSome_none, decide_true, decide_false, eq_self, true_and, and_assoc, ne_eq, not_true_eq_false])
 | ((with_reducible apply go_ld1 h))
 | ((with_reducible apply go_ldA h); (rfl))
 | ((with_reducible apply go_ldN h))
 | ((with_reducible apply go_st h); intro _ h)
 | ((with_reducible apply go_stA h); (rfl); (rfl); (first | rfl | simp); intro _ h)
 | ((with_reducible apply go_stN h); (rfl); (first | rfl | simp); intro _ h)
 | ((with_reducible apply go_box h); rfl; intro _ _ h)
 | ((with_reducible apply go_rd h); (rfl))
 | ((with_reducible apply go_rdN h); (rfl))
 | ((with_reducible apply go_rlen h); (rfl))
 | ((with_reducible apply go_lenL h))
 | ((with_reducible apply go_ix h); (omega))
 | ((with_reducible apply go_elN h); (case hi => omega))
 | ((with_reducible apply go_fa h); (omega); (omega))
 | ((with_reducible apply go_f1 h); (case hi => omega); (case hx => exact inferInstance))
 | ((with_reducible apply go_rf1 h); (case hi => omega); (case hx => exact inferInstance); (case hv => rfl))
 | ((with_reducible apply go_rel h); (case hi => omega); (case hv => rfl))
))
  exact hK
theorem less_spec {a b : Int} (hK : K (.bool (decide (a < b))) w) : callP G113 [.int .i64 a, .int .i64 b] w K := by
  refine c113 ?_
  unfold F113
  refine nanI_spec ?_
  (repeat (first
 | (simp (disch := omega) only [evA, evB, bAdd_i64, bSub_i64, ptr, Nat.zero_add, Bool.not_true, Bool.not_false, Option.isNone_some, Option.isNone_none, Option.isSome_some, Option.isSome_none, decide_true, decide_false, eq_self, true_and, and_assoc])
 | ((with_reducible apply go_ld1 h))
 | ((with_reducible apply go_ldA h); (rfl))
 | ((with_reducible apply go_ldN h))
 | ((with_reducible apply go_st h); intro _ h)
 | ((with_reducible apply go_stA h); (rfl); (rfl); (first | rfl | simp); intro _ h)
 | ((with_reducible apply go_stN h); (rfl); (first | rfl | simp); intro _ h)
 | ((with_reducible apply go_box h); rfl; intro _ _ h)
 | ((with_reducible apply go_rd h); (rfl))
 | ((with_reducible apply go_rdN h); (rfl))
 | ((with_reducible apply go_rlen h); (rfl))
 | ((with_reducible apply go_lenL h))
 | ((with_reducible apply go_ix h); (omega))
 | ((with_reducible apply go_elN h); (case hi => omega))
 | ((with_reducible apply go_fa h); (omega); (omega))
 | ((with_reducible apply go_f1 h); (case hi => omega); (case hx => exact inferInstance))
 | ((with_reducible apply go_rf1 h); (case hi => omega); (case hx => exact inferInstance); (case hv => rfl))
 | ((with_reducible apply go_rel h); (case hi => omega); (case hv => rfl))
))
  exact hK
theorem htime_spec {t : Int} (hK : K (.bool (timeP t)) w) : callP G72 [.int .i64 t] w K := by
  refine c72 ?_
  unfold F72
  unfold timeP at hK
  by_cases g1 : 0 ≤ t <;> simp [g1] at hK ⊢ <;> exact hK
theorem i_at {s : Value} {l : List Int} {i : Nat} (h : Rd w 1 s l.length (l.flatMap cI)) (hi : i < l.length) : pIndexL 1 s (.int .i64 i) = some (elP 1 s i) ∧ ld1 (elP 1 s i) w = some (.int .i64 l[i]) := ⟨ix_el h hi, rd_ld1 h hi⟩
theorem sorted_loop {v : Value} {l : List Int} (hl : l.length ≤ 4611686018427387904) (hr : RdL w0 L cI 1 v l) (hK : ∀ w', Sat w0 L w' → K (.bool (ascI l)) w') : ∀ (i d : Nat) (w : World), i < d → i < l.length → ascI (l.drop i) = true → Sat w0 L w → F71_2L d v (.int .i64 i) w K := by
  intro i
  induction i with
  | zero =>
    intro d w hd hi ha h
    obtain ⟨d, rfl⟩ : ∃ d', d = d' + 1 := ⟨d - 1, by omega⟩
    rw [F71_2L]
    unfold F71_2b F71_3 F71_3b
    have g' : decide (((0 : Nat) : Int) > 0) = false := by simp
    (repeat (first
 | (simp (disch := omega) only [evA, evB, bAdd_i64, bSub_i64, ptr, Nat.zero_add, Bool.not_true, Bool.not_false, Option.isNone_some, Option.isNone_none, Option.isSome_some, Option.isSome_none, decide_true, decide_false, eq_self, true_and, and_assoc, g'])
 | ((with_reducible apply go_ld1 h))
 | ((with_reducible apply go_ldA h); (rfl))
 | ((with_reducible apply go_ldN h))
 | ((with_reducible apply go_st h); intro _ h)
 | ((with_reducible apply go_stA h); (rfl); (rfl); (first | rfl | simp); intro _ h)
 | ((with_reducible apply go_stN h); (rfl); (first | rfl | simp); intro _ h)
 | ((with_reducible apply go_box h); rfl; intro _ _ h)
 | ((with_reducible apply go_rd h); (rfl))
 | ((with_reducible apply go_rdN h); (rfl))
 | ((with_reducible apply go_rlen h); (rfl))
 | ((with_reducible apply go_lenL h))
 | ((with_reducible apply go_ix h); (omega))
 | ((with_reducible apply go_elN h); (case hi => omega))
 | ((with_reducible apply go_fa h); (omega); (omega))
 | ((with_reducible apply go_f1 h); (case hi => omega); (case hx => exact inferInstance))
 | ((with_reducible apply go_rf1 h); (case hi => omega); (case hx => exact inferInstance); (case hv => rfl))
 | ((with_reducible apply go_rel h); (case hi => omega); (case hv => rfl))
))
    have := hK _ h
    rw [List.drop_zero] at ha
    rw [ha] at this; exact this
  | succ i ih =>
    intro d w hd hi ha h
    obtain ⟨d, rfl⟩ : ∃ d', d = d' + 1 := ⟨d - 1, by omega⟩
    rw [F71_2L]
    unfold F71_2b F71_3 F71_3b
    have g' : decide (((i + 1 : Nat) : Int) > 0) = true := by rw [decide_eq_true_eq]; omega
    have e1 : (((i + 1 : Nat) : Int) - 1) = (i : Int) := by omega
    have hrw := hr w h
    (repeat (first
 | (simp (disch := omega) only [evA, evB, bAdd_i64, bSub_i64, ptr, Nat.zero_add, Bool.not_true, Bool.not_false, Option.isNone_some, Option.isNone_none, Option.isSome_some, Option.isSome_none, decide_true, decide_false, eq_self, true_and, and_assoc, g', (i_at hrw hi), e1, (i_at hrw (show i < l.length by omega))])
 | ((with_reducible apply go_ld1 h))
 | ((with_reducible apply go_ldA h); (rfl))
 | ((with_reducible apply go_ldN h))
 | ((with_reducible apply go_st h); intro _ h)
 | ((with_reducible apply go_stA h); (rfl); (rfl); (first | rfl | simp); intro _ h)
 | ((with_reducible apply go_stN h); (rfl); (first | rfl | simp); intro _ h)
 | ((with_reducible apply go_box h); rfl; intro _ _ h)
 | ((with_reducible apply go_rd h); (rfl))
 | ((with_reducible apply go_rdN h); (rfl))
 | ((with_reducible apply go_rlen h); (rfl))
 | ((with_reducible apply go_lenL h))
 | ((with_reducible apply go_ix h); (omega))
 | ((with_reducible apply go_elN h); (case hi => omega))
 | ((with_reducible apply go_fa h); (omega); (omega))
 | ((with_reducible apply go_f1 h); (case hi => omega); (case hx => exact inferInstance))
 | ((with_reducible apply go_rf1 h); (case hi => omega); (case hx => exact inferInstance); (case hv => rfl))
 | ((with_reducible apply go_rel h); (case hi => omega); (case hv => rfl))
))
    refine less_spec ?_
    by_cases g : l[i + 1] < l[i]
    · have g2 : decide (l[i + 1] < l[i]) = true := by simpa using g
      (repeat (first
 | (simp (disch := omega) only [evA, evB, bAdd_i64, bSub_i64, ptr, Nat.zero_add, Bool.not_true, Bool.not_false, Option.isNone_some, Option.isNone_none, Option.isSome_some, Option.isSome_none, decide_true, decide_false, eq_self, true_and, and_assoc, g2])
 | ((with_reducible apply go_ld1 h))
 | ((with_reducible apply go_ldA h); (rfl))
 | ((with_reducible apply go_ldN h))
 | ((with_reducible apply go_st h); intro _ h)
 | ((with_reducible apply go_stA h); (rfl); (rfl); (first | rfl | simp); intro _ h)
 | ((with_reducible apply go_stN h); (rfl); (first | rfl | simp); intro _ h)
 | ((with_reducible apply go_box h); rfl; intro _ _ h)
 | ((with_reducible apply go_rd h); (rfl))
 | ((with_reducible apply go_rdN h); (rfl))
 | ((with_reducible apply go_rlen h); (rfl))
 | ((with_reducible apply go_lenL h))
 | ((with_reducible apply go_ix h); (omega))
 | ((with_reducible apply go_elN h); (case hi => omega))
 | ((with_reducible apply go_fa h); (omega); (omega))
 | ((with_reducible apply go_f1 h); (case hi => omega); (case hx => exact inferInstance))
 | ((with_reducible apply go_rf1 h); (case hi => omega); (case hx => exact inferInstance); (case hv => rfl))
 | ((with_reducible apply go_rel h); (case hi => omega); (case hv => rfl))
))
      have := hK _ h.drew
      have e : ascI l = false := by
        rw [Bool.eq_false_iff]
        intro hl
        have := ascI_drop i l hl
        rw [ascI_at hi] at this
        simp only [Bool.and_eq_true, decide_eq_true_eq] at this
        omega
      rw [e] at this; exact this
    · have g2 : decide (l[i + 1] < l[i]) = false := by simpa using g
      (repeat (first
 | (simp (disch := omega) only [evA, evB, bAdd_i64, bSub_i64, ptr, Nat.zero_add, Bool.not_true, Bool.not_false, Option.isNone_some, Option.isNone_none, Option.isSome_some, Option.isSome_none, decide_true, decide_false, eq_self, true_and, and_assoc, g2, e1])
 | ((with_reducible apply go_ld1 h))
 | ((with_reducible apply go_ldA h); (rfl))
 | ((with_reducible apply go_ldN h))
 | ((with_reducible apply go_st h); intro _ h)
 | ((with_reducible apply go_stA h); (rfl); (rfl); (first | rfl | simp); intro _ h)
 | ((with_reducible apply go_stN h); (rfl); (first | rfl | simp); intro _ h)
 | ((with_reducible apply go_box h); rfl; intro _ _ h)
 | ((with_reducible apply go_rd h); (rfl))
 | ((with_reducible apply go_rdN h); (rfl))
 | ((with_reducible apply go_rlen h); (rfl))
 | ((with_reducible apply go_lenL h))
 | ((with_reducible apply go_ix h); (omega))
 | ((with_reducible apply go_elN h); (case hi => omega))
 | ((with_reducible apply go_fa h); (omega); (omega))
 | ((with_reducible apply go_f1 h); (case hi => omega); (case hx => exact inferInstance))
 | ((with_reducible apply go_rf1 h); (case hi => omega); (case hx => exact inferInstance); (case hv => rfl))
 | ((with_reducible apply go_rel h); (case hi => omega); (case hv => rfl))
))
      refine ih d _ (by omega) (by omega) ?_ h.drew
      rw [ascI_at hi, ha, Bool.and_true]; simp; omega
theorem sorted_spec {v : Value} {l : List Int} (hl : l.length ≤ 4611686018427387904) (hr : RdL w0 L cI 1 v l) (h : Sat w0 L w) (hK : ∀ w', Sat w0 L w' → K (.bool (ascI l)) w') : callP G71 [v] w K := by
  refine c71 ?_
  unfold F71 F71_1 F71_1b F71_2
  (repeat (first
 | (simp (disch := omega) only [evA, evB, bAdd_i64, bSub_i64, ptr, Nat.zero_add, Bool.not_true, Bool.not_false, Option.isNone_some, Option.isNone_none, Option.isSome_some, Option.isSome_none, decide_true, decide_false, eq_self, true_and, and_assoc, (hr w h).len])
 | ((with_reducible apply go_ld1 h))
 | ((with_reducible apply go_ldA h); (rfl))
 | ((with_reducible apply go_ldN h))
 | ((with_reducible apply go_st h); intro _ h)
 | ((with_reducible apply go_stA h); (rfl); (rfl); (first | rfl | simp); intro _ h)
 | ((with_reducible apply go_stN h); (rfl); (first | rfl | simp); intro _ h)
 | ((with_reducible apply go_box h); rfl; intro _ _ h)
 | ((with_reducible apply go_rd h); (rfl))
 | ((with_reducible apply go_rdN h); (rfl))
 | ((with_reducible apply go_rlen h); (rfl))
 | ((with_reducible apply go_lenL h))
 | ((with_reducible apply go_ix h); (omega))
 | ((with_reducible apply go_elN h); (case hi => omega))
 | ((with_reducible apply go_fa h); (omega); (omega))
 | ((with_reducible apply go_f1 h); (case hi => omega); (case hx => exact inferInstance))
 | ((with_reducible apply go_rf1 h); (case hi => omega); (case hx => exact inferInstance); (case hv => rfl))
 | ((with_reducible apply go_rel h); (case hi => omega); (case hv => rfl))
))
  cases l with
  | nil =>
    show F71_2L (fuel - 1 + 1) _ _ _ _
    rw [F71_2L]
    unfold F71_2b F71_3 F71_3b
    have g' : decide ((([] : List Int).length : Int) - 1 > 0) = false := by simp
    (repeat (first
 | (simp (disch := omega) only [evA, evB, bAdd_i64, bSub_i64, ptr, Nat.zero_add, Bool.not_true, Bool.not_false, Option.isNone_some, Option.isNone_none, Option.isSome_some, Option.isSome_none, decide_true, decide_false, eq_self, true_and, and_assoc, g'])
 | ((with_reducible apply go_ld1 h))
 | ((with_reducible apply go_ldA h); (rfl))
 | ((with_reducible apply go_ldN h))
 | ((with_reducible apply go_st h); intro _ h)
 | ((with_reducible apply go_stA h); (rfl); (rfl); (first | rfl | simp); intro _ h)
 | ((with_reducible apply go_stN h); (rfl); (first | rfl | simp); intro _ h)
 | ((with_reducible apply go_box h); rfl; intro _ _ h)
 | ((with_reducible apply go_rd h); (rfl))
 | ((with_reducible apply go_rdN h); (rfl))
 | ((with_reducible apply go_rlen h); (rfl))
 | ((with_reducible apply go_lenL h))
 | ((with_reducible apply go_ix h); (omega))
 | ((with_reducible apply go_elN h); (case hi => omega))
 | ((with_reducible apply go_fa h); (omega); (omega))
 | ((with_reducible apply go_f1 h); (case hi => omega); (case hx => exact inferInstance))
 | ((with_reducible apply go_rf1 h); (case hi => omega); (case hx => exact inferInstance); (case hv => rfl))
 | ((with_reducible apply go_rel h); (case hi => omega); (case hv => rfl))
))
    exact hK _ h
  | cons a l =>
    have e1 : (((a :: l).length : Int) - 1) = ((l.length : Nat) : Int) := by simp
    rw [e1]
    exact sorted_loop hl hr hK l.length fuel w (by unfold fuel; simp at hl; omega) (by simp) (by rw [List.drop_eq_getElem_cons (by simp : l.length < (a :: l).length)]; simp [ascI]) h
theorem eql_loop {v v' : Value} {l m : List Int} (hl : l.length ≤ 4611686018427387904) (hlm : l.length = m.length) (hr : RdL w0 L cI 1 v l) (hr' : RdL w0 L cI 1 v' m) (hK : ∀ w', Sat w0 L w' → K (.bool (decide (l = m))) w') : ∀ (d i : Nat) (w : World), l.length - i < d → i ≤ l.length → l.take i = m.take i →
    Sat w0 L w → F74_2L d v v' (.int .i64 l.length) (.int .i64 i) w K := by
  intro d
  induction d with
  | zero => intro i w hd; omega
  | succ d ih =>
    intro i w hd hi ht h
    rw [F74_2L]
    unfold F74_2b F74_3 F74_3b
    by_cases g : i < l.length
    · have g' : decide ((i : Int) < (l.length : Int)) = true := by simpa using g
      have g2 : i < m.length := by omega
      have h1 := hr w h
      have h2 := hr' w h
      by_cases e1 : l[i] = m[i]
      · have e1' : decide (l[i] = m[i]) = true := by simpa using e1
        (repeat (first
 | (simp (disch := omega) only [evA, evB, bAdd_i64, bSub_i64, ptr, Nat.zero_add, Bool.not_true, Bool.not_false, Option.isNone_some, Option.isNone_none, Option.isSome_some, Option.isSome_none, decide_true, decide_false, eq_self, true_and, and_assoc, g', (i_at h1 g), (i_at h2 g2), e1'])
 | ((with_reducible apply go_ld1 h))
 | ((with_reducible apply go_ldA h); (rfl))
 | ((with_reducible apply go_ldN h))
 | ((with_reducible apply go_st h); intro _ h)
 | ((with_reducible apply go_stA h); (rfl); (rfl); (first | rfl | simp); intro _ h)
 | ((with_reducible apply go_stN h); (rfl); (first | rfl | simp); intro _ h)
 | ((with_reducible apply go_box h); rfl; intro _ _ h)
 | ((with_reducible apply go_rd h); (rfl))
 | ((with_reducible apply go_rdN h); (rfl))
 | ((with_reducible apply go_rlen h); (rfl))
 | ((with_reducible apply go_lenL h))
 | ((with_reducible apply go_ix h); (omega))
 | ((with_reducible apply go_elN h); (case hi => omega))
 | ((with_reducible apply go_fa h); (omega); (omega))
 | ((with_reducible apply go_f1 h); (case hi => omega); (case hx => exact inferInstance))
 | ((with_reducible apply go_rf1 h); (case hi => omega); (case hx => exact inferInstance); (case hv => rfl))
 | ((with_reducible apply go_rel h); (case hi => omega); (case hv => rfl))
))
        refine ih (i + 1) _ (by omega) (by omega) ?_ h.drew
        rw [List.take_succ_eq_append_getElem g, List.take_succ_eq_append_getElem g2, ht, e1]
      · have e1' : decide (l[i] = m[i]) = false := by simpa using e1
        (repeat (first
 | (simp (disch := omega) only [evA, evB, bAdd_i64, bSub_i64, ptr, Nat.zero_add, Bool.not_true, Bool.not_false, Option.isNone_some, Option.isNone_none, Option.isSome_some, Option.isSome_none, decide_true, decide_false, eq_self, true_and, and_assoc, g', (i_at h1 g), (i_at h2 g2), e1'])
 | ((with_reducible apply go_ld1 h))
 | ((with_reducible apply go_ldA h); (rfl))
 | ((with_reducible apply go_ldN h))
 | ((with_reducible apply go_st h); intro _ h)
 | ((with_reducible apply go_stA h); (rfl); (rfl); (first | rfl | simp); intro _ h)
 | ((with_reducible apply go_stN h); (rfl); (first | rfl | simp); intro _ h)
 | ((with_reducible apply go_box h); rfl; intro _ _ h)
 | ((with_reducible apply go_rd h); (rfl))
 | ((with_reducible apply go_rdN h); (rfl))
 | ((with_reducible apply go_rlen h); (rfl))
 | ((with_reducible apply go_lenL h))
 | ((with_reducible apply go_ix h); (omega))
 | ((with_reducible apply go_elN h); (case hi => omega))
 | ((with_reducible apply go_fa h); (omega); (omega))
 | ((with_reducible apply go_f1 h); (case hi => omega); (case hx => exact inferInstance))
 | ((with_reducible apply go_rf1 h); (case hi => omega); (case hx => exact inferInstance); (case hv => rfl))
 | ((with_reducible apply go_rel h); (case hi => omega); (case hv => rfl))
))
        have := hK _ h.drew
        rw [decide_eq_false (fun e => e1 (by subst e; rfl))] at this
        exact this
    · have g' : decide ((i : Int) < (l.length : Int)) = false := by simpa using g
      (repeat (first
 | (simp (disch := omega) only [evA, evB, bAdd_i64, bSub_i64, ptr, Nat.zero_add, Bool.not_true, Bool.not_false, Option.isNone_some, Option.isNone_none, Option.isSome_some, Option.isSome_none, decide_true, decide_false, eq_self, true_and, and_assoc, g'])
 | ((with_reducible apply go_ld1 h))
 | ((with_reducible apply go_ldA h); (rfl))
 | ((with_reducible apply go_ldN h))
 | ((with_reducible apply go_st h); intro _ h)
 | ((with_reducible apply go_stA h); (rfl); (rfl); (first | rfl | simp); intro _ h)
 | ((with_reducible apply go_stN h); (rfl); (first | rfl | simp); intro _ h)
 | ((with_reducible apply go_box h); rfl; intro _ _ h)
 | ((with_reducible apply go_rd h); (rfl))
 | ((with_reducible apply go_rdN h); (rfl))
 | ((with_reducible apply go_rlen h); (rfl))
 | ((with_reducible apply go_lenL h))
 | ((with_reducible apply go_ix h); (omega))
 | ((with_reducible apply go_elN h); (case hi => omega))
 | ((with_reducible apply go_fa h); (omega); (omega))
 | ((with_reducible apply go_f1 h); (case hi => omega); (case hx => exact inferInstance))
 | ((with_reducible apply go_rf1 h); (case hi => omega); (case hx => exact inferInstance); (case hv => rfl))
 | ((with_reducible apply go_rel h); (case hi => omega); (case hv => rfl))
))
      have := hK _ h
      rw [List.take_of_length_le (by omega), List.take_of_length_le (by omega)] at ht
      rw [decide_eq_true ht] at this
      exact this
theorem eql_spec {v v' : Value} {l m : List Int} (hl : l.length ≤ 461168601842738790) (hr : RdL w0 L cI 1 v l) (hr' : RdL w0 L cI 1 v' m) (h : Sat w0 L w) (hK : ∀ w', Sat w0 L w' → K (.bool (decide (l = m))) w') : callP G74 [v, v'] w K := by
  refine c74 ?_
  unfold F74 F74_1 F74_1b F74_2
  by_cases g : l.length = m.length
  · have g' : decide ((l.length : Int) = (m.length : Int)) = true := by simp; omega
    (repeat (first
 | (simp (disch := omega) only [evA, evB, bAdd_i64, bSub_i64, ptr, Nat.zero_add, Bool.not_true, Bool.not_false, Option.isNone_some, Option.isNone_none, Option.isSome_some, Option.isSome_none, decide_true, decide_false, eq_self, true_and, and_assoc, (hr w h).len, (hr' w h).len, g'])
 | ((with_reducible apply go_ld1 h))
 | ((with_reducible apply go_ldA h); (rfl))
 | ((with_reducible apply go_ldN h))
 | ((with_reducible apply go_st h); intro _ h)
 | ((with_reducible apply go_stA h); (rfl); (rfl); (first | rfl | simp); intro _ h)
 | ((with_reducible apply go_stN h); (rfl); (first | rfl | simp); intro _ h)
 | ((with_reducible apply go_box h); rfl; intro _ _ h)
 | ((with_reducible apply go_rd h); (rfl))
 | ((with_reducible apply go_rdN h); (rfl))
 | ((with_reducible apply go_rlen h); (rfl))
 | ((with_reducible apply go_lenL h))
 | ((with_reducible apply go_ix h); (omega))
 | ((with_reducible apply go_elN h); (case hi => omega))
 | ((with_reducible apply go_fa h); (omega); (omega))
 | ((with_reducible apply go_f1 h); (case hi => omega); (case hx => exact inferInstance))
 | ((with_reducible apply go_rf1 h); (case hi => omega); (case hx => exact inferInstance); (case hv => rfl))
 | ((with_reducible apply go_rel h); (case hi => omega); (case hv => rfl))
))
    exact eql_loop (by omega) g hr hr' hK fuel 0 w (by have : fuel = 4611686018427387904 := rfl; omega) (by omega) rfl h
  · have g' : decide ((l.length : Int) = (m.length : Int)) = false := by simp; omega
    (repeat (first
 | (simp (disch := omega) only [evA, evB, bAdd_i64, bSub_i64, ptr, Nat.zero_add, Bool.not_true, Bool.not_false, Option.isNone_some, Option.isNone_none, Option.isSome_some, Option.isSome_none, decide_true, decide_false, eq_self, true_and, and_assoc, (hr w h).len, (hr' w h).len, g'])
 | ((with_reducible apply go_ld1 h))
 | ((with_reducible apply go_ldA h); (rfl))
 | ((with_reducible apply go_ldN h))
 | ((with_reducible apply go_st h); intro _ h)
 | ((with_reducible apply go_stA h); (rfl); (rfl); (first | rfl | simp); intro _ h)
 | ((with_reducible apply go_stN h); (rfl); (first | rfl | simp); intro _ h)
 | ((with_reducible apply go_box h); rfl; intro _ _ h)
 | ((with_reducible apply go_rd h); (rfl))
 | ((with_reducible apply go_rdN h); (rfl))
 | ((with_reducible apply go_rlen h); (rfl))
 | ((with_reducible apply go_lenL h))
 | ((with_reducible apply go_ix h); (omega))
 | ((with_reducible apply go_elN h); (case hi => omega))
 | ((with_reducible apply go_fa h); (omega); (omega))
 | ((with_reducible apply go_f1 h); (case hi => omega); (case hx => exact inferInstance))
 | ((with_reducible apply go_rf1 h); (case hi => omega); (case hx => exact inferInstance); (case hv => rfl))
 | ((with_reducible apply go_rel h); (case hi => omega); (case hv => rfl))
))
    have := hK _ h
    rw [decide_eq_false (fun e => g (by rw [e]))] at this
    exact this
theorem clI_spec {v : Value} {l : List Int} (hl : l.length ≤ 1000000) (hr : RdL w0 L cI 1 v l) (h : Sat w0 L w) (hK : ∀ s w', Sat w0 (LsH cI 1 3 s l :: L) w' → K s w') : callP G130 [v] w K := by
  refine c130 ?_
  unfold F130
  obtain ⟨a, c, rfl, _⟩ := (hr w h).cap
  rw [bEq_nils u22]
  cases a with
  | none =>
    (repeat (first
 | (simp (disch := omega) only [evA, evB, bAdd_i64, bSub_i64, ptr, Nat.zero_add, Bool.not_true, Bool.not_false, Option.isNone_some, Option.isNone_none, Option.isSome_some, Option.isSome_none, decide_true, decide_false, eq_self, true_and, and_assoc])
 | ((with_reducible apply go_ld1 h))
 | ((with_reducible apply go_ldA h); (rfl))
 | ((with_reducible apply go_ldN h))
 | ((with_reducible apply go_st h); intro _ h)
 | ((with_reducible apply go_stA h); (rfl); (rfl); (first | rfl | simp); intro _ h)
 | ((with_reducible apply go_stN h); (rfl); (first | rfl | simp); intro _ h)
 | ((with_reducible apply go_box h); rfl; intro _ _ h)
 | ((with_reducible apply go_rd h); (rfl))
 | ((with_reducible apply go_rdN h); (rfl))
 | ((with_reducible apply go_rlen h); (rfl))
 | ((with_reducible apply go_lenL h))
 | ((with_reducible apply go_ix h); (omega))
 | ((with_reducible apply go_elN h); (case hi => omega))
 | ((with_reducible apply go_fa h); (omega); (omega))
 | ((with_reducible apply go_f1 h); (case hi => omega); (case hx => exact inferInstance))
 | ((with_reducible apply go_rf1 h); (case hi => omega); (case hx => exact inferInstance); (case hv => rfl))
 | ((with_reducible apply go_rel h); (case hi => omega); (case hv => rfl))
))
    have : l = [] := by
      have hr := hr w h
      generalize hcs : l.flatMap cI = cs at hr
      generalize hn : l.length = k at hr
      cases hr with
      | emp => exact List.eq_nil_of_length_eq_zero hn
    subst this
    exact hK _ _ (ls_nil h)
  | some a =>
    (repeat (first
 | (simp (disch := omega) only [evA, evB, bAdd_i64, bSub_i64, ptr, Nat.zero_add, Bool.not_true, Bool.not_false, Option.isNone_some, Option.isNone_none, Option.isSome_some, Option.isSome_none, decide_true, decide_false, eq_self, true_and, and_assoc])
 | ((with_reducible apply go_ld1 h))
 | ((with_reducible apply go_ldA h); (rfl))
 | ((with_reducible apply go_ldN h))
 | ((with_reducible apply go_st h); intro _ h)
 | ((with_reducible apply go_stA h); (rfl); (rfl); (first | rfl | simp); intro _ h)
 | ((with_reducible apply go_stN h); (rfl); (first | rfl | simp); intro _ h)
 | ((with_reducible apply go_box h); rfl; intro _ _ h)
 | ((with_reducible apply go_rd h); (rfl))
 | ((with_reducible apply go_rdN h); (rfl))
 | ((with_reducible apply go_rlen h); (rfl))
 | ((with_reducible apply go_lenL h))
 | ((with_reducible apply go_ix h); (omega))
 | ((with_reducible apply go_elN h); (case hi => omega))
 | ((with_reducible apply go_fa h); (omega); (omega))
 | ((with_reducible apply go_f1 h); (case hi => omega); (case hx => exact inferInstance))
 | ((with_reducible apply go_rf1 h); (case hi => omega); (case hx => exact inferInstance); (case hv => rfl))
 | ((with_reducible apply go_rel h); (case hi => omega); (case hv => rfl))
))
    refine go_lit0 CI h u22 (by kernel_rfl) fun s1 w1 h1 => ?_
    refine ls_app (l := []) (m := l) CI h1 sl22 ss22 (hr.cons _ h1) (by simp; omega) fun s2 w2 h2 => ?_
    exact hK _ _ (by simpa using h2)
end
end Go.Proofs.Gong

/- Ho1 -/
namespace Go.Proofs.Gong
open Go Go.Sx Go.Proofs
set_option maxRecDepth 100000
attribute [local irreducible] fBuild fLook fZero eqv bEqv Cl MapH LsH SlH ld1 ldN st callP eBox eAlloc lenM lenL eMapSet eDelete eAppend eBuildSl eRange eNext
structure Ctx where
  id : Int
  watch : Int
  node : List UInt8
  key : List UInt8
  at' : Int
  e : Evt
  times : List Int
  deriving DecidableEq
@[reducible] def cCtx (c : Ctx) (tv : Value) : List Value := [.int .i64 c.id, .int .i64 c.watch, .string (bs c.node), .string (bs c.key), .int .i64 c.at', .string (bs c.e.node), .string (bs c.e.cls), .string (bs c.e.key), .int .i64 c.e.level, .string (bs c.e.text), tv]
abbrev ctxV (c : Ctx) (tv : Value) : Value := .agg (cCtx c tv).toArray
def zeroE : Evt := ⟨[], [], [], 0, []⟩
def okSign (node key : List UInt8) : Bool := okE ⟨node, [99], key, 0, []⟩
def okEv (e : Evt) : Bool := decide (e = zeroE) || okE e
def okTimes (l : List Int) : Bool := decide (l.length ≤ 1000) && (ascI l && l.all timeP)
def okC (c : Ctx) : Bool := decide (0 ≤ c.watch) && decide (c.watch ≤ 63) && okSign c.node c.key && okEv c.e && okTimes c.times && timeP c.at'
def chkC (c : Ctx) : Int := if okC c = true then 0 else 4
def Ctx.fits (c : Ctx) : Prop := c.node.length < 1000000 ∧ c.key.length < 1000000 ∧ c.e.fits ∧ c.times.length < 1000000
theorem chkE_dec (e : Evt) : decide (chkE e = 0) = okE e := by unfold chkE; cases okE e <;> simp
theorem okSign_x (node key : List UInt8) : okE ⟨node, [120], key, 0, []⟩ = okSign node key := by
  have h1 : plainP [120] 64 = true := by decide +kernel
  have h2 : plainP [99] 64 = true := by decide +kernel
  unfold okSign okE
  simp [h1, h2]
theorem eqE (x y : Operand) (a b : Evt) : bEq Try.prog 31 x y (evV a) (evV b) = some (.bool (decide (a = b))) := by
  obtain ⟨n1, c1, k1, l1, t1⟩ := a
  obtain ⟨n1', c1', k1', l1', t1'⟩ := b
  rw [eq31]
  simp only [bs_sEq', Option.some.injEq, Value.bool.injEq]
  rw [Bool.eq_iff_iff]
  simp
theorem neE (x y : Operand) (a b : Evt) : bNe Try.prog 31 x y (evV a) (evV b) = some (.bool (!decide (a = b))) := by
  obtain ⟨n1, c1, k1, l1, t1⟩ := a
  obtain ⟨n1', c1', k1', l1', t1'⟩ := b
  rw [ne31]
  simp only [bs_sEq', Option.some.injEq, Value.bool.injEq]
  rw [Bool.eq_iff_iff]
  simp
theorem asc_mono : ∀ {l : List Int} {i j : Nat} (hj : j < l.length) (hij : i ≤ j), ascI l = true → l[i] ≤ l[j]
  | [], _, _, hj, _, _ => by simp at hj
  | [a], i, j, hj, hij, _ => by
    have : i = 0 := by simp at hj; omega
    have : j = 0 := by simp at hj; omega
    subst_vars; simp
  | a :: b :: r, i, j, hj, hij, h => by
    simp only [ascI, Bool.and_eq_true, decide_eq_true_eq] at h
    cases j with
    | zero =>
      obtain rfl : i = 0 := by omega
      simp
    | succ j =>
      cases i with
      | zero =>
        have := asc_mono (l := b :: r) (i := 0) (j := j) (by simpa using hj) (by omega) h.2
        simp only [List.getElem_cons_zero, List.getElem_cons_succ] at *
        omega
      | succ i =>
        have := asc_mono (l := b :: r) (i := i) (j := j) (by simpa using hj) (by omega) h.2
        simpa using this
theorem times_ends {l : List Int} (h : ascI l = true) (h0 : 0 < l.length) : (timeP l[0] && timeP l[l.length - 1]) = l.all timeP := by
  rw [Bool.eq_iff_iff]
  simp only [Bool.and_eq_true, List.all_eq_true]
  constructor
  · rintro ⟨h1, h2⟩ x hx
    obtain ⟨i, hi, rfl⟩ := List.getElem_of_mem hx
    have a1 := asc_mono (i := 0) hi (by omega) h
    have a2 := asc_mono (i := i) (j := l.length - 1) (by omega) (by omega) h
    unfold timeP at *
    simp only [Bool.and_eq_true, decide_eq_true_eq] at *
    omega
  · intro h
    exact ⟨h _ (List.getElem_mem _), h _ (List.getElem_mem _)⟩
section
variable {w0 w : World} {L : List HP} {K : Value → World → Prop} {c : Ctx} {tv : Value}
theorem chk2_spec {b : Nat} {s e t : Bool} (h : Sat w0 (Cl b (cCtx c tv).toArray 41 :: L) w) (hK : ∀ w', Sat w0 L w' → K (.int .i64 (if (decide (0 ≤ c.watch) && decide (c.watch ≤ 63) && s && e && t && timeP c.at') = true then 0 else 4)) w') :
    F22_2 (.pointer (some ⟨b, 0, none⟩)) (.bool s) (.bool e) (.bool t) w K := by
  unfold F22_2 F22_2b
  by_cases g1 : c.watch < 0
  · have g1' : decide (c.watch < 0) = true := by simpa using g1
    have e1 : decide (0 ≤ c.watch) = false := by simp; omega
    have := hK _ h.drop
    rw [e1] at this
    (repeat (first
 | (simp (disch := omega) only [evA, evB, bAdd_i64, bSub_i64, ptr, Nat.zero_add, Bool.not_true, Bool.not_false, Option.isNone_some, Option.isNone_none, Option.isSome_some, Option.isSome_none, decide_true, decide_false, eq_self, true_and, and_assoc, g1'])
 | ((with_reducible apply go_ld1 h))
 | ((with_reducible apply go_ldA h); (rfl))
 | ((with_reducible apply go_ldN h))
 | ((with_reducible apply go_st h); intro _ h)
 | ((with_reducible apply go_stA h); (rfl); (rfl); (first | rfl | simp); intro _ h)
 | ((with_reducible apply go_stN h); (rfl); (first | rfl | simp); intro _ h)
 | ((with_reducible apply go_box h); rfl; intro _ _ h)
 | ((with_reducible apply go_rd h); (rfl))
 | ((with_reducible apply go_rdN h); (rfl))
 | ((with_reducible apply go_rlen h); (rfl))
 | ((with_reducible apply go_lenL h))
 | ((with_reducible apply go_ix h); (omega))
 | ((with_reducible apply go_elN h); (case hi => omega))
 | ((with_reducible apply go_fa h); (omega); (omega))
 | ((with_reducible apply go_f1 h); (case hi => omega); (case hx => exact inferInstance))
 | ((with_reducible apply go_rf1 h); (case hi => omega); (case hx => exact inferInstance); (case hv => rfl))
 | ((with_reducible apply go_rel h); (case hi => omega); (case hv => rfl))
))
    simpa using this
  have g1' : decide (c.watch < 0) = false := by simpa using g1
  have e1 : decide (0 ≤ c.watch) = true := by simp; omega
  by_cases g2 : c.watch > 63
  · have g2' : decide (c.watch > 63) = true := by simpa using g2
    have e2 : decide (c.watch ≤ 63) = false := by simp; omega
    have := hK _ h.drop
    rw [e1, e2] at this
    (repeat (first
 | (simp (disch := omega) only [evA, evB, bAdd_i64, bSub_i64, ptr, Nat.zero_add, Bool.not_true, Bool.not_false, Option.isNone_some, Option.isNone_none, Option.isSome_some, Option.isSome_none, decide_true, decide_false, eq_self, true_and, and_assoc, g1', g2'])
 | ((with_reducible apply go_ld1 h))
 | ((with_reducible apply go_ldA h); (rfl))
 | ((with_reducible apply go_ldN h))
 | ((with_reducible apply go_st h); intro _ h)
 | ((with_reducible apply go_stA h); (rfl); (rfl); (first | rfl | simp); intro _ h)
 | ((with_reducible apply go_stN h); (rfl); (first | rfl | simp); intro _ h)
 | ((with_reducible apply go_box h); rfl; intro _ _ h)
 | ((with_reducible apply go_rd h); (rfl))
 | ((with_reducible apply go_rdN h); (rfl))
 | ((with_reducible apply go_rlen h); (rfl))
 | ((with_reducible apply go_lenL h))
 | ((with_reducible apply go_ix h); (omega))
 | ((with_reducible apply go_elN h); (case hi => omega))
 | ((with_reducible apply go_fa h); (omega); (omega))
 | ((with_reducible apply go_f1 h); (case hi => omega); (case hx => exact inferInstance))
 | ((with_reducible apply go_rf1 h); (case hi => omega); (case hx => exact inferInstance); (case hv => rfl))
 | ((with_reducible apply go_rel h); (case hi => omega); (case hv => rfl))
))
    simpa using this
  have g2' : decide (c.watch > 63) = false := by simpa using g2
  have e2 : decide (c.watch ≤ 63) = true := by simp; omega
  rw [e1, e2] at hK
  cases s
  · have := hK _ h.drop
    (repeat (first
 | (simp (disch := omega) only [evA, evB, bAdd_i64, bSub_i64, ptr, Nat.zero_add, Bool.not_true, Bool.not_false, Option.isNone_some, Option.isNone_none, Option.isSome_some, Option.isSome_none, decide_true, decide_false, eq_self, true_and, and_assoc, g1', g2'])
 | ((with_reducible apply go_ld1 h))
 | ((with_reducible apply go_ldA h); (rfl))
 | ((with_reducible apply go_ldN h))
 | ((with_reducible apply go_st h); intro _ h)
 | ((with_reducible apply go_stA h); (rfl); (rfl); (first | rfl | simp); intro _ h)
 | ((with_reducible apply go_stN h); (rfl); (first | rfl | simp); intro _ h)
 | ((with_reducible apply go_box h); rfl; intro _ _ h)
 | ((with_reducible apply go_rd h); (rfl))
 | ((with_reducible apply go_rdN h); (rfl))
 | ((with_reducible apply go_rlen h); (rfl))
 | ((with_reducible apply go_lenL h))
 | ((with_reducible apply go_ix h); (omega))
 | ((with_reducible apply go_elN h); (case hi => omega))
 | ((with_reducible apply go_fa h); (omega); (omega))
 | ((with_reducible apply go_f1 h); (case hi => omega); (case hx => exact inferInstance))
 | ((with_reducible apply go_rf1 h); (case hi => omega); (case hx => exact inferInstance); (case hv => rfl))
 | ((with_reducible apply go_rel h); (case hi => omega); (case hv => rfl))
))
    simpa using this
  cases e
  · have := hK _ h.drop
    (repeat (first
 | (simp (disch := omega) only [evA, evB, bAdd_i64, bSub_i64, ptr, Nat.zero_add, Bool.not_true, Bool.not_false, Option.isNone_some, Option.isNone_none, Option.isSome_some, Option.isSome_none, decide_true, decide_false, eq_self, true_and, and_assoc, g1', g2'])
 | ((with_reducible apply go_ld1 h))
 | ((with_reducible apply go_ldA h); (rfl))
 | ((with_reducible apply go_ldN h))
 | ((with_reducible apply go_st h); intro _ h)
 | ((with_reducible apply go_stA h); (rfl); (rfl); (first | rfl | simp); intro _ h)
 | ((with_reducible apply go_stN h); (rfl); (first | rfl | simp); intro _ h)
 | ((with_reducible apply go_box h); rfl; intro _ _ h)
 | ((with_reducible apply go_rd h); (rfl))
 | ((with_reducible apply go_rdN h); (rfl))
 | ((with_reducible apply go_rlen h); (rfl))
 | ((with_reducible apply go_lenL h))
 | ((with_reducible apply go_ix h); (omega))
 | ((with_reducible apply go_elN h); (case hi => omega))
 | ((with_reducible apply go_fa h); (omega); (omega))
 | ((with_reducible apply go_f1 h); (case hi => omega); (case hx => exact inferInstance))
 | ((with_reducible apply go_rf1 h); (case hi => omega); (case hx => exact inferInstance); (case hv => rfl))
 | ((with_reducible apply go_rel h); (case hi => omega); (case hv => rfl))
))
    simpa using this
  cases t
  · have := hK _ h.drop
    (repeat (first
 | (simp (disch := omega) only [evA, evB, bAdd_i64, bSub_i64, ptr, Nat.zero_add, Bool.not_true, Bool.not_false, Option.isNone_some, Option.isNone_none, Option.isSome_some, Option.isSome_none, decide_true, decide_false, eq_self, true_and, and_assoc, g1', g2'])
 | ((with_reducible apply go_ld1 h))
 | ((with_reducible apply go_ldA h); (rfl))
 | ((with_reducible apply go_ldN h))
 | ((with_reducible apply go_st h); intro _ h)
 | ((with_reducible apply go_stA h); (rfl); (rfl); (first | rfl | simp); intro _ h)
 | ((with_reducible apply go_stN h); (rfl); (first | rfl | simp); intro _ h)
 | ((with_reducible apply go_box h); rfl; intro _ _ h)
 | ((with_reducible apply go_rd h); (rfl))
 | ((with_reducible apply go_rdN h); (rfl))
 | ((with_reducible apply go_rlen h); (rfl))
 | ((with_reducible apply go_lenL h))
 | ((with_reducible apply go_ix h); (omega))
 | ((with_reducible apply go_elN h); (case hi => omega))
 | ((with_reducible apply go_fa h); (omega); (omega))
 | ((with_reducible apply go_f1 h); (case hi => omega); (case hx => exact inferInstance))
 | ((with_reducible apply go_rf1 h); (case hi => omega); (case hx => exact inferInstance); (case hv => rfl))
 | ((with_reducible apply go_rel h); (case hi => omega); (case hv => rfl))
))
    simpa using this
  (repeat (first
 | (simp (disch := omega) only [evA, evB, bAdd_i64, bSub_i64, ptr, Nat.zero_add, Bool.not_true, Bool.not_false, Option.isNone_some, Option.isNone_none, Option.isSome_some, Option.isSome_none, decide_true, decide_false, eq_self, true_and, and_assoc, g1', g2'])
 | ((with_reducible apply go_ld1 h))
 | ((with_reducible apply go_ldA h); (rfl))
 | ((with_reducible apply go_ldN h))
 | ((with_reducible apply go_st h); intro _ h)
 | ((with_reducible apply go_stA h); (rfl); (rfl); (first | rfl | simp); intro _ h)
 | ((with_reducible apply go_stN h); (rfl); (first | rfl | simp); intro _ h)
 | ((with_reducible apply go_box h); rfl; intro _ _ h)
 | ((with_reducible apply go_rd h); (rfl))
 | ((with_reducible apply go_rdN h); (rfl))
 | ((with_reducible apply go_rlen h); (rfl))
 | ((with_reducible apply go_lenL h))
 | ((with_reducible apply go_ix h); (omega))
 | ((with_reducible apply go_elN h); (case hi => omega))
 | ((with_reducible apply go_fa h); (omega); (omega))
 | ((with_reducible apply go_f1 h); (case hi => omega); (case hx => exact inferInstance))
 | ((with_reducible apply go_rf1 h); (case hi => omega); (case hx => exact inferInstance); (case hv => rfl))
 | ((with_reducible apply go_rel h); (case hi => omega); (case hv => rfl))
))
  refine htime_spec ?_
  have := hK _ h.drop
  cases hT : timeP c.at'
  · rw [hT] at this
    (repeat (first
 | (simp (disch := omega) only [evA, evB, bAdd_i64, bSub_i64, ptr, Nat.zero_add, Bool.not_true, Bool.not_false, Option.isNone_some, Option.isNone_none, Option.isSome_some, Option.isSome_none, decide_true, decide_false, eq_self, true_and, and_assoc])
 | ((with_reducible apply go_ld1 h))
 | ((with_reducible apply go_ldA h); (rfl))
 | ((with_reducible apply go_ldN h))
 | ((with_reducible apply go_st h); intro _ h)
 | ((with_reducible apply go_stA h); (rfl); (rfl); (first | rfl | simp); intro _ h)
 | ((with_reducible apply go_stN h); (rfl); (first | rfl | simp); intro _ h)
 | ((with_reducible apply go_box h); rfl; intro _ _ h)
 | ((with_reducible apply go_rd h); (rfl))
 | ((with_reducible apply go_rdN h); (rfl))
 | ((with_reducible apply go_rlen h); (rfl))
 | ((with_reducible apply go_lenL h))
 | ((with_reducible apply go_ix h); (omega))
 | ((with_reducible apply go_elN h); (case hi => omega))
 | ((with_reducible apply go_fa h); (omega); (omega))
 | ((with_reducible apply go_f1 h); (case hi => omega); (case hx => exact inferInstance))
 | ((with_reducible apply go_rf1 h); (case hi => omega); (case hx => exact inferInstance); (case hv => rfl))
 | ((with_reducible apply go_rel h); (case hi => omega); (case hv => rfl))
))
    simpa using this
  · rw [hT] at this
    (repeat (first
 | (simp (disch := omega) only [evA, evB, bAdd_i64, bSub_i64, ptr, Nat.zero_add, Bool.not_true, Bool.not_false, Option.isNone_some, Option.isNone_none, Option.isSome_some, Option.isSome_none, decide_true, decide_false, eq_self, true_and, and_assoc])
 | ((with_reducible apply go_ld1 h))
 | ((with_reducible apply go_ldA h); (rfl))
 | ((with_reducible apply go_ldN h))
 | ((with_reducible apply go_st h); intro _ h)
 | ((with_reducible apply go_stA h); (rfl); (rfl); (first | rfl | simp); intro _ h)
 | ((with_reducible apply go_stN h); (rfl); (first | rfl | simp); intro _ h)
 | ((with_reducible apply go_box h); rfl; intro _ _ h)
 | ((with_reducible apply go_rd h); (rfl))
 | ((with_reducible apply go_rdN h); (rfl))
 | ((with_reducible apply go_rlen h); (rfl))
 | ((with_reducible apply go_lenL h))
 | ((with_reducible apply go_ix h); (omega))
 | ((with_reducible apply go_elN h); (case hi => omega))
 | ((with_reducible apply go_fa h); (omega); (omega))
 | ((with_reducible apply go_f1 h); (case hi => omega); (case hx => exact inferInstance))
 | ((with_reducible apply go_rf1 h); (case hi => omega); (case hx => exact inferInstance); (case hv => rfl))
 | ((with_reducible apply go_rel h); (case hi => omega); (case hv => rfl))
))
    simpa using this
theorem hcheck_spec (hf : c.fits) (hr : RdL w0 L cI 1 tv c.times) (h : Sat w0 L w) (hK : ∀ w', Sat w0 L w' → K (.int .i64 (chkC c)) w') : callP G22 [ctxV c tv] w K := by
  refine c22 ?_
  unfold F22 F22_1 F22_1b
  obtain ⟨f1, f2, f3, f4⟩ := hf
  have fs : Evt.fits ⟨c.node, [99], c.key, 0, []⟩ := ⟨f1, by simp, f2, by simp⟩
  have hsg : okE ⟨c.node, [99], c.key, 0, []⟩ = okSign c.node c.key := rfl
  (repeat (first
 | (simp (disch := omega) only [evA, evB, bAdd_i64, bSub_i64, ptr, Nat.zero_add, Bool.not_true, Bool.not_false, Option.isNone_some, Option.isNone_none, Option.isSome_some, Option.isSome_none, decide_true, decide_false, eq_self, true_and, and_assoc])
 | (refine go_some (fb31_0_1_2 ..) ?_)
 | ((with_reducible apply go_ld1 h))
 | ((with_reducible apply go_ldA h); (rfl))
 | ((with_reducible apply go_ldN h))
 | ((with_reducible apply go_st h); intro _ h)
 | ((with_reducible apply go_stA h); (rfl); (rfl); (first | rfl | simp); intro _ h)
 | ((with_reducible apply go_stN h); (rfl); (first | rfl | simp); intro _ h)
 | ((with_reducible apply go_box h); rfl; intro _ _ h)
 | ((with_reducible apply go_rd h); (rfl))
 | ((with_reducible apply go_rdN h); (rfl))
 | ((with_reducible apply go_rlen h); (rfl))
 | ((with_reducible apply go_lenL h))
 | ((with_reducible apply go_ix h); (omega))
 | ((with_reducible apply go_elN h); (case hi => omega))
 | ((with_reducible apply go_fa h); (omega); (omega))
 | ((with_reducible apply go_f1 h); (case hi => omega); (case hx => exact inferInstance))
 | ((with_reducible apply go_rf1 h); (case hi => omega); (case hx => exact inferInstance); (case hv => rfl))
 | ((with_reducible apply go_rel h); (case hi => omega); (case hv => rfl))
))
  refine ncheck_spec (e := ⟨c.node, [99], c.key, 0, []⟩) fs h fun w h => ?_
  (repeat (first
 | (simp (disch := omega) only [evA, evB, bAdd_i64, bSub_i64, ptr, Nat.zero_add, Bool.not_true, Bool.not_false, Option.isNone_some, Option.isNone_none, Option.isSome_some, Option.isSome_none, decide_true, decide_false, eq_self, true_and, and_assoc, chkE_dec, hsg])
 | (refine go_some (fb31 ..) ?_)
 | ((with_reducible apply go_ld1 h))
 | ((with_reducible apply go_ldA h); (rfl))
 | ((with_reducible apply go_ldN h))
 | ((with_reducible apply go_st h); intro _ h)
 | ((with_reducible apply go_stA h); (rfl); (rfl); (first | rfl | simp); intro _ h)
 | ((with_reducible apply go_stN h); (rfl); (first | rfl | simp); intro _ h)
 | ((with_reducible apply go_box h); rfl; intro _ _ h)
 | ((with_reducible apply go_rd h); (rfl))
 | ((with_reducible apply go_rdN h); (rfl))
 | ((with_reducible apply go_rlen h); (rfl))
 | ((with_reducible apply go_lenL h))
 | ((with_reducible apply go_ix h); (omega))
 | ((with_reducible apply go_elN h); (case hi => omega))
 | ((with_reducible apply go_fa h); (omega); (omega))
 | ((with_reducible apply go_f1 h); (case hi => omega); (case hx => exact inferInstance))
 | ((with_reducible apply go_rf1 h); (case hi => omega); (case hx => exact inferInstance); (case hv => rfl))
 | ((with_reducible apply go_rel h); (case hi => omega); (case hv => rfl))
))
  refine go_some (eqE _ _ c.e zeroE) ?_
  have fin : ∀ (b : Nat) (w : World) (t : Bool), Sat w0 (Cl b (cCtx c tv).toArray 41 :: L) w → t = okTimes c.times → F22_2 (.pointer (some ⟨b, 0, none⟩)) (.bool (okSign c.node c.key)) (.bool (okEv c.e)) (.bool t) w K := by
    intro b w t h ht
    subst ht
    exact chk2_spec h hK
  have hev : okEv c.e = (decide (c.e = zeroE) || okE c.e) := rfl
  have hti : okTimes c.times = (decide (c.times.length ≤ 1000) && (ascI c.times && c.times.all timeP)) := rfl
  cases g1 : decide (c.e = zeroE)
  all_goals rw [g1] at hev
  · (repeat (first
 | (simp (disch := omega) only [evA, evB, bAdd_i64, bSub_i64, ptr, Nat.zero_add, Bool.not_true, Bool.not_false, Option.isNone_some, Option.isNone_none, Option.isSome_some, Option.isSome_none, decide_true, decide_false, eq_self, true_and, and_assoc])
 | ((with_reducible apply go_ld1 h))
 | ((with_reducible apply go_ldA h); (rfl))
 | ((with_reducible apply go_ldN h))
 | ((with_reducible apply go_st h); intro _ h)
 | ((with_reducible apply go_stA h); (rfl); (rfl); (first | rfl | simp); intro _ h)
 | ((with_reducible apply go_stN h); (rfl); (first | rfl | simp); intro _ h)
 | ((with_reducible apply go_box h); rfl; intro _ _ h)
 | ((with_reducible apply go_rd h); (rfl))
 | ((with_reducible apply go_rdN h); (rfl))
 | ((with_reducible apply go_rlen h); (rfl))
 | ((with_reducible apply go_lenL h))
 | ((with_reducible apply go_ix h); (omega))
 | ((with_reducible apply go_elN h); (case hi => omega))
 | ((with_reducible apply go_fa h); (omega); (omega))
 | ((with_reducible apply go_f1 h); (case hi => omega); (case hx => exact inferInstance))
 | ((with_reducible apply go_rf1 h); (case hi => omega); (case hx => exact inferInstance); (case hv => rfl))
 | ((with_reducible apply go_rel h); (case hi => omega); (case hv => rfl))
))
    refine ncheck_spec (e := c.e) f3 h fun w h => ?_
    rw [Bool.false_or] at hev
    (repeat (first
 | (simp (disch := omega) only [evA, evB, bAdd_i64, bSub_i64, ptr, Nat.zero_add, Bool.not_true, Bool.not_false, Option.isNone_some, Option.isNone_none, Option.isSome_some, Option.isSome_none, decide_true, decide_false, eq_self, true_and, and_assoc, chkE_dec, hev.symm])
 | ((with_reducible apply go_ld1 h))
 | ((with_reducible apply go_ldA h); (rfl))
 | ((with_reducible apply go_ldN h))
 | ((with_reducible apply go_st h); intro _ h)
 | ((with_reducible apply go_stA h); (rfl); (rfl); (first | rfl | simp); intro _ h)
 | ((with_reducible apply go_stN h); (rfl); (first | rfl | simp); intro _ h)
 | ((with_reducible apply go_box h); rfl; intro _ _ h)
 | ((with_reducible apply go_rd h); (rfl))
 | ((with_reducible apply go_rdN h); (rfl))
 | ((with_reducible apply go_rlen h); (rfl))
 | ((with_reducible apply go_lenL h))
 | ((with_reducible apply go_ix h); (omega))
 | ((with_reducible apply go_elN h); (case hi => omega))
 | ((with_reducible apply go_fa h); (omega); (omega))
 | ((with_reducible apply go_f1 h); (case hi => omega); (case hx => exact inferInstance))
 | ((with_reducible apply go_rf1 h); (case hi => omega); (case hx => exact inferInstance); (case hv => rfl))
 | ((with_reducible apply go_rel h); (case hi => omega); (case hv => rfl))
))
    have hl := (hr w h.drop).len
    by_cases g2 : c.times.length ≤ 1000
    · have g2' : decide ((c.times.length : Int) ≤ 1000) = true := by simp; omega
      have g2d : decide (c.times.length ≤ 1000) = true := by simpa using g2
      rw [g2d, Bool.true_and] at hti
      (repeat (first
 | (simp (disch := omega) only [evA, evB, bAdd_i64, bSub_i64, ptr, Nat.zero_add, Bool.not_true, Bool.not_false, Option.isNone_some, Option.isNone_none, Option.isSome_some, Option.isSome_none, decide_true, decide_false, eq_self, true_and, and_assoc, hl, g2'])
 | ((with_reducible apply go_ld1 h))
 | ((with_reducible apply go_ldA h); (rfl))
 | ((with_reducible apply go_ldN h))
 | ((with_reducible apply go_st h); intro _ h)
 | ((with_reducible apply go_stA h); (rfl); (rfl); (first | rfl | simp); intro _ h)
 | ((with_reducible apply go_stN h); (rfl); (first | rfl | simp); intro _ h)
 | ((with_reducible apply go_box h); rfl; intro _ _ h)
 | ((with_reducible apply go_rd h); (rfl))
 | ((with_reducible apply go_rdN h); (rfl))
 | ((with_reducible apply go_rlen h); (rfl))
 | ((with_reducible apply go_lenL h))
 | ((with_reducible apply go_ix h); (omega))
 | ((with_reducible apply go_elN h); (case hi => omega))
 | ((with_reducible apply go_fa h); (omega); (omega))
 | ((with_reducible apply go_f1 h); (case hi => omega); (case hx => exact inferInstance))
 | ((with_reducible apply go_rf1 h); (case hi => omega); (case hx => exact inferInstance); (case hv => rfl))
 | ((with_reducible apply go_rel h); (case hi => omega); (case hv => rfl))
))
      refine sorted_spec (l := c.times) (by omega) hr.cons h fun w h => ?_
      cases g3 : ascI c.times
      · rw [g3] at hti
        (repeat (first
 | (simp (disch := omega) only [evA, evB, bAdd_i64, bSub_i64, ptr, Nat.zero_add, Bool.not_true, Bool.not_false, Option.isNone_some, Option.isNone_none, Option.isSome_some, Option.isSome_none, decide_true, decide_false, eq_self, true_and, and_assoc])
 | ((with_reducible apply go_ld1 h))
 | ((with_reducible apply go_ldA h); (rfl))
 | ((with_reducible apply go_ldN h))
 | ((with_reducible apply go_st h); intro _ h)
 | ((with_reducible apply go_stA h); (rfl); (rfl); (first | rfl | simp); intro _ h)
 | ((with_reducible apply go_stN h); (rfl); (first | rfl | simp); intro _ h)
 | ((with_reducible apply go_box h); rfl; intro _ _ h)
 | ((with_reducible apply go_rd h); (rfl))
 | ((with_reducible apply go_rdN h); (rfl))
 | ((with_reducible apply go_rlen h); (rfl))
 | ((with_reducible apply go_lenL h))
 | ((with_reducible apply go_ix h); (omega))
 | ((with_reducible apply go_elN h); (case hi => omega))
 | ((with_reducible apply go_fa h); (omega); (omega))
 | ((with_reducible apply go_f1 h); (case hi => omega); (case hx => exact inferInstance))
 | ((with_reducible apply go_rf1 h); (case hi => omega); (case hx => exact inferInstance); (case hv => rfl))
 | ((with_reducible apply go_rel h); (case hi => omega); (case hv => rfl))
))
        exact fin _ _ false h hti.symm
      · rw [g3, Bool.true_and] at hti
        by_cases g4 : 0 < c.times.length
        · have g4' : decide ((c.times.length : Int) > 0) = true := by rw [decide_eq_true_eq]; omega
          have hte := times_ends g3 g4
          have hx := i_at (hr w h.drop) g4
          have e0 : ((c.times.length : Int) - 1) = ((c.times.length - 1 : Nat) : Int) := by omega
          have hlt : c.times.length - 1 < c.times.length := by omega
          (repeat (first
 | (simp (disch := omega) only [evA, evB, bAdd_i64, bSub_i64, ptr, Nat.zero_add, Bool.not_true, Bool.not_false, Option.isNone_some, Option.isNone_none, Option.isSome_some, Option.isSome_none, decide_true, decide_false, eq_self, true_and, and_assoc, hl, g4'])
 | ((with_reducible apply go_ld1 h))
 | ((with_reducible apply go_ldA h); (rfl))
 | ((with_reducible apply go_ldN h))
 | ((with_reducible apply go_st h); intro _ h)
 | ((with_reducible apply go_stA h); (rfl); (rfl); (first | rfl | simp); intro _ h)
 | ((with_reducible apply go_stN h); (rfl); (first | rfl | simp); intro _ h)
 | ((with_reducible apply go_box h); rfl; intro _ _ h)
 | ((with_reducible apply go_rd h); (rfl))
 | ((with_reducible apply go_rdN h); (rfl))
 | ((with_reducible apply go_rlen h); (rfl))
 | ((with_reducible apply go_lenL h))
 | ((with_reducible apply go_ix h); (omega))
 | ((with_reducible apply go_elN h); (case hi => omega))
 | ((with_reducible apply go_fa h); (omega); (omega))
 | ((with_reducible apply go_f1 h); (case hi => omega); (case hx => exact inferInstance))
 | ((with_reducible apply go_rf1 h); (case hi => omega); (case hx => exact inferInstance); (case hv => rfl))
 | ((with_reducible apply go_rel h); (case hi => omega); (case hv => rfl))
))
          refine go_some hx.1 ?_
          refine go_some hx.2 ?_
          refine htime_spec ?_
          cases g5 : timeP c.times[0]
          · rw [g5] at hte
            (repeat (first
 | (simp (disch := omega) only [evA, evB, bAdd_i64, bSub_i64, ptr, Nat.zero_add, Bool.not_true, Bool.not_false, Option.isNone_some, Option.isNone_none, Option.isSome_some, Option.isSome_none, decide_true, decide_false, eq_self, true_and, and_assoc])
 | ((with_reducible apply go_ld1 h))
 | ((with_reducible apply go_ldA h); (rfl))
 | ((with_reducible apply go_ldN h))
 | ((with_reducible apply go_st h); intro _ h)
 | ((with_reducible apply go_stA h); (rfl); (rfl); (first | rfl | simp); intro _ h)
 | ((with_reducible apply go_stN h); (rfl); (first | rfl | simp); intro _ h)
 | ((with_reducible apply go_box h); rfl; intro _ _ h)
 | ((with_reducible apply go_rd h); (rfl))
 | ((with_reducible apply go_rdN h); (rfl))
 | ((with_reducible apply go_rlen h); (rfl))
 | ((with_reducible apply go_lenL h))
 | ((with_reducible apply go_ix h); (omega))
 | ((with_reducible apply go_elN h); (case hi => omega))
 | ((with_reducible apply go_fa h); (omega); (omega))
 | ((with_reducible apply go_f1 h); (case hi => omega); (case hx => exact inferInstance))
 | ((with_reducible apply go_rf1 h); (case hi => omega); (case hx => exact inferInstance); (case hv => rfl))
 | ((with_reducible apply go_rel h); (case hi => omega); (case hv => rfl))
))
            exact fin _ _ false h (by rw [hti, ← hte]; rfl)
          · rw [g5, Bool.true_and] at hte
            (repeat (first
 | (simp (disch := omega) only [evA, evB, bAdd_i64, bSub_i64, ptr, Nat.zero_add, Bool.not_true, Bool.not_false, Option.isNone_some, Option.isNone_none, Option.isSome_some, Option.isSome_none, decide_true, decide_false, eq_self, true_and, and_assoc, hl, e0, (i_at (hr w h.drop) hlt)])
 | ((with_reducible apply go_ld1 h))
 | ((with_reducible apply go_ldA h); (rfl))
 | ((with_reducible apply go_ldN h))
 | ((with_reducible apply go_st h); intro _ h)
 | ((with_reducible apply go_stA h); (rfl); (rfl); (first | rfl | simp); intro _ h)
 | ((with_reducible apply go_stN h); (rfl); (first | rfl | simp); intro _ h)
 | ((with_reducible apply go_box h); rfl; intro _ _ h)
 | ((with_reducible apply go_rd h); (rfl))
 | ((with_reducible apply go_rdN h); (rfl))
 | ((with_reducible apply go_rlen h); (rfl))
 | ((with_reducible apply go_lenL h))
 | ((with_reducible apply go_ix h); (omega))
 | ((with_reducible apply go_elN h); (case hi => omega))
 | ((with_reducible apply go_fa h); (omega); (omega))
 | ((with_reducible apply go_f1 h); (case hi => omega); (case hx => exact inferInstance))
 | ((with_reducible apply go_rf1 h); (case hi => omega); (case hx => exact inferInstance); (case hv => rfl))
 | ((with_reducible apply go_rel h); (case hi => omega); (case hv => rfl))
))
            refine htime_spec ?_
            (repeat (first
 | (simp (disch := omega) only [evA, evB, bAdd_i64, bSub_i64, ptr, Nat.zero_add, Bool.not_true, Bool.not_false, Option.isNone_some, Option.isNone_none, Option.isSome_some, Option.isSome_none, decide_true, decide_false, eq_self, true_and, and_assoc])
 | ((with_reducible apply go_ld1 h))
 | ((with_reducible apply go_ldA h); (rfl))
 | ((with_reducible apply go_ldN h))
 | ((with_reducible apply go_st h); intro _ h)
 | ((with_reducible apply go_stA h); (rfl); (rfl); (first | rfl | simp); intro _ h)
 | ((with_reducible apply go_stN h); (rfl); (first | rfl | simp); intro _ h)
 | ((with_reducible apply go_box h); rfl; intro _ _ h)
 | ((with_reducible apply go_rd h); (rfl))
 | ((with_reducible apply go_rdN h); (rfl))
 | ((with_reducible apply go_rlen h); (rfl))
 | ((with_reducible apply go_lenL h))
 | ((with_reducible apply go_ix h); (omega))
 | ((with_reducible apply go_elN h); (case hi => omega))
 | ((with_reducible apply go_fa h); (omega); (omega))
 | ((with_reducible apply go_f1 h); (case hi => omega); (case hx => exact inferInstance))
 | ((with_reducible apply go_rf1 h); (case hi => omega); (case hx => exact inferInstance); (case hv => rfl))
 | ((with_reducible apply go_rel h); (case hi => omega); (case hv => rfl))
))
            exact fin _ _ _ h (by rw [hti, ← hte])
        · have g4' : decide ((c.times.length : Int) > 0) = false := by rw [decide_eq_false_iff_not]; omega
          have : c.times = [] := List.eq_nil_of_length_eq_zero (by omega)
          (repeat (first
 | (simp (disch := omega) only [evA, evB, bAdd_i64, bSub_i64, ptr, Nat.zero_add, Bool.not_true, Bool.not_false, Option.isNone_some, Option.isNone_none, Option.isSome_some, Option.isSome_none, decide_true, decide_false, eq_self, true_and, and_assoc, hl, g4'])
 | ((with_reducible apply go_ld1 h))
 | ((with_reducible apply go_ldA h); (rfl))
 | ((with_reducible apply go_ldN h))
 | ((with_reducible apply go_st h); intro _ h)
 | ((with_reducible apply go_stA h); (rfl); (rfl); (first | rfl | simp); intro _ h)
 | ((with_reducible apply go_stN h); (rfl); (first | rfl | simp); intro _ h)
 | ((with_reducible apply go_box h); rfl; intro _ _ h)
 | ((with_reducible apply go_rd h); (rfl))
 | ((with_reducible apply go_rdN h); (rfl))
 | ((with_reducible apply go_rlen h); (rfl))
 | ((with_reducible apply go_lenL h))
 | ((with_reducible apply go_ix h); (omega))
 | ((with_reducible apply go_elN h); (case hi => omega))
 | ((with_reducible apply go_fa h); (omega); (omega))
 | ((with_reducible apply go_f1 h); (case hi => omega); (case hx => exact inferInstance))
 | ((with_reducible apply go_rf1 h); (case hi => omega); (case hx => exact inferInstance); (case hv => rfl))
 | ((with_reducible apply go_rel h); (case hi => omega); (case hv => rfl))
))
          exact fin _ _ true h (by rw [hti, this]; rfl)
    · have g2' : decide ((c.times.length : Int) ≤ 1000) = false := by simp; omega
      have g2d : decide (c.times.length ≤ 1000) = false := by simpa using g2
      rw [g2d, Bool.false_and] at hti
      (repeat (first
 | (simp (disch := omega) only [evA, evB, bAdd_i64, bSub_i64, ptr, Nat.zero_add, Bool.not_true, Bool.not_false, Option.isNone_some, Option.isNone_none, Option.isSome_some, Option.isSome_none, decide_true, decide_false, eq_self, true_and, and_assoc, hl, g2'])
 | ((with_reducible apply go_ld1 h))
 | ((with_reducible apply go_ldA h); (rfl))
 | ((with_reducible apply go_ldN h))
 | ((with_reducible apply go_st h); intro _ h)
 | ((with_reducible apply go_stA h); (rfl); (rfl); (first | rfl | simp); intro _ h)
 | ((with_reducible apply go_stN h); (rfl); (first | rfl | simp); intro _ h)
 | ((with_reducible apply go_box h); rfl; intro _ _ h)
 | ((with_reducible apply go_rd h); (rfl))
 | ((with_reducible apply go_rdN h); (rfl))
 | ((with_reducible apply go_rlen h); (rfl))
 | ((with_reducible apply go_lenL h))
 | ((with_reducible apply go_ix h); (omega))
 | ((with_reducible apply go_elN h); (case hi => omega))
 | ((with_reducible apply go_fa h); (omega); (omega))
 | ((with_reducible apply go_f1 h); (case hi => omega); (case hx => exact inferInstance))
 | ((with_reducible apply go_rf1 h); (case hi => omega); (case hx => exact inferInstance); (case hv => rfl))
 | ((with_reducible apply go_rel h); (case hi => omega); (case hv => rfl))
))
      exact fin _ _ false h hti.symm
  · rw [Bool.true_or] at hev
    rw [hev] at fin
    (repeat (first
 | (simp (disch := omega) only [evA, evB, bAdd_i64, bSub_i64, ptr, Nat.zero_add, Bool.not_true, Bool.not_false, Option.isNone_some, Option.isNone_none, Option.isSome_some, Option.isSome_none, decide_true, decide_false, eq_self, true_and, and_assoc])
 | ((with_reducible apply go_ld1 h))
 | ((with_reducible apply go_ldA h); (rfl))
 | ((with_reducible apply go_ldN h))
 | ((with_reducible apply go_st h); intro _ h)
 | ((with_reducible apply go_stA h); (rfl); (rfl); (first | rfl | simp); intro _ h)
 | ((with_reducible apply go_stN h); (rfl); (first | rfl | simp); intro _ h)
 | ((with_reducible apply go_box h); rfl; intro _ _ h)
 | ((with_reducible apply go_rd h); (rfl))
 | ((with_reducible apply go_rdN h); (rfl))
 | ((with_reducible apply go_rlen h); (rfl))
 | ((with_reducible apply go_lenL h))
 | ((with_reducible apply go_ix h); (omega))
 | ((with_reducible apply go_elN h); (case hi => omega))
 | ((with_reducible apply go_fa h); (omega); (omega))
 | ((with_reducible apply go_f1 h); (case hi => omega); (case hx => exact inferInstance))
 | ((with_reducible apply go_rf1 h); (case hi => omega); (case hx => exact inferInstance); (case hv => rfl))
 | ((with_reducible apply go_rel h); (case hi => omega); (case hv => rfl))
))
    have hl := (hr w h.drop).len
    by_cases g2 : c.times.length ≤ 1000
    · have g2' : decide ((c.times.length : Int) ≤ 1000) = true := by simp; omega
      have g2d : decide (c.times.length ≤ 1000) = true := by simpa using g2
      rw [g2d, Bool.true_and] at hti
      (repeat (first
 | (simp (disch := omega) only [evA, evB, bAdd_i64, bSub_i64, ptr, Nat.zero_add, Bool.not_true, Bool.not_false, Option.isNone_some, Option.isNone_none, Option.isSome_some, Option.isSome_none, decide_true, decide_false, eq_self, true_and, and_assoc, hl, g2'])
 | ((with_reducible apply go_ld1 h))
 | ((with_reducible apply go_ldA h); (rfl))
 | ((with_reducible apply go_ldN h))
 | ((with_reducible apply go_st h); intro _ h)
 | ((with_reducible apply go_stA h); (rfl); (rfl); (first | rfl | simp); intro _ h)
 | ((with_reducible apply go_stN h); (rfl); (first | rfl | simp); intro _ h)
 | ((with_reducible apply go_box h); rfl; intro _ _ h)
 | ((with_reducible apply go_rd h); (rfl))
 | ((with_reducible apply go_rdN h); (rfl))
 | ((with_reducible apply go_rlen h); (rfl))
 | ((with_reducible apply go_lenL h))
 | ((with_reducible apply go_ix h); (omega))
 | ((with_reducible apply go_elN h); (case hi => omega))
 | ((with_reducible apply go_fa h); (omega); (omega))
 | ((with_reducible apply go_f1 h); (case hi => omega); (case hx => exact inferInstance))
 | ((with_reducible apply go_rf1 h); (case hi => omega); (case hx => exact inferInstance); (case hv => rfl))
 | ((with_reducible apply go_rel h); (case hi => omega); (case hv => rfl))
))
      refine sorted_spec (l := c.times) (by omega) hr.cons h fun w h => ?_
      cases g3 : ascI c.times
      · rw [g3] at hti
        (repeat (first
 | (simp (disch := omega) only [evA, evB, bAdd_i64, bSub_i64, ptr, Nat.zero_add, Bool.not_true, Bool.not_false, Option.isNone_some, Option.isNone_none, Option.isSome_some, Option.isSome_none, decide_true, decide_false, eq_self, true_and, and_assoc])
 | ((with_reducible apply go_ld1 h))
 | ((with_reducible apply go_ldA h); (rfl))
 | ((with_reducible apply go_ldN h))
 | ((with_reducible apply go_st h); intro _ h)
 | ((with_reducible apply go_stA h); (rfl); (rfl); (first | rfl | simp); intro _ h)
 | ((with_reducible apply go_stN h); (rfl); (first | rfl | simp); intro _ h)
 | ((with_reducible apply go_box h); rfl; intro _ _ h)
 | ((with_reducible apply go_rd h); (rfl))
 | ((with_reducible apply go_rdN h); (rfl))
 | ((with_reducible apply go_rlen h); (rfl))
 | ((with_reducible apply go_lenL h))
 | ((with_reducible apply go_ix h); (omega))
 | ((with_reducible apply go_elN h); (case hi => omega))
 | ((with_reducible apply go_fa h); (omega); (omega))
 | ((with_reducible apply go_f1 h); (case hi => omega); (case hx => exact inferInstance))
 | ((with_reducible apply go_rf1 h); (case hi => omega); (case hx => exact inferInstance); (case hv => rfl))
 | ((with_reducible apply go_rel h); (case hi => omega); (case hv => rfl))
))
        exact fin _ _ false h hti.symm
      · rw [g3, Bool.true_and] at hti
        by_cases g4 : 0 < c.times.length
        · have g4' : decide ((c.times.length : Int) > 0) = true := by rw [decide_eq_true_eq]; omega
          have hte := times_ends g3 g4
          have hx := i_at (hr w h.drop) g4
          have e0 : ((c.times.length : Int) - 1) = ((c.times.length - 1 : Nat) : Int) := by omega
          have hlt : c.times.length - 1 < c.times.length := by omega
          (repeat (first
 | (simp (disch := omega) only [evA, evB, bAdd_i64, bSub_i64, ptr, Nat.zero_add, Bool.not_true, Bool.not_false, Option.isNone_some, Option.isNone_none, Option.isSome_some, Option.isSome_none, decide_true, decide_false, eq_self, true_and, and_assoc, hl, g4'])
 | ((with_reducible apply go_ld1 h))
 | ((with_reducible apply go_ldA h); (rfl))
 | ((with_reducible apply go_ldN h))
 | ((with_reducible apply go_st h); intro _ h)
 | ((with_reducible apply go_stA h); (rfl); (rfl); (first | rfl | simp); intro _ h)
 | ((with_reducible apply go_stN h); (rfl); (first | rfl | simp); intro _ h)
 | ((with_reducible apply go_box h); rfl; intro _ _ h)
 | ((with_reducible apply go_rd h); (rfl))
 | ((with_reducible apply go_rdN h); (rfl))
 | ((with_reducible apply go_rlen h); (rfl))
 | ((with_reducible apply go_lenL h))
 | ((with_reducible apply go_ix h); (omega))
 | ((with_reducible apply go_elN h); (case hi => omega))
 | ((with_reducible apply go_fa h); (omega); (omega))
 | ((with_reducible apply go_f1 h); (case hi => omega); (case hx => exact inferInstance))
 | ((with_reducible apply go_rf1 h); (case hi => omega); (case hx => exact inferInstance); (case hv => rfl))
 | ((with_reducible apply go_rel h); (case hi => omega); (case hv => rfl))
))
          refine go_some hx.1 ?_
          refine go_some hx.2 ?_
          refine htime_spec ?_
          cases g5 : timeP c.times[0]
          · rw [g5] at hte
            (repeat (first
 | (simp (disch := omega) only [evA, evB, bAdd_i64, bSub_i64, ptr, Nat.zero_add, Bool.not_true, Bool.not_false, Option.isNone_some, Option.isNone_none, Option.isSome_some, Option.isSome_none, decide_true, decide_false, eq_self, true_and, and_assoc])
 | ((with_reducible apply go_ld1 h))
 | ((with_reducible apply go_ldA h); (rfl))
 | ((with_reducible apply go_ldN h))
 | ((with_reducible apply go_st h); intro _ h)
 | ((with_reducible apply go_stA h); (rfl); (rfl); (first | rfl | simp); intro _ h)
 | ((with_reducible apply go_stN h); (rfl); (first | rfl | simp); intro _ h)
 | ((with_reducible apply go_box h); rfl; intro _ _ h)
 | ((with_reducible apply go_rd h); (rfl))
 | ((with_reducible apply go_rdN h); (rfl))
 | ((with_reducible apply go_rlen h); (rfl))
 | ((with_reducible apply go_lenL h))
 | ((with_reducible apply go_ix h); (omega))
 | ((with_reducible apply go_elN h); (case hi => omega))
 | ((with_reducible apply go_fa h); (omega); (omega))
 | ((with_reducible apply go_f1 h); (case hi => omega); (case hx => exact inferInstance))
 | ((with_reducible apply go_rf1 h); (case hi => omega); (case hx => exact inferInstance); (case hv => rfl))
 | ((with_reducible apply go_rel h); (case hi => omega); (case hv => rfl))
))
            exact fin _ _ false h (by rw [hti, ← hte]; rfl)
          · rw [g5, Bool.true_and] at hte
            (repeat (first
 | (simp (disch := omega) only [evA, evB, bAdd_i64, bSub_i64, ptr, Nat.zero_add, Bool.not_true, Bool.not_false, Option.isNone_some, Option.isNone_none, Option.isSome_some, Option.isSome_none, decide_true, decide_false, eq_self, true_and, and_assoc, hl, e0, (i_at (hr w h.drop) hlt)])
 | ((with_reducible apply go_ld1 h))
 | ((with_reducible apply go_ldA h); (rfl))
 | ((with_reducible apply go_ldN h))
 | ((with_reducible apply go_st h); intro _ h)
 | ((with_reducible apply go_stA h); (rfl); (rfl); (first | rfl | simp); intro _ h)
 | ((with_reducible apply go_stN h); (rfl); (first | rfl | simp); intro _ h)
 | ((with_reducible apply go_box h); rfl; intro _ _ h)
 | ((with_reducible apply go_rd h); (rfl))
 | ((with_reducible apply go_rdN h); (rfl))
 | ((with_reducible apply go_rlen h); (rfl))
 | ((with_reducible apply go_lenL h))
 | ((with_reducible apply go_ix h); (omega))
 | ((with_reducible apply go_elN h); (case hi => omega))
 | ((with_reducible apply go_fa h); (omega); (omega))
 | ((with_reducible apply go_f1 h); (case hi => omega); (case hx => exact inferInstance))
 | ((with_reducible apply go_rf1 h); (case hi => omega); (case hx => exact inferInstance); (case hv => rfl))
 | ((with_reducible apply go_rel h); (case hi => omega); (case hv => rfl))
))
            refine htime_spec ?_
            (repeat (first
 | (simp (disch := omega) only [evA, evB, bAdd_i64, bSub_i64, ptr, Nat.zero_add, Bool.not_true, Bool.not_false, Option.isNone_some, Option.isNone_none, Option.isSome_some, Option.isSome_none, decide_true, decide_false, eq_self, true_and, and_assoc])
 | ((with_reducible apply go_ld1 h))
 | ((with_reducible apply go_ldA h); (rfl))
 | ((with_reducible apply go_ldN h))
 | ((with_reducible apply go_st h); intro _ h)
 | ((with_reducible apply go_stA h); (rfl); (rfl); (first | rfl | simp); intro _ h)
 | ((with_reducible apply go_stN h); (rfl); (first | rfl | simp); intro _ h)
 | ((with_reducible apply go_box h); rfl; intro _ _ h)
 | ((with_reducible apply go_rd h); (rfl))
 | ((with_reducible apply go_rdN h); (rfl))
 | ((with_reducible apply go_rlen h); (rfl))
 | ((with_reducible apply go_lenL h))
 | ((with_reducible apply go_ix h); (omega))
 | ((with_reducible apply go_elN h); (case hi => omega))
 | ((with_reducible apply go_fa h); (omega); (omega))
 | ((with_reducible apply go_f1 h); (case hi => omega); (case hx => exact inferInstance))
 | ((with_reducible apply go_rf1 h); (case hi => omega); (case hx => exact inferInstance); (case hv => rfl))
 | ((with_reducible apply go_rel h); (case hi => omega); (case hv => rfl))
))
            exact fin _ _ _ h (by rw [hti, ← hte])
        · have g4' : decide ((c.times.length : Int) > 0) = false := by rw [decide_eq_false_iff_not]; omega
          have : c.times = [] := List.eq_nil_of_length_eq_zero (by omega)
          (repeat (first
 | (simp (disch := omega) only [evA, evB, bAdd_i64, bSub_i64, ptr, Nat.zero_add, Bool.not_true, Bool.not_false, Option.isNone_some, Option.isNone_none, Option.isSome_some, Option.isSome_none, decide_true, decide_false, eq_self, true_and, and_assoc, hl, g4'])
 | ((with_reducible apply go_ld1 h))
 | ((with_reducible apply go_ldA h); (rfl))
 | ((with_reducible apply go_ldN h))
 | ((with_reducible apply go_st h); intro _ h)
 | ((with_reducible apply go_stA h); (rfl); (rfl); (first | rfl | simp); intro _ h)
 | ((with_reducible apply go_stN h); (rfl); (first | rfl | simp); intro _ h)
 | ((with_reducible apply go_box h); rfl; intro _ _ h)
 | ((with_reducible apply go_rd h); (rfl))
 | ((with_reducible apply go_rdN h); (rfl))
 | ((with_reducible apply go_rlen h); (rfl))
 | ((with_reducible apply go_lenL h))
 | ((with_reducible apply go_ix h); (omega))
 | ((with_reducible apply go_elN h); (case hi => omega))
 | ((with_reducible apply go_fa h); (omega); (omega))
 | ((with_reducible apply go_f1 h); (case hi => omega); (case hx => exact inferInstance))
 | ((with_reducible apply go_rf1 h); (case hi => omega); (case hx => exact inferInstance); (case hv => rfl))
 | ((with_reducible apply go_rel h); (case hi => omega); (case hv => rfl))
))
          exact fin _ _ true h (by rw [hti, this]; rfl)
    · have g2' : decide ((c.times.length : Int) ≤ 1000) = false := by simp; omega
      have g2d : decide (c.times.length ≤ 1000) = false := by simpa using g2
      rw [g2d, Bool.false_and] at hti
      (repeat (first
 | (simp (disch := omega) only [evA, evB, bAdd_i64, bSub_i64, ptr, Nat.zero_add, Bool.not_true, Bool.not_false, Option.isNone_some, Option.isNone_none, Option.isSome_some, Option.isSome_none, decide_true, decide_false, eq_self, true_and, and_assoc, hl, g2'])
 | ((with_reducible apply go_ld1 h))
 | ((with_reducible apply go_ldA h); (rfl))
 | ((with_reducible apply go_ldN h))
 | ((with_reducible apply go_st h); intro _ h)
 | ((with_reducible apply go_stA h); (rfl); (rfl); (first | rfl | simp); intro _ h)
 | ((with_reducible apply go_stN h); (rfl); (first | rfl | simp); intro _ h)
 | ((with_reducible apply go_box h); rfl; intro _ _ h)
 | ((with_reducible apply go_rd h); (rfl))
 | ((with_reducible apply go_rdN h); (rfl))
 | ((with_reducible apply go_rlen h); (rfl))
 | ((with_reducible apply go_lenL h))
 | ((with_reducible apply go_ix h); (omega))
 | ((with_reducible apply go_elN h); (case hi => omega))
 | ((with_reducible apply go_fa h); (omega); (omega))
 | ((with_reducible apply go_f1 h); (case hi => omega); (case hx => exact inferInstance))
 | ((with_reducible apply go_rf1 h); (case hi => omega); (case hx => exact inferInstance); (case hv => rfl))
 | ((with_reducible apply go_rel h); (case hi => omega); (case hv => rfl))
))
      exact fin _ _ false h hti.symm
def okFrom : Option Int → List Int → Bool
  | _, [] => true
  | p, a :: r => timeP a && ((match p with | none => true | some q => decide (q ≤ a)) && okFrom (some a) r)
def leO (p : Option Int) (a : Int) : Bool := match p with | none => true | some q => decide (q ≤ a)
theorem okFrom_cons (p : Option Int) (a : Int) (r : List Int) : okFrom p (a :: r) = (timeP a && (leO p a && okFrom (some a) r)) := by cases p <;> simp [okFrom, leO]
theorem okFrom_some : ∀ (l : List Int) (q : Int), okFrom (some q) l = (ascI (q :: l) && l.all timeP)
  | [], q => by simp [okFrom, ascI]
  | a :: r, q => by
    simp only [okFrom, okFrom_some r a, ascI, List.all_cons]
    cases timeP a <;> cases decide (q ≤ a) <;> cases ascI (a :: r) <;> simp
theorem okFrom_none (l : List Int) : okFrom none l = (ascI l && l.all timeP) := by
  cases l with
  | nil => simp [okFrom, ascI]
  | cons a r =>
    simp only [okFrom, okFrom_some, List.all_cons]
    cases timeP a <;> cases ascI (a :: r) <;> simp
def prevAt (l : List Int) (i : Nat) : Option Int := if i = 0 then none else l[i - 1]?
theorem fchk_loop {b : Nat} (hl : c.times.length ≤ 1000000) (hr : RdL w0 L cI 1 tv c.times) (hK : ∀ w', Sat w0 L w' → K (.int .i64 (if okFrom none c.times = true then 0 else 4)) w') :
    ∀ (d i : Nat) (w : World), c.times.length - i < d → i ≤ c.times.length → okFrom none c.times = okFrom (prevAt c.times i) (c.times.drop i) → Sat w0 (Cl b (cCtx c tv).toArray 41 :: L) w →
      F23_2L d (.pointer (some ⟨b, 0, none⟩)) (.int .i64 i) w K := by
  intro d
  induction d with
  | zero => intro i w hd; omega
  | succ d ih =>
    intro i w hd hi ho h
    rw [F23_2L]
    unfold F23_2b F23_3 F23_3b
    have h1 := hr w h.drop
    by_cases g : i < c.times.length
    · have g' : decide ((i : Int) < (c.times.length : Int)) = true := by rw [decide_eq_true_eq]; omega
      rw [List.drop_eq_getElem_cons g, okFrom_cons] at ho
      (repeat (first
 | (simp (disch := omega) only [evA, evB, bAdd_i64, bSub_i64, ptr, Nat.zero_add, Bool.not_true, Bool.not_false, Option.isNone_some, Option.isNone_none, Option.isSome_some, Option.isSome_none, decide_true, decide_false, eq_self, true_and, and_assoc, h1.len, g', (i_at h1 g)])
 | ((with_reducible apply go_ld1 h))
 | ((with_reducible apply go_ldA h); (rfl))
 | ((with_reducible apply go_ldN h))
 | ((with_reducible apply go_st h); intro _ h)
 | ((with_reducible apply go_stA h); (rfl); (rfl); (first | rfl | simp); intro _ h)
 | ((with_reducible apply go_stN h); (rfl); (first | rfl | simp); intro _ h)
 | ((with_reducible apply go_box h); rfl; intro _ _ h)
 | ((with_reducible apply go_rd h); (rfl))
 | ((with_reducible apply go_rdN h); (rfl))
 | ((with_reducible apply go_rlen h); (rfl))
 | ((with_reducible apply go_lenL h))
 | ((with_reducible apply go_ix h); (omega))
 | ((with_reducible apply go_elN h); (case hi => omega))
 | ((with_reducible apply go_fa h); (omega); (omega))
 | ((with_reducible apply go_f1 h); (case hi => omega); (case hx => exact inferInstance))
 | ((with_reducible apply go_rf1 h); (case hi => omega); (case hx => exact inferInstance); (case hv => rfl))
 | ((with_reducible apply go_rel h); (case hi => omega); (case hv => rfl))
))
      refine fbistime_spec ?_
      cases g2 : timeP c.times[i]
      · rw [g2] at ho
        have := hK _ h.drew.drop
        rw [ho] at this
        (repeat (first
 | (simp (disch := omega) only [evA, evB, bAdd_i64, bSub_i64, ptr, Nat.zero_add, Bool.not_true, Bool.not_false, Option.isNone_some, Option.isNone_none, Option.isSome_some, Option.isSome_none, decide_true, decide_false, eq_self, true_and, and_assoc])
 | ((with_reducible apply go_ld1 h))
 | ((with_reducible apply go_ldA h); (rfl))
 | ((with_reducible apply go_ldN h))
 | ((with_reducible apply go_st h); intro _ h)
 | ((with_reducible apply go_stA h); (rfl); (rfl); (first | rfl | simp); intro _ h)
 | ((with_reducible apply go_stN h); (rfl); (first | rfl | simp); intro _ h)
 | ((with_reducible apply go_box h); rfl; intro _ _ h)
 | ((with_reducible apply go_rd h); (rfl))
 | ((with_reducible apply go_rdN h); (rfl))
 | ((with_reducible apply go_rlen h); (rfl))
 | ((with_reducible apply go_lenL h))
 | ((with_reducible apply go_ix h); (omega))
 | ((with_reducible apply go_elN h); (case hi => omega))
 | ((with_reducible apply go_fa h); (omega); (omega))
 | ((with_reducible apply go_f1 h); (case hi => omega); (case hx => exact inferInstance))
 | ((with_reducible apply go_rf1 h); (case hi => omega); (case hx => exact inferInstance); (case hv => rfl))
 | ((with_reducible apply go_rel h); (case hi => omega); (case hv => rfl))
))
        simpa using this
      · rw [g2, Bool.true_and] at ho
        by_cases g3 : i = 0
        · subst g3
          have g3' : decide (((0 : Nat) : Int) > 0) = false := by simp
          have e : okFrom none c.times = okFrom (prevAt c.times 1) (c.times.drop 1) := by
            rw [ho]; simp [prevAt, leO, g]
          (repeat (first
 | (simp (disch := omega) only [evA, evB, bAdd_i64, bSub_i64, ptr, Nat.zero_add, Bool.not_true, Bool.not_false, Option.isNone_some, Option.isNone_none, Option.isSome_some, Option.isSome_none, decide_true, decide_false, eq_self, true_and, and_assoc, g3'])
 | ((with_reducible apply go_ld1 h))
 | ((with_reducible apply go_ldA h); (rfl))
 | ((with_reducible apply go_ldN h))
 | ((with_reducible apply go_st h); intro _ h)
 | ((with_reducible apply go_stA h); (rfl); (rfl); (first | rfl | simp); intro _ h)
 | ((with_reducible apply go_stN h); (rfl); (first | rfl | simp); intro _ h)
 | ((with_reducible apply go_box h); rfl; intro _ _ h)
 | ((with_reducible apply go_rd h); (rfl))
 | ((with_reducible apply go_rdN h); (rfl))
 | ((with_reducible apply go_rlen h); (rfl))
 | ((with_reducible apply go_lenL h))
 | ((with_reducible apply go_ix h); (omega))
 | ((with_reducible apply go_elN h); (case hi => omega))
 | ((with_reducible apply go_fa h); (omega); (omega))
 | ((with_reducible apply go_f1 h); (case hi => omega); (case hx => exact inferInstance))
 | ((with_reducible apply go_rf1 h); (case hi => omega); (case hx => exact inferInstance); (case hv => rfl))
 | ((with_reducible apply go_rel h); (case hi => omega); (case hv => rfl))
))
          exact ih 1 _ (by omega) (by omega) e h.drew
        · have g3' : decide ((i : Int) > 0) = true := by rw [decide_eq_true_eq]; omega
          have e1 : ((i : Int) - 1) = ((i - 1 : Nat) : Int) := by omega
          have hp : prevAt c.times i = some c.times[i - 1] := by simp [prevAt, g3]
          rw [hp] at ho
          simp only [leO] at ho
          (repeat (first
 | (simp (disch := omega) only [evA, evB, bAdd_i64, bSub_i64, ptr, Nat.zero_add, Bool.not_true, Bool.not_false, Option.isNone_some, Option.isNone_none, Option.isSome_some, Option.isSome_none, decide_true, decide_false, eq_self, true_and, and_assoc, g3', e1, h1.len, (i_at h1 g), (i_at h1 (show i - 1 < c.times.length by omega))])
 | ((with_reducible apply go_ld1 h))
 | ((with_reducible apply go_ldA h); (rfl))
 | ((with_reducible apply go_ldN h))
 | ((with_reducible apply go_st h); intro _ h)
 | ((with_reducible apply go_stA h); (rfl); (rfl); (first | rfl | simp); intro _ h)
 | ((with_reducible apply go_stN h); (rfl); (first | rfl | simp); intro _ h)
 | ((with_reducible apply go_box h); rfl; intro _ _ h)
 | ((with_reducible apply go_rd h); (rfl))
 | ((with_reducible apply go_rdN h); (rfl))
 | ((with_reducible apply go_rlen h); (rfl))
 | ((with_reducible apply go_lenL h))
 | ((with_reducible apply go_ix h); (omega))
 | ((with_reducible apply go_elN h); (case hi => omega))
 | ((with_reducible apply go_fa h); (omega); (omega))
 | ((with_reducible apply go_f1 h); (case hi => omega); (case hx => exact inferInstance))
 | ((with_reducible apply go_rf1 h); (case hi => omega); (case hx => exact inferInstance); (case hv => rfl))
 | ((with_reducible apply go_rel h); (case hi => omega); (case hv => rfl))
))
          by_cases g4 : c.times[i - 1] ≤ c.times[i]
          · have g4' : decide (c.times[i - 1] > c.times[i]) = false := by rw [decide_eq_false_iff_not]; omega
            have g5 : decide (c.times[i - 1] ≤ c.times[i]) = true := by simpa using g4
            rw [g5, Bool.true_and] at ho
            (repeat (first
 | (simp (disch := omega) only [evA, evB, bAdd_i64, bSub_i64, ptr, Nat.zero_add, Bool.not_true, Bool.not_false, Option.isNone_some, Option.isNone_none, Option.isSome_some, Option.isSome_none, decide_true, decide_false, eq_self, true_and, and_assoc, g4'])
 | ((with_reducible apply go_ld1 h))
 | ((with_reducible apply go_ldA h); (rfl))
 | ((with_reducible apply go_ldN h))
 | ((with_reducible apply go_st h); intro _ h)
 | ((with_reducible apply go_stA h); (rfl); (rfl); (first | rfl | simp); intro _ h)
 | ((with_reducible apply go_stN h); (rfl); (first | rfl | simp); intro _ h)
 | ((with_reducible apply go_box h); rfl; intro _ _ h)
 | ((with_reducible apply go_rd h); (rfl))
 | ((with_reducible apply go_rdN h); (rfl))
 | ((with_reducible apply go_rlen h); (rfl))
 | ((with_reducible apply go_lenL h))
 | ((with_reducible apply go_ix h); (omega))
 | ((with_reducible apply go_elN h); (case hi => omega))
 | ((with_reducible apply go_fa h); (omega); (omega))
 | ((with_reducible apply go_f1 h); (case hi => omega); (case hx => exact inferInstance))
 | ((with_reducible apply go_rf1 h); (case hi => omega); (case hx => exact inferInstance); (case hv => rfl))
 | ((with_reducible apply go_rel h); (case hi => omega); (case hv => rfl))
))
            exact ih (i + 1) _ (by omega) (by omega) (by rw [ho]; simp [prevAt, g]) h.drew
          · have g4' : decide (c.times[i - 1] > c.times[i]) = true := by rw [decide_eq_true_eq]; omega
            have g5 : decide (c.times[i - 1] ≤ c.times[i]) = false := by simpa using g4
            rw [g5, Bool.false_and] at ho
            have := hK _ h.drew.drop
            rw [ho] at this
            (repeat (first
 | (simp (disch := omega) only [evA, evB, bAdd_i64, bSub_i64, ptr, Nat.zero_add, Bool.not_true, Bool.not_false, Option.isNone_some, Option.isNone_none, Option.isSome_some, Option.isSome_none, decide_true, decide_false, eq_self, true_and, and_assoc, g4'])
 | ((with_reducible apply go_ld1 h))
 | ((with_reducible apply go_ldA h); (rfl))
 | ((with_reducible apply go_ldN h))
 | ((with_reducible apply go_st h); intro _ h)
 | ((with_reducible apply go_stA h); (rfl); (rfl); (first | rfl | simp); intro _ h)
 | ((with_reducible apply go_stN h); (rfl); (first | rfl | simp); intro _ h)
 | ((with_reducible apply go_box h); rfl; intro _ _ h)
 | ((with_reducible apply go_rd h); (rfl))
 | ((with_reducible apply go_rdN h); (rfl))
 | ((with_reducible apply go_rlen h); (rfl))
 | ((with_reducible apply go_lenL h))
 | ((with_reducible apply go_ix h); (omega))
 | ((with_reducible apply go_elN h); (case hi => omega))
 | ((with_reducible apply go_fa h); (omega); (omega))
 | ((with_reducible apply go_f1 h); (case hi => omega); (case hx => exact inferInstance))
 | ((with_reducible apply go_rf1 h); (case hi => omega); (case hx => exact inferInstance); (case hv => rfl))
 | ((with_reducible apply go_rel h); (case hi => omega); (case hv => rfl))
))
            simpa using this
    · have g' : decide ((i : Int) < (c.times.length : Int)) = false := by rw [decide_eq_false_iff_not]; omega
      rw [List.drop_of_length_le (by omega)] at ho
      have := hK _ h.drop
      rw [ho] at this
      (repeat (first
 | (simp (disch := omega) only [evA, evB, bAdd_i64, bSub_i64, ptr, Nat.zero_add, Bool.not_true, Bool.not_false, Option.isNone_some, Option.isNone_none, Option.isSome_some, Option.isSome_none, decide_true, decide_false, eq_self, true_and, and_assoc, h1.len, g'])
 | ((with_reducible apply go_ld1 h))
 | ((with_reducible apply go_ldA h); (rfl))
 | ((with_reducible apply go_ldN h))
 | ((with_reducible apply go_st h); intro _ h)
 | ((with_reducible apply go_stA h); (rfl); (rfl); (first | rfl | simp); intro _ h)
 | ((with_reducible apply go_stN h); (rfl); (first | rfl | simp); intro _ h)
 | ((with_reducible apply go_box h); rfl; intro _ _ h)
 | ((with_reducible apply go_rd h); (rfl))
 | ((with_reducible apply go_rdN h); (rfl))
 | ((with_reducible apply go_rlen h); (rfl))
 | ((with_reducible apply go_lenL h))
 | ((with_reducible apply go_ix h); (omega))
 | ((with_reducible apply go_elN h); (case hi => omega))
 | ((with_reducible apply go_fa h); (omega); (omega))
 | ((with_reducible apply go_f1 h); (case hi => omega); (case hx => exact inferInstance))
 | ((with_reducible apply go_rf1 h); (case hi => omega); (case hx => exact inferInstance); (case hv => rfl))
 | ((with_reducible apply go_rel h); (case hi => omega); (case hv => rfl))
))
      simpa [okFrom] using this
theorem fhcheck_spec (hf : c.fits) (hr : RdL w0 L cI 1 tv c.times) (h : Sat w0 L w) (hK : ∀ w', Sat w0 L w' → K (.int .i64 (chkC c)) w') : callP G23 [ctxV c tv] w K := by
  refine c23 ?_
  unfold F23 F23_1 F23_1b
  obtain ⟨f1, f2, f3, f4⟩ := hf
  have fs : Evt.fits ⟨c.node, [120], c.key, 0, []⟩ := ⟨f1, by simp, f2, by simp⟩
  (repeat (first
 | (simp (disch := omega) only [evA, evB, bAdd_i64, bSub_i64, ptr, Nat.zero_add, Bool.not_true, Bool.not_false, Option.isNone_some, Option.isNone_none, Option.isSome_some, Option.isSome_none, decide_true, decide_false, eq_self, true_and, and_assoc])
 | (refine go_some (fb31_0_1_2 ..) ?_)
 | ((with_reducible apply go_ld1 h))
 | ((with_reducible apply go_ldA h); (rfl))
 | ((with_reducible apply go_ldN h))
 | ((with_reducible apply go_st h); intro _ h)
 | ((with_reducible apply go_stA h); (rfl); (rfl); (first | rfl | simp); intro _ h)
 | ((with_reducible apply go_stN h); (rfl); (first | rfl | simp); intro _ h)
 | ((with_reducible apply go_box h); rfl; intro _ _ h)
 | ((with_reducible apply go_rd h); (rfl))
 | ((with_reducible apply go_rdN h); (rfl))
 | ((with_reducible apply go_rlen h); (rfl))
 | ((with_reducible apply go_lenL h))
 | ((with_reducible apply go_ix h); (omega))
 | ((with_reducible apply go_elN h); (case hi => omega))
 | ((with_reducible apply go_fa h); (omega); (omega))
 | ((with_reducible apply go_f1 h); (case hi => omega); (case hx => exact inferInstance))
 | ((with_reducible apply go_rf1 h); (case hi => omega); (case hx => exact inferInstance); (case hv => rfl))
 | ((with_reducible apply go_rel h); (case hi => omega); (case hv => rfl))
))
  refine nfcheck_spec (e := ⟨c.node, [120], c.key, 0, []⟩) fs h fun w h => ?_
  (repeat (first
 | (simp (disch := omega) only [evA, evB, bAdd_i64, bSub_i64, ptr, Nat.zero_add, Bool.not_true, Bool.not_false, Option.isNone_some, Option.isNone_none, Option.isSome_some, Option.isSome_none, decide_true, decide_false, eq_self, true_and, and_assoc, chkE_dec, okSign_x])
 | (refine go_some (fb31 ..) ?_)
 | ((with_reducible apply go_ld1 h))
 | ((with_reducible apply go_ldA h); (rfl))
 | ((with_reducible apply go_ldN h))
 | ((with_reducible apply go_st h); intro _ h)
 | ((with_reducible apply go_stA h); (rfl); (rfl); (first | rfl | simp); intro _ h)
 | ((with_reducible apply go_stN h); (rfl); (first | rfl | simp); intro _ h)
 | ((with_reducible apply go_box h); rfl; intro _ _ h)
 | ((with_reducible apply go_rd h); (rfl))
 | ((with_reducible apply go_rdN h); (rfl))
 | ((with_reducible apply go_rlen h); (rfl))
 | ((with_reducible apply go_lenL h))
 | ((with_reducible apply go_ix h); (omega))
 | ((with_reducible apply go_elN h); (case hi => omega))
 | ((with_reducible apply go_fa h); (omega); (omega))
 | ((with_reducible apply go_f1 h); (case hi => omega); (case hx => exact inferInstance))
 | ((with_reducible apply go_rf1 h); (case hi => omega); (case hx => exact inferInstance); (case hv => rfl))
 | ((with_reducible apply go_rel h); (case hi => omega); (case hv => rfl))
))
  refine go_some (eqE _ _ c.e zeroE) ?_
  have hev : okEv c.e = (decide (c.e = zeroE) || okE c.e) := rfl
  have hti : okTimes c.times = (decide (c.times.length ≤ 1000) && (ascI c.times && c.times.all timeP)) := rfl
  have hc : chkC c = if (decide (0 ≤ c.watch) && decide (c.watch ≤ 63) && okSign c.node c.key && okEv c.e && okTimes c.times && timeP c.at') = true then 0 else 4 := rfl
  rw [hc] at hK
  have bad : ∀ (w' : World), Sat w0 L w' → (decide (0 ≤ c.watch) && decide (c.watch ≤ 63) && okSign c.node c.key && okEv c.e && okTimes c.times && timeP c.at') = false → K (.int .i64 4) w' := by
    intro w' h hb
    have := hK w' h
    rw [hb] at this
    simpa using this
  cases g1 : decide (c.e = zeroE)
  all_goals rw [g1] at hev
  · (repeat (first
 | (simp (disch := omega) only [evA, evB, bAdd_i64, bSub_i64, ptr, Nat.zero_add, Bool.not_true, Bool.not_false, Option.isNone_some, Option.isNone_none, Option.isSome_some, Option.isSome_none, decide_true, decide_false, eq_self, true_and, and_assoc])
 | ((with_reducible apply go_ld1 h))
 | ((with_reducible apply go_ldA h); (rfl))
 | ((with_reducible apply go_ldN h))
 | ((with_reducible apply go_st h); intro _ h)
 | ((with_reducible apply go_stA h); (rfl); (rfl); (first | rfl | simp); intro _ h)
 | ((with_reducible apply go_stN h); (rfl); (first | rfl | simp); intro _ h)
 | ((with_reducible apply go_box h); rfl; intro _ _ h)
 | ((with_reducible apply go_rd h); (rfl))
 | ((with_reducible apply go_rdN h); (rfl))
 | ((with_reducible apply go_rlen h); (rfl))
 | ((with_reducible apply go_lenL h))
 | ((with_reducible apply go_ix h); (omega))
 | ((with_reducible apply go_elN h); (case hi => omega))
 | ((with_reducible apply go_fa h); (omega); (omega))
 | ((with_reducible apply go_f1 h); (case hi => omega); (case hx => exact inferInstance))
 | ((with_reducible apply go_rf1 h); (case hi => omega); (case hx => exact inferInstance); (case hv => rfl))
 | ((with_reducible apply go_rel h); (case hi => omega); (case hv => rfl))
))
    refine nfcheck_spec (e := c.e) f3 h fun w h => ?_
    rw [Bool.false_or] at hev
    (repeat (first
 | (simp (disch := omega) only [evA, evB, bAdd_i64, bSub_i64, ptr, Nat.zero_add, Bool.not_true, Bool.not_false, Option.isNone_some, Option.isNone_none, Option.isSome_some, Option.isSome_none, decide_true, decide_false, eq_self, true_and, and_assoc, chkE_dec, hev.symm])
 | ((with_reducible apply go_ld1 h))
 | ((with_reducible apply go_ldA h); (rfl))
 | ((with_reducible apply go_ldN h))
 | ((with_reducible apply go_st h); intro _ h)
 | ((with_reducible apply go_stA h); (rfl); (rfl); (first | rfl | simp); intro _ h)
 | ((with_reducible apply go_stN h); (rfl); (first | rfl | simp); intro _ h)
 | ((with_reducible apply go_box h); rfl; intro _ _ h)
 | ((with_reducible apply go_rd h); (rfl))
 | ((with_reducible apply go_rdN h); (rfl))
 | ((with_reducible apply go_rlen h); (rfl))
 | ((with_reducible apply go_lenL h))
 | ((with_reducible apply go_ix h); (omega))
 | ((with_reducible apply go_elN h); (case hi => omega))
 | ((with_reducible apply go_fa h); (omega); (omega))
 | ((with_reducible apply go_f1 h); (case hi => omega); (case hx => exact inferInstance))
 | ((with_reducible apply go_rf1 h); (case hi => omega); (case hx => exact inferInstance); (case hv => rfl))
 | ((with_reducible apply go_rel h); (case hi => omega); (case hv => rfl))
))
    generalize okEv c.e = ev at bad hK
    have hl := (hr w h.drop).len
    by_cases k1 : c.watch < 0
    · have k1' : decide (c.watch < 0) = true := by simpa using k1
      have e1 : decide (0 ≤ c.watch) = false := by simp; omega
      (repeat (first
 | (simp (disch := omega) only [evA, evB, bAdd_i64, bSub_i64, ptr, Nat.zero_add, Bool.not_true, Bool.not_false, Option.isNone_some, Option.isNone_none, Option.isSome_some, Option.isSome_none, decide_true, decide_false, eq_self, true_and, and_assoc, k1'])
 | ((with_reducible apply go_ld1 h))
 | ((with_reducible apply go_ldA h); (rfl))
 | ((with_reducible apply go_ldN h))
 | ((with_reducible apply go_st h); intro _ h)
 | ((with_reducible apply go_stA h); (rfl); (rfl); (first | rfl | simp); intro _ h)
 | ((with_reducible apply go_stN h); (rfl); (first | rfl | simp); intro _ h)
 | ((with_reducible apply go_box h); rfl; intro _ _ h)
 | ((with_reducible apply go_rd h); (rfl))
 | ((with_reducible apply go_rdN h); (rfl))
 | ((with_reducible apply go_rlen h); (rfl))
 | ((with_reducible apply go_lenL h))
 | ((with_reducible apply go_ix h); (omega))
 | ((with_reducible apply go_elN h); (case hi => omega))
 | ((with_reducible apply go_fa h); (omega); (omega))
 | ((with_reducible apply go_f1 h); (case hi => omega); (case hx => exact inferInstance))
 | ((with_reducible apply go_rf1 h); (case hi => omega); (case hx => exact inferInstance); (case hv => rfl))
 | ((with_reducible apply go_rel h); (case hi => omega); (case hv => rfl))
))
      exact bad _ h.drop (by rw [e1]; simp)
    have k1' : decide (c.watch < 0) = false := by simpa using k1
    by_cases k2 : c.watch > 63
    · have k2' : decide (c.watch > 63) = true := by simpa using k2
      have e1 : decide (c.watch ≤ 63) = false := by simp; omega
      (repeat (first
 | (simp (disch := omega) only [evA, evB, bAdd_i64, bSub_i64, ptr, Nat.zero_add, Bool.not_true, Bool.not_false, Option.isNone_some, Option.isNone_none, Option.isSome_some, Option.isSome_none, decide_true, decide_false, eq_self, true_and, and_assoc, k1', k2'])
 | ((with_reducible apply go_ld1 h))
 | ((with_reducible apply go_ldA h); (rfl))
 | ((with_reducible apply go_ldN h))
 | ((with_reducible apply go_st h); intro _ h)
 | ((with_reducible apply go_stA h); (rfl); (rfl); (first | rfl | simp); intro _ h)
 | ((with_reducible apply go_stN h); (rfl); (first | rfl | simp); intro _ h)
 | ((with_reducible apply go_box h); rfl; intro _ _ h)
 | ((with_reducible apply go_rd h); (rfl))
 | ((with_reducible apply go_rdN h); (rfl))
 | ((with_reducible apply go_rlen h); (rfl))
 | ((with_reducible apply go_lenL h))
 | ((with_reducible apply go_ix h); (omega))
 | ((with_reducible apply go_elN h); (case hi => omega))
 | ((with_reducible apply go_fa h); (omega); (omega))
 | ((with_reducible apply go_f1 h); (case hi => omega); (case hx => exact inferInstance))
 | ((with_reducible apply go_rf1 h); (case hi => omega); (case hx => exact inferInstance); (case hv => rfl))
 | ((with_reducible apply go_rel h); (case hi => omega); (case hv => rfl))
))
      exact bad _ h.drop (by rw [e1]; simp)
    have k2' : decide (c.watch > 63) = false := by simpa using k2
    have e1 : decide (0 ≤ c.watch) = true := by simp; omega
    have e2 : decide (c.watch ≤ 63) = true := by simp; omega
    cases k3 : okSign c.node c.key
    · (repeat (first
 | (simp (disch := omega) only [evA, evB, bAdd_i64, bSub_i64, ptr, Nat.zero_add, Bool.not_true, Bool.not_false, Option.isNone_some, Option.isNone_none, Option.isSome_some, Option.isSome_none, decide_true, decide_false, eq_self, true_and, and_assoc, k1', k2', k3])
 | ((with_reducible apply go_ld1 h))
 | ((with_reducible apply go_ldA h); (rfl))
 | ((with_reducible apply go_ldN h))
 | ((with_reducible apply go_st h); intro _ h)
 | ((with_reducible apply go_stA h); (rfl); (rfl); (first | rfl | simp); intro _ h)
 | ((with_reducible apply go_stN h); (rfl); (first | rfl | simp); intro _ h)
 | ((with_reducible apply go_box h); rfl; intro _ _ h)
 | ((with_reducible apply go_rd h); (rfl))
 | ((with_reducible apply go_rdN h); (rfl))
 | ((with_reducible apply go_rlen h); (rfl))
 | ((with_reducible apply go_lenL h))
 | ((with_reducible apply go_ix h); (omega))
 | ((with_reducible apply go_elN h); (case hi => omega))
 | ((with_reducible apply go_fa h); (omega); (omega))
 | ((with_reducible apply go_f1 h); (case hi => omega); (case hx => exact inferInstance))
 | ((with_reducible apply go_rf1 h); (case hi => omega); (case hx => exact inferInstance); (case hv => rfl))
 | ((with_reducible apply go_rel h); (case hi => omega); (case hv => rfl))
))
      exact bad _ h.drop (by rw [k3]; simp)
    (repeat (first
 | (simp (disch := omega) only [evA, evB, bAdd_i64, bSub_i64, ptr, Nat.zero_add, Bool.not_true, Bool.not_false, Option.isNone_some, Option.isNone_none, Option.isSome_some, Option.isSome_none, decide_true, decide_false, eq_self, true_and, and_assoc, k1', k2', k3])
 | ((with_reducible apply go_ld1 h))
 | ((with_reducible apply go_ldA h); (rfl))
 | ((with_reducible apply go_ldN h))
 | ((with_reducible apply go_st h); intro _ h)
 | ((with_reducible apply go_stA h); (rfl); (rfl); (first | rfl | simp); intro _ h)
 | ((with_reducible apply go_stN h); (rfl); (first | rfl | simp); intro _ h)
 | ((with_reducible apply go_box h); rfl; intro _ _ h)
 | ((with_reducible apply go_rd h); (rfl))
 | ((with_reducible apply go_rdN h); (rfl))
 | ((with_reducible apply go_rlen h); (rfl))
 | ((with_reducible apply go_lenL h))
 | ((with_reducible apply go_ix h); (omega))
 | ((with_reducible apply go_elN h); (case hi => omega))
 | ((with_reducible apply go_fa h); (omega); (omega))
 | ((with_reducible apply go_f1 h); (case hi => omega); (case hx => exact inferInstance))
 | ((with_reducible apply go_rf1 h); (case hi => omega); (case hx => exact inferInstance); (case hv => rfl))
 | ((with_reducible apply go_rel h); (case hi => omega); (case hv => rfl))
))
    refine fbistime_spec ?_
    cases k4 : timeP c.at'
    · (repeat (first
 | (simp (disch := omega) only [evA, evB, bAdd_i64, bSub_i64, ptr, Nat.zero_add, Bool.not_true, Bool.not_false, Option.isNone_some, Option.isNone_none, Option.isSome_some, Option.isSome_none, decide_true, decide_false, eq_self, true_and, and_assoc])
 | ((with_reducible apply go_ld1 h))
 | ((with_reducible apply go_ldA h); (rfl))
 | ((with_reducible apply go_ldN h))
 | ((with_reducible apply go_st h); intro _ h)
 | ((with_reducible apply go_stA h); (rfl); (rfl); (first | rfl | simp); intro _ h)
 | ((with_reducible apply go_stN h); (rfl); (first | rfl | simp); intro _ h)
 | ((with_reducible apply go_box h); rfl; intro _ _ h)
 | ((with_reducible apply go_rd h); (rfl))
 | ((with_reducible apply go_rdN h); (rfl))
 | ((with_reducible apply go_rlen h); (rfl))
 | ((with_reducible apply go_lenL h))
 | ((with_reducible apply go_ix h); (omega))
 | ((with_reducible apply go_elN h); (case hi => omega))
 | ((with_reducible apply go_fa h); (omega); (omega))
 | ((with_reducible apply go_f1 h); (case hi => omega); (case hx => exact inferInstance))
 | ((with_reducible apply go_rf1 h); (case hi => omega); (case hx => exact inferInstance); (case hv => rfl))
 | ((with_reducible apply go_rel h); (case hi => omega); (case hv => rfl))
))
      exact bad _ h.drop (by rw [k4]; simp)
    (repeat (first
 | (simp (disch := omega) only [evA, evB, bAdd_i64, bSub_i64, ptr, Nat.zero_add, Bool.not_true, Bool.not_false, Option.isNone_some, Option.isNone_none, Option.isSome_some, Option.isSome_none, decide_true, decide_false, eq_self, true_and, and_assoc])
 | ((with_reducible apply go_ld1 h))
 | ((with_reducible apply go_ldA h); (rfl))
 | ((with_reducible apply go_ldN h))
 | ((with_reducible apply go_st h); intro _ h)
 | ((with_reducible apply go_stA h); (rfl); (rfl); (first | rfl | simp); intro _ h)
 | ((with_reducible apply go_stN h); (rfl); (first | rfl | simp); intro _ h)
 | ((with_reducible apply go_box h); rfl; intro _ _ h)
 | ((with_reducible apply go_rd h); (rfl))
 | ((with_reducible apply go_rdN h); (rfl))
 | ((with_reducible apply go_rlen h); (rfl))
 | ((with_reducible apply go_lenL h))
 | ((with_reducible apply go_ix h); (omega))
 | ((with_reducible apply go_elN h); (case hi => omega))
 | ((with_reducible apply go_fa h); (omega); (omega))
 | ((with_reducible apply go_f1 h); (case hi => omega); (case hx => exact inferInstance))
 | ((with_reducible apply go_rf1 h); (case hi => omega); (case hx => exact inferInstance); (case hv => rfl))
 | ((with_reducible apply go_rel h); (case hi => omega); (case hv => rfl))
))
    cases ev
    · (repeat (first
 | (simp (disch := omega) only [evA, evB, bAdd_i64, bSub_i64, ptr, Nat.zero_add, Bool.not_true, Bool.not_false, Option.isNone_some, Option.isNone_none, Option.isSome_some, Option.isSome_none, decide_true, decide_false, eq_self, true_and, and_assoc])
 | ((with_reducible apply go_ld1 h))
 | ((with_reducible apply go_ldA h); (rfl))
 | ((with_reducible apply go_ldN h))
 | ((with_reducible apply go_st h); intro _ h)
 | ((with_reducible apply go_stA h); (rfl); (rfl); (first | rfl | simp); intro _ h)
 | ((with_reducible apply go_stN h); (rfl); (first | rfl | simp); intro _ h)
 | ((with_reducible apply go_box h); rfl; intro _ _ h)
 | ((with_reducible apply go_rd h); (rfl))
 | ((with_reducible apply go_rdN h); (rfl))
 | ((with_reducible apply go_rlen h); (rfl))
 | ((with_reducible apply go_lenL h))
 | ((with_reducible apply go_ix h); (omega))
 | ((with_reducible apply go_elN h); (case hi => omega))
 | ((with_reducible apply go_fa h); (omega); (omega))
 | ((with_reducible apply go_f1 h); (case hi => omega); (case hx => exact inferInstance))
 | ((with_reducible apply go_rf1 h); (case hi => omega); (case hx => exact inferInstance); (case hv => rfl))
 | ((with_reducible apply go_rel h); (case hi => omega); (case hv => rfl))
))
      exact bad _ h.drop (by simp)
    (repeat (first
 | (simp (disch := omega) only [evA, evB, bAdd_i64, bSub_i64, ptr, Nat.zero_add, Bool.not_true, Bool.not_false, Option.isNone_some, Option.isNone_none, Option.isSome_some, Option.isSome_none, decide_true, decide_false, eq_self, true_and, and_assoc])
 | ((with_reducible apply go_ld1 h))
 | ((with_reducible apply go_ldA h); (rfl))
 | ((with_reducible apply go_ldN h))
 | ((with_reducible apply go_st h); intro _ h)
 | ((with_reducible apply go_stA h); (rfl); (rfl); (first | rfl | simp); intro _ h)
 | ((with_reducible apply go_stN h); (rfl); (first | rfl | simp); intro _ h)
 | ((with_reducible apply go_box h); rfl; intro _ _ h)
 | ((with_reducible apply go_rd h); (rfl))
 | ((with_reducible apply go_rdN h); (rfl))
 | ((with_reducible apply go_rlen h); (rfl))
 | ((with_reducible apply go_lenL h))
 | ((with_reducible apply go_ix h); (omega))
 | ((with_reducible apply go_elN h); (case hi => omega))
 | ((with_reducible apply go_fa h); (omega); (omega))
 | ((with_reducible apply go_f1 h); (case hi => omega); (case hx => exact inferInstance))
 | ((with_reducible apply go_rf1 h); (case hi => omega); (case hx => exact inferInstance); (case hv => rfl))
 | ((with_reducible apply go_rel h); (case hi => omega); (case hv => rfl))
))
    by_cases k6 : c.times.length ≤ 1000
    · have k6' : decide ((c.times.length : Int) > 1000) = false := by rw [decide_eq_false_iff_not]; omega
      have k6d : decide (c.times.length ≤ 1000) = true := by simpa using k6
      rw [k6d, Bool.true_and] at hti
      (repeat (first
 | (simp (disch := omega) only [evA, evB, bAdd_i64, bSub_i64, ptr, Nat.zero_add, Bool.not_true, Bool.not_false, Option.isNone_some, Option.isNone_none, Option.isSome_some, Option.isSome_none, decide_true, decide_false, eq_self, true_and, and_assoc, hl, k6'])
 | ((with_reducible apply go_ld1 h))
 | ((with_reducible apply go_ldA h); (rfl))
 | ((with_reducible apply go_ldN h))
 | ((with_reducible apply go_st h); intro _ h)
 | ((with_reducible apply go_stA h); (rfl); (rfl); (first | rfl | simp); intro _ h)
 | ((with_reducible apply go_stN h); (rfl); (first | rfl | simp); intro _ h)
 | ((with_reducible apply go_box h); rfl; intro _ _ h)
 | ((with_reducible apply go_rd h); (rfl))
 | ((with_reducible apply go_rdN h); (rfl))
 | ((with_reducible apply go_rlen h); (rfl))
 | ((with_reducible apply go_lenL h))
 | ((with_reducible apply go_ix h); (omega))
 | ((with_reducible apply go_elN h); (case hi => omega))
 | ((with_reducible apply go_fa h); (omega); (omega))
 | ((with_reducible apply go_f1 h); (case hi => omega); (case hx => exact inferInstance))
 | ((with_reducible apply go_rf1 h); (case hi => omega); (case hx => exact inferInstance); (case hv => rfl))
 | ((with_reducible apply go_rel h); (case hi => omega); (case hv => rfl))
))
      refine fchk_loop (by omega) hr (fun w' h => ?_) fuel 0 w (by have : fuel = 4611686018427387904 := rfl; omega) (by omega) rfl h
      have := hK _ h
      rw [e1, e2, k3, k4, hti] at this
      rw [okFrom_none]
      simpa using this
    · have k6' : decide ((c.times.length : Int) > 1000) = true := by rw [decide_eq_true_eq]; omega
      have k6d : decide (c.times.length ≤ 1000) = false := by simpa using k6
      rw [k6d, Bool.false_and] at hti
      (repeat (first
 | (simp (disch := omega) only [evA, evB, bAdd_i64, bSub_i64, ptr, Nat.zero_add, Bool.not_true, Bool.not_false, Option.isNone_some, Option.isNone_none, Option.isSome_some, Option.isSome_none, decide_true, decide_false, eq_self, true_and, and_assoc, hl, k6'])
 | ((with_reducible apply go_ld1 h))
 | ((with_reducible apply go_ldA h); (rfl))
 | ((with_reducible apply go_ldN h))
 | ((with_reducible apply go_st h); intro _ h)
 | ((with_reducible apply go_stA h); (rfl); (rfl); (first | rfl | simp); intro _ h)
 | ((with_reducible apply go_stN h); (rfl); (first | rfl | simp); intro _ h)
 | ((with_reducible apply go_box h); rfl; intro _ _ h)
 | ((with_reducible apply go_rd h); (rfl))
 | ((with_reducible apply go_rdN h); (rfl))
 | ((with_reducible apply go_rlen h); (rfl))
 | ((with_reducible apply go_lenL h))
 | ((with_reducible apply go_ix h); (omega))
 | ((with_reducible apply go_elN h); (case hi => omega))
 | ((with_reducible apply go_fa h); (omega); (omega))
 | ((with_reducible apply go_f1 h); (case hi => omega); (case hx => exact inferInstance))
 | ((with_reducible apply go_rf1 h); (case hi => omega); (case hx => exact inferInstance); (case hv => rfl))
 | ((with_reducible apply go_rel h); (case hi => omega); (case hv => rfl))
))
      exact bad _ h.drop (by rw [hti]; simp)
  · rw [Bool.true_or] at hev
    rw [hev] at bad hK
    (repeat (first
 | (simp (disch := omega) only [evA, evB, bAdd_i64, bSub_i64, ptr, Nat.zero_add, Bool.not_true, Bool.not_false, Option.isNone_some, Option.isNone_none, Option.isSome_some, Option.isSome_none, decide_true, decide_false, eq_self, true_and, and_assoc])
 | ((with_reducible apply go_ld1 h))
 | ((with_reducible apply go_ldA h); (rfl))
 | ((with_reducible apply go_ldN h))
 | ((with_reducible apply go_st h); intro _ h)
 | ((with_reducible apply go_stA h); (rfl); (rfl); (first | rfl | simp); intro _ h)
 | ((with_reducible apply go_stN h); (rfl); (first | rfl | simp); intro _ h)
 | ((with_reducible apply go_box h); rfl; intro _ _ h)
 | ((with_reducible apply go_rd h); (rfl))
 | ((with_reducible apply go_rdN h); (rfl))
 | ((with_reducible apply go_rlen h); (rfl))
 | ((with_reducible apply go_lenL h))
 | ((with_reducible apply go_ix h); (omega))
 | ((with_reducible apply go_elN h); (case hi => omega))
 | ((with_reducible apply go_fa h); (omega); (omega))
 | ((with_reducible apply go_f1 h); (case hi => omega); (case hx => exact inferInstance))
 | ((with_reducible apply go_rf1 h); (case hi => omega); (case hx => exact inferInstance); (case hv => rfl))
 | ((with_reducible apply go_rel h); (case hi => omega); (case hv => rfl))
))
    obtain ⟨ev, hev2⟩ : ∃ ev : Bool, true = ev := ⟨_, rfl⟩
    have hl := (hr w h.drop).len
    by_cases k1 : c.watch < 0
    · have k1' : decide (c.watch < 0) = true := by simpa using k1
      have e1 : decide (0 ≤ c.watch) = false := by simp; omega
      (repeat (first
 | (simp (disch := omega) only [evA, evB, bAdd_i64, bSub_i64, ptr, Nat.zero_add, Bool.not_true, Bool.not_false, Option.isNone_some, Option.isNone_none, Option.isSome_some, Option.isSome_none, decide_true, decide_false, eq_self, true_and, and_assoc, k1'])
 | ((with_reducible apply go_ld1 h))
 | ((with_reducible apply go_ldA h); (rfl))
 | ((with_reducible apply go_ldN h))
 | ((with_reducible apply go_st h); intro _ h)
 | ((with_reducible apply go_stA h); (rfl); (rfl); (first | rfl | simp); intro _ h)
 | ((with_reducible apply go_stN h); (rfl); (first | rfl | simp); intro _ h)
 | ((with_reducible apply go_box h); rfl; intro _ _ h)
 | ((with_reducible apply go_rd h); (rfl))
 | ((with_reducible apply go_rdN h); (rfl))
 | ((with_reducible apply go_rlen h); (rfl))
 | ((with_reducible apply go_lenL h))
 | ((with_reducible apply go_ix h); (omega))
 | ((with_reducible apply go_elN h); (case hi => omega))
 | ((with_reducible apply go_fa h); (omega); (omega))
 | ((with_reducible apply go_f1 h); (case hi => omega); (case hx => exact inferInstance))
 | ((with_reducible apply go_rf1 h); (case hi => omega); (case hx => exact inferInstance); (case hv => rfl))
 | ((with_reducible apply go_rel h); (case hi => omega); (case hv => rfl))
))
      exact bad _ h.drop (by rw [e1]; simp)
    have k1' : decide (c.watch < 0) = false := by simpa using k1
    by_cases k2 : c.watch > 63
    · have k2' : decide (c.watch > 63) = true := by simpa using k2
      have e1 : decide (c.watch ≤ 63) = false := by simp; omega
      (repeat (first
 | (simp (disch := omega) only [evA, evB, bAdd_i64, bSub_i64, ptr, Nat.zero_add, Bool.not_true, Bool.not_false, Option.isNone_some, Option.isNone_none, Option.isSome_some, Option.isSome_none, decide_true, decide_false, eq_self, true_and, and_assoc, k1', k2'])
 | ((with_reducible apply go_ld1 h))
 | ((with_reducible apply go_ldA h); (rfl))
 | ((with_reducible apply go_ldN h))
 | ((with_reducible apply go_st h); intro _ h)
 | ((with_reducible apply go_stA h); (rfl); (rfl); (first | rfl | simp); intro _ h)
 | ((with_reducible apply go_stN h); (rfl); (first | rfl | simp); intro _ h)
 | ((with_reducible apply go_box h); rfl; intro _ _ h)
 | ((with_reducible apply go_rd h); (rfl))
 | ((with_reducible apply go_rdN h); (rfl))
 | ((with_reducible apply go_rlen h); (rfl))
 | ((with_reducible apply go_lenL h))
 | ((with_reducible apply go_ix h); (omega))
 | ((with_reducible apply go_elN h); (case hi => omega))
 | ((with_reducible apply go_fa h); (omega); (omega))
 | ((with_reducible apply go_f1 h); (case hi => omega); (case hx => exact inferInstance))
 | ((with_reducible apply go_rf1 h); (case hi => omega); (case hx => exact inferInstance); (case hv => rfl))
 | ((with_reducible apply go_rel h); (case hi => omega); (case hv => rfl))
))
      exact bad _ h.drop (by rw [e1]; simp)
    have k2' : decide (c.watch > 63) = false := by simpa using k2
    have e1 : decide (0 ≤ c.watch) = true := by simp; omega
    have e2 : decide (c.watch ≤ 63) = true := by simp; omega
    cases k3 : okSign c.node c.key
    · (repeat (first
 | (simp (disch := omega) only [evA, evB, bAdd_i64, bSub_i64, ptr, Nat.zero_add, Bool.not_true, Bool.not_false, Option.isNone_some, Option.isNone_none, Option.isSome_some, Option.isSome_none, decide_true, decide_false, eq_self, true_and, and_assoc, k1', k2', k3])
 | ((with_reducible apply go_ld1 h))
 | ((with_reducible apply go_ldA h); (rfl))
 | ((with_reducible apply go_ldN h))
 | ((with_reducible apply go_st h); intro _ h)
 | ((with_reducible apply go_stA h); (rfl); (rfl); (first | rfl | simp); intro _ h)
 | ((with_reducible apply go_stN h); (rfl); (first | rfl | simp); intro _ h)
 | ((with_reducible apply go_box h); rfl; intro _ _ h)
 | ((with_reducible apply go_rd h); (rfl))
 | ((with_reducible apply go_rdN h); (rfl))
 | ((with_reducible apply go_rlen h); (rfl))
 | ((with_reducible apply go_lenL h))
 | ((with_reducible apply go_ix h); (omega))
 | ((with_reducible apply go_elN h); (case hi => omega))
 | ((with_reducible apply go_fa h); (omega); (omega))
 | ((with_reducible apply go_f1 h); (case hi => omega); (case hx => exact inferInstance))
 | ((with_reducible apply go_rf1 h); (case hi => omega); (case hx => exact inferInstance); (case hv => rfl))
 | ((with_reducible apply go_rel h); (case hi => omega); (case hv => rfl))
))
      exact bad _ h.drop (by rw [k3]; simp)
    (repeat (first
 | (simp (disch := omega) only [evA, evB, bAdd_i64, bSub_i64, ptr, Nat.zero_add, Bool.not_true, Bool.not_false, Option.isNone_some, Option.isNone_none, Option.isSome_some, Option.isSome_none, decide_true, decide_false, eq_self, true_and, and_assoc, k1', k2', k3])
 | ((with_reducible apply go_ld1 h))
 | ((with_reducible apply go_ldA h); (rfl))
 | ((with_reducible apply go_ldN h))
 | ((with_reducible apply go_st h); intro _ h)
 | ((with_reducible apply go_stA h); (rfl); (rfl); (first | rfl | simp); intro _ h)
 | ((with_reducible apply go_stN h); (rfl); (first | rfl | simp); intro _ h)
 | ((with_reducible apply go_box h); rfl; intro _ _ h)
 | ((with_reducible apply go_rd h); (rfl))
 | ((with_reducible apply go_rdN h); (rfl))
 | ((with_reducible apply go_rlen h); (rfl))
 | ((with_reducible apply go_lenL h))
 | ((with_reducible apply go_ix h); (omega))
 | ((with_reducible apply go_elN h); (case hi => omega))
 | ((with_reducible apply go_fa h); (omega); (omega))
 | ((with_reducible apply go_f1 h); (case hi => omega); (case hx => exact inferInstance))
 | ((with_reducible apply go_rf1 h); (case hi => omega); (case hx => exact inferInstance); (case hv => rfl))
 | ((with_reducible apply go_rel h); (case hi => omega); (case hv => rfl))
))
    refine fbistime_spec ?_
    cases k4 : timeP c.at'
    · (repeat (first
 | (simp (disch := omega) only [evA, evB, bAdd_i64, bSub_i64, ptr, Nat.zero_add, Bool.not_true, Bool.not_false, Option.isNone_some, Option.isNone_none, Option.isSome_some, Option.isSome_none, decide_true, decide_false, eq_self, true_and, and_assoc])
 | ((with_reducible apply go_ld1 h))
 | ((with_reducible apply go_ldA h); (rfl))
 | ((with_reducible apply go_ldN h))
 | ((with_reducible apply go_st h); intro _ h)
 | ((with_reducible apply go_stA h); (rfl); (rfl); (first | rfl | simp); intro _ h)
 | ((with_reducible apply go_stN h); (rfl); (first | rfl | simp); intro _ h)
 | ((with_reducible apply go_box h); rfl; intro _ _ h)
 | ((with_reducible apply go_rd h); (rfl))
 | ((with_reducible apply go_rdN h); (rfl))
 | ((with_reducible apply go_rlen h); (rfl))
 | ((with_reducible apply go_lenL h))
 | ((with_reducible apply go_ix h); (omega))
 | ((with_reducible apply go_elN h); (case hi => omega))
 | ((with_reducible apply go_fa h); (omega); (omega))
 | ((with_reducible apply go_f1 h); (case hi => omega); (case hx => exact inferInstance))
 | ((with_reducible apply go_rf1 h); (case hi => omega); (case hx => exact inferInstance); (case hv => rfl))
 | ((with_reducible apply go_rel h); (case hi => omega); (case hv => rfl))
))
      exact bad _ h.drop (by rw [k4]; simp)
    (repeat (first
 | (simp (disch := omega) only [evA, evB, bAdd_i64, bSub_i64, ptr, Nat.zero_add, Bool.not_true, Bool.not_false, Option.isNone_some, Option.isNone_none, Option.isSome_some, Option.isSome_none, decide_true, decide_false, eq_self, true_and, and_assoc])
 | ((with_reducible apply go_ld1 h))
 | ((with_reducible apply go_ldA h); (rfl))
 | ((with_reducible apply go_ldN h))
 | ((with_reducible apply go_st h); intro _ h)
 | ((with_reducible apply go_stA h); (rfl); (rfl); (first | rfl | simp); intro _ h)
 | ((with_reducible apply go_stN h); (rfl); (first | rfl | simp); intro _ h)
 | ((with_reducible apply go_box h); rfl; intro _ _ h)
 | ((with_reducible apply go_rd h); (rfl))
 | ((with_reducible apply go_rdN h); (rfl))
 | ((with_reducible apply go_rlen h); (rfl))
 | ((with_reducible apply go_lenL h))
 | ((with_reducible apply go_ix h); (omega))
 | ((with_reducible apply go_elN h); (case hi => omega))
 | ((with_reducible apply go_fa h); (omega); (omega))
 | ((with_reducible apply go_f1 h); (case hi => omega); (case hx => exact inferInstance))
 | ((with_reducible apply go_rf1 h); (case hi => omega); (case hx => exact inferInstance); (case hv => rfl))
 | ((with_reducible apply go_rel h); (case hi => omega); (case hv => rfl))
))
    subst hev2
    (repeat (first
 | (simp (disch := omega) only [evA, evB, bAdd_i64, bSub_i64, ptr, Nat.zero_add, Bool.not_true, Bool.not_false, Option.isNone_some, Option.isNone_none, Option.isSome_some, Option.isSome_none, decide_true, decide_false, eq_self, true_and, and_assoc])
 | ((with_reducible apply go_ld1 h))
 | ((with_reducible apply go_ldA h); (rfl))
 | ((with_reducible apply go_ldN h))
 | ((with_reducible apply go_st h); intro _ h)
 | ((with_reducible apply go_stA h); (rfl); (rfl); (first | rfl | simp); intro _ h)
 | ((with_reducible apply go_stN h); (rfl); (first | rfl | simp); intro _ h)
 | ((with_reducible apply go_box h); rfl; intro _ _ h)
 | ((with_reducible apply go_rd h); (rfl))
 | ((with_reducible apply go_rdN h); (rfl))
 | ((with_reducible apply go_rlen h); (rfl))
 | ((with_reducible apply go_lenL h))
 | ((with_reducible apply go_ix h); (omega))
 | ((with_reducible apply go_elN h); (case hi => omega))
 | ((with_reducible apply go_fa h); (omega); (omega))
 | ((with_reducible apply go_f1 h); (case hi => omega); (case hx => exact inferInstance))
 | ((with_reducible apply go_rf1 h); (case hi => omega); (case hx => exact inferInstance); (case hv => rfl))
 | ((with_reducible apply go_rel h); (case hi => omega); (case hv => rfl))
))
    by_cases k6 : c.times.length ≤ 1000
    · have k6' : decide ((c.times.length : Int) > 1000) = false := by rw [decide_eq_false_iff_not]; omega
      have k6d : decide (c.times.length ≤ 1000) = true := by simpa using k6
      rw [k6d, Bool.true_and] at hti
      (repeat (first
 | (simp (disch := omega) only [evA, evB, bAdd_i64, bSub_i64, ptr, Nat.zero_add, Bool.not_true, Bool.not_false, Option.isNone_some, Option.isNone_none, Option.isSome_some, Option.isSome_none, decide_true, decide_false, eq_self, true_and, and_assoc, hl, k6'])
 | ((with_reducible apply go_ld1 h))
 | ((with_reducible apply go_ldA h); (rfl))
 | ((with_reducible apply go_ldN h))
 | ((with_reducible apply go_st h); intro _ h)
 | ((with_reducible apply go_stA h); (rfl); (rfl); (first | rfl | simp); intro _ h)
 | ((with_reducible apply go_stN h); (rfl); (first | rfl | simp); intro _ h)
 | ((with_reducible apply go_box h); rfl; intro _ _ h)
 | ((with_reducible apply go_rd h); (rfl))
 | ((with_reducible apply go_rdN h); (rfl))
 | ((with_reducible apply go_rlen h); (rfl))
 | ((with_reducible apply go_lenL h))
 | ((with_reducible apply go_ix h); (omega))
 | ((with_reducible apply go_elN h); (case hi => omega))
 | ((with_reducible apply go_fa h); (omega); (omega))
 | ((with_reducible apply go_f1 h); (case hi => omega); (case hx => exact inferInstance))
 | ((with_reducible apply go_rf1 h); (case hi => omega); (case hx => exact inferInstance); (case hv => rfl))
 | ((with_reducible apply go_rel h); (case hi => omega); (case hv => rfl))
))
      refine fchk_loop (by omega) hr (fun w' h => ?_) fuel 0 w (by have : fuel = 4611686018427387904 := rfl; omega) (by omega) rfl h
      have := hK _ h
      rw [e1, e2, k3, k4, hti] at this
      rw [okFrom_none]
      simpa using this
    · have k6' : decide ((c.times.length : Int) > 1000) = true := by rw [decide_eq_true_eq]; omega
      have k6d : decide (c.times.length ≤ 1000) = false := by simpa using k6
      rw [k6d, Bool.false_and] at hti
      (repeat (first
 | (simp (disch := omega) only [evA, evB, bAdd_i64, bSub_i64, ptr, Nat.zero_add, Bool.not_true, Bool.not_false, Option.isNone_some, Option.isNone_none, Option.isSome_some, Option.isSome_none, decide_true, decide_false, eq_self, true_and, and_assoc, hl, k6'])
 | ((with_reducible apply go_ld1 h))
 | ((with_reducible apply go_ldA h); (rfl))
 | ((with_reducible apply go_ldN h))
 | ((with_reducible apply go_st h); intro _ h)
 | ((with_reducible apply go_stA h); (rfl); (rfl); (first | rfl | simp); intro _ h)
 | ((with_reducible apply go_stN h); (rfl); (first | rfl | simp); intro _ h)
 | ((with_reducible apply go_box h); rfl; intro _ _ h)
 | ((with_reducible apply go_rd h); (rfl))
 | ((with_reducible apply go_rdN h); (rfl))
 | ((with_reducible apply go_rlen h); (rfl))
 | ((with_reducible apply go_lenL h))
 | ((with_reducible apply go_ix h); (omega))
 | ((with_reducible apply go_elN h); (case hi => omega))
 | ((with_reducible apply go_fa h); (omega); (omega))
 | ((with_reducible apply go_f1 h); (case hi => omega); (case hx => exact inferInstance))
 | ((with_reducible apply go_rf1 h); (case hi => omega); (case hx => exact inferInstance); (case hv => rfl))
 | ((with_reducible apply go_rel h); (case hi => omega); (case hv => rfl))
))
      exact bad _ h.drop (by rw [hti]; simp)
end
end Go.Proofs.Gong

/- Ho2 -/
namespace Go.Proofs.Gong
open Go Go.Sx Go.Proofs
set_option maxRecDepth 100000
attribute [local irreducible] fBuild fLook fZero eqv bEqv Cl MapH LsH SlH ld1 ldN st callP eBox eAlloc lenM lenL eMapSet eDelete eAppend eBuildSl eRange eNext
structure Sgn where
  watch : Int
  node : List UInt8
  key : List UInt8
  deriving DecidableEq
@[reducible] def cSgn (s : Sgn) : List Value := [.int .i64 s.watch, .string (bs s.node), .string (bs s.key)]
abbrev sgnV (s : Sgn) : Value := .agg (cSgn s).toArray
def sgnOf (c : Ctx) : Sgn := ⟨c.watch, c.node, c.key⟩
theorem eqSgn (x y : Operand) (a b : Sgn) : bEq Try.prog 122 x y (sgnV a) (sgnV b) = some (.bool (decide (a = b))) := by
  obtain ⟨n1, c1, k1⟩ := a
  obtain ⟨n1', c1', k1'⟩ := b
  rw [eq122]
  simp only [bs_sEq', Option.some.injEq, Value.bool.injEq]
  rw [Bool.eq_iff_iff]
  simp
section
variable {w0 w : World} {L : List HP} {K : Value → World → Prop} {a b : Ctx} {tv tv' : Value}
theorem hof_spec (h : Sat w0 L w) (hK : ∀ w', Sat w0 L w' → K (sgnV (sgnOf a)) w') : callP G73 [ctxV a tv] w K := by
  refine c73 ?_
  unfold F73
  (repeat (first
 | (simp (disch := omega) only [evA, evB, bAdd_i64, bSub_i64, ptr, Nat.zero_add, Bool.not_true, Bool.not_false, Option.isNone_some, Option.isNone_none, Option.isSome_some, Option.isSome_none, decide_true, decide_false, eq_self, true_and, and_assoc])
 | (refine go_some (fb122_0_1_2 ..) ?_)
 | ((with_reducible apply go_ld1 h))
 | ((with_reducible apply go_ldA h); (rfl))
 | ((with_reducible apply go_ldN h))
 | ((with_reducible apply go_st h); intro _ h)
 | ((with_reducible apply go_stA h); (rfl); (rfl); (first | rfl | simp); intro _ h)
 | ((with_reducible apply go_stN h); (rfl); (first | rfl | simp); intro _ h)
 | ((with_reducible apply go_box h); rfl; intro _ _ h)
 | ((with_reducible apply go_alloc h); (first | exact z122); rfl; intro _ _ h)
 | ((with_reducible apply go_rd h); (rfl))
 | ((with_reducible apply go_rdN h); (rfl))
 | ((with_reducible apply go_rlen h); (rfl))
 | ((with_reducible apply go_lenL h))
 | ((with_reducible apply go_ix h); (omega))
 | ((with_reducible apply go_elN h); (case hi => omega))
 | ((with_reducible apply go_fa h); (omega); (omega))
 | ((with_reducible apply go_f1 h); (case hi => omega); (case hx => exact inferInstance))
 | ((with_reducible apply go_rf1 h); (case hi => omega); (case hx => exact inferInstance); (case hv => rfl))
 | ((with_reducible apply go_rel h); (case hi => omega); (case hv => rfl))
))
  exact hK _ (h.get (by (repeat (first | exact .done | (refine .pick (by repeat (first | exact .here | apply Fnt.there)) ?_) | refine .skip ?_))))
theorem ctx_eq (a b : Ctx) : decide (a = b) = (decide (a.id = b.id) && decide (a.watch = b.watch) && decide (a.at' = b.at') && (decide (sgnOf a = sgnOf b) && (decide (a.e = b.e) && decide (a.times = b.times)))) := by
  obtain ⟨i, wa, n, k, t, e, ts⟩ := a
  obtain ⟨i', wa', n', k', t', e', ts'⟩ := b
  rw [Bool.eq_iff_iff]
  simp only [sgnOf, Ctx.mk.injEq, Sgn.mk.injEq, decide_eq_true_eq, Bool.and_eq_true]
  constructor
  · rintro ⟨rfl, rfl, rfl, rfl, rfl, rfl, rfl⟩; simp
  · rintro ⟨⟨⟨h1, h2⟩, h3⟩, ⟨h4, h5, h6⟩, h7, h8⟩; exact ⟨h1, h2, h5, h6, h3, h7, h8⟩
theorem same_spec (hl : a.times.length ≤ 1000000) (hr : RdL w0 L cI 1 tv a.times) (hr' : RdL w0 L cI 1 tv' b.times) (h : Sat w0 L w) (hK : ∀ w', Sat w0 L w' → K (.bool (decide (a = b))) w') : callP G24 [ctxV a tv, ctxV b tv'] w K := by
  refine c24 ?_
  unfold F24
  rw [ctx_eq] at hK
  (repeat (first
 | (simp (disch := omega) only [evA, evB, bAdd_i64, bSub_i64, ptr, Nat.zero_add, Bool.not_true, Bool.not_false, Option.isNone_some, Option.isNone_none, Option.isSome_some, Option.isSome_none, decide_true, decide_false, eq_self, true_and, and_assoc])
 | (refine go_some (fb120_0_1_2 ..) ?_)
 | ((with_reducible apply go_ld1 h))
 | ((with_reducible apply go_ldA h); (rfl))
 | ((with_reducible apply go_ldN h))
 | ((with_reducible apply go_st h); intro _ h)
 | ((with_reducible apply go_stA h); (rfl); (rfl); (first | rfl | simp); intro _ h)
 | ((with_reducible apply go_stN h); (rfl); (first | rfl | simp); intro _ h)
 | ((with_reducible apply go_box h); rfl; intro _ _ h)
 | ((with_reducible apply go_rd h); (rfl))
 | ((with_reducible apply go_rdN h); (rfl))
 | ((with_reducible apply go_rlen h); (rfl))
 | ((with_reducible apply go_lenL h))
 | ((with_reducible apply go_ix h); (omega))
 | ((with_reducible apply go_elN h); (case hi => omega))
 | ((with_reducible apply go_fa h); (omega); (omega))
 | ((with_reducible apply go_f1 h); (case hi => omega); (case hx => exact inferInstance))
 | ((with_reducible apply go_rf1 h); (case hi => omega); (case hx => exact inferInstance); (case hv => rfl))
 | ((with_reducible apply go_rel h); (case hi => omega); (case hv => rfl))
))
  refine go_some (eq120 ..) ?_
  have e1 : (a.id == b.id && (a.watch == b.watch && (a.at' == b.at' && true))) = (decide (a.id = b.id) && decide (a.watch = b.watch) && decide (a.at' = b.at')) := by
    rw [Bool.eq_iff_iff]; simp [and_assoc]
  rw [e1]
  generalize (decide (a.id = b.id) && decide (a.watch = b.watch) && decide (a.at' = b.at')) = d1 at hK
  cases d1
  · have := hK _ (h.drew.get (by (repeat (first | exact .done | (refine .pick (by repeat (first | exact .here | apply Fnt.there)) ?_) | refine .skip ?_))))
    (repeat (first
 | (simp (disch := omega) only [evA, evB, bAdd_i64, bSub_i64, ptr, Nat.zero_add, Bool.not_true, Bool.not_false, Option.isNone_some, Option.isNone_none, Option.isSome_some, Option.isSome_none, decide_true, decide_false, eq_self, true_and, and_assoc])
 | ((with_reducible apply go_ld1 h))
 | ((with_reducible apply go_ldA h); (rfl))
 | ((with_reducible apply go_ldN h))
 | ((with_reducible apply go_st h); intro _ h)
 | ((with_reducible apply go_stA h); (rfl); (rfl); (first | rfl | simp); intro _ h)
 | ((with_reducible apply go_stN h); (rfl); (first | rfl | simp); intro _ h)
 | ((with_reducible apply go_box h); rfl; intro _ _ h)
 | ((with_reducible apply go_rd h); (rfl))
 | ((with_reducible apply go_rdN h); (rfl))
 | ((with_reducible apply go_rlen h); (rfl))
 | ((with_reducible apply go_lenL h))
 | ((with_reducible apply go_ix h); (omega))
 | ((with_reducible apply go_elN h); (case hi => omega))
 | ((with_reducible apply go_fa h); (omega); (omega))
 | ((with_reducible apply go_f1 h); (case hi => omega); (case hx => exact inferInstance))
 | ((with_reducible apply go_rf1 h); (case hi => omega); (case hx => exact inferInstance); (case hv => rfl))
 | ((with_reducible apply go_rel h); (case hi => omega); (case hv => rfl))
))
    simpa using this
  (repeat (first
 | (simp (disch := omega) only [evA, evB, bAdd_i64, bSub_i64, ptr, Nat.zero_add, Bool.not_true, Bool.not_false, Option.isNone_some, Option.isNone_none, Option.isSome_some, Option.isSome_none, decide_true, decide_false, eq_self, true_and, and_assoc])
 | ((with_reducible apply go_ld1 h))
 | ((with_reducible apply go_ldA h); (rfl))
 | ((with_reducible apply go_ldN h))
 | ((with_reducible apply go_st h); intro _ h)
 | ((with_reducible apply go_stA h); (rfl); (rfl); (first | rfl | simp); intro _ h)
 | ((with_reducible apply go_stN h); (rfl); (first | rfl | simp); intro _ h)
 | ((with_reducible apply go_box h); rfl; intro _ _ h)
 | ((with_reducible apply go_rd h); (rfl))
 | ((with_reducible apply go_rdN h); (rfl))
 | ((with_reducible apply go_rlen h); (rfl))
 | ((with_reducible apply go_lenL h))
 | ((with_reducible apply go_ix h); (omega))
 | ((with_reducible apply go_elN h); (case hi => omega))
 | ((with_reducible apply go_fa h); (omega); (omega))
 | ((with_reducible apply go_f1 h); (case hi => omega); (case hx => exact inferInstance))
 | ((with_reducible apply go_rf1 h); (case hi => omega); (case hx => exact inferInstance); (case hv => rfl))
 | ((with_reducible apply go_rel h); (case hi => omega); (case hv => rfl))
))
  refine hof_spec (a := a) h.drew fun w h => ?_
  (repeat (first
 | (simp (disch := omega) only [evA, evB, bAdd_i64, bSub_i64, ptr, Nat.zero_add, Bool.not_true, Bool.not_false, Option.isNone_some, Option.isNone_none, Option.isSome_some, Option.isSome_none, decide_true, decide_false, eq_self, true_and, and_assoc])
 | ((with_reducible apply go_ld1 h))
 | ((with_reducible apply go_ldA h); (rfl))
 | ((with_reducible apply go_ldN h))
 | ((with_reducible apply go_st h); intro _ h)
 | ((with_reducible apply go_stA h); (rfl); (rfl); (first | rfl | simp); intro _ h)
 | ((with_reducible apply go_stN h); (rfl); (first | rfl | simp); intro _ h)
 | ((with_reducible apply go_box h); rfl; intro _ _ h)
 | ((with_reducible apply go_rd h); (rfl))
 | ((with_reducible apply go_rdN h); (rfl))
 | ((with_reducible apply go_rlen h); (rfl))
 | ((with_reducible apply go_lenL h))
 | ((with_reducible apply go_ix h); (omega))
 | ((with_reducible apply go_elN h); (case hi => omega))
 | ((with_reducible apply go_fa h); (omega); (omega))
 | ((with_reducible apply go_f1 h); (case hi => omega); (case hx => exact inferInstance))
 | ((with_reducible apply go_rf1 h); (case hi => omega); (case hx => exact inferInstance); (case hv => rfl))
 | ((with_reducible apply go_rel h); (case hi => omega); (case hv => rfl))
))
  refine hof_spec (a := b) h fun w h => ?_
  (repeat (first
 | (simp (disch := omega) only [evA, evB, bAdd_i64, bSub_i64, ptr, Nat.zero_add, Bool.not_true, Bool.not_false, Option.isNone_some, Option.isNone_none, Option.isSome_some, Option.isSome_none, decide_true, decide_false, eq_self, true_and, and_assoc])
 | ((with_reducible apply go_ld1 h))
 | ((with_reducible apply go_ldA h); (rfl))
 | ((with_reducible apply go_ldN h))
 | ((with_reducible apply go_st h); intro _ h)
 | ((with_reducible apply go_stA h); (rfl); (rfl); (first | rfl | simp); intro _ h)
 | ((with_reducible apply go_stN h); (rfl); (first | rfl | simp); intro _ h)
 | ((with_reducible apply go_box h); rfl; intro _ _ h)
 | ((with_reducible apply go_rd h); (rfl))
 | ((with_reducible apply go_rdN h); (rfl))
 | ((with_reducible apply go_rlen h); (rfl))
 | ((with_reducible apply go_lenL h))
 | ((with_reducible apply go_ix h); (omega))
 | ((with_reducible apply go_elN h); (case hi => omega))
 | ((with_reducible apply go_fa h); (omega); (omega))
 | ((with_reducible apply go_f1 h); (case hi => omega); (case hx => exact inferInstance))
 | ((with_reducible apply go_rf1 h); (case hi => omega); (case hx => exact inferInstance); (case hv => rfl))
 | ((with_reducible apply go_rel h); (case hi => omega); (case hv => rfl))
))
  refine go_some (eqSgn _ _ (sgnOf a) (sgnOf b)) ?_
  cases d2 : decide (sgnOf a = sgnOf b)
  · have := hK _ (h.get (by (repeat (first | exact .done | (refine .pick (by repeat (first | exact .here | apply Fnt.there)) ?_) | refine .skip ?_))))
    rw [d2] at this
    (repeat (first
 | (simp (disch := omega) only [evA, evB, bAdd_i64, bSub_i64, ptr, Nat.zero_add, Bool.not_true, Bool.not_false, Option.isNone_some, Option.isNone_none, Option.isSome_some, Option.isSome_none, decide_true, decide_false, eq_self, true_and, and_assoc])
 | ((with_reducible apply go_ld1 h))
 | ((with_reducible apply go_ldA h); (rfl))
 | ((with_reducible apply go_ldN h))
 | ((with_reducible apply go_st h); intro _ h)
 | ((with_reducible apply go_stA h); (rfl); (rfl); (first | rfl | simp); intro _ h)
 | ((with_reducible apply go_stN h); (rfl); (first | rfl | simp); intro _ h)
 | ((with_reducible apply go_box h); rfl; intro _ _ h)
 | ((with_reducible apply go_rd h); (rfl))
 | ((with_reducible apply go_rdN h); (rfl))
 | ((with_reducible apply go_rlen h); (rfl))
 | ((with_reducible apply go_lenL h))
 | ((with_reducible apply go_ix h); (omega))
 | ((with_reducible apply go_elN h); (case hi => omega))
 | ((with_reducible apply go_fa h); (omega); (omega))
 | ((with_reducible apply go_f1 h); (case hi => omega); (case hx => exact inferInstance))
 | ((with_reducible apply go_rf1 h); (case hi => omega); (case hx => exact inferInstance); (case hv => rfl))
 | ((with_reducible apply go_rel h); (case hi => omega); (case hv => rfl))
))
    simpa using this
  (repeat (first
 | (simp (disch := omega) only [evA, evB, bAdd_i64, bSub_i64, ptr, Nat.zero_add, Bool.not_true, Bool.not_false, Option.isNone_some, Option.isNone_none, Option.isSome_some, Option.isSome_none, decide_true, decide_false, eq_self, true_and, and_assoc])
 | ((with_reducible apply go_ld1 h))
 | ((with_reducible apply go_ldA h); (rfl))
 | ((with_reducible apply go_ldN h))
 | ((with_reducible apply go_st h); intro _ h)
 | ((with_reducible apply go_stA h); (rfl); (rfl); (first | rfl | simp); intro _ h)
 | ((with_reducible apply go_stN h); (rfl); (first | rfl | simp); intro _ h)
 | ((with_reducible apply go_box h); rfl; intro _ _ h)
 | ((with_reducible apply go_rd h); (rfl))
 | ((with_reducible apply go_rdN h); (rfl))
 | ((with_reducible apply go_rlen h); (rfl))
 | ((with_reducible apply go_lenL h))
 | ((with_reducible apply go_ix h); (omega))
 | ((with_reducible apply go_elN h); (case hi => omega))
 | ((with_reducible apply go_fa h); (omega); (omega))
 | ((with_reducible apply go_f1 h); (case hi => omega); (case hx => exact inferInstance))
 | ((with_reducible apply go_rf1 h); (case hi => omega); (case hx => exact inferInstance); (case hv => rfl))
 | ((with_reducible apply go_rel h); (case hi => omega); (case hv => rfl))
))
  refine go_some (eqE _ _ a.e b.e) ?_
  cases d3 : decide (a.e = b.e)
  · have := hK _ (h.get (by (repeat (first | exact .done | (refine .pick (by repeat (first | exact .here | apply Fnt.there)) ?_) | refine .skip ?_))))
    rw [d2, d3] at this
    (repeat (first
 | (simp (disch := omega) only [evA, evB, bAdd_i64, bSub_i64, ptr, Nat.zero_add, Bool.not_true, Bool.not_false, Option.isNone_some, Option.isNone_none, Option.isSome_some, Option.isSome_none, decide_true, decide_false, eq_self, true_and, and_assoc])
 | ((with_reducible apply go_ld1 h))
 | ((with_reducible apply go_ldA h); (rfl))
 | ((with_reducible apply go_ldN h))
 | ((with_reducible apply go_st h); intro _ h)
 | ((with_reducible apply go_stA h); (rfl); (rfl); (first | rfl | simp); intro _ h)
 | ((with_reducible apply go_stN h); (rfl); (first | rfl | simp); intro _ h)
 | ((with_reducible apply go_box h); rfl; intro _ _ h)
 | ((with_reducible apply go_rd h); (rfl))
 | ((with_reducible apply go_rdN h); (rfl))
 | ((with_reducible apply go_rlen h); (rfl))
 | ((with_reducible apply go_lenL h))
 | ((with_reducible apply go_ix h); (omega))
 | ((with_reducible apply go_elN h); (case hi => omega))
 | ((with_reducible apply go_fa h); (omega); (omega))
 | ((with_reducible apply go_f1 h); (case hi => omega); (case hx => exact inferInstance))
 | ((with_reducible apply go_rf1 h); (case hi => omega); (case hx => exact inferInstance); (case hv => rfl))
 | ((with_reducible apply go_rel h); (case hi => omega); (case hv => rfl))
))
    simpa using this
  (repeat (first
 | (simp (disch := omega) only [evA, evB, bAdd_i64, bSub_i64, ptr, Nat.zero_add, Bool.not_true, Bool.not_false, Option.isNone_some, Option.isNone_none, Option.isSome_some, Option.isSome_none, decide_true, decide_false, eq_self, true_and, and_assoc])
 | ((with_reducible apply go_ld1 h))
 | ((with_reducible apply go_ldA h); (rfl))
 | ((with_reducible apply go_ldN h))
 | ((with_reducible apply go_st h); intro _ h)
 | ((with_reducible apply go_stA h); (rfl); (rfl); (first | rfl | simp); intro _ h)
 | ((with_reducible apply go_stN h); (rfl); (first | rfl | simp); intro _ h)
 | ((with_reducible apply go_box h); rfl; intro _ _ h)
 | ((with_reducible apply go_rd h); (rfl))
 | ((with_reducible apply go_rdN h); (rfl))
 | ((with_reducible apply go_rlen h); (rfl))
 | ((with_reducible apply go_lenL h))
 | ((with_reducible apply go_ix h); (omega))
 | ((with_reducible apply go_elN h); (case hi => omega))
 | ((with_reducible apply go_fa h); (omega); (omega))
 | ((with_reducible apply go_f1 h); (case hi => omega); (case hx => exact inferInstance))
 | ((with_reducible apply go_rf1 h); (case hi => omega); (case hx => exact inferInstance); (case hv => rfl))
 | ((with_reducible apply go_rel h); (case hi => omega); (case hv => rfl))
))
  refine eql_spec (l := a.times) (m := b.times) (by omega) hr.cons.cons hr'.cons.cons h fun w h => ?_
  have := hK _ (h.get (by (repeat (first | exact .done | (refine .pick (by repeat (first | exact .here | apply Fnt.there)) ?_) | refine .skip ?_))))
  rw [d2, d3] at this
  (repeat (first
 | (simp (disch := omega) only [evA, evB, bAdd_i64, bSub_i64, ptr, Nat.zero_add, Bool.not_true, Bool.not_false, Option.isNone_some, Option.isNone_none, Option.isSome_some, Option.isSome_none, decide_true, decide_false, eq_self, true_and, and_assoc])
 | ((with_reducible apply go_ld1 h))
 | ((with_reducible apply go_ldA h); (rfl))
 | ((with_reducible apply go_ldN h))
 | ((with_reducible apply go_st h); intro _ h)
 | ((with_reducible apply go_stA h); (rfl); (rfl); (first | rfl | simp); intro _ h)
 | ((with_reducible apply go_stN h); (rfl); (first | rfl | simp); intro _ h)
 | ((with_reducible apply go_box h); rfl; intro _ _ h)
 | ((with_reducible apply go_rd h); (rfl))
 | ((with_reducible apply go_rdN h); (rfl))
 | ((with_reducible apply go_rlen h); (rfl))
 | ((with_reducible apply go_lenL h))
 | ((with_reducible apply go_ix h); (omega))
 | ((with_reducible apply go_elN h); (case hi => omega))
 | ((with_reducible apply go_fa h); (omega); (omega))
 | ((with_reducible apply go_f1 h); (case hi => omega); (case hx => exact inferInstance))
 | ((with_reducible apply go_rf1 h); (case hi => omega); (case hx => exact inferInstance); (case hv => rfl))
 | ((with_reducible apply go_rel h); (case hi => omega); (case hv => rfl))
))
  simpa using this
theorem fsame_loop {p q : Nat} (hl : a.times.length ≤ 1000000) (hlm : a.times.length = b.times.length) (hr : RdL w0 L cI 1 tv a.times) (hr' : RdL w0 L cI 1 tv' b.times) (hK : ∀ w', Sat w0 L w' → K (.bool (decide (a.times = b.times))) w') :
    ∀ (d i : Nat) (w : World), a.times.length - i < d → i ≤ a.times.length → a.times.take i = b.times.take i → Sat w0 (Cl q (cCtx b tv').toArray 41 :: Cl p (cCtx a tv).toArray 41 :: L) w →
      F25_2L d (.pointer (some ⟨p, 0, none⟩)) (.pointer (some ⟨q, 0, none⟩)) (.int .i64 i) w K := by
  intro d
  induction d with
  | zero => intro i w hd; omega
  | succ d ih =>
    intro i w hd hi ht h
    rw [F25_2L]
    unfold F25_2b F25_3 F25_3b
    have h1 := hr w (h.get (by (repeat (first | exact .done | (refine .pick (by repeat (first | exact .here | apply Fnt.there)) ?_) | refine .skip ?_))))
    have h2 := hr' w (h.get (by (repeat (first | exact .done | (refine .pick (by repeat (first | exact .here | apply Fnt.there)) ?_) | refine .skip ?_))))
    by_cases g : i < a.times.length
    · have g' : decide ((i : Int) < (a.times.length : Int)) = true := by rw [decide_eq_true_eq]; omega
      have g2 : i < b.times.length := by omega
      by_cases e1 : a.times[i] = b.times[i]
      · have e1' : decide (a.times[i] = b.times[i]) = true := by simpa using e1
        (repeat (first
 | (simp (disch := omega) only [evA, evB, bAdd_i64, bSub_i64, ptr, Nat.zero_add, Bool.not_true, Bool.not_false, Option.isNone_some, Option.isNone_none, Option.isSome_some, Option.isSome_none, decide_true, decide_false, eq_self, true_and, and_assoc, h1.len, g', (i_at h1 g), (i_at h2 g2), e1'])
 | ((with_reducible apply go_ld1 h))
 | ((with_reducible apply go_ldA h); (rfl))
 | ((with_reducible apply go_ldN h))
 | ((with_reducible apply go_st h); intro _ h)
 | ((with_reducible apply go_stA h); (rfl); (rfl); (first | rfl | simp); intro _ h)
 | ((with_reducible apply go_stN h); (rfl); (first | rfl | simp); intro _ h)
 | ((with_reducible apply go_box h); rfl; intro _ _ h)
 | ((with_reducible apply go_rd h); (rfl))
 | ((with_reducible apply go_rdN h); (rfl))
 | ((with_reducible apply go_rlen h); (rfl))
 | ((with_reducible apply go_lenL h))
 | ((with_reducible apply go_ix h); (omega))
 | ((with_reducible apply go_elN h); (case hi => omega))
 | ((with_reducible apply go_fa h); (omega); (omega))
 | ((with_reducible apply go_f1 h); (case hi => omega); (case hx => exact inferInstance))
 | ((with_reducible apply go_rf1 h); (case hi => omega); (case hx => exact inferInstance); (case hv => rfl))
 | ((with_reducible apply go_rel h); (case hi => omega); (case hv => rfl))
))
        refine ih (i + 1) _ (by omega) (by omega) ?_ h.drew
        rw [List.take_succ_eq_append_getElem g, List.take_succ_eq_append_getElem g2, ht, e1]
      · have e1' : decide (a.times[i] = b.times[i]) = false := by simpa using e1
        (repeat (first
 | (simp (disch := omega) only [evA, evB, bAdd_i64, bSub_i64, ptr, Nat.zero_add, Bool.not_true, Bool.not_false, Option.isNone_some, Option.isNone_none, Option.isSome_some, Option.isSome_none, decide_true, decide_false, eq_self, true_and, and_assoc, h1.len, g', (i_at h1 g), (i_at h2 g2), e1'])
 | ((with_reducible apply go_ld1 h))
 | ((with_reducible apply go_ldA h); (rfl))
 | ((with_reducible apply go_ldN h))
 | ((with_reducible apply go_st h); intro _ h)
 | ((with_reducible apply go_stA h); (rfl); (rfl); (first | rfl | simp); intro _ h)
 | ((with_reducible apply go_stN h); (rfl); (first | rfl | simp); intro _ h)
 | ((with_reducible apply go_box h); rfl; intro _ _ h)
 | ((with_reducible apply go_rd h); (rfl))
 | ((with_reducible apply go_rdN h); (rfl))
 | ((with_reducible apply go_rlen h); (rfl))
 | ((with_reducible apply go_lenL h))
 | ((with_reducible apply go_ix h); (omega))
 | ((with_reducible apply go_elN h); (case hi => omega))
 | ((with_reducible apply go_fa h); (omega); (omega))
 | ((with_reducible apply go_f1 h); (case hi => omega); (case hx => exact inferInstance))
 | ((with_reducible apply go_rf1 h); (case hi => omega); (case hx => exact inferInstance); (case hv => rfl))
 | ((with_reducible apply go_rel h); (case hi => omega); (case hv => rfl))
))
        have := hK _ (h.drew.get (by (repeat (first | exact .done | (refine .pick (by repeat (first | exact .here | apply Fnt.there)) ?_) | refine .skip ?_))))
        rw [decide_eq_false (fun e => e1 (by simp only [e]))] at this
        exact this
    · have g' : decide ((i : Int) < (a.times.length : Int)) = false := by rw [decide_eq_false_iff_not]; omega
      (repeat (first
 | (simp (disch := omega) only [evA, evB, bAdd_i64, bSub_i64, ptr, Nat.zero_add, Bool.not_true, Bool.not_false, Option.isNone_some, Option.isNone_none, Option.isSome_some, Option.isSome_none, decide_true, decide_false, eq_self, true_and, and_assoc, h1.len, g'])
 | ((with_reducible apply go_ld1 h))
 | ((with_reducible apply go_ldA h); (rfl))
 | ((with_reducible apply go_ldN h))
 | ((with_reducible apply go_st h); intro _ h)
 | ((with_reducible apply go_stA h); (rfl); (rfl); (first | rfl | simp); intro _ h)
 | ((with_reducible apply go_stN h); (rfl); (first | rfl | simp); intro _ h)
 | ((with_reducible apply go_box h); rfl; intro _ _ h)
 | ((with_reducible apply go_rd h); (rfl))
 | ((with_reducible apply go_rdN h); (rfl))
 | ((with_reducible apply go_rlen h); (rfl))
 | ((with_reducible apply go_lenL h))
 | ((with_reducible apply go_ix h); (omega))
 | ((with_reducible apply go_elN h); (case hi => omega))
 | ((with_reducible apply go_fa h); (omega); (omega))
 | ((with_reducible apply go_f1 h); (case hi => omega); (case hx => exact inferInstance))
 | ((with_reducible apply go_rf1 h); (case hi => omega); (case hx => exact inferInstance); (case hv => rfl))
 | ((with_reducible apply go_rel h); (case hi => omega); (case hv => rfl))
))
      have := hK _ (h.get (by (repeat (first | exact .done | (refine .pick (by repeat (first | exact .here | apply Fnt.there)) ?_) | refine .skip ?_))))
      rw [List.take_of_length_le (by omega), List.take_of_length_le (by omega)] at ht
      rw [decide_eq_true ht] at this
      exact this
theorem ctx_eq2 (a b : Ctx) : decide (a = b) = (decide (a.id = b.id) && (decide (a.watch = b.watch) && (decide (a.node = b.node) && (decide (a.key = b.key) && (decide (a.at' = b.at') && (decide (a.e = b.e) && decide (a.times = b.times))))))) := by
  obtain ⟨i, wa, n, k, t, e, ts⟩ := a
  obtain ⟨i', wa', n', k', t', e', ts'⟩ := b
  rw [Bool.eq_iff_iff]
  simp only [Ctx.mk.injEq, decide_eq_true_eq, Bool.and_eq_true]
theorem fsame_spec (hl : a.times.length ≤ 1000000) (hr : RdL w0 L cI 1 tv a.times) (hr' : RdL w0 L cI 1 tv' b.times) (h : Sat w0 L w) (hK : ∀ w', Sat w0 L w' → K (.bool (decide (a = b))) w') : callP G25 [ctxV a tv, ctxV b tv'] w K := by
  refine c25 ?_
  unfold F25 F25_1 F25_1b F25_2
  rw [ctx_eq2] at hK
  (repeat (first
 | (simp (disch := omega) only [evA, evB, bAdd_i64, bSub_i64, ptr, Nat.zero_add, Bool.not_true, Bool.not_false, Option.isNone_some, Option.isNone_none, Option.isSome_some, Option.isSome_none, decide_true, decide_false, eq_self, true_and, and_assoc])
 | ((with_reducible apply go_ld1 h))
 | ((with_reducible apply go_ldA h); (rfl))
 | ((with_reducible apply go_ldN h))
 | ((with_reducible apply go_st h); intro _ h)
 | ((with_reducible apply go_stA h); (rfl); (rfl); (first | rfl | simp); intro _ h)
 | ((with_reducible apply go_stN h); (rfl); (first | rfl | simp); intro _ h)
 | ((with_reducible apply go_box h); rfl; intro _ _ h)
 | ((with_reducible apply go_rd h); (rfl))
 | ((with_reducible apply go_rdN h); (rfl))
 | ((with_reducible apply go_rlen h); (rfl))
 | ((with_reducible apply go_lenL h))
 | ((with_reducible apply go_ix h); (omega))
 | ((with_reducible apply go_elN h); (case hi => omega))
 | ((with_reducible apply go_fa h); (omega); (omega))
 | ((with_reducible apply go_f1 h); (case hi => omega); (case hx => exact inferInstance))
 | ((with_reducible apply go_rf1 h); (case hi => omega); (case hx => exact inferInstance); (case hv => rfl))
 | ((with_reducible apply go_rel h); (case hi => omega); (case hv => rfl))
))
  have no : ∀ {w : World} {p q : Nat}, Sat w0 (Cl q (cCtx b tv').toArray 41 :: Cl p (cCtx a tv).toArray 41 :: L) w → (decide (a.id = b.id) && (decide (a.watch = b.watch) && (decide (a.node = b.node) && (decide (a.key = b.key) && (decide (a.at' = b.at') && (decide (a.e = b.e) && decide (a.times = b.times))))))) = false → K (.bool false) w := by
    intro w p q h e
    have := hK _ h.drop.drop
    rw [e] at this; exact this
  cases e1 : decide (a.id = b.id)
  · (repeat (first
 | (simp (disch := omega) only [evA, evB, bAdd_i64, bSub_i64, ptr, Nat.zero_add, Bool.not_true, Bool.not_false, Option.isNone_some, Option.isNone_none, Option.isSome_some, Option.isSome_none, decide_true, decide_false, eq_self, true_and, and_assoc])
 | ((with_reducible apply go_ld1 h))
 | ((with_reducible apply go_ldA h); (rfl))
 | ((with_reducible apply go_ldN h))
 | ((with_reducible apply go_st h); intro _ h)
 | ((with_reducible apply go_stA h); (rfl); (rfl); (first | rfl | simp); intro _ h)
 | ((with_reducible apply go_stN h); (rfl); (first | rfl | simp); intro _ h)
 | ((with_reducible apply go_box h); rfl; intro _ _ h)
 | ((with_reducible apply go_rd h); (rfl))
 | ((with_reducible apply go_rdN h); (rfl))
 | ((with_reducible apply go_rlen h); (rfl))
 | ((with_reducible apply go_lenL h))
 | ((with_reducible apply go_ix h); (omega))
 | ((with_reducible apply go_elN h); (case hi => omega))
 | ((with_reducible apply go_fa h); (omega); (omega))
 | ((with_reducible apply go_f1 h); (case hi => omega); (case hx => exact inferInstance))
 | ((with_reducible apply go_rf1 h); (case hi => omega); (case hx => exact inferInstance); (case hv => rfl))
 | ((with_reducible apply go_rel h); (case hi => omega); (case hv => rfl))
))
    exact no h (by rw [e1]; rfl)
  cases e2 : decide (a.watch = b.watch)
  · (repeat (first
 | (simp (disch := omega) only [evA, evB, bAdd_i64, bSub_i64, ptr, Nat.zero_add, Bool.not_true, Bool.not_false, Option.isNone_some, Option.isNone_none, Option.isSome_some, Option.isSome_none, decide_true, decide_false, eq_self, true_and, and_assoc, e2])
 | ((with_reducible apply go_ld1 h))
 | ((with_reducible apply go_ldA h); (rfl))
 | ((with_reducible apply go_ldN h))
 | ((with_reducible apply go_st h); intro _ h)
 | ((with_reducible apply go_stA h); (rfl); (rfl); (first | rfl | simp); intro _ h)
 | ((with_reducible apply go_stN h); (rfl); (first | rfl | simp); intro _ h)
 | ((with_reducible apply go_box h); rfl; intro _ _ h)
 | ((with_reducible apply go_rd h); (rfl))
 | ((with_reducible apply go_rdN h); (rfl))
 | ((with_reducible apply go_rlen h); (rfl))
 | ((with_reducible apply go_lenL h))
 | ((with_reducible apply go_ix h); (omega))
 | ((with_reducible apply go_elN h); (case hi => omega))
 | ((with_reducible apply go_fa h); (omega); (omega))
 | ((with_reducible apply go_f1 h); (case hi => omega); (case hx => exact inferInstance))
 | ((with_reducible apply go_rf1 h); (case hi => omega); (case hx => exact inferInstance); (case hv => rfl))
 | ((with_reducible apply go_rel h); (case hi => omega); (case hv => rfl))
))
    exact no h (by rw [e1, e2]; rfl)
  cases e3 : decide (a.node = b.node)
  · (repeat (first
 | (simp (disch := omega) only [evA, evB, bAdd_i64, bSub_i64, ptr, Nat.zero_add, Bool.not_true, Bool.not_false, Option.isNone_some, Option.isNone_none, Option.isSome_some, Option.isSome_none, decide_true, decide_false, eq_self, true_and, and_assoc, e2, e3])
 | ((with_reducible apply go_ld1 h))
 | ((with_reducible apply go_ldA h); (rfl))
 | ((with_reducible apply go_ldN h))
 | ((with_reducible apply go_st h); intro _ h)
 | ((with_reducible apply go_stA h); (rfl); (rfl); (first | rfl | simp); intro _ h)
 | ((with_reducible apply go_stN h); (rfl); (first | rfl | simp); intro _ h)
 | ((with_reducible apply go_box h); rfl; intro _ _ h)
 | ((with_reducible apply go_rd h); (rfl))
 | ((with_reducible apply go_rdN h); (rfl))
 | ((with_reducible apply go_rlen h); (rfl))
 | ((with_reducible apply go_lenL h))
 | ((with_reducible apply go_ix h); (omega))
 | ((with_reducible apply go_elN h); (case hi => omega))
 | ((with_reducible apply go_fa h); (omega); (omega))
 | ((with_reducible apply go_f1 h); (case hi => omega); (case hx => exact inferInstance))
 | ((with_reducible apply go_rf1 h); (case hi => omega); (case hx => exact inferInstance); (case hv => rfl))
 | ((with_reducible apply go_rel h); (case hi => omega); (case hv => rfl))
))
    exact no h (by rw [e1, e2, e3]; rfl)
  cases e4 : decide (a.key = b.key)
  · (repeat (first
 | (simp (disch := omega) only [evA, evB, bAdd_i64, bSub_i64, ptr, Nat.zero_add, Bool.not_true, Bool.not_false, Option.isNone_some, Option.isNone_none, Option.isSome_some, Option.isSome_none, decide_true, decide_false, eq_self, true_and, and_assoc, e2, e3, e4])
 | ((with_reducible apply go_ld1 h))
 | ((with_reducible apply go_ldA h); (rfl))
 | ((with_reducible apply go_ldN h))
 | ((with_reducible apply go_st h); intro _ h)
 | ((with_reducible apply go_stA h); (rfl); (rfl); (first | rfl | simp); intro _ h)
 | ((with_reducible apply go_stN h); (rfl); (first | rfl | simp); intro _ h)
 | ((with_reducible apply go_box h); rfl; intro _ _ h)
 | ((with_reducible apply go_rd h); (rfl))
 | ((with_reducible apply go_rdN h); (rfl))
 | ((with_reducible apply go_rlen h); (rfl))
 | ((with_reducible apply go_lenL h))
 | ((with_reducible apply go_ix h); (omega))
 | ((with_reducible apply go_elN h); (case hi => omega))
 | ((with_reducible apply go_fa h); (omega); (omega))
 | ((with_reducible apply go_f1 h); (case hi => omega); (case hx => exact inferInstance))
 | ((with_reducible apply go_rf1 h); (case hi => omega); (case hx => exact inferInstance); (case hv => rfl))
 | ((with_reducible apply go_rel h); (case hi => omega); (case hv => rfl))
))
    exact no h (by rw [e1, e2, e3, e4]; rfl)
  cases e5 : decide (a.at' = b.at')
  · (repeat (first
 | (simp (disch := omega) only [evA, evB, bAdd_i64, bSub_i64, ptr, Nat.zero_add, Bool.not_true, Bool.not_false, Option.isNone_some, Option.isNone_none, Option.isSome_some, Option.isSome_none, decide_true, decide_false, eq_self, true_and, and_assoc, e2, e3, e4, e5])
 | ((with_reducible apply go_ld1 h))
 | ((with_reducible apply go_ldA h); (rfl))
 | ((with_reducible apply go_ldN h))
 | ((with_reducible apply go_st h); intro _ h)
 | ((with_reducible apply go_stA h); (rfl); (rfl); (first | rfl | simp); intro _ h)
 | ((with_reducible apply go_stN h); (rfl); (first | rfl | simp); intro _ h)
 | ((with_reducible apply go_box h); rfl; intro _ _ h)
 | ((with_reducible apply go_rd h); (rfl))
 | ((with_reducible apply go_rdN h); (rfl))
 | ((with_reducible apply go_rlen h); (rfl))
 | ((with_reducible apply go_lenL h))
 | ((with_reducible apply go_ix h); (omega))
 | ((with_reducible apply go_elN h); (case hi => omega))
 | ((with_reducible apply go_fa h); (omega); (omega))
 | ((with_reducible apply go_f1 h); (case hi => omega); (case hx => exact inferInstance))
 | ((with_reducible apply go_rf1 h); (case hi => omega); (case hx => exact inferInstance); (case hv => rfl))
 | ((with_reducible apply go_rel h); (case hi => omega); (case hv => rfl))
))
    exact no h (by rw [e1, e2, e3, e4, e5]; rfl)
  (repeat (first
 | (simp (disch := omega) only [evA, evB, bAdd_i64, bSub_i64, ptr, Nat.zero_add, Bool.not_true, Bool.not_false, Option.isNone_some, Option.isNone_none, Option.isSome_some, Option.isSome_none, decide_true, decide_false, eq_self, true_and, and_assoc, e2, e3, e4, e5])
 | ((with_reducible apply go_ld1 h))
 | ((with_reducible apply go_ldA h); (rfl))
 | ((with_reducible apply go_ldN h))
 | ((with_reducible apply go_st h); intro _ h)
 | ((with_reducible apply go_stA h); (rfl); (rfl); (first | rfl | simp); intro _ h)
 | ((with_reducible apply go_stN h); (rfl); (first | rfl | simp); intro _ h)
 | ((with_reducible apply go_box h); rfl; intro _ _ h)
 | ((with_reducible apply go_rd h); (rfl))
 | ((with_reducible apply go_rdN h); (rfl))
 | ((with_reducible apply go_rlen h); (rfl))
 | ((with_reducible apply go_lenL h))
 | ((with_reducible apply go_ix h); (omega))
 | ((with_reducible apply go_elN h); (case hi => omega))
 | ((with_reducible apply go_fa h); (omega); (omega))
 | ((with_reducible apply go_f1 h); (case hi => omega); (case hx => exact inferInstance))
 | ((with_reducible apply go_rf1 h); (case hi => omega); (case hx => exact inferInstance); (case hv => rfl))
 | ((with_reducible apply go_rel h); (case hi => omega); (case hv => rfl))
))
  refine go_some (neE _ _ a.e b.e) ?_
  cases e6 : decide (a.e = b.e)
  · (repeat (first
 | (simp (disch := omega) only [evA, evB, bAdd_i64, bSub_i64, ptr, Nat.zero_add, Bool.not_true, Bool.not_false, Option.isNone_some, Option.isNone_none, Option.isSome_some, Option.isSome_none, decide_true, decide_false, eq_self, true_and, and_assoc])
 | ((with_reducible apply go_ld1 h))
 | ((with_reducible apply go_ldA h); (rfl))
 | ((with_reducible apply go_ldN h))
 | ((with_reducible apply go_st h); intro _ h)
 | ((with_reducible apply go_stA h); (rfl); (rfl); (first | rfl | simp); intro _ h)
 | ((with_reducible apply go_stN h); (rfl); (first | rfl | simp); intro _ h)
 | ((with_reducible apply go_box h); rfl; intro _ _ h)
 | ((with_reducible apply go_rd h); (rfl))
 | ((with_reducible apply go_rdN h); (rfl))
 | ((with_reducible apply go_rlen h); (rfl))
 | ((with_reducible apply go_lenL h))
 | ((with_reducible apply go_ix h); (omega))
 | ((with_reducible apply go_elN h); (case hi => omega))
 | ((with_reducible apply go_fa h); (omega); (omega))
 | ((with_reducible apply go_f1 h); (case hi => omega); (case hx => exact inferInstance))
 | ((with_reducible apply go_rf1 h); (case hi => omega); (case hx => exact inferInstance); (case hv => rfl))
 | ((with_reducible apply go_rel h); (case hi => omega); (case hv => rfl))
))
    exact no h (by rw [e1, e2, e3, e4, e5, e6]; rfl)
  rw [e1, e2, e3, e4, e5, e6] at hK
  simp only [Bool.true_and] at hK
  have l1 := (hr _ h.drop.drop).len
  have l2 := (hr' _ h.drop.drop).len
  by_cases g : a.times.length = b.times.length
  · have g' : decide ((a.times.length : Int) = (b.times.length : Int)) = true := by simp; omega
    (repeat (first
 | (simp (disch := omega) only [evA, evB, bAdd_i64, bSub_i64, ptr, Nat.zero_add, Bool.not_true, Bool.not_false, Option.isNone_some, Option.isNone_none, Option.isSome_some, Option.isSome_none, decide_true, decide_false, eq_self, true_and, and_assoc, l1, l2, g'])
 | ((with_reducible apply go_ld1 h))
 | ((with_reducible apply go_ldA h); (rfl))
 | ((with_reducible apply go_ldN h))
 | ((with_reducible apply go_st h); intro _ h)
 | ((with_reducible apply go_stA h); (rfl); (rfl); (first | rfl | simp); intro _ h)
 | ((with_reducible apply go_stN h); (rfl); (first | rfl | simp); intro _ h)
 | ((with_reducible apply go_box h); rfl; intro _ _ h)
 | ((with_reducible apply go_rd h); (rfl))
 | ((with_reducible apply go_rdN h); (rfl))
 | ((with_reducible apply go_rlen h); (rfl))
 | ((with_reducible apply go_lenL h))
 | ((with_reducible apply go_ix h); (omega))
 | ((with_reducible apply go_elN h); (case hi => omega))
 | ((with_reducible apply go_fa h); (omega); (omega))
 | ((with_reducible apply go_f1 h); (case hi => omega); (case hx => exact inferInstance))
 | ((with_reducible apply go_rf1 h); (case hi => omega); (case hx => exact inferInstance); (case hv => rfl))
 | ((with_reducible apply go_rel h); (case hi => omega); (case hv => rfl))
))
    exact fsame_loop hl g hr hr' hK fuel 0 _ (by have : fuel = 4611686018427387904 := rfl; omega) (by omega) rfl h
  · have g' : decide ((a.times.length : Int) = (b.times.length : Int)) = false := by simp; omega
    (repeat (first
 | (simp (disch := omega) only [evA, evB, bAdd_i64, bSub_i64, ptr, Nat.zero_add, Bool.not_true, Bool.not_false, Option.isNone_some, Option.isNone_none, Option.isSome_some, Option.isSome_none, decide_true, decide_false, eq_self, true_and, and_assoc, l1, l2, g'])
 | ((with_reducible apply go_ld1 h))
 | ((with_reducible apply go_ldA h); (rfl))
 | ((with_reducible apply go_ldN h))
 | ((with_reducible apply go_st h); intro _ h)
 | ((with_reducible apply go_stA h); (rfl); (rfl); (first | rfl | simp); intro _ h)
 | ((with_reducible apply go_stN h); (rfl); (first | rfl | simp); intro _ h)
 | ((with_reducible apply go_box h); rfl; intro _ _ h)
 | ((with_reducible apply go_rd h); (rfl))
 | ((with_reducible apply go_rdN h); (rfl))
 | ((with_reducible apply go_rlen h); (rfl))
 | ((with_reducible apply go_lenL h))
 | ((with_reducible apply go_ix h); (omega))
 | ((with_reducible apply go_elN h); (case hi => omega))
 | ((with_reducible apply go_fa h); (omega); (omega))
 | ((with_reducible apply go_f1 h); (case hi => omega); (case hx => exact inferInstance))
 | ((with_reducible apply go_rf1 h); (case hi => omega); (case hx => exact inferInstance); (case hv => rfl))
 | ((with_reducible apply go_rel h); (case hi => omega); (case hv => rfl))
))
    exact no h (by rw [e1, e2, e3, e4, e5, e6, decide_eq_false (fun e => g (by rw [e]))]; rfl)
end
end Go.Proofs.Gong
