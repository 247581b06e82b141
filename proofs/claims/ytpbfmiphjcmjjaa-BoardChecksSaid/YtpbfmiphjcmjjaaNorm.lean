/- A part of the proofs: what stands below it, told in lemmas. No condition. -/
import Derived.Test.YtpbfmiphjcmjjaaTy
set_option linter.all false
namespace Go.Proofs.Gong
open Go Go.Sx Go.Proofs
set_option maxRecDepth 100000
-- 180 gong/utf.long
def T180 : List (Nat × FnT) := []
def F180 (x0 : Value) (w : World) (K : Value → World → Prop) : Prop :=
bindP (bLt x0 (.int .u8 128)) fun v1 =>
ifB v1 (
bindP (cInt .i64 x0) fun v2 =>
K (.tuple #[(.int .i64 1), v2]) w) (
bindP (bShr x0 (.int .u64 5)) fun v3 =>
bindP (bEq Try.prog 5 (.tmp 11) (.const (.int .u8 6)) v3 (.int .u8 6)) fun v4 =>
ifB v4 (
bindP (bBit .and x0 (.int .u8 31)) fun v5 =>
bindP (cInt .i64 v5) fun v6 =>
K (.tuple #[(.int .i64 2), v6]) w) (
bindP (bShr x0 (.int .u64 4)) fun v7 =>
bindP (bEq Try.prog 5 (.tmp 18) (.const (.int .u8 14)) v7 (.int .u8 14)) fun v8 =>
ifB v8 (
bindP (bBit .and x0 (.int .u8 15)) fun v9 =>
bindP (cInt .i64 v9) fun v10 =>
K (.tuple #[(.int .i64 3), v10]) w) (
bindP (bShr x0 (.int .u64 3)) fun v11 =>
bindP (bEq Try.prog 5 (.tmp 25) (.const (.int .u8 30)) v11 (.int .u8 30)) fun v12 =>
ifB v12 (
bindP (bBit .and x0 (.int .u8 7)) fun v13 =>
bindP (cInt .i64 v13) fun v14 =>
K (.tuple #[(.int .i64 4), v14]) w) (
K (.tuple #[(.int .i64 0), (.int .i64 0)]) w))))

def G180 : FnT := fun args w K => on1 (fun x0 => F180 x0 w K) args
theorem c180 {x0 : Value} {w : World} {K : Value → World → Prop} (h : F180 x0 w K) : callP G180 [x0] w K := callP_intro (on1_mk (p := fun x0 => F180 x0 w K) h)
theorem ok180 : OkF Try.prog 180 G180 := by
  refine okF_of (tab_ok (l := T180) trivial) mixed (n := fuel) Try.func180 Try.call180 fun args w K h => ?_
  obtain ⟨x0, rfl, hh⟩ := of_on1 h
  exact fnD_list (c := bodyOf Try.f180) (by kernel_rfl) (by kernel_rfl) (Eq.mp (by kernel_rfl) hh)

-- 181 gong/utf.is
def T181 : List (Nat × FnT) := []
def F181 (x0 : Value) (w : World) (K : Value → World → Prop) : Prop :=
bindP (bGe x0 (.int .i64 0)) fun v1 =>
stepM (gd true v1) x0 fun v2 =>
Sx.stepG (gd true v1) (bLe v2 (.int .i64 1114111)) fun v3 =>
bindP (pPick v1 v3 (.bool false)) fun v4 =>
stepM (gd true v4) x0 fun v5 =>
Sx.stepG (gd true v4) (bLt v5 (.int .i64 55296)) fun v6 =>
stepM (gd true v4) v6 fun v7 =>
stepM (gd false v7) x0 fun v8 =>
Sx.stepG (gd false v7) (bGt v8 (.int .i64 57343)) fun v9 =>
Sx.stepG (gd true v4) (pPick v7 (.bool true) v9) fun v10 =>
bindP (pPick v4 v10 (.bool false)) fun v11 =>
K v11 w

def G181 : FnT := fun args w K => on1 (fun x0 => F181 x0 w K) args
theorem c181 {x0 : Value} {w : World} {K : Value → World → Prop} (h : F181 x0 w K) : callP G181 [x0] w K := callP_intro (on1_mk (p := fun x0 => F181 x0 w K) h)
theorem ok181 : OkF Try.prog 181 G181 := by
  refine okF_of (tab_ok (l := T181) trivial) mixed (n := fuel) Try.func181 Try.call181 fun args w K h => ?_
  obtain ⟨x0, rfl, hh⟩ := of_on1 h
  exact fnD_list (c := bodyOf Try.f181) (by kernel_rfl) (by kernel_rfl) (Eq.mp (by kernel_rfl) hh)

-- 182 gong/utf.least
def T182 : List (Nat × FnT) := []
def F182 (x0 : Value) (w : World) (K : Value → World → Prop) : Prop :=
bindP (bEq Try.prog 3 (.tmp 3) (.const (.int .i64 2)) x0 (.int .i64 2)) fun v1 =>
ifB v1 (
K (.int .i64 128) w) (
bindP (bEq Try.prog 3 (.tmp 3) (.const (.int .i64 3)) x0 (.int .i64 3)) fun v2 =>
ifB v2 (
K (.int .i64 2048) w) (
bindP (bEq Try.prog 3 (.tmp 3) (.const (.int .i64 4)) x0 (.int .i64 4)) fun v3 =>
ifB v3 (
K (.int .i64 65536) w) (
K (.int .i64 0) w)))

def G182 : FnT := fun args w K => on1 (fun x0 => F182 x0 w K) args
theorem c182 {x0 : Value} {w : World} {K : Value → World → Prop} (h : F182 x0 w K) : callP G182 [x0] w K := callP_intro (on1_mk (p := fun x0 => F182 x0 w K) h)
theorem ok182 : OkF Try.prog 182 G182 := by
  refine okF_of (tab_ok (l := T182) trivial) mixed (n := fuel) Try.func182 Try.call182 fun args w K h => ?_
  obtain ⟨x0, rfl, hh⟩ := of_on1 h
  exact fnD_list (c := bodyOf Try.f182) (by kernel_rfl) (by kernel_rfl) (Eq.mp (by kernel_rfl) hh)

-- 161 gong/utf.First
def T161 : List (Nat × FnT) := [(180, G180), (181, G181), (182, G182)]
def F161_3b (s2 : Value) (s3 : Value) (w : World) (K : Value → World → Prop) : Prop :=
callP G181 [s2] w fun v2 w1 =>
bindP (uNot v2) fun v3 =>
stepM (gd false v3) s2 fun v4 =>
stepM (gd false v3) s3 fun v5 =>
stepE (gd false v3) (fun k => callP G182 [v5] w1 k) w1 fun v7 w6 =>
Sx.stepG (gd false v3) (bLt v4 v7) fun v8 =>
bindP (pPick v3 (.bool true) v8) fun v9 =>
ifB v9 (
K (.tuple #[(.int .i64 0), (.int .i64 0), (.int .i64 40)]) w6) (
K (.tuple #[s2, s3, (.int .i64 0)]) w6)

def F161_3 (s2 : Value) (s3 : Value) (w : World) (K : Value → World → Prop) : Prop := F161_3b s2 s3 w K

theorem ok161_3 {K : Value → World → Prop} {kn kr : Env → World → Prop} {ke : Nat → Env → World → Prop}
    (hn : ∀ e w, (fun e w => K (.tuple #[(e 2), (e 3), (e 4)]) w) e w → kn e w) (hr : ∀ e w, endD Try.prog [.tmp 2, .tmp 3, .tmp 4] K e w → kr e w) (he : ∀ i e w, noE i e w → ke i e w) :
    ∀ e w, F161_3 (e 2) (e 3) w K → denL Try.prog (tabOf T161) 51 fuel ((flat (bodyOf Try.f161)).drop 8) e w kn kr ke := by
  intro e w h
  unfold F161_3 at h
  have e1 : ∀ (_ : Unit), F161_3b (e 2) (e 3) w K = denL Try.prog (tabOf T161) 51 fuel ((flat (bodyOf Try.f161)).drop 8) e w (fun e w => K (.tuple #[(e 2), (e 3), (e 4)]) w) (endD Try.prog [.tmp 2, .tmp 3, .tmp 4] K) noE := by intro _; kernel_rfl
  exact seg_end (Eq.mp (e1 ()) h) hn hr he

def F161_2b (s0 : Value) (s2 : Value) (s3 : Value) (s5 : Value) (w : World) (K : Value → World → Prop) (Y0 : Value → Value → Value → Value → World → Prop) (Y1 : Value → Value → World → Prop) : Prop :=
bindP (bLt s5 s3) fun v10 =>
ifB v10 (
bindP (pIndexS s0 s5) fun v11 =>
bindP (bShr v11 (.int .u64 6)) fun v12 =>
bindP (bNe Try.prog 5 (.tmp 30) (.const (.int .u8 2)) v12 (.int .u8 2)) fun v13 =>
ifB v13 (
K (.tuple #[(.int .i64 0), (.int .i64 0), (.int .i64 40)]) w) (
bindP (bShl s2 (.int .u64 6)) fun v14 =>
bindP (pIndexS s0 s5) fun v15 =>
bindP (bBit .and v15 (.int .u8 63)) fun v16 =>
bindP (cInt .i64 v16) fun v17 =>
bindP (bBit .or v14 v17) fun v18 =>
bindP (bAdd s5 (.int .i64 1)) fun v19 =>
Y0 s0 v18 s3 v19 w)) (
Y1 s2 s3 w)

def F161_2L : Nat → Value → Value → Value → Value → World → (Value → World → Prop) → Prop
  | 0, _, _, _, _, _, _ => False
  | n + 1, s0, s2, s3, s5, w, K => F161_2b s0 s2 s3 s5 w K (fun a0 a2 a3 a5 w => F161_2L n a0 a2 a3 a5 w K) (fun a2 a3 w => F161_3 a2 a3 w K)

def F161_2 (s0 : Value) (s2 : Value) (s3 : Value) (s5 : Value) (w : World) (K : Value → World → Prop) : Prop := F161_2L fuel s0 s2 s3 s5 w K

theorem ok161_2 {K : Value → World → Prop} {kn kr : Env → World → Prop} {ke : Nat → Env → World → Prop}
    (hn : ∀ e w, (fun e w => K (.tuple #[(e 2), (e 3), (e 4)]) w) e w → kn e w) (hr : ∀ e w, endD Try.prog [.tmp 2, .tmp 3, .tmp 4] K e w → kr e w) (he : ∀ i e w, noE i e w → ke i e w) :
    ∀ e w, F161_2 (e 0) (e 2) (e 3) (e 5) w K → denL Try.prog (tabOf T161) 51 fuel ((flat (bodyOf Try.f161)).drop 7) e w kn kr ke := by
  intro e w h
  unfold F161_2 at h
  refine seg_loop (id := 0) (body := (loopB (blkB (nthC (flat (bodyOf Try.f161)) 7)))) (l2 := (flat (bodyOf Try.f161)).drop 8) (by kernel_rfl) ?_
  refine loop_ok (FL := fun m e w => F161_2L m (e 0) (e 2) (e 3) (e 5) w K) (fr := endD Try.prog [.tmp 2, .tmp 3, .tmp 4] K) (fe := (blkK 0 (fun e w => F161_3 (e 2) (e 3) w K) noE)) (fun _ _ h => h) ?_ hr (blkK_mono (fun e w h => ok161_3 hn hr he e w h) he) fuel e w h
  intro m e w h
  have h : F161_2L (m + 1) (e 0) (e 2) (e 3) (e 5) w K := h
  rw [F161_2L] at h
  have e1 : ∀ (Y0 : Value → Value → Value → Value → World → Prop) (Y1 : Value → Value → World → Prop), F161_2b (e 0) (e 2) (e 3) (e 5) w K Y0 Y1 = denL Try.prog (tabOf T161) 51 fuel (flat (loopB (blkB (nthC (flat (bodyOf Try.f161)) 7)))) e w (fun e w => Y0 (e 0) (e 2) (e 3) (e 5) w) (endD Try.prog [.tmp 2, .tmp 3, .tmp 4] K) (blkK 0 (fun e w => Y1 (e 2) (e 3) w) noE) := by intro Y0 Y1; kernel_rfl
  exact Eq.mp (e1 (fun a0 a2 a3 a5 w => F161_2L m a0 a2 a3 a5 w K) (fun a2 a3 w => F161_3 a2 a3 w K)) h

def F161_1b (s0 : Value) (w : World) (K : Value → World → Prop) (Y0 : Value → Value → Value → Value → World → Prop) : Prop :=
bindP (bEq Try.prog 9 (.tmp 6) (.const (.string ⟨#[]⟩)) s0 (.string ⟨#[]⟩)) fun v20 =>
ifB v20 (
K (.tuple #[(.int .i64 0), (.int .i64 0), (.int .i64 40)]) w) (
bindP (pIndexS s0 (.int .i64 0)) fun v21 =>
callP G180 [v21] w fun v23 w22 =>
bindP (pTuple v23 0) fun v24 =>
bindP (pTuple v23 1) fun v25 =>
bindP (bEq Try.prog 3 (.tmp 14) (.const (.int .i64 0)) v24 (.int .i64 0)) fun v26 =>
stepM (gd false v26) v24 fun v27 =>
stepM (gd false v26) s0 fun v28 =>
Sx.stepG (gd false v26) (lenS v28) fun v29 =>
Sx.stepG (gd false v26) (bGt v27 v29) fun v30 =>
bindP (pPick v26 (.bool true) v30) fun v31 =>
ifB v31 (
K (.tuple #[(.int .i64 0), (.int .i64 0), (.int .i64 40)]) w22) (
Y0 s0 v25 v24 (.int .i64 1) w22))

def F161_1 (s0 : Value) (w : World) (K : Value → World → Prop) : Prop := F161_1b s0 w K (fun a0 a2 a3 a5 w => F161_2 a0 a2 a3 a5 w K)

theorem ok161_1 {K : Value → World → Prop} {kn kr : Env → World → Prop} {ke : Nat → Env → World → Prop}
    (hn : ∀ e w, (fun e w => K (.tuple #[(e 2), (e 3), (e 4)]) w) e w → kn e w) (hr : ∀ e w, endD Try.prog [.tmp 2, .tmp 3, .tmp 4] K e w → kr e w) (he : ∀ i e w, noE i e w → ke i e w) :
    ∀ e w, F161_1 (e 0) w K → denL Try.prog (tabOf T161) 51 fuel ((flat (bodyOf Try.f161)).drop 0) e w kn kr ke := by
  intro e w h
  unfold F161_1 at h
  have e1 : ∀ (Y0 : Value → Value → Value → Value → World → Prop), F161_1b (e 0) w K Y0 = denL Try.prog (tabOf T161) 51 fuel (((flat (bodyOf Try.f161)).drop 0).take 7) e w (fun e w => Y0 (e 0) (e 2) (e 3) (e 5) w) (endD Try.prog [.tmp 2, .tmp 3, .tmp 4] K) noE := by intro Y0; kernel_rfl
  exact seg 7 (Eq.mp (e1 (fun a0 a2 a3 a5 w => F161_2 a0 a2 a3 a5 w K)) h) (fun e w h => ok161_2 hn hr he e w h) hr he

def F161 (x0 : Value) (w : World) (K : Value → World → Prop) : Prop := F161_1 x0 w K

def G161 : FnT := fun args w K => on1 (fun x0 => F161 x0 w K) args
theorem c161 {x0 : Value} {w : World} {K : Value → World → Prop} (h : F161 x0 w K) : callP G161 [x0] w K := callP_intro (on1_mk (p := fun x0 => F161 x0 w K) h)
theorem ok161 : OkF Try.prog 161 G161 := by
  refine okF_of (tab_ok (l := T161) ⟨ok180, ok181, ok182, trivial⟩) mixed (n := fuel) Try.func161 Try.call161 fun args w K h => ?_
  obtain ⟨x0, rfl, hh⟩ := of_on1 h
  unfold F161 at hh
  exact fnD_list (c := bodyOf Try.f161) (by kernel_rfl) (by kernel_rfl) (ok161_1 (fun _ _ h => h) (fun _ _ h => h) (fun _ _ _ h => h) (initE [x0]) w hh)

-- 135 gong/utf.Chars
def T135 : List (Nat × FnT) := [(161, G161)]
def F135_3b (s4 : Value) (w : World) (K : Value → World → Prop) : Prop :=
K (.tuple #[s4, (.int .i64 0)]) w

def F135_3 (s4 : Value) (w : World) (K : Value → World → Prop) : Prop := F135_3b s4 w K

theorem ok135_3 {K : Value → World → Prop} {kn kr : Env → World → Prop} {ke : Nat → Env → World → Prop}
    (hn : ∀ e w, (fun e w => K (.tuple #[(e 2), (e 3)]) w) e w → kn e w) (hr : ∀ e w, endD Try.prog [.tmp 2, .tmp 3] K e w → kr e w) (he : ∀ i e w, noE i e w → ke i e w) :
    ∀ e w, F135_3 (e 4) w K → denL Try.prog (tabOf T135) 27 fuel ((flat (bodyOf Try.f135)).drop 3) e w kn kr ke := by
  intro e w h
  unfold F135_3 at h
  have e1 : ∀ (_ : Unit), F135_3b (e 4) w K = denL Try.prog (tabOf T135) 27 fuel ((flat (bodyOf Try.f135)).drop 3) e w (fun e w => K (.tuple #[(e 2), (e 3)]) w) (endD Try.prog [.tmp 2, .tmp 3] K) noE := by intro _; kernel_rfl
  exact seg_end (Eq.mp (e1 ()) h) hn hr he

def F135_2b (s0 : Value) (s4 : Value) (w : World) (K : Value → World → Prop) (Y0 : Value → Value → World → Prop) (Y1 : Value → World → Prop) : Prop :=
bindP (bNe Try.prog 9 (.tmp 8) (.const (.string ⟨#[]⟩)) s0 (.string ⟨#[]⟩)) fun v1 =>
ifB v1 (
callP G161 [s0] w fun v3 w2 =>
bindP (pTuple v3 0) fun v4 =>
bindP (pTuple v3 1) fun v5 =>
bindP (pTuple v3 2) fun v6 =>
bindP (bNe Try.prog 24 (.tmp 16) (.const (.int .i64 0)) v6 (.int .i64 0)) fun v7 =>
ifB v7 (
K (.tuple #[(.slice none 0 0), v6]) w2) (
eBuildSl Try.prog 22 1 [(0, v4)] w2 fun v9 w8 =>
eAppend Try.prog 22 22 s4 v9 w8 fun v11 w10 =>
bindP (pSliceS s0 (some v5) none) fun v12 =>
Y0 v12 v11 w10)) (
Y1 s4 w)

def F135_2L : Nat → Value → Value → World → (Value → World → Prop) → Prop
  | 0, _, _, _, _ => False
  | n + 1, s0, s4, w, K => F135_2b s0 s4 w K (fun a0 a4 w => F135_2L n a0 a4 w K) (fun a4 w => F135_3 a4 w K)

def F135_2 (s0 : Value) (s4 : Value) (w : World) (K : Value → World → Prop) : Prop := F135_2L fuel s0 s4 w K

theorem ok135_2 {K : Value → World → Prop} {kn kr : Env → World → Prop} {ke : Nat → Env → World → Prop}
    (hn : ∀ e w, (fun e w => K (.tuple #[(e 2), (e 3)]) w) e w → kn e w) (hr : ∀ e w, endD Try.prog [.tmp 2, .tmp 3] K e w → kr e w) (he : ∀ i e w, noE i e w → ke i e w) :
    ∀ e w, F135_2 (e 0) (e 4) w K → denL Try.prog (tabOf T135) 27 fuel ((flat (bodyOf Try.f135)).drop 2) e w kn kr ke := by
  intro e w h
  unfold F135_2 at h
  refine seg_loop (id := 0) (body := (loopB (blkB (nthC (flat (bodyOf Try.f135)) 2)))) (l2 := (flat (bodyOf Try.f135)).drop 3) (by kernel_rfl) ?_
  refine loop_ok (FL := fun m e w => F135_2L m (e 0) (e 4) w K) (fr := endD Try.prog [.tmp 2, .tmp 3] K) (fe := (blkK 0 (fun e w => F135_3 (e 4) w K) noE)) (fun _ _ h => h) ?_ hr (blkK_mono (fun e w h => ok135_3 hn hr he e w h) he) fuel e w h
  intro m e w h
  have h : F135_2L (m + 1) (e 0) (e 4) w K := h
  rw [F135_2L] at h
  have e1 : ∀ (Y0 : Value → Value → World → Prop) (Y1 : Value → World → Prop), F135_2b (e 0) (e 4) w K Y0 Y1 = denL Try.prog (tabOf T135) 27 fuel (flat (loopB (blkB (nthC (flat (bodyOf Try.f135)) 2)))) e w (fun e w => Y0 (e 0) (e 4) w) (endD Try.prog [.tmp 2, .tmp 3] K) (blkK 0 (fun e w => Y1 (e 4) w) noE) := by intro Y0 Y1; kernel_rfl
  exact Eq.mp (e1 (fun a0 a4 w => F135_2L m a0 a4 w K) (fun a4 w => F135_3 a4 w K)) h

def F135_1b (s0 : Value) (w : World) (_K : Value → World → Prop) (Y0 : Value → Value → World → Prop) : Prop :=
Y0 s0 (.slice none 0 0) w

def F135_1 (s0 : Value) (w : World) (K : Value → World → Prop) : Prop := F135_1b s0 w K (fun a0 a4 w => F135_2 a0 a4 w K)

theorem ok135_1 {K : Value → World → Prop} {kn kr : Env → World → Prop} {ke : Nat → Env → World → Prop}
    (hn : ∀ e w, (fun e w => K (.tuple #[(e 2), (e 3)]) w) e w → kn e w) (hr : ∀ e w, endD Try.prog [.tmp 2, .tmp 3] K e w → kr e w) (he : ∀ i e w, noE i e w → ke i e w) :
    ∀ e w, F135_1 (e 0) w K → denL Try.prog (tabOf T135) 27 fuel ((flat (bodyOf Try.f135)).drop 0) e w kn kr ke := by
  intro e w h
  unfold F135_1 at h
  have e1 : ∀ (Y0 : Value → Value → World → Prop), F135_1b (e 0) w K Y0 = denL Try.prog (tabOf T135) 27 fuel (((flat (bodyOf Try.f135)).drop 0).take 2) e w (fun e w => Y0 (e 0) (e 4) w) (endD Try.prog [.tmp 2, .tmp 3] K) noE := by intro Y0; kernel_rfl
  exact seg 2 (Eq.mp (e1 (fun a0 a4 w => F135_2 a0 a4 w K)) h) (fun e w h => ok135_2 hn hr he e w h) hr he

def F135 (x0 : Value) (w : World) (K : Value → World → Prop) : Prop := F135_1 x0 w K

def G135 : FnT := fun args w K => on1 (fun x0 => F135 x0 w K) args
theorem c135 {x0 : Value} {w : World} {K : Value → World → Prop} (h : F135 x0 w K) : callP G135 [x0] w K := callP_intro (on1_mk (p := fun x0 => F135 x0 w K) h)
theorem ok135 : OkF Try.prog 135 G135 := by
  refine okF_of (tab_ok (l := T135) ⟨ok161, trivial⟩) mixed (n := fuel) Try.func135 Try.call135 fun args w K h => ?_
  obtain ⟨x0, rfl, hh⟩ := of_on1 h
  unfold F135 at hh
  exact fnD_list (c := bodyOf Try.f135) (by kernel_rfl) (by kernel_rfl) (ok135_1 (fun _ _ h => h) (fun _ _ h => h) (fun _ _ _ h => h) (initE [x0]) w hh)

-- 137 gong/norm.plain$1
def T137 : List (Nat × FnT) := []
def F137 (x0 : Value) (w : World) (K : Value → World → Prop) : Prop :=
bindP (bLt x0 (.int .i64 32)) fun v1 =>
stepM (gd false v1) x0 fun v2 =>
Sx.stepG (gd false v1) (bEq Try.prog 3 (.tmp 6) (.const (.int .i64 127)) v2 (.int .i64 127)) fun v3 =>
bindP (pPick v1 (.bool true) v3) fun v4 =>
K v4 w

def G137 : FnT := fun args w K => on1 (fun x0 => F137 x0 w K) args
theorem c137 {x0 : Value} {w : World} {K : Value → World → Prop} (h : F137 x0 w K) : callP G137 [x0] w K := callP_intro (on1_mk (p := fun x0 => F137 x0 w K) h)
theorem ok137 : OkF Try.prog 137 G137 := by
  refine okF_of (tab_ok (l := T137) trivial) mixed (n := fuel) Try.func137 Try.call137 fun args w K h => ?_
  obtain ⟨x0, rfl, hh⟩ := of_on1 h
  exact fnD_list (c := bodyOf Try.f137) (by kernel_rfl) (by kernel_rfl) (Eq.mp (by kernel_rfl) hh)

-- 162 slices.IndexFunc[[]int,int]
def T162 : List (Nat × FnT) := [(137, G137)]
def F162_3b (w : World) (K : Value → World → Prop) : Prop :=
K (.int .i64 (-1)) w

def F162_3 (w : World) (K : Value → World → Prop) : Prop := F162_3b w K

theorem ok162_3 {K : Value → World → Prop} {kn kr : Env → World → Prop} {ke : Nat → Env → World → Prop}
    (hn : ∀ e w, (fun e w => K (e 4) w) e w → kn e w) (hr : ∀ e w, endD Try.prog [.tmp 4] K e w → kr e w) (he : ∀ i e w, noE i e w → ke i e w) :
    ∀ e w, F162_3 w K → denL Try.prog (tabOf T162) 19 fuel ((flat (bodyOf Try.f162)).drop 3) e w kn kr ke := by
  intro e w h
  unfold F162_3 at h
  have e1 : ∀ (_ : Unit), F162_3b w K = denL Try.prog (tabOf T162) 19 fuel ((flat (bodyOf Try.f162)).drop 3) e w (fun e w => K (e 4) w) (endD Try.prog [.tmp 4] K) noE := by intro _; kernel_rfl
  exact seg_end (Eq.mp (e1 ()) h) hn hr he

def F162_2b (s0 : Value) (s1 : Value) (s7 : Value) (s8 : Value) (w : World) (K : Value → World → Prop) (Y0 : Value → Value → Value → Value → World → Prop) (Y1 : World → Prop) : Prop :=
bindP (bLt s8 s7) fun v1 =>
ifB v1 (
bindP (pIndexL 1 s0 s8) fun v2 =>
bindP (ld1 v2 w) fun v3 =>
eCallV (tabOf T162) s1 [v3] w fun v5 w4 =>
ifB v5 (
K s8 w4) (
bindP (bAdd s8 (.int .i64 1)) fun v6 =>
Y0 s0 s1 s7 v6 w4)) (
Y1 w)

def F162_2L : Nat → Value → Value → Value → Value → World → (Value → World → Prop) → Prop
  | 0, _, _, _, _, _, _ => False
  | n + 1, s0, s1, s7, s8, w, K => F162_2b s0 s1 s7 s8 w K (fun a0 a1 a7 a8 w => F162_2L n a0 a1 a7 a8 w K) (fun w => F162_3 w K)

def F162_2 (s0 : Value) (s1 : Value) (s7 : Value) (s8 : Value) (w : World) (K : Value → World → Prop) : Prop := F162_2L fuel s0 s1 s7 s8 w K

theorem ok162_2 {K : Value → World → Prop} {kn kr : Env → World → Prop} {ke : Nat → Env → World → Prop}
    (hn : ∀ e w, (fun e w => K (e 4) w) e w → kn e w) (hr : ∀ e w, endD Try.prog [.tmp 4] K e w → kr e w) (he : ∀ i e w, noE i e w → ke i e w) :
    ∀ e w, F162_2 (e 0) (e 1) (e 7) (e 8) w K → denL Try.prog (tabOf T162) 19 fuel ((flat (bodyOf Try.f162)).drop 2) e w kn kr ke := by
  intro e w h
  unfold F162_2 at h
  refine seg_loop (id := 0) (body := (loopB (blkB (nthC (flat (bodyOf Try.f162)) 2)))) (l2 := (flat (bodyOf Try.f162)).drop 3) (by kernel_rfl) ?_
  refine loop_ok (FL := fun m e w => F162_2L m (e 0) (e 1) (e 7) (e 8) w K) (fr := endD Try.prog [.tmp 4] K) (fe := (blkK 0 (fun e w => F162_3 w K) noE)) (fun _ _ h => h) ?_ hr (blkK_mono (fun e w h => ok162_3 hn hr he e w h) he) fuel e w h
  intro m e w h
  have h : F162_2L (m + 1) (e 0) (e 1) (e 7) (e 8) w K := h
  rw [F162_2L] at h
  have e1 : ∀ (Y0 : Value → Value → Value → Value → World → Prop) (Y1 : World → Prop), F162_2b (e 0) (e 1) (e 7) (e 8) w K Y0 Y1 = denL Try.prog (tabOf T162) 19 fuel (flat (loopB (blkB (nthC (flat (bodyOf Try.f162)) 2)))) e w (fun e w => Y0 (e 0) (e 1) (e 7) (e 8) w) (endD Try.prog [.tmp 4] K) (blkK 0 (fun e w => Y1 w) noE) := by intro Y0 Y1; kernel_rfl
  exact Eq.mp (e1 (fun a0 a1 a7 a8 w => F162_2L m a0 a1 a7 a8 w K) (fun w => F162_3 w K)) h

def F162_1b (s0 : Value) (s1 : Value) (w : World) (_K : Value → World → Prop) (Y0 : Value → Value → Value → Value → World → Prop) : Prop :=
bindP (lenL s0) fun v7 =>
Y0 s0 s1 v7 (.int .i64 0) w

def F162_1 (s0 : Value) (s1 : Value) (w : World) (K : Value → World → Prop) : Prop := F162_1b s0 s1 w K (fun a0 a1 a7 a8 w => F162_2 a0 a1 a7 a8 w K)

theorem ok162_1 {K : Value → World → Prop} {kn kr : Env → World → Prop} {ke : Nat → Env → World → Prop}
    (hn : ∀ e w, (fun e w => K (e 4) w) e w → kn e w) (hr : ∀ e w, endD Try.prog [.tmp 4] K e w → kr e w) (he : ∀ i e w, noE i e w → ke i e w) :
    ∀ e w, F162_1 (e 0) (e 1) w K → denL Try.prog (tabOf T162) 19 fuel ((flat (bodyOf Try.f162)).drop 0) e w kn kr ke := by
  intro e w h
  unfold F162_1 at h
  have e1 : ∀ (Y0 : Value → Value → Value → Value → World → Prop), F162_1b (e 0) (e 1) w K Y0 = denL Try.prog (tabOf T162) 19 fuel (((flat (bodyOf Try.f162)).drop 0).take 2) e w (fun e w => Y0 (e 0) (e 1) (e 7) (e 8) w) (endD Try.prog [.tmp 4] K) noE := by intro Y0; kernel_rfl
  exact seg 2 (Eq.mp (e1 (fun a0 a1 a7 a8 w => F162_2 a0 a1 a7 a8 w K)) h) (fun e w h => ok162_2 hn hr he e w h) hr he

def F162 (x0 : Value) (x1 : Value) (w : World) (K : Value → World → Prop) : Prop := F162_1 x0 x1 w K

def G162 : FnT := fun args w K => on2 (fun x0 x1 => F162 x0 x1 w K) args
theorem c162 {x0 x1 : Value} {w : World} {K : Value → World → Prop} (h : F162 x0 x1 w K) : callP G162 [x0, x1] w K := callP_intro (on2_mk (p := fun x0 x1 => F162 x0 x1 w K) h)
theorem ok162 : OkF Try.prog 162 G162 := by
  refine okF_of (tab_ok (l := T162) ⟨ok137, trivial⟩) mixed (n := fuel) Try.func162 Try.call162 fun args w K h => ?_
  obtain ⟨x0, x1, rfl, hh⟩ := of_on2 h
  unfold F162 at hh
  exact fnD_list (c := bodyOf Try.f162) (by kernel_rfl) (by kernel_rfl) (ok162_1 (fun _ _ h => h) (fun _ _ h => h) (fun _ _ _ h => h) (initE [x0, x1]) w hh)

-- 136 slices.ContainsFunc[[]int,int]
def T136 : List (Nat × FnT) := [(162, G162)]
def F136 (x0 : Value) (x1 : Value) (w : World) (K : Value → World → Prop) : Prop :=
callP G162 [x0, x1] w fun v2 w1 =>
bindP (bGe v2 (.int .i64 0)) fun v3 =>
K v3 w1

def G136 : FnT := fun args w K => on2 (fun x0 x1 => F136 x0 x1 w K) args
theorem c136 {x0 x1 : Value} {w : World} {K : Value → World → Prop} (h : F136 x0 x1 w K) : callP G136 [x0, x1] w K := callP_intro (on2_mk (p := fun x0 x1 => F136 x0 x1 w K) h)
theorem ok136 : OkF Try.prog 136 G136 := by
  refine okF_of (tab_ok (l := T136) ⟨ok162, trivial⟩) mixed (n := fuel) Try.func136 Try.call136 fun args w K h => ?_
  obtain ⟨x0, x1, rfl, hh⟩ := of_on2 h
  exact fnD_list (c := bodyOf Try.f136) (by kernel_rfl) (by kernel_rfl) (Eq.mp (by kernel_rfl) hh)

-- 111 gong/norm.plain
def T111 : List (Nat × FnT) := [(135, G135), (136, G136)]
def F111 (x0 : Value) (x1 : Value) (w : World) (K : Value → World → Prop) : Prop :=
callP G135 [x0] w fun v2 w1 =>
bindP (pTuple v2 0) fun v3 =>
bindP (pTuple v2 1) fun v4 =>
callP G136 [v3, (.func (.func 137) #[] #[])] w1 fun v6 w5 =>
bindP (bEq Try.prog 24 (.tmp 15) (.const (.int .i64 0)) v4 (.int .i64 0)) fun v7 =>
stepM (gd true v7) v6 fun v8 =>
Sx.stepG (gd true v7) (uNot v8) fun v9 =>
bindP (pPick v7 v9 (.bool false)) fun v10 =>
stepM (gd true v10) x0 fun v11 =>
Sx.stepG (gd true v10) (lenS v11) fun v12 =>
stepM (gd true v10) x1 fun v13 =>
Sx.stepG (gd true v10) (bLe v12 v13) fun v14 =>
bindP (pPick v10 v14 (.bool false)) fun v15 =>
K v15 w5

def G111 : FnT := fun args w K => on2 (fun x0 x1 => F111 x0 x1 w K) args
theorem c111 {x0 x1 : Value} {w : World} {K : Value → World → Prop} (h : F111 x0 x1 w K) : callP G111 [x0, x1] w K := callP_intro (on2_mk (p := fun x0 x1 => F111 x0 x1 w K) h)
theorem ok111 : OkF Try.prog 111 G111 := by
  refine okF_of (tab_ok (l := T111) ⟨ok135, ok136, trivial⟩) mixed (n := fuel) Try.func111 Try.call111 fun args w K h => ?_
  obtain ⟨x0, x1, rfl, hh⟩ := of_on2 h
  exact fnD_list (c := bodyOf Try.f111) (by kernel_rfl) (by kernel_rfl) (Eq.mp (by kernel_rfl) hh)

-- 61 gong/norm.Check
def T61 : List (Nat × FnT) := [(111, G111)]
def F61 (x0 : Value) (w : World) (K : Value → World → Prop) : Prop :=
eBox 31 x0 w fun v2 w1 =>
bindP (pFieldAddr 0 v2) fun v3 =>
bindP (ld1 v3 w1) fun v4 =>
bindP (bNe Try.prog 9 (.tmp 5) (.const (.string ⟨#[]⟩)) v4 (.string ⟨#[]⟩)) fun v5 =>
Sx.stepG (gd true v5) (pFieldAddr 1 v2) fun v6 =>
Sx.stepG (gd true v5) (ld1 v6 w1) fun v7 =>
Sx.stepG (gd true v5) (bNe Try.prog 9 (.tmp 9) (.const (.string ⟨#[]⟩)) v7 (.string ⟨#[]⟩)) fun v8 =>
bindP (pPick v5 v8 (.bool false)) fun v9 =>
Sx.stepG (gd true v9) (pFieldAddr 0 v2) fun v10 =>
Sx.stepG (gd true v9) (ld1 v10 w1) fun v11 =>
stepE (gd true v9) (fun k => callP G111 [v11, (.int .i64 64)] w1 k) w1 fun v13 w12 =>
bindP (pPick v9 v13 (.bool false)) fun v14 =>
Sx.stepG (gd true v14) (pFieldAddr 1 v2) fun v15 =>
Sx.stepG (gd true v14) (ld1 v15 w12) fun v16 =>
stepE (gd true v14) (fun k => callP G111 [v16, (.int .i64 64)] w12 k) w12 fun v18 w17 =>
bindP (pPick v14 v18 (.bool false)) fun v19 =>
bindP (uNot v19) fun v20 =>
Sx.stepG (gd false v20) (pFieldAddr 2 v2) fun v21 =>
Sx.stepG (gd false v20) (ld1 v21 w17) fun v22 =>
stepE (gd false v20) (fun k => callP G111 [v22, (.int .i64 128)] w17 k) w17 fun v24 w23 =>
Sx.stepG (gd false v20) (uNot v24) fun v25 =>
bindP (pPick v20 (.bool true) v25) fun v26 =>
Sx.stepG (gd false v26) (pFieldAddr 4 v2) fun v27 =>
Sx.stepG (gd false v26) (ld1 v27 w23) fun v28 =>
stepE (gd false v26) (fun k => callP G111 [v28, (.int .i64 1024)] w23 k) w23 fun v30 w29 =>
Sx.stepG (gd false v26) (uNot v30) fun v31 =>
bindP (pPick v26 (.bool true) v31) fun v32 =>
Sx.stepG (gd false v32) (pFieldAddr 3 v2) fun v33 =>
Sx.stepG (gd false v32) (ld1 v33 w29) fun v34 =>
Sx.stepG (gd false v32) (bLt v34 (.int .i64 0)) fun v35 =>
bindP (pPick v32 (.bool true) v35) fun v36 =>
Sx.stepG (gd false v36) (pFieldAddr 3 v2) fun v37 =>
Sx.stepG (gd false v36) (ld1 v37 w29) fun v38 =>
Sx.stepG (gd false v36) (bGt v38 (.int .i64 5)) fun v39 =>
bindP (pPick v36 (.bool true) v39) fun v40 =>
ifB v40 (
K (.int .i64 180) w29) (
K (.int .i64 0) w29)

def G61 : FnT := fun args w K => on1 (fun x0 => F61 x0 w K) args
theorem c61 {x0 : Value} {w : World} {K : Value → World → Prop} (h : F61 x0 w K) : callP G61 [x0] w K := callP_intro (on1_mk (p := fun x0 => F61 x0 w K) h)
theorem ok61 : OkF Try.prog 61 G61 := by
  refine okF_of (tab_ok (l := T61) ⟨ok111, trivial⟩) mixed (n := fuel) Try.func61 Try.call61 fun args w K h => ?_
  obtain ⟨x0, rfl, hh⟩ := of_on1 h
  exact fnD_list (c := bodyOf Try.f61) (by kernel_rfl) (by kernel_rfl) (Eq.mp (by kernel_rfl) hh)

-- 183 gong/gongref04.guess
def T183 : List (Nat × FnT) := []
def F183_4b (s5 : Value) (w : World) (K : Value → World → Prop) : Prop :=
K s5 w

def F183_4 (s5 : Value) (w : World) (K : Value → World → Prop) : Prop := F183_4b s5 w K

theorem ok183_4 {K : Value → World → Prop} {kn kr : Env → World → Prop} {ke : Nat → Env → World → Prop}
    (hn : ∀ e w, (fun e w => K (e 4) w) e w → kn e w) (hr : ∀ e w, endD Try.prog [.tmp 4] K e w → kr e w) (he : ∀ i e w, noE i e w → ke i e w) :
    ∀ e w, F183_4 (e 5) w K → denL Try.prog (tabOf T183) 38 fuel ((flat (bodyOf Try.f183)).drop 6) e w kn kr ke := by
  intro e w h
  unfold F183_4 at h
  have e1 : ∀ (_ : Unit), F183_4b (e 5) w K = denL Try.prog (tabOf T183) 38 fuel ((flat (bodyOf Try.f183)).drop 6) e w (fun e w => K (e 4) w) (endD Try.prog [.tmp 4] K) noE := by intro _; kernel_rfl
  exact seg_end (Eq.mp (e1 ()) h) hn hr he

def F183_3b (s0 : Value) (s1 : Value) (s5 : Value) (s6 : Value) (w : World) (_K : Value → World → Prop) (Y0 : Value → Value → Value → Value → World → Prop) (Y1 : Value → World → Prop) : Prop :=
bindP (bLt s6 s1) fun v1 =>
ifB v1 (
bindP (bMul s5 (.int .i64 64)) fun v2 =>
bindP (pIndexS s0 s6) fun v3 =>
bindP (bRem v3 (.int .u8 64)) fun v4 =>
bindP (cInt .i64 v4) fun v5 =>
bindP (bAdd v2 v5) fun v6 =>
bindP (bAdd s6 (.int .i64 1)) fun v7 =>
Y0 s0 s1 v6 v7 w) (
Y1 s5 w)

def F183_3L : Nat → Value → Value → Value → Value → World → (Value → World → Prop) → Prop
  | 0, _, _, _, _, _, _ => False
  | n + 1, s0, s1, s5, s6, w, K => F183_3b s0 s1 s5 s6 w K (fun a0 a1 a5 a6 w => F183_3L n a0 a1 a5 a6 w K) (fun a5 w => F183_4 a5 w K)

def F183_3 (s0 : Value) (s1 : Value) (s5 : Value) (s6 : Value) (w : World) (K : Value → World → Prop) : Prop := F183_3L fuel s0 s1 s5 s6 w K

theorem ok183_3 {K : Value → World → Prop} {kn kr : Env → World → Prop} {ke : Nat → Env → World → Prop}
    (hn : ∀ e w, (fun e w => K (e 4) w) e w → kn e w) (hr : ∀ e w, endD Try.prog [.tmp 4] K e w → kr e w) (he : ∀ i e w, noE i e w → ke i e w) :
    ∀ e w, F183_3 (e 0) (e 1) (e 5) (e 6) w K → denL Try.prog (tabOf T183) 38 fuel ((flat (bodyOf Try.f183)).drop 5) e w kn kr ke := by
  intro e w h
  unfold F183_3 at h
  refine seg_loop (id := 1) (body := (loopB (blkB (nthC (flat (bodyOf Try.f183)) 5)))) (l2 := (flat (bodyOf Try.f183)).drop 6) (by kernel_rfl) ?_
  refine loop_ok (FL := fun m e w => F183_3L m (e 0) (e 1) (e 5) (e 6) w K) (fr := endD Try.prog [.tmp 4] K) (fe := (blkK 1 (fun e w => F183_4 (e 5) w K) noE)) (fun _ _ h => h) ?_ hr (blkK_mono (fun e w h => ok183_4 hn hr he e w h) he) fuel e w h
  intro m e w h
  have h : F183_3L (m + 1) (e 0) (e 1) (e 5) (e 6) w K := h
  rw [F183_3L] at h
  have e1 : ∀ (Y0 : Value → Value → Value → Value → World → Prop) (Y1 : Value → World → Prop), F183_3b (e 0) (e 1) (e 5) (e 6) w K Y0 Y1 = denL Try.prog (tabOf T183) 38 fuel (flat (loopB (blkB (nthC (flat (bodyOf Try.f183)) 5)))) e w (fun e w => Y0 (e 0) (e 1) (e 5) (e 6) w) (endD Try.prog [.tmp 4] K) (blkK 1 (fun e w => Y1 (e 5) w) noE) := by intro Y0 Y1; kernel_rfl
  exact Eq.mp (e1 (fun a0 a1 a5 a6 w => F183_3L m a0 a1 a5 a6 w K) (fun a5 w => F183_4 a5 w K)) h

def F183_2b (s0 : Value) (s1 : Value) (s5 : Value) (w : World) (_K : Value → World → Prop) (Y0 : Value → Value → Value → Value → World → Prop) : Prop :=
Y0 s0 s1 s5 (.int .i64 1) w

def F183_2 (s0 : Value) (s1 : Value) (s5 : Value) (w : World) (K : Value → World → Prop) : Prop := F183_2b s0 s1 s5 w K (fun a0 a1 a5 a6 w => F183_3 a0 a1 a5 a6 w K)

theorem ok183_2 {K : Value → World → Prop} {kn kr : Env → World → Prop} {ke : Nat → Env → World → Prop}
    (hn : ∀ e w, (fun e w => K (e 4) w) e w → kn e w) (hr : ∀ e w, endD Try.prog [.tmp 4] K e w → kr e w) (he : ∀ i e w, noE i e w → ke i e w) :
    ∀ e w, F183_2 (e 0) (e 1) (e 5) w K → denL Try.prog (tabOf T183) 38 fuel ((flat (bodyOf Try.f183)).drop 4) e w kn kr ke := by
  intro e w h
  unfold F183_2 at h
  have e1 : ∀ (Y0 : Value → Value → Value → Value → World → Prop), F183_2b (e 0) (e 1) (e 5) w K Y0 = denL Try.prog (tabOf T183) 38 fuel (((flat (bodyOf Try.f183)).drop 4).take 1) e w (fun e w => Y0 (e 0) (e 1) (e 5) (e 6) w) (endD Try.prog [.tmp 4] K) noE := by intro Y0; kernel_rfl
  exact seg 1 (Eq.mp (e1 (fun a0 a1 a5 a6 w => F183_3 a0 a1 a5 a6 w K)) h) (fun e w h => ok183_3 hn hr he e w h) hr he

def F183_1b (s0 : Value) (s1 : Value) (w : World) (K : Value → World → Prop) (Y0 : Value → Value → Value → World → Prop) : Prop :=
bindP (pIndexS s0 (.int .i64 0)) fun v8 =>
bindP (cInt .i64 v8) fun v9 =>
bindP (bEq Try.prog 3 (.tmp 10) (.const (.int .i64 1)) s1 (.int .i64 1)) fun v10 =>
ifB v10 (
K v9 w) (
bindP (bEq Try.prog 3 (.tmp 10) (.const (.int .i64 2)) s1 (.int .i64 2)) fun v11 =>
ifB v11 (
bindP (bRem v9 (.int .i64 32)) fun v12 =>
Y0 s0 s1 v12 w) (
bindP (bEq Try.prog 3 (.tmp 10) (.const (.int .i64 3)) s1 (.int .i64 3)) fun v13 =>
ifB v13 (
bindP (bRem v9 (.int .i64 16)) fun v14 =>
Y0 s0 s1 v14 w) (
bindP (bRem v9 (.int .i64 8)) fun v15 =>
Y0 s0 s1 v15 w)))

def F183_1 (s0 : Value) (s1 : Value) (w : World) (K : Value → World → Prop) : Prop := F183_1b s0 s1 w K (fun a0 a1 a5 w => F183_2 a0 a1 a5 w K)

theorem ok183_1 {K : Value → World → Prop} {kn kr : Env → World → Prop} {ke : Nat → Env → World → Prop}
    (hn : ∀ e w, (fun e w => K (e 4) w) e w → kn e w) (hr : ∀ e w, endD Try.prog [.tmp 4] K e w → kr e w) (he : ∀ i e w, noE i e w → ke i e w) :
    ∀ e w, F183_1 (e 0) (e 1) w K → denL Try.prog (tabOf T183) 38 fuel ((flat (bodyOf Try.f183)).drop 0) e w kn kr ke := by
  intro e w h
  unfold F183_1 at h
  have e1 : ∀ (Y0 : Value → Value → Value → World → Prop), F183_1b (e 0) (e 1) w K Y0 = denL Try.prog (tabOf T183) 38 fuel (((flat (bodyOf Try.f183)).drop 0).take 4) e w (fun e w => Y0 (e 0) (e 1) (e 5) w) (endD Try.prog [.tmp 4] K) noE := by intro Y0; kernel_rfl
  exact seg 4 (Eq.mp (e1 (fun a0 a1 a5 w => F183_2 a0 a1 a5 w K)) h) (fun e w h => ok183_2 hn hr he e w h) hr he

def F183 (x0 : Value) (x1 : Value) (w : World) (K : Value → World → Prop) : Prop := F183_1 x0 x1 w K

def G183 : FnT := fun args w K => on2 (fun x0 x1 => F183 x0 x1 w K) args
theorem c183 {x0 x1 : Value} {w : World} {K : Value → World → Prop} (h : F183 x0 x1 w K) : callP G183 [x0, x1] w K := callP_intro (on2_mk (p := fun x0 x1 => F183 x0 x1 w K) h)
theorem ok183 : OkF Try.prog 183 G183 := by
  refine okF_of (tab_ok (l := T183) trivial) mixed (n := fuel) Try.func183 Try.call183 fun args w K h => ?_
  obtain ⟨x0, x1, rfl, hh⟩ := of_on2 h
  unfold F183 at hh
  exact fnD_list (c := bodyOf Try.f183) (by kernel_rfl) (by kernel_rfl) (ok183_1 (fun _ _ h => h) (fun _ _ h => h) (fun _ _ _ h => h) (initE [x0, x1]) w hh)

-- 184 gong/gongref04.Is
def T184 : List (Nat × FnT) := []
def F184 (x0 : Value) (w : World) (K : Value → World → Prop) : Prop :=
bindP (bGe x0 (.int .i64 0)) fun v1 =>
stepM (gd true v1) x0 fun v2 =>
Sx.stepG (gd true v1) (bLe v2 (.int .i64 1114111)) fun v3 =>
bindP (pPick v1 v3 (.bool false)) fun v4 =>
stepM (gd true v4) x0 fun v5 =>
Sx.stepG (gd true v4) (bLt v5 (.int .i64 55296)) fun v6 =>
stepM (gd true v4) v6 fun v7 =>
stepM (gd false v7) x0 fun v8 =>
Sx.stepG (gd false v7) (bGt v8 (.int .i64 57343)) fun v9 =>
Sx.stepG (gd true v4) (pPick v7 (.bool true) v9) fun v10 =>
bindP (pPick v4 v10 (.bool false)) fun v11 =>
K v11 w

def G184 : FnT := fun args w K => on1 (fun x0 => F184 x0 w K) args
theorem c184 {x0 : Value} {w : World} {K : Value → World → Prop} (h : F184 x0 w K) : callP G184 [x0] w K := callP_intro (on1_mk (p := fun x0 => F184 x0 w K) h)
theorem ok184 : OkF Try.prog 184 G184 := by
  refine okF_of (tab_ok (l := T184) trivial) mixed (n := fuel) Try.func184 Try.call184 fun args w K h => ?_
  obtain ⟨x0, rfl, hh⟩ := of_on1 h
  exact fnD_list (c := bodyOf Try.f184) (by kernel_rfl) (by kernel_rfl) (Eq.mp (by kernel_rfl) hh)

-- 185 gong/gongref04.Made
def T185 : List (Nat × FnT) := []
def F185 (x0 : Value) (w : World) (K : Value → World → Prop) : Prop :=
bindP (bLt x0 (.int .i64 128)) fun v1 =>
ifB v1 (
bindP (cInt .u8 x0) fun v2 =>
eBuildSl Try.prog 29 1 [(0, v2)] w fun v4 w3 =>
bindP (cBytes v4 w3) fun v5 =>
K v5 w3) (
bindP (bLt x0 (.int .i64 2048)) fun v6 =>
ifB v6 (
bindP (bQuo x0 (.int .i64 64)) fun v7 =>
bindP (bAdd (.int .i64 192) v7) fun v8 =>
bindP (cInt .u8 v8) fun v9 =>
bindP (bRem x0 (.int .i64 64)) fun v10 =>
bindP (bAdd (.int .i64 128) v10) fun v11 =>
bindP (cInt .u8 v11) fun v12 =>
eBuildSl Try.prog 29 2 [(0, v9), (1, v12)] w fun v14 w13 =>
bindP (cBytes v14 w13) fun v15 =>
K v15 w13) (
bindP (bLt x0 (.int .i64 65536)) fun v16 =>
ifB v16 (
bindP (bQuo x0 (.int .i64 4096)) fun v17 =>
bindP (bAdd (.int .i64 224) v17) fun v18 =>
bindP (cInt .u8 v18) fun v19 =>
bindP (bQuo x0 (.int .i64 64)) fun v20 =>
bindP (bRem v20 (.int .i64 64)) fun v21 =>
bindP (bAdd (.int .i64 128) v21) fun v22 =>
bindP (cInt .u8 v22) fun v23 =>
bindP (bRem x0 (.int .i64 64)) fun v24 =>
bindP (bAdd (.int .i64 128) v24) fun v25 =>
bindP (cInt .u8 v25) fun v26 =>
eBuildSl Try.prog 29 3 [(0, v19), (1, v23), (2, v26)] w fun v28 w27 =>
bindP (cBytes v28 w27) fun v29 =>
K v29 w27) (
bindP (bQuo x0 (.int .i64 262144)) fun v30 =>
bindP (bAdd (.int .i64 240) v30) fun v31 =>
bindP (cInt .u8 v31) fun v32 =>
bindP (bQuo x0 (.int .i64 4096)) fun v33 =>
bindP (bRem v33 (.int .i64 64)) fun v34 =>
bindP (bAdd (.int .i64 128) v34) fun v35 =>
bindP (cInt .u8 v35) fun v36 =>
bindP (bQuo x0 (.int .i64 64)) fun v37 =>
bindP (bRem v37 (.int .i64 64)) fun v38 =>
bindP (bAdd (.int .i64 128) v38) fun v39 =>
bindP (cInt .u8 v39) fun v40 =>
bindP (bRem x0 (.int .i64 64)) fun v41 =>
bindP (bAdd (.int .i64 128) v41) fun v42 =>
bindP (cInt .u8 v42) fun v43 =>
eBuildSl Try.prog 29 4 [(0, v32), (1, v36), (2, v40), (3, v43)] w fun v45 w44 =>
bindP (cBytes v45 w44) fun v46 =>
K v46 w44)))

def G185 : FnT := fun args w K => on1 (fun x0 => F185 x0 w K) args
theorem c185 {x0 : Value} {w : World} {K : Value → World → Prop} (h : F185 x0 w K) : callP G185 [x0] w K := callP_intro (on1_mk (p := fun x0 => F185 x0 w K) h)
theorem ok185 : OkF Try.prog 185 G185 := by
  refine okF_of (tab_ok (l := T185) trivial) mixed (n := fuel) Try.func185 Try.call185 fun args w K h => ?_
  obtain ⟨x0, rfl, hh⟩ := of_on1 h
  exact fnD_list (c := bodyOf Try.f185) (by kernel_rfl) (by kernel_rfl) (Eq.mp (by kernel_rfl) hh)

-- 163 gong/gongref04.First
def T163 : List (Nat × FnT) := [(183, G183), (184, G184), (185, G185)]
def F163_3b (w : World) (K : Value → World → Prop) : Prop :=
K (.tuple #[(.int .i64 0), (.int .i64 0), (.int .i64 40)]) w

def F163_3 (w : World) (K : Value → World → Prop) : Prop := F163_3b w K

theorem ok163_3 {K : Value → World → Prop} {kn kr : Env → World → Prop} {ke : Nat → Env → World → Prop}
    (hn : ∀ e w, (fun e w => K (.tuple #[(e 2), (e 3), (e 4)]) w) e w → kn e w) (hr : ∀ e w, endD Try.prog [.tmp 2, .tmp 3, .tmp 4] K e w → kr e w) (he : ∀ i e w, noE i e w → ke i e w) :
    ∀ e w, F163_3 w K → denL Try.prog (tabOf T163) 32 fuel ((flat (bodyOf Try.f163)).drop 3) e w kn kr ke := by
  intro e w h
  unfold F163_3 at h
  have e1 : ∀ (_ : Unit), F163_3b w K = denL Try.prog (tabOf T163) 32 fuel ((flat (bodyOf Try.f163)).drop 3) e w (fun e w => K (.tuple #[(e 2), (e 3), (e 4)]) w) (endD Try.prog [.tmp 2, .tmp 3, .tmp 4] K) noE := by intro _; kernel_rfl
  exact seg_end (Eq.mp (e1 ()) h) hn hr he

def F163_2b (s0 : Value) (s5 : Value) (w : World) (K : Value → World → Prop) (Y0 : Value → Value → World → Prop) (Y1 : World → Prop) : Prop :=
bindP (bLe s5 (.int .i64 4)) fun v1 =>
stepM (gd true v1) s5 fun v2 =>
stepM (gd true v1) s0 fun v3 =>
Sx.stepG (gd true v1) (lenS v3) fun v4 =>
Sx.stepG (gd true v1) (bLe v2 v4) fun v5 =>
bindP (pPick v1 v5 (.bool false)) fun v6 =>
ifB v6 (
callP G183 [s0, s5] w fun v8 w7 =>
callP G184 [v8] w7.drew fun v10 w9 =>
stepM (gd true v10) v8 fun v11 =>
stepM (gd true v10) s0 fun v12 =>
stepM (gd true v10) s5 fun v13 =>
Sx.stepG (gd true v10) (pSliceS v12 none (some v13)) fun v14 =>
stepE (gd true v10) (fun k => callP G185 [v11] w9 k) w9 fun v16 w15 =>
Sx.stepG (gd true v10) (bEq Try.prog 9 (.tmp 24) (.tmp 27) v16 v14) fun v17 =>
bindP (pPick v10 v17 (.bool false)) fun v18 =>
ifB v18 (
K (.tuple #[v8, s5, (.int .i64 0)]) w15) (
bindP (bAdd s5 (.int .i64 1)) fun v19 =>
Y0 s0 v19 w15)) (
Y1 w)

def F163_2L : Nat → Value → Value → World → (Value → World → Prop) → Prop
  | 0, _, _, _, _ => False
  | n + 1, s0, s5, w, K => F163_2b s0 s5 w K (fun a0 a5 w => F163_2L n a0 a5 w K) (fun w => F163_3 w K)

def F163_2 (s0 : Value) (s5 : Value) (w : World) (K : Value → World → Prop) : Prop := F163_2L fuel s0 s5 w K

theorem ok163_2 {K : Value → World → Prop} {kn kr : Env → World → Prop} {ke : Nat → Env → World → Prop}
    (hn : ∀ e w, (fun e w => K (.tuple #[(e 2), (e 3), (e 4)]) w) e w → kn e w) (hr : ∀ e w, endD Try.prog [.tmp 2, .tmp 3, .tmp 4] K e w → kr e w) (he : ∀ i e w, noE i e w → ke i e w) :
    ∀ e w, F163_2 (e 0) (e 5) w K → denL Try.prog (tabOf T163) 32 fuel ((flat (bodyOf Try.f163)).drop 2) e w kn kr ke := by
  intro e w h
  unfold F163_2 at h
  refine seg_loop (id := 0) (body := (loopB (blkB (nthC (flat (bodyOf Try.f163)) 2)))) (l2 := (flat (bodyOf Try.f163)).drop 3) (by kernel_rfl) ?_
  refine loop_ok (FL := fun m e w => F163_2L m (e 0) (e 5) w K) (fr := endD Try.prog [.tmp 2, .tmp 3, .tmp 4] K) (fe := (blkK 0 (fun e w => F163_3 w K) noE)) (fun _ _ h => h) ?_ hr (blkK_mono (fun e w h => ok163_3 hn hr he e w h) he) fuel e w h
  intro m e w h
  have h : F163_2L (m + 1) (e 0) (e 5) w K := h
  rw [F163_2L] at h
  have e1 : ∀ (Y0 : Value → Value → World → Prop) (Y1 : World → Prop), F163_2b (e 0) (e 5) w K Y0 Y1 = denL Try.prog (tabOf T163) 32 fuel (flat (loopB (blkB (nthC (flat (bodyOf Try.f163)) 2)))) e w (fun e w => Y0 (e 0) (e 5) w) (endD Try.prog [.tmp 2, .tmp 3, .tmp 4] K) (blkK 0 (fun e w => Y1 w) noE) := by intro Y0 Y1; kernel_rfl
  exact Eq.mp (e1 (fun a0 a5 w => F163_2L m a0 a5 w K) (fun w => F163_3 w K)) h

def F163_1b (s0 : Value) (w : World) (_K : Value → World → Prop) (Y0 : Value → Value → World → Prop) : Prop :=
Y0 s0 (.int .i64 1) w

def F163_1 (s0 : Value) (w : World) (K : Value → World → Prop) : Prop := F163_1b s0 w K (fun a0 a5 w => F163_2 a0 a5 w K)

theorem ok163_1 {K : Value → World → Prop} {kn kr : Env → World → Prop} {ke : Nat → Env → World → Prop}
    (hn : ∀ e w, (fun e w => K (.tuple #[(e 2), (e 3), (e 4)]) w) e w → kn e w) (hr : ∀ e w, endD Try.prog [.tmp 2, .tmp 3, .tmp 4] K e w → kr e w) (he : ∀ i e w, noE i e w → ke i e w) :
    ∀ e w, F163_1 (e 0) w K → denL Try.prog (tabOf T163) 32 fuel ((flat (bodyOf Try.f163)).drop 0) e w kn kr ke := by
  intro e w h
  unfold F163_1 at h
  have e1 : ∀ (Y0 : Value → Value → World → Prop), F163_1b (e 0) w K Y0 = denL Try.prog (tabOf T163) 32 fuel (((flat (bodyOf Try.f163)).drop 0).take 2) e w (fun e w => Y0 (e 0) (e 5) w) (endD Try.prog [.tmp 2, .tmp 3, .tmp 4] K) noE := by intro Y0; kernel_rfl
  exact seg 2 (Eq.mp (e1 (fun a0 a5 w => F163_2 a0 a5 w K)) h) (fun e w h => ok163_2 hn hr he e w h) hr he

def F163 (x0 : Value) (w : World) (K : Value → World → Prop) : Prop := F163_1 x0 w K

def G163 : FnT := fun args w K => on1 (fun x0 => F163 x0 w K) args
theorem c163 {x0 : Value} {w : World} {K : Value → World → Prop} (h : F163 x0 w K) : callP G163 [x0] w K := callP_intro (on1_mk (p := fun x0 => F163 x0 w K) h)
theorem ok163 : OkF Try.prog 163 G163 := by
  refine okF_of (tab_ok (l := T163) ⟨ok183, ok184, ok185, trivial⟩) mixed (n := fuel) Try.func163 Try.call163 fun args w K h => ?_
  obtain ⟨x0, rfl, hh⟩ := of_on1 h
  unfold F163 at hh
  exact fnD_list (c := bodyOf Try.f163) (by kernel_rfl) (by kernel_rfl) (ok163_1 (fun _ _ h => h) (fun _ _ h => h) (fun _ _ _ h => h) (initE [x0]) w hh)

-- 138 gong/gongref04.Chars
def T138 : List (Nat × FnT) := [(163, G163)]
def F138_3b (s4 : Value) (w : World) (K : Value → World → Prop) : Prop :=
K (.tuple #[s4, (.int .i64 0)]) w

def F138_3 (s4 : Value) (w : World) (K : Value → World → Prop) : Prop := F138_3b s4 w K

theorem ok138_3 {K : Value → World → Prop} {kn kr : Env → World → Prop} {ke : Nat → Env → World → Prop}
    (hn : ∀ e w, (fun e w => K (.tuple #[(e 2), (e 3)]) w) e w → kn e w) (hr : ∀ e w, endD Try.prog [.tmp 2, .tmp 3] K e w → kr e w) (he : ∀ i e w, noE i e w → ke i e w) :
    ∀ e w, F138_3 (e 4) w K → denL Try.prog (tabOf T138) 32 fuel ((flat (bodyOf Try.f138)).drop 4) e w kn kr ke := by
  intro e w h
  unfold F138_3 at h
  have e1 : ∀ (_ : Unit), F138_3b (e 4) w K = denL Try.prog (tabOf T138) 32 fuel ((flat (bodyOf Try.f138)).drop 4) e w (fun e w => K (.tuple #[(e 2), (e 3)]) w) (endD Try.prog [.tmp 2, .tmp 3] K) noE := by intro _; kernel_rfl
  exact seg_end (Eq.mp (e1 ()) h) hn hr he

def F138_2b (s0 : Value) (s4 : Value) (s5 : Value) (w : World) (K : Value → World → Prop) (Y0 : Value → Value → Value → World → Prop) (Y1 : Value → World → Prop) : Prop :=
bindP (lenS s0) fun v1 =>
bindP (bLt s5 v1) fun v2 =>
ifB v2 (
bindP (pSliceS s0 (some s5) none) fun v3 =>
callP G163 [v3] w fun v5 w4 =>
bindP (pTuple v5 0) fun v6 =>
bindP (pTuple v5 1) fun v7 =>
bindP (pTuple v5 2) fun v8 =>
bindP (bNe Try.prog 24 (.tmp 21) (.const (.int .i64 0)) v8 (.int .i64 0)) fun v9 =>
ifB v9 (
K (.tuple #[(.slice none 0 0), v8]) w4) (
eBuildSl Try.prog 22 1 [(0, v6)] w4 fun v11 w10 =>
eAppend Try.prog 22 22 s4 v11 w10 fun v13 w12 =>
bindP (bAdd s5 v7) fun v14 =>
Y0 s0 v13 v14 w12)) (
Y1 s4 w)

def F138_2L : Nat → Value → Value → Value → World → (Value → World → Prop) → Prop
  | 0, _, _, _, _, _ => False
  | n + 1, s0, s4, s5, w, K => F138_2b s0 s4 s5 w K (fun a0 a4 a5 w => F138_2L n a0 a4 a5 w K) (fun a4 w => F138_3 a4 w K)

def F138_2 (s0 : Value) (s4 : Value) (s5 : Value) (w : World) (K : Value → World → Prop) : Prop := F138_2L fuel s0 s4 s5 w K

theorem ok138_2 {K : Value → World → Prop} {kn kr : Env → World → Prop} {ke : Nat → Env → World → Prop}
    (hn : ∀ e w, (fun e w => K (.tuple #[(e 2), (e 3)]) w) e w → kn e w) (hr : ∀ e w, endD Try.prog [.tmp 2, .tmp 3] K e w → kr e w) (he : ∀ i e w, noE i e w → ke i e w) :
    ∀ e w, F138_2 (e 0) (e 4) (e 5) w K → denL Try.prog (tabOf T138) 32 fuel ((flat (bodyOf Try.f138)).drop 3) e w kn kr ke := by
  intro e w h
  unfold F138_2 at h
  refine seg_loop (id := 0) (body := (loopB (blkB (nthC (flat (bodyOf Try.f138)) 3)))) (l2 := (flat (bodyOf Try.f138)).drop 4) (by kernel_rfl) ?_
  refine loop_ok (FL := fun m e w => F138_2L m (e 0) (e 4) (e 5) w K) (fr := endD Try.prog [.tmp 2, .tmp 3] K) (fe := (blkK 0 (fun e w => F138_3 (e 4) w K) noE)) (fun _ _ h => h) ?_ hr (blkK_mono (fun e w h => ok138_3 hn hr he e w h) he) fuel e w h
  intro m e w h
  have h : F138_2L (m + 1) (e 0) (e 4) (e 5) w K := h
  rw [F138_2L] at h
  have e1 : ∀ (Y0 : Value → Value → Value → World → Prop) (Y1 : Value → World → Prop), F138_2b (e 0) (e 4) (e 5) w K Y0 Y1 = denL Try.prog (tabOf T138) 32 fuel (flat (loopB (blkB (nthC (flat (bodyOf Try.f138)) 3)))) e w (fun e w => Y0 (e 0) (e 4) (e 5) w) (endD Try.prog [.tmp 2, .tmp 3] K) (blkK 0 (fun e w => Y1 (e 4) w) noE) := by intro Y0 Y1; kernel_rfl
  exact Eq.mp (e1 (fun a0 a4 a5 w => F138_2L m a0 a4 a5 w K) (fun a4 w => F138_3 a4 w K)) h

def F138_1b (s0 : Value) (w : World) (_K : Value → World → Prop) (Y0 : Value → Value → Value → World → Prop) : Prop :=
Y0 s0 (.slice none 0 0) (.int .i64 0) w

def F138_1 (s0 : Value) (w : World) (K : Value → World → Prop) : Prop := F138_1b s0 w K (fun a0 a4 a5 w => F138_2 a0 a4 a5 w K)

theorem ok138_1 {K : Value → World → Prop} {kn kr : Env → World → Prop} {ke : Nat → Env → World → Prop}
    (hn : ∀ e w, (fun e w => K (.tuple #[(e 2), (e 3)]) w) e w → kn e w) (hr : ∀ e w, endD Try.prog [.tmp 2, .tmp 3] K e w → kr e w) (he : ∀ i e w, noE i e w → ke i e w) :
    ∀ e w, F138_1 (e 0) w K → denL Try.prog (tabOf T138) 32 fuel ((flat (bodyOf Try.f138)).drop 0) e w kn kr ke := by
  intro e w h
  unfold F138_1 at h
  have e1 : ∀ (Y0 : Value → Value → Value → World → Prop), F138_1b (e 0) w K Y0 = denL Try.prog (tabOf T138) 32 fuel (((flat (bodyOf Try.f138)).drop 0).take 3) e w (fun e w => Y0 (e 0) (e 4) (e 5) w) (endD Try.prog [.tmp 2, .tmp 3] K) noE := by intro Y0; kernel_rfl
  exact seg 3 (Eq.mp (e1 (fun a0 a4 a5 w => F138_2 a0 a4 a5 w K)) h) (fun e w h => ok138_2 hn hr he e w h) hr he

def F138 (x0 : Value) (w : World) (K : Value → World → Prop) : Prop := F138_1 x0 w K

def G138 : FnT := fun args w K => on1 (fun x0 => F138 x0 w K) args
theorem c138 {x0 : Value} {w : World} {K : Value → World → Prop} (h : F138 x0 w K) : callP G138 [x0] w K := callP_intro (on1_mk (p := fun x0 => F138 x0 w K) h)
theorem ok138 : OkF Try.prog 138 G138 := by
  refine okF_of (tab_ok (l := T138) ⟨ok163, trivial⟩) mixed (n := fuel) Try.func138 Try.call138 fun args w K h => ?_
  obtain ⟨x0, rfl, hh⟩ := of_on1 h
  unfold F138 at hh
  exact fnD_list (c := bodyOf Try.f138) (by kernel_rfl) (by kernel_rfl) (ok138_1 (fun _ _ h => h) (fun _ _ h => h) (fun _ _ _ h => h) (initE [x0]) w hh)

-- 112 gong/gongref18.plain
def T112 : List (Nat × FnT) := [(138, G138)]
def F112_3b (s0 : Value) (s1 : Value) (s6 : Value) (w : World) (K : Value → World → Prop) : Prop :=
bindP (bEq Try.prog 24 (.tmp 31) (.const (.int .i64 0)) s6 (.int .i64 0)) fun v1 =>
stepM (gd true v1) s0 fun v2 =>
Sx.stepG (gd true v1) (lenS v2) fun v3 =>
stepM (gd true v1) s1 fun v4 =>
Sx.stepG (gd true v1) (bLe v3 v4) fun v5 =>
bindP (pPick v1 v5 (.bool false)) fun v6 =>
K v6 w

def F112_3 (s0 : Value) (s1 : Value) (s6 : Value) (w : World) (K : Value → World → Prop) : Prop := F112_3b s0 s1 s6 w K

theorem ok112_3 {K : Value → World → Prop} {kn kr : Env → World → Prop} {ke : Nat → Env → World → Prop}
    (hn : ∀ e w, (fun e w => K (e 4) w) e w → kn e w) (hr : ∀ e w, endD Try.prog [.tmp 4] K e w → kr e w) (he : ∀ i e w, noE i e w → ke i e w) :
    ∀ e w, F112_3 (e 0) (e 1) (e 6) w K → denL Try.prog (tabOf T112) 39 fuel ((flat (bodyOf Try.f112)).drop 4) e w kn kr ke := by
  intro e w h
  unfold F112_3 at h
  have e1 : ∀ (_ : Unit), F112_3b (e 0) (e 1) (e 6) w K = denL Try.prog (tabOf T112) 39 fuel ((flat (bodyOf Try.f112)).drop 4) e w (fun e w => K (e 4) w) (endD Try.prog [.tmp 4] K) noE := by intro _; kernel_rfl
  exact seg_end (Eq.mp (e1 ()) h) hn hr he

def F112_2b (s0 : Value) (s1 : Value) (s5 : Value) (s6 : Value) (s7 : Value) (w : World) (K : Value → World → Prop) (Y0 : Value → Value → Value → Value → Value → World → Prop) (Y1 : Value → Value → Value → World → Prop) : Prop :=
bindP (lenL s5) fun v7 =>
bindP (bLt s7 v7) fun v8 =>
ifB v8 (
bindP (pIndexL 1 s5 s7) fun v9 =>
bindP (ld1 v9 w) fun v10 =>
bindP (bLt v10 (.int .i64 32)) fun v11 =>
stepM (gd false v11) s5 fun v12 =>
stepM (gd false v11) s7 fun v13 =>
Sx.stepG (gd false v11) (pIndexL 1 v12 v13) fun v14 =>
Sx.stepG (gd false v11) (ld1 v14 w) fun v15 =>
Sx.stepG (gd false v11) (bEq Try.prog 3 (.tmp 28) (.const (.int .i64 127)) v15 (.int .i64 127)) fun v16 =>
bindP (pPick v11 (.bool true) v16) fun v17 =>
ifB v17 (
K (.bool false) w) (
bindP (bAdd s7 (.int .i64 1)) fun v18 =>
Y0 s0 s1 s5 s6 v18 w)) (
Y1 s0 s1 s6 w)

def F112_2L : Nat → Value → Value → Value → Value → Value → World → (Value → World → Prop) → Prop
  | 0, _, _, _, _, _, _, _ => False
  | n + 1, s0, s1, s5, s6, s7, w, K => F112_2b s0 s1 s5 s6 s7 w K (fun a0 a1 a5 a6 a7 w => F112_2L n a0 a1 a5 a6 a7 w K) (fun a0 a1 a6 w => F112_3 a0 a1 a6 w K)

def F112_2 (s0 : Value) (s1 : Value) (s5 : Value) (s6 : Value) (s7 : Value) (w : World) (K : Value → World → Prop) : Prop := F112_2L fuel s0 s1 s5 s6 s7 w K

theorem ok112_2 {K : Value → World → Prop} {kn kr : Env → World → Prop} {ke : Nat → Env → World → Prop}
    (hn : ∀ e w, (fun e w => K (e 4) w) e w → kn e w) (hr : ∀ e w, endD Try.prog [.tmp 4] K e w → kr e w) (he : ∀ i e w, noE i e w → ke i e w) :
    ∀ e w, F112_2 (e 0) (e 1) (e 5) (e 6) (e 7) w K → denL Try.prog (tabOf T112) 39 fuel ((flat (bodyOf Try.f112)).drop 3) e w kn kr ke := by
  intro e w h
  unfold F112_2 at h
  refine seg_loop (id := 0) (body := (loopB (blkB (nthC (flat (bodyOf Try.f112)) 3)))) (l2 := (flat (bodyOf Try.f112)).drop 4) (by kernel_rfl) ?_
  refine loop_ok (FL := fun m e w => F112_2L m (e 0) (e 1) (e 5) (e 6) (e 7) w K) (fr := endD Try.prog [.tmp 4] K) (fe := (blkK 0 (fun e w => F112_3 (e 0) (e 1) (e 6) w K) noE)) (fun _ _ h => h) ?_ hr (blkK_mono (fun e w h => ok112_3 hn hr he e w h) he) fuel e w h
  intro m e w h
  have h : F112_2L (m + 1) (e 0) (e 1) (e 5) (e 6) (e 7) w K := h
  rw [F112_2L] at h
  have e1 : ∀ (Y0 : Value → Value → Value → Value → Value → World → Prop) (Y1 : Value → Value → Value → World → Prop), F112_2b (e 0) (e 1) (e 5) (e 6) (e 7) w K Y0 Y1 = denL Try.prog (tabOf T112) 39 fuel (flat (loopB (blkB (nthC (flat (bodyOf Try.f112)) 3)))) e w (fun e w => Y0 (e 0) (e 1) (e 5) (e 6) (e 7) w) (endD Try.prog [.tmp 4] K) (blkK 0 (fun e w => Y1 (e 0) (e 1) (e 6) w) noE) := by intro Y0 Y1; kernel_rfl
  exact Eq.mp (e1 (fun a0 a1 a5 a6 a7 w => F112_2L m a0 a1 a5 a6 a7 w K) (fun a0 a1 a6 w => F112_3 a0 a1 a6 w K)) h

def F112_1b (s0 : Value) (s1 : Value) (w : World) (_K : Value → World → Prop) (Y0 : Value → Value → Value → Value → Value → World → Prop) : Prop :=
callP G138 [s0] w fun v20 w19 =>
bindP (pTuple v20 0) fun v21 =>
bindP (pTuple v20 1) fun v22 =>
Y0 s0 s1 v21 v22 (.int .i64 0) w19

def F112_1 (s0 : Value) (s1 : Value) (w : World) (K : Value → World → Prop) : Prop := F112_1b s0 s1 w K (fun a0 a1 a5 a6 a7 w => F112_2 a0 a1 a5 a6 a7 w K)

theorem ok112_1 {K : Value → World → Prop} {kn kr : Env → World → Prop} {ke : Nat → Env → World → Prop}
    (hn : ∀ e w, (fun e w => K (e 4) w) e w → kn e w) (hr : ∀ e w, endD Try.prog [.tmp 4] K e w → kr e w) (he : ∀ i e w, noE i e w → ke i e w) :
    ∀ e w, F112_1 (e 0) (e 1) w K → denL Try.prog (tabOf T112) 39 fuel ((flat (bodyOf Try.f112)).drop 0) e w kn kr ke := by
  intro e w h
  unfold F112_1 at h
  have e1 : ∀ (Y0 : Value → Value → Value → Value → Value → World → Prop), F112_1b (e 0) (e 1) w K Y0 = denL Try.prog (tabOf T112) 39 fuel (((flat (bodyOf Try.f112)).drop 0).take 3) e w (fun e w => Y0 (e 0) (e 1) (e 5) (e 6) (e 7) w) (endD Try.prog [.tmp 4] K) noE := by intro Y0; kernel_rfl
  exact seg 3 (Eq.mp (e1 (fun a0 a1 a5 a6 a7 w => F112_2 a0 a1 a5 a6 a7 w K)) h) (fun e w h => ok112_2 hn hr he e w h) hr he

def F112 (x0 : Value) (x1 : Value) (w : World) (K : Value → World → Prop) : Prop := F112_1 x0 x1 w K

def G112 : FnT := fun args w K => on2 (fun x0 x1 => F112 x0 x1 w K) args
theorem c112 {x0 x1 : Value} {w : World} {K : Value → World → Prop} (h : F112 x0 x1 w K) : callP G112 [x0, x1] w K := callP_intro (on2_mk (p := fun x0 x1 => F112 x0 x1 w K) h)
theorem ok112 : OkF Try.prog 112 G112 := by
  refine okF_of (tab_ok (l := T112) ⟨ok138, trivial⟩) mixed (n := fuel) Try.func112 Try.call112 fun args w K h => ?_
  obtain ⟨x0, x1, rfl, hh⟩ := of_on2 h
  unfold F112 at hh
  exact fnD_list (c := bodyOf Try.f112) (by kernel_rfl) (by kernel_rfl) (ok112_1 (fun _ _ h => h) (fun _ _ h => h) (fun _ _ _ h => h) (initE [x0, x1]) w hh)

-- 68 gong/gongref18.Check
def T68 : List (Nat × FnT) := [(112, G112)]
def F68 (x0 : Value) (w : World) (K : Value → World → Prop) : Prop :=
eBox 31 x0 w fun v2 w1 =>
bindP (pFieldAddr 0 v2) fun v3 =>
bindP (ld1 v3 w1) fun v4 =>
bindP (bEq Try.prog 9 (.tmp 4) (.const (.string ⟨#[]⟩)) v4 (.string ⟨#[]⟩)) fun v5 =>
Sx.stepG (gd false v5) (pFieldAddr 1 v2) fun v6 =>
Sx.stepG (gd false v5) (ld1 v6 w1) fun v7 =>
Sx.stepG (gd false v5) (bEq Try.prog 9 (.tmp 8) (.const (.string ⟨#[]⟩)) v7 (.string ⟨#[]⟩)) fun v8 =>
bindP (pPick v5 (.bool true) v8) fun v9 =>
Sx.stepG (gd false v9) (pFieldAddr 0 v2) fun v10 =>
Sx.stepG (gd false v9) (ld1 v10 w1) fun v11 =>
stepE (gd false v9) (fun k => callP G112 [v11, (.int .i64 64)] w1 k) w1 fun v13 w12 =>
Sx.stepG (gd false v9) (uNot v13) fun v14 =>
bindP (pPick v9 (.bool true) v14) fun v15 =>
Sx.stepG (gd false v15) (pFieldAddr 1 v2) fun v16 =>
Sx.stepG (gd false v15) (ld1 v16 w12) fun v17 =>
stepE (gd false v15) (fun k => callP G112 [v17, (.int .i64 64)] w12 k) w12 fun v19 w18 =>
Sx.stepG (gd false v15) (uNot v19) fun v20 =>
bindP (pPick v15 (.bool true) v20) fun v21 =>
Sx.stepG (gd false v21) (pFieldAddr 2 v2) fun v22 =>
Sx.stepG (gd false v21) (ld1 v22 w18) fun v23 =>
stepE (gd false v21) (fun k => callP G112 [v23, (.int .i64 128)] w18 k) w18 fun v25 w24 =>
Sx.stepG (gd false v21) (uNot v25) fun v26 =>
bindP (pPick v21 (.bool true) v26) fun v27 =>
Sx.stepG (gd false v27) (pFieldAddr 4 v2) fun v28 =>
Sx.stepG (gd false v27) (ld1 v28 w24) fun v29 =>
stepE (gd false v27) (fun k => callP G112 [v29, (.int .i64 1024)] w24 k) w24 fun v31 w30 =>
Sx.stepG (gd false v27) (uNot v31) fun v32 =>
bindP (pPick v27 (.bool true) v32) fun v33 =>
Sx.stepG (gd false v33) (pFieldAddr 3 v2) fun v34 =>
Sx.stepG (gd false v33) (ld1 v34 w30) fun v35 =>
Sx.stepG (gd false v33) (bLt v35 (.int .i64 0)) fun v36 =>
bindP (pPick v33 (.bool true) v36) fun v37 =>
Sx.stepG (gd false v37) (pFieldAddr 3 v2) fun v38 =>
Sx.stepG (gd false v37) (ld1 v38 w30) fun v39 =>
Sx.stepG (gd false v37) (bGt v39 (.int .i64 5)) fun v40 =>
bindP (pPick v37 (.bool true) v40) fun v41 =>
ifB v41 (
K (.int .i64 180) w30) (
K (.int .i64 0) w30)

def G68 : FnT := fun args w K => on1 (fun x0 => F68 x0 w K) args
theorem c68 {x0 : Value} {w : World} {K : Value → World → Prop} (h : F68 x0 w K) : callP G68 [x0] w K := callP_intro (on1_mk (p := fun x0 => F68 x0 w K) h)
theorem ok68 : OkF Try.prog 68 G68 := by
  refine okF_of (tab_ok (l := T68) ⟨ok112, trivial⟩) mixed (n := fuel) Try.func68 Try.call68 fun args w K h => ?_
  obtain ⟨x0, rfl, hh⟩ := of_on1 h
  exact fnD_list (c := bodyOf Try.f68) (by kernel_rfl) (by kernel_rfl) (Eq.mp (by kernel_rfl) hh)

end Go.Proofs.Gong
