/- A part of the proofs: what stands below it, told in lemmas. No condition. -/
import Derived.Test.YtjjnkobkjdopbaaGreatDoorP1
import Derived.Test.YtjjnkobkjdopbaaGreatDoorP2
set_option linter.all false

/- Hex -/
namespace Go.Proofs.Gong
open Go Go.Sx Go.Proofs
set_option linter.all false
set_option maxRecDepth 100000
variable {kn kr : ET} {ke : JT}
def T113 : List (Nat × FnT) := []
def F113 (x0 : Value) (w : World) (K : V1) : Prop :=
bindP (bLt x0 (.int .i64 10)) fun v1 =>
ifB v1 (
bindP (bAdd x0 (.int .i64 1)) fun v2 =>
bindP (pSliceS (.string ⟨#[48, 49, 50, 51, 52, 53, 54, 55, 56, 57, 97, 98, 99, 100, 101, 102, 103, 104, 105, 106, 107, 108, 109, 110, 111, 112, 113, 114, 115, 116, 117, 118, 119, 120, 121, 122]⟩) (some x0) (some v2)) fun v3 =>
K v3 w) (
bindP (bMul x0 (.int .i64 2)) fun v4 =>
bindP (bMul x0 (.int .i64 2)) fun v5 =>
bindP (bAdd v5 (.int .i64 2)) fun v6 =>
bindP (pSliceS (.string ⟨#[48, 48, 48, 49, 48, 50, 48, 51, 48, 52, 48, 53, 48, 54, 48, 55, 48, 56, 48, 57, 49, 48, 49, 49, 49, 50, 49, 51, 49, 52, 49, 53, 49, 54, 49, 55, 49, 56, 49, 57, 50, 48, 50, 49, 50, 50, 50, 51, 50, 52, 50, 53, 50, 54, 50, 55, 50, 56, 50, 57, 51, 48, 51, 49, 51, 50, 51, 51, 51, 52, 51, 53, 51, 54, 51, 55, 51, 56, 51, 57, 52, 48, 52, 49, 52, 50, 52, 51, 52, 52, 52, 53, 52, 54, 52, 55, 52, 56, 52, 57, 53, 48, 53, 49, 53, 50, 53, 51, 53, 52, 53, 53, 53, 54, 53, 55, 53, 56, 53, 57, 54, 48, 54, 49, 54, 50, 54, 51, 54, 52, 54, 53, 54, 54, 54, 55, 54, 56, 54, 57, 55, 48, 55, 49, 55, 50, 55, 51, 55, 52, 55, 53, 55, 54, 55, 55, 55, 56, 55, 57, 56, 48, 56, 49, 56, 50, 56, 51, 56, 52, 56, 53, 56, 54, 56, 55, 56, 56, 56, 57, 57, 48, 57, 49, 57, 50, 57, 51, 57, 52, 57, 53, 57, 54, 57, 55, 57, 56, 57, 57]⟩) (some v4) (some v6)) fun v7 =>
K v7 w)
def G113 : FnT := fun args w K => on1 (fun x0 => F113 x0 w K) args
theorem ok113 : OkF Tryz.prog 113 G113 := by
  refine okF_of (tab_ok (l := T113) trivial) mixed (n := fuel) Tryz.func113 Tryz.call113 fun args w K h => ?_
  obtain ⟨x0, rfl, hh⟩ := of_on1 h
  exact fnD_list (c := bodyOf Tryz.f113) (by kernel_rfl) (by kernel_rfl) (Eq.mp (by kernel_rfl) hh)
def T112 : List (Nat × FnT) := []
def F112_4b (s0 s2 : Value) (w : World) (K : V1) : Prop :=
bindP (cInt .u8 s0) fun v1 =>
bindP (pIndexS (.string ⟨#[0, 1, 2, 2, 3, 3, 3, 3, 4, 4, 4, 4, 4, 4, 4, 4, 5, 5, 5, 5, 5, 5, 5, 5, 5, 5, 5, 5, 5, 5, 5, 5, 6, 6, 6, 6, 6, 6, 6, 6, 6, 6, 6, 6, 6, 6, 6, 6, 6, 6, 6, 6, 6, 6, 6, 6, 6, 6, 6, 6, 6, 6, 6, 6, 7, 7, 7, 7, 7, 7, 7, 7, 7, 7, 7, 7, 7, 7, 7, 7, 7, 7, 7, 7, 7, 7, 7, 7, 7, 7, 7, 7, 7, 7, 7, 7, 7, 7, 7, 7, 7, 7, 7, 7, 7, 7, 7, 7, 7, 7, 7, 7, 7, 7, 7, 7, 7, 7, 7, 7, 7, 7, 7, 7, 7, 7, 7, 7, 8, 8, 8, 8, 8, 8, 8, 8, 8, 8, 8, 8, 8, 8, 8, 8, 8, 8, 8, 8, 8, 8, 8, 8, 8, 8, 8, 8, 8, 8, 8, 8, 8, 8, 8, 8, 8, 8, 8, 8, 8, 8, 8, 8, 8, 8, 8, 8, 8, 8, 8, 8, 8, 8, 8, 8, 8, 8, 8, 8, 8, 8, 8, 8, 8, 8, 8, 8, 8, 8, 8, 8, 8, 8, 8, 8, 8, 8, 8, 8, 8, 8, 8, 8, 8, 8, 8, 8, 8, 8, 8, 8, 8, 8, 8, 8, 8, 8, 8, 8, 8, 8, 8, 8, 8, 8, 8, 8, 8, 8, 8, 8, 8, 8, 8, 8, 8, 8, 8, 8, 8, 8, 8, 8, 8, 8, 8, 8]⟩) v1) fun v2 =>
bindP (cInt .i64 v2) fun v3 =>
bindP (bAdd s2 v3) fun v4 =>
K v4 w
def F112_4 (s0 s2 : Value) (w : World) (K : V1) : Prop := F112_4b s0 s2 w K
theorem ok112_4 {K : V1}
    (hn : HN (fun e w => K (e 2) w) kn) (hr : HR Tryz.prog [.tmp 2] K kr) (he : HE noE ke) :
    ∀ e w, F112_4 (e 0) (e 2) w K → denL Tryz.prog (tabOf T112) 25 fuel ((flat (bodyOf Tryz.f112)).drop 7) e w kn kr ke := by
  intro e w h
  unfold F112_4 at h
  have e1 : ∀ (_ : Unit), F112_4b (e 0) (e 2) w K = denL Tryz.prog (tabOf T112) 25 fuel ((flat (bodyOf Tryz.f112)).drop 7) e w (fun e w => K (e 2) w) (endD Tryz.prog [.tmp 2] K) noE := by intro _; kernel_rfl
  exact seg_end (Eq.mp (e1 ()) h) hn hr he
def F112_3b (s0 s2 : Value) (w : World) (_K : V1) (Y0 : V2) : Prop :=
bindP (bGe s0 (.int .u64 256)) fun v5 =>
ifB v5 (
bindP (bShr s0 (.int .u64 8)) fun v6 =>
bindP (bAdd s2 (.int .i64 8)) fun v7 =>
Y0 v6 v7 w) (
Y0 s0 s2 w)
def F112_3 (s0 s2 : Value) (w : World) (K : V1) : Prop := F112_3b s0 s2 w K (fun a0 a2 w => F112_4 a0 a2 w K)
theorem ok112_3 {K : V1}
    (hn : HN (fun e w => K (e 2) w) kn) (hr : HR Tryz.prog [.tmp 2] K kr) (he : HE noE ke) :
    ∀ e w, F112_3 (e 0) (e 2) w K → denL Tryz.prog (tabOf T112) 25 fuel ((flat (bodyOf Tryz.f112)).drop 5) e w kn kr ke := by
  intro e w h
  unfold F112_3 at h
  have e1 : ∀ (Y0 : V2), F112_3b (e 0) (e 2) w K Y0 = denL Tryz.prog (tabOf T112) 25 fuel (((flat (bodyOf Tryz.f112)).drop 5).take 2) e w (fun e w => Y0 (e 0) (e 2) w) (endD Tryz.prog [.tmp 2] K) noE := by intro Y0; kernel_rfl
  exact seg 2 (Eq.mp (e1 (fun a0 a2 w => F112_4 a0 a2 w K)) h) (fun e w h => ok112_4 hn hr he e w h) hr he
def F112_2b (s0 s2 : Value) (w : World) (_K : V1) (Y0 : V2) : Prop :=
bindP (bGe s0 (.int .u64 65536)) fun v8 =>
ifB v8 (
bindP (bShr s0 (.int .u64 16)) fun v9 =>
bindP (bAdd s2 (.int .i64 16)) fun v10 =>
Y0 v9 v10 w) (
Y0 s0 s2 w)
def F112_2 (s0 s2 : Value) (w : World) (K : V1) : Prop := F112_2b s0 s2 w K (fun a0 a2 w => F112_3 a0 a2 w K)
theorem ok112_2 {K : V1}
    (hn : HN (fun e w => K (e 2) w) kn) (hr : HR Tryz.prog [.tmp 2] K kr) (he : HE noE ke) :
    ∀ e w, F112_2 (e 0) (e 2) w K → denL Tryz.prog (tabOf T112) 25 fuel ((flat (bodyOf Tryz.f112)).drop 3) e w kn kr ke := by
  intro e w h
  unfold F112_2 at h
  have e1 : ∀ (Y0 : V2), F112_2b (e 0) (e 2) w K Y0 = denL Tryz.prog (tabOf T112) 25 fuel (((flat (bodyOf Tryz.f112)).drop 3).take 2) e w (fun e w => Y0 (e 0) (e 2) w) (endD Tryz.prog [.tmp 2] K) noE := by intro Y0; kernel_rfl
  exact seg 2 (Eq.mp (e1 (fun a0 a2 w => F112_3 a0 a2 w K)) h) (fun e w h => ok112_3 hn hr he e w h) hr he
def F112_1b (s0 : Value) (w : World) (_K : V1) (Y0 : V2) : Prop :=
bindP (bGe s0 (.int .u64 4294967296)) fun v11 =>
ifB v11 (
bindP (bShr s0 (.int .u64 32)) fun v12 =>
Y0 v12 (.int .i64 32) w) (
Y0 s0 (.int .i64 0) w)
def F112_1 (s0 : Value) (w : World) (K : V1) : Prop := F112_1b s0 w K (fun a0 a2 w => F112_2 a0 a2 w K)
theorem ok112_1 {K : V1}
    (hn : HN (fun e w => K (e 2) w) kn) (hr : HR Tryz.prog [.tmp 2] K kr) (he : HE noE ke) :
    ∀ e w, F112_1 (e 0) w K → denL Tryz.prog (tabOf T112) 25 fuel ((flat (bodyOf Tryz.f112)).drop 0) e w kn kr ke := by
  intro e w h
  unfold F112_1 at h
  have e1 : ∀ (Y0 : V2), F112_1b (e 0) w K Y0 = denL Tryz.prog (tabOf T112) 25 fuel (((flat (bodyOf Tryz.f112)).drop 0).take 3) e w (fun e w => Y0 (e 0) (e 2) w) (endD Tryz.prog [.tmp 2] K) noE := by intro Y0; kernel_rfl
  exact seg 3 (Eq.mp (e1 (fun a0 a2 w => F112_2 a0 a2 w K)) h) (fun e w h => ok112_2 hn hr he e w h) hr he
def F112 (x0 : Value) (w : World) (K : V1) : Prop := F112_1 x0 w K
def G112 : FnT := fun args w K => on1 (fun x0 => F112 x0 w K) args
theorem ok112 : OkF Tryz.prog 112 G112 := by
  refine okF_of (tab_ok (l := T112) trivial) mixed (n := fuel) Tryz.func112 Tryz.call112 fun args w K h => ?_
  obtain ⟨x0, rfl, hh⟩ := of_on1 h
  unfold F112 at hh
  exact fnD_list (c := bodyOf Tryz.f112) (by kernel_rfl) (by kernel_rfl) (ok112_1 (fun _ _ h => h) (fun _ _ h => h) (fun _ _ _ h => h) (initE [x0]) w hh)
def T142 : List (Nat × FnT) := []
def F142 (x0 : Value) (w : World) (K : V1) : Prop :=
bindP (bMul x0 (.int .i64 78913)) fun v1 =>
bindP (bShr v1 (.int .u64 18)) fun v2 =>
K v2 w
def G142 : FnT := fun args w K => on1 (fun x0 => F142 x0 w K) args
theorem ok142 : OkF Tryz.prog 142 G142 := by
  refine okF_of (tab_ok (l := T142) trivial) mixed (n := fuel) Tryz.func142 Tryz.call142 fun args w K h => ?_
  obtain ⟨x0, rfl, hh⟩ := of_on1 h
  exact fnD_list (c := bodyOf Tryz.f142) (by kernel_rfl) (by kernel_rfl) (Eq.mp (by kernel_rfl) hh)
def T143 : List (Nat × FnT) := []
def F143 (x0 : Value) (w : World) (K : V1) : Prop :=
ifB x0 (
K (.int .i64 1) w) (
K (.int .i64 0) w)
def G143 : FnT := fun args w K => on1 (fun x0 => F143 x0 w K) args
theorem ok143 : OkF Tryz.prog 143 G143 := by
  refine okF_of (tab_ok (l := T143) trivial) mixed (n := fuel) Tryz.func143 Tryz.call143 fun args w K h => ?_
  obtain ⟨x0, rfl, hh⟩ := of_on1 h
  exact fnD_list (c := bodyOf Tryz.f143) (by kernel_rfl) (by kernel_rfl) (Eq.mp (by kernel_rfl) hh)
def T114 : List (Nat × FnT) := [(112, G112), (142, G142), (143, G143)]
def F114 (x0 : Value) (w : World) (K : V1) : Prop :=
callP G112 [x0] w fun v2 w1 =>
callP G142 [v2] w1 fun v4 w3 =>
bindP (pIndexP 20 1 (.pointer (some ⟨1, 0, none⟩)) v4) fun v5 =>
bindP (ld1 v5 w3) fun v6 =>
bindP (bGe x0 v6) fun v7 =>
callP G143 [v7] w3 fun v9 w8 =>
bindP (bAdd v4 v9) fun v10 =>
K v10 w8
def G114 : FnT := fun args w K => on1 (fun x0 => F114 x0 w K) args
theorem ok114 : OkF Tryz.prog 114 G114 := by
  refine okF_of (tab_ok (l := T114) ⟨ok112, ok142, ok143, trivial⟩) mixed (n := fuel) Tryz.func114 Tryz.call114 fun args w K h => ?_
  obtain ⟨x0, rfl, hh⟩ := of_on1 h
  exact fnD_list (c := bodyOf Tryz.f114) (by kernel_rfl) (by kernel_rfl) (Eq.mp (by kernel_rfl) hh)
def T115 : List (Nat × FnT) := []
def F115_5b (s0 s4 s12 : Value) (w : World) (K : V1) : Prop :=
bindP (bGt s4 (.int .i64 0)) fun v1 =>
ifB v1 (
bindP (bAdd (.int .u32 48) s12) fun v2 =>
bindP (cInt .u8 v2) fun v3 =>
bindP (pIndexL 1 s0 (.int .i64 0)) fun v4 =>
bindW (st 1 v4 v3 w) fun w5 =>
K (.tuple #[]) w5) (
K (.tuple #[]) w)
def F115_5 (s0 s4 s12 : Value) (w : World) (K : V1) : Prop := F115_5b s0 s4 s12 w K
theorem ok115_5 {K : V1}
    (hn : HN (fun e w => K (.tuple #[]) w) kn) (hr : HR Tryz.prog [] K kr) (he : HE noE ke) :
    ∀ e w, F115_5 (e 0) (e 4) (e 12) w K → denL Tryz.prog (tabOf T115) 167 fuel ((flat (bodyOf Tryz.f115)).drop 7) e w kn kr ke := by
  intro e w h
  unfold F115_5 at h
  have e1 : ∀ (_ : Unit), F115_5b (e 0) (e 4) (e 12) w K = denL Tryz.prog (tabOf T115) 167 fuel ((flat (bodyOf Tryz.f115)).drop 7) e w (fun e w => K (.tuple #[]) w) (endD Tryz.prog [] K) noE := by intro _; kernel_rfl
  exact seg_end (Eq.mp (e1 ()) h) hn hr he
def F115_4b (s0 s4 s12 : Value) (w : World) (_K : V1) (Y0 : V3) : Prop :=
bindP (bGe s4 (.int .i64 2)) fun v7 =>
ifB v7 (
bindP (bRem s12 (.int .u32 100)) fun v8 =>
bindP (bMul v8 (.int .u32 2)) fun v9 =>
bindP (bQuo s12 (.int .u32 100)) fun v10 =>
bindP (bSub s4 (.int .i64 1)) fun v11 =>
bindP (bSub s4 (.int .i64 2)) fun v12 =>
bindP (bAdd v9 (.int .u32 1)) fun v13 =>
bindP (pIndexS (.string ⟨#[48, 48, 48, 49, 48, 50, 48, 51, 48, 52, 48, 53, 48, 54, 48, 55, 48, 56, 48, 57, 49, 48, 49, 49, 49, 50, 49, 51, 49, 52, 49, 53, 49, 54, 49, 55, 49, 56, 49, 57, 50, 48, 50, 49, 50, 50, 50, 51, 50, 52, 50, 53, 50, 54, 50, 55, 50, 56, 50, 57, 51, 48, 51, 49, 51, 50, 51, 51, 51, 52, 51, 53, 51, 54, 51, 55, 51, 56, 51, 57, 52, 48, 52, 49, 52, 50, 52, 51, 52, 52, 52, 53, 52, 54, 52, 55, 52, 56, 52, 57, 53, 48, 53, 49, 53, 50, 53, 51, 53, 52, 53, 53, 53, 54, 53, 55, 53, 56, 53, 57, 54, 48, 54, 49, 54, 50, 54, 51, 54, 52, 54, 53, 54, 54, 54, 55, 54, 56, 54, 57, 55, 48, 55, 49, 55, 50, 55, 51, 55, 52, 55, 53, 55, 54, 55, 55, 55, 56, 55, 57, 56, 48, 56, 49, 56, 50, 56, 51, 56, 52, 56, 53, 56, 54, 56, 55, 56, 56, 56, 57, 57, 48, 57, 49, 57, 50, 57, 51, 57, 52, 57, 53, 57, 54, 57, 55, 57, 56, 57, 57]⟩) v13) fun v14 =>
bindP (pIndexS (.string ⟨#[48, 48, 48, 49, 48, 50, 48, 51, 48, 52, 48, 53, 48, 54, 48, 55, 48, 56, 48, 57, 49, 48, 49, 49, 49, 50, 49, 51, 49, 52, 49, 53, 49, 54, 49, 55, 49, 56, 49, 57, 50, 48, 50, 49, 50, 50, 50, 51, 50, 52, 50, 53, 50, 54, 50, 55, 50, 56, 50, 57, 51, 48, 51, 49, 51, 50, 51, 51, 51, 52, 51, 53, 51, 54, 51, 55, 51, 56, 51, 57, 52, 48, 52, 49, 52, 50, 52, 51, 52, 52, 52, 53, 52, 54, 52, 55, 52, 56, 52, 57, 53, 48, 53, 49, 53, 50, 53, 51, 53, 52, 53, 53, 53, 54, 53, 55, 53, 56, 53, 57, 54, 48, 54, 49, 54, 50, 54, 51, 54, 52, 54, 53, 54, 54, 54, 55, 54, 56, 54, 57, 55, 48, 55, 49, 55, 50, 55, 51, 55, 52, 55, 53, 55, 54, 55, 55, 55, 56, 55, 57, 56, 48, 56, 49, 56, 50, 56, 51, 56, 52, 56, 53, 56, 54, 56, 55, 56, 56, 56, 57, 57, 48, 57, 49, 57, 50, 57, 51, 57, 52, 57, 53, 57, 54, 57, 55, 57, 56, 57, 57]⟩) v9) fun v15 =>
bindP (pIndexL 1 s0 v11) fun v16 =>
bindW (st 1 v16 v14 w.drew) fun w17 =>
bindP (pIndexL 1 s0 v12) fun v19 =>
bindW (st 1 v19 v15 w17) fun w20 =>
bindP (bSub s4 (.int .i64 2)) fun v22 =>
Y0 s0 v22 v10 w20) (
Y0 s0 s4 s12 w)
def F115_4 (s0 s4 s12 : Value) (w : World) (K : V1) : Prop := F115_4b s0 s4 s12 w K (fun a0 a4 a12 w => F115_5 a0 a4 a12 w K)
theorem ok115_4 {K : V1}
    (hn : HN (fun e w => K (.tuple #[]) w) kn) (hr : HR Tryz.prog [] K kr) (he : HE noE ke) :
    ∀ e w, F115_4 (e 0) (e 4) (e 12) w K → denL Tryz.prog (tabOf T115) 167 fuel ((flat (bodyOf Tryz.f115)).drop 5) e w kn kr ke := by
  intro e w h
  unfold F115_4 at h
  have e1 : ∀ (Y0 : V3), F115_4b (e 0) (e 4) (e 12) w K Y0 = denL Tryz.prog (tabOf T115) 167 fuel (((flat (bodyOf Tryz.f115)).drop 5).take 2) e w (fun e w => Y0 (e 0) (e 4) (e 12) w) (endD Tryz.prog [] K) noE := by intro Y0; kernel_rfl
  exact seg 2 (Eq.mp (e1 (fun a0 a4 a12 w => F115_5 a0 a4 a12 w K)) h) (fun e w h => ok115_5 hn hr he e w h) hr he
def F115_3b (s0 s1 s4 : Value) (w : World) (_K : V1) (Y0 : V3) : Prop :=
bindP (cInt .u32 s1) fun v23 =>
bindP (bGe s4 (.int .i64 4)) fun v24 =>
ifB v24 (
bindP (bRem v23 (.int .u32 10000)) fun v25 =>
bindP (bQuo v23 (.int .u32 10000)) fun v26 =>
bindP (bQuo v25 (.int .u32 100)) fun v27 =>
bindP (bMul v27 (.int .u32 2)) fun v28 =>
bindP (bRem v25 (.int .u32 100)) fun v29 =>
bindP (bMul v29 (.int .u32 2)) fun v30 =>
bindP (bSub s4 (.int .i64 1)) fun v31 =>
bindP (bSub s4 (.int .i64 2)) fun v32 =>
bindP (bAdd v30 (.int .u32 1)) fun v33 =>
bindP (pIndexS (.string ⟨#[48, 48, 48, 49, 48, 50, 48, 51, 48, 52, 48, 53, 48, 54, 48, 55, 48, 56, 48, 57, 49, 48, 49, 49, 49, 50, 49, 51, 49, 52, 49, 53, 49, 54, 49, 55, 49, 56, 49, 57, 50, 48, 50, 49, 50, 50, 50, 51, 50, 52, 50, 53, 50, 54, 50, 55, 50, 56, 50, 57, 51, 48, 51, 49, 51, 50, 51, 51, 51, 52, 51, 53, 51, 54, 51, 55, 51, 56, 51, 57, 52, 48, 52, 49, 52, 50, 52, 51, 52, 52, 52, 53, 52, 54, 52, 55, 52, 56, 52, 57, 53, 48, 53, 49, 53, 50, 53, 51, 53, 52, 53, 53, 53, 54, 53, 55, 53, 56, 53, 57, 54, 48, 54, 49, 54, 50, 54, 51, 54, 52, 54, 53, 54, 54, 54, 55, 54, 56, 54, 57, 55, 48, 55, 49, 55, 50, 55, 51, 55, 52, 55, 53, 55, 54, 55, 55, 55, 56, 55, 57, 56, 48, 56, 49, 56, 50, 56, 51, 56, 52, 56, 53, 56, 54, 56, 55, 56, 56, 56, 57, 57, 48, 57, 49, 57, 50, 57, 51, 57, 52, 57, 53, 57, 54, 57, 55, 57, 56, 57, 57]⟩) v33) fun v34 =>
bindP (pIndexS (.string ⟨#[48, 48, 48, 49, 48, 50, 48, 51, 48, 52, 48, 53, 48, 54, 48, 55, 48, 56, 48, 57, 49, 48, 49, 49, 49, 50, 49, 51, 49, 52, 49, 53, 49, 54, 49, 55, 49, 56, 49, 57, 50, 48, 50, 49, 50, 50, 50, 51, 50, 52, 50, 53, 50, 54, 50, 55, 50, 56, 50, 57, 51, 48, 51, 49, 51, 50, 51, 51, 51, 52, 51, 53, 51, 54, 51, 55, 51, 56, 51, 57, 52, 48, 52, 49, 52, 50, 52, 51, 52, 52, 52, 53, 52, 54, 52, 55, 52, 56, 52, 57, 53, 48, 53, 49, 53, 50, 53, 51, 53, 52, 53, 53, 53, 54, 53, 55, 53, 56, 53, 57, 54, 48, 54, 49, 54, 50, 54, 51, 54, 52, 54, 53, 54, 54, 54, 55, 54, 56, 54, 57, 55, 48, 55, 49, 55, 50, 55, 51, 55, 52, 55, 53, 55, 54, 55, 55, 55, 56, 55, 57, 56, 48, 56, 49, 56, 50, 56, 51, 56, 52, 56, 53, 56, 54, 56, 55, 56, 56, 56, 57, 57, 48, 57, 49, 57, 50, 57, 51, 57, 52, 57, 53, 57, 54, 57, 55, 57, 56, 57, 57]⟩) v30) fun v35 =>
bindP (pIndexL 1 s0 v31) fun v36 =>
bindW (st 1 v36 v34 w.drew) fun w37 =>
bindP (pIndexL 1 s0 v32) fun v39 =>
bindW (st 1 v39 v35 w37) fun w40 =>
bindP (bSub s4 (.int .i64 3)) fun v42 =>
bindP (bSub s4 (.int .i64 4)) fun v43 =>
bindP (bAdd v28 (.int .u32 1)) fun v44 =>
bindP (pIndexS (.string ⟨#[48, 48, 48, 49, 48, 50, 48, 51, 48, 52, 48, 53, 48, 54, 48, 55, 48, 56, 48, 57, 49, 48, 49, 49, 49, 50, 49, 51, 49, 52, 49, 53, 49, 54, 49, 55, 49, 56, 49, 57, 50, 48, 50, 49, 50, 50, 50, 51, 50, 52, 50, 53, 50, 54, 50, 55, 50, 56, 50, 57, 51, 48, 51, 49, 51, 50, 51, 51, 51, 52, 51, 53, 51, 54, 51, 55, 51, 56, 51, 57, 52, 48, 52, 49, 52, 50, 52, 51, 52, 52, 52, 53, 52, 54, 52, 55, 52, 56, 52, 57, 53, 48, 53, 49, 53, 50, 53, 51, 53, 52, 53, 53, 53, 54, 53, 55, 53, 56, 53, 57, 54, 48, 54, 49, 54, 50, 54, 51, 54, 52, 54, 53, 54, 54, 54, 55, 54, 56, 54, 57, 55, 48, 55, 49, 55, 50, 55, 51, 55, 52, 55, 53, 55, 54, 55, 55, 55, 56, 55, 57, 56, 48, 56, 49, 56, 50, 56, 51, 56, 52, 56, 53, 56, 54, 56, 55, 56, 56, 56, 57, 57, 48, 57, 49, 57, 50, 57, 51, 57, 52, 57, 53, 57, 54, 57, 55, 57, 56, 57, 57]⟩) v44) fun v45 =>
bindP (pIndexS (.string ⟨#[48, 48, 48, 49, 48, 50, 48, 51, 48, 52, 48, 53, 48, 54, 48, 55, 48, 56, 48, 57, 49, 48, 49, 49, 49, 50, 49, 51, 49, 52, 49, 53, 49, 54, 49, 55, 49, 56, 49, 57, 50, 48, 50, 49, 50, 50, 50, 51, 50, 52, 50, 53, 50, 54, 50, 55, 50, 56, 50, 57, 51, 48, 51, 49, 51, 50, 51, 51, 51, 52, 51, 53, 51, 54, 51, 55, 51, 56, 51, 57, 52, 48, 52, 49, 52, 50, 52, 51, 52, 52, 52, 53, 52, 54, 52, 55, 52, 56, 52, 57, 53, 48, 53, 49, 53, 50, 53, 51, 53, 52, 53, 53, 53, 54, 53, 55, 53, 56, 53, 57, 54, 48, 54, 49, 54, 50, 54, 51, 54, 52, 54, 53, 54, 54, 54, 55, 54, 56, 54, 57, 55, 48, 55, 49, 55, 50, 55, 51, 55, 52, 55, 53, 55, 54, 55, 55, 55, 56, 55, 57, 56, 48, 56, 49, 56, 50, 56, 51, 56, 52, 56, 53, 56, 54, 56, 55, 56, 56, 56, 57, 57, 48, 57, 49, 57, 50, 57, 51, 57, 52, 57, 53, 57, 54, 57, 55, 57, 56, 57, 57]⟩) v28) fun v46 =>
bindP (pIndexL 1 s0 v42) fun v47 =>
bindW (st 1 v47 v45 w40.drew) fun w48 =>
bindP (pIndexL 1 s0 v43) fun v50 =>
bindW (st 1 v50 v46 w48) fun w51 =>
bindP (bSub s4 (.int .i64 4)) fun v53 =>
Y0 s0 v53 v26 w51) (
Y0 s0 s4 v23 w)
def F115_3 (s0 s1 s4 : Value) (w : World) (K : V1) : Prop := F115_3b s0 s1 s4 w K (fun a0 a4 a12 w => F115_4 a0 a4 a12 w K)
theorem ok115_3 {K : V1}
    (hn : HN (fun e w => K (.tuple #[]) w) kn) (hr : HR Tryz.prog [] K kr) (he : HE noE ke) :
    ∀ e w, F115_3 (e 0) (e 1) (e 4) w K → denL Tryz.prog (tabOf T115) 167 fuel ((flat (bodyOf Tryz.f115)).drop 2) e w kn kr ke := by
  intro e w h
  unfold F115_3 at h
  have e1 : ∀ (Y0 : V3), F115_3b (e 0) (e 1) (e 4) w K Y0 = denL Tryz.prog (tabOf T115) 167 fuel (((flat (bodyOf Tryz.f115)).drop 2).take 3) e w (fun e w => Y0 (e 0) (e 4) (e 12) w) (endD Tryz.prog [] K) noE := by intro Y0; kernel_rfl
  exact seg 3 (Eq.mp (e1 (fun a0 a4 a12 w => F115_4 a0 a4 a12 w K)) h) (fun e w h => ok115_4 hn hr he e w h) hr he
def F115_2b (s0 s1 s4 : Value) (w : World) (_K : V1) (Y0 : V3) (Y1 : V3) : Prop :=
bindP (bGe s4 (.int .i64 8)) fun v54 =>
ifB v54 (
bindP (bRem s1 (.int .u64 100000000)) fun v55 =>
bindP (cInt .u32 v55) fun v56 =>
bindP (bQuo s1 (.int .u64 100000000)) fun v57 =>
bindP (bQuo v56 (.int .u32 10000)) fun v58 =>
bindP (bRem v56 (.int .u32 10000)) fun v59 =>
bindP (bQuo v59 (.int .u32 100)) fun v60 =>
bindP (bMul v60 (.int .u32 2)) fun v61 =>
bindP (bRem v59 (.int .u32 100)) fun v62 =>
bindP (bMul v62 (.int .u32 2)) fun v63 =>
bindP (bQuo v58 (.int .u32 100)) fun v64 =>
bindP (bMul v64 (.int .u32 2)) fun v65 =>
bindP (bRem v58 (.int .u32 100)) fun v66 =>
bindP (bMul v66 (.int .u32 2)) fun v67 =>
bindP (bSub s4 (.int .i64 1)) fun v68 =>
bindP (bSub s4 (.int .i64 2)) fun v69 =>
bindP (bAdd v63 (.int .u32 1)) fun v70 =>
bindP (pIndexS (.string ⟨#[48, 48, 48, 49, 48, 50, 48, 51, 48, 52, 48, 53, 48, 54, 48, 55, 48, 56, 48, 57, 49, 48, 49, 49, 49, 50, 49, 51, 49, 52, 49, 53, 49, 54, 49, 55, 49, 56, 49, 57, 50, 48, 50, 49, 50, 50, 50, 51, 50, 52, 50, 53, 50, 54, 50, 55, 50, 56, 50, 57, 51, 48, 51, 49, 51, 50, 51, 51, 51, 52, 51, 53, 51, 54, 51, 55, 51, 56, 51, 57, 52, 48, 52, 49, 52, 50, 52, 51, 52, 52, 52, 53, 52, 54, 52, 55, 52, 56, 52, 57, 53, 48, 53, 49, 53, 50, 53, 51, 53, 52, 53, 53, 53, 54, 53, 55, 53, 56, 53, 57, 54, 48, 54, 49, 54, 50, 54, 51, 54, 52, 54, 53, 54, 54, 54, 55, 54, 56, 54, 57, 55, 48, 55, 49, 55, 50, 55, 51, 55, 52, 55, 53, 55, 54, 55, 55, 55, 56, 55, 57, 56, 48, 56, 49, 56, 50, 56, 51, 56, 52, 56, 53, 56, 54, 56, 55, 56, 56, 56, 57, 57, 48, 57, 49, 57, 50, 57, 51, 57, 52, 57, 53, 57, 54, 57, 55, 57, 56, 57, 57]⟩) v70) fun v71 =>
bindP (pIndexS (.string ⟨#[48, 48, 48, 49, 48, 50, 48, 51, 48, 52, 48, 53, 48, 54, 48, 55, 48, 56, 48, 57, 49, 48, 49, 49, 49, 50, 49, 51, 49, 52, 49, 53, 49, 54, 49, 55, 49, 56, 49, 57, 50, 48, 50, 49, 50, 50, 50, 51, 50, 52, 50, 53, 50, 54, 50, 55, 50, 56, 50, 57, 51, 48, 51, 49, 51, 50, 51, 51, 51, 52, 51, 53, 51, 54, 51, 55, 51, 56, 51, 57, 52, 48, 52, 49, 52, 50, 52, 51, 52, 52, 52, 53, 52, 54, 52, 55, 52, 56, 52, 57, 53, 48, 53, 49, 53, 50, 53, 51, 53, 52, 53, 53, 53, 54, 53, 55, 53, 56, 53, 57, 54, 48, 54, 49, 54, 50, 54, 51, 54, 52, 54, 53, 54, 54, 54, 55, 54, 56, 54, 57, 55, 48, 55, 49, 55, 50, 55, 51, 55, 52, 55, 53, 55, 54, 55, 55, 55, 56, 55, 57, 56, 48, 56, 49, 56, 50, 56, 51, 56, 52, 56, 53, 56, 54, 56, 55, 56, 56, 56, 57, 57, 48, 57, 49, 57, 50, 57, 51, 57, 52, 57, 53, 57, 54, 57, 55, 57, 56, 57, 57]⟩) v63) fun v72 =>
bindP (pIndexL 1 s0 v68) fun v73 =>
bindW (st 1 v73 v71 w.drew) fun w74 =>
bindP (pIndexL 1 s0 v69) fun v76 =>
bindW (st 1 v76 v72 w74) fun w77 =>
bindP (bSub s4 (.int .i64 3)) fun v79 =>
bindP (bSub s4 (.int .i64 4)) fun v80 =>
bindP (bAdd v61 (.int .u32 1)) fun v81 =>
bindP (pIndexS (.string ⟨#[48, 48, 48, 49, 48, 50, 48, 51, 48, 52, 48, 53, 48, 54, 48, 55, 48, 56, 48, 57, 49, 48, 49, 49, 49, 50, 49, 51, 49, 52, 49, 53, 49, 54, 49, 55, 49, 56, 49, 57, 50, 48, 50, 49, 50, 50, 50, 51, 50, 52, 50, 53, 50, 54, 50, 55, 50, 56, 50, 57, 51, 48, 51, 49, 51, 50, 51, 51, 51, 52, 51, 53, 51, 54, 51, 55, 51, 56, 51, 57, 52, 48, 52, 49, 52, 50, 52, 51, 52, 52, 52, 53, 52, 54, 52, 55, 52, 56, 52, 57, 53, 48, 53, 49, 53, 50, 53, 51, 53, 52, 53, 53, 53, 54, 53, 55, 53, 56, 53, 57, 54, 48, 54, 49, 54, 50, 54, 51, 54, 52, 54, 53, 54, 54, 54, 55, 54, 56, 54, 57, 55, 48, 55, 49, 55, 50, 55, 51, 55, 52, 55, 53, 55, 54, 55, 55, 55, 56, 55, 57, 56, 48, 56, 49, 56, 50, 56, 51, 56, 52, 56, 53, 56, 54, 56, 55, 56, 56, 56, 57, 57, 48, 57, 49, 57, 50, 57, 51, 57, 52, 57, 53, 57, 54, 57, 55, 57, 56, 57, 57]⟩) v81) fun v82 =>
bindP (pIndexS (.string ⟨#[48, 48, 48, 49, 48, 50, 48, 51, 48, 52, 48, 53, 48, 54, 48, 55, 48, 56, 48, 57, 49, 48, 49, 49, 49, 50, 49, 51, 49, 52, 49, 53, 49, 54, 49, 55, 49, 56, 49, 57, 50, 48, 50, 49, 50, 50, 50, 51, 50, 52, 50, 53, 50, 54, 50, 55, 50, 56, 50, 57, 51, 48, 51, 49, 51, 50, 51, 51, 51, 52, 51, 53, 51, 54, 51, 55, 51, 56, 51, 57, 52, 48, 52, 49, 52, 50, 52, 51, 52, 52, 52, 53, 52, 54, 52, 55, 52, 56, 52, 57, 53, 48, 53, 49, 53, 50, 53, 51, 53, 52, 53, 53, 53, 54, 53, 55, 53, 56, 53, 57, 54, 48, 54, 49, 54, 50, 54, 51, 54, 52, 54, 53, 54, 54, 54, 55, 54, 56, 54, 57, 55, 48, 55, 49, 55, 50, 55, 51, 55, 52, 55, 53, 55, 54, 55, 55, 55, 56, 55, 57, 56, 48, 56, 49, 56, 50, 56, 51, 56, 52, 56, 53, 56, 54, 56, 55, 56, 56, 56, 57, 57, 48, 57, 49, 57, 50, 57, 51, 57, 52, 57, 53, 57, 54, 57, 55, 57, 56, 57, 57]⟩) v61) fun v83 =>
bindP (pIndexL 1 s0 v79) fun v84 =>
bindW (st 1 v84 v82 w77.drew) fun w85 =>
bindP (pIndexL 1 s0 v80) fun v87 =>
bindW (st 1 v87 v83 w85) fun w88 =>
bindP (bSub s4 (.int .i64 5)) fun v90 =>
bindP (bSub s4 (.int .i64 6)) fun v91 =>
bindP (bAdd v67 (.int .u32 1)) fun v92 =>
bindP (pIndexS (.string ⟨#[48, 48, 48, 49, 48, 50, 48, 51, 48, 52, 48, 53, 48, 54, 48, 55, 48, 56, 48, 57, 49, 48, 49, 49, 49, 50, 49, 51, 49, 52, 49, 53, 49, 54, 49, 55, 49, 56, 49, 57, 50, 48, 50, 49, 50, 50, 50, 51, 50, 52, 50, 53, 50, 54, 50, 55, 50, 56, 50, 57, 51, 48, 51, 49, 51, 50, 51, 51, 51, 52, 51, 53, 51, 54, 51, 55, 51, 56, 51, 57, 52, 48, 52, 49, 52, 50, 52, 51, 52, 52, 52, 53, 52, 54, 52, 55, 52, 56, 52, 57, 53, 48, 53, 49, 53, 50, 53, 51, 53, 52, 53, 53, 53, 54, 53, 55, 53, 56, 53, 57, 54, 48, 54, 49, 54, 50, 54, 51, 54, 52, 54, 53, 54, 54, 54, 55, 54, 56, 54, 57, 55, 48, 55, 49, 55, 50, 55, 51, 55, 52, 55, 53, 55, 54, 55, 55, 55, 56, 55, 57, 56, 48, 56, 49, 56, 50, 56, 51, 56, 52, 56, 53, 56, 54, 56, 55, 56, 56, 56, 57, 57, 48, 57, 49, 57, 50, 57, 51, 57, 52, 57, 53, 57, 54, 57, 55, 57, 56, 57, 57]⟩) v92) fun v93 =>
bindP (pIndexS (.string ⟨#[48, 48, 48, 49, 48, 50, 48, 51, 48, 52, 48, 53, 48, 54, 48, 55, 48, 56, 48, 57, 49, 48, 49, 49, 49, 50, 49, 51, 49, 52, 49, 53, 49, 54, 49, 55, 49, 56, 49, 57, 50, 48, 50, 49, 50, 50, 50, 51, 50, 52, 50, 53, 50, 54, 50, 55, 50, 56, 50, 57, 51, 48, 51, 49, 51, 50, 51, 51, 51, 52, 51, 53, 51, 54, 51, 55, 51, 56, 51, 57, 52, 48, 52, 49, 52, 50, 52, 51, 52, 52, 52, 53, 52, 54, 52, 55, 52, 56, 52, 57, 53, 48, 53, 49, 53, 50, 53, 51, 53, 52, 53, 53, 53, 54, 53, 55, 53, 56, 53, 57, 54, 48, 54, 49, 54, 50, 54, 51, 54, 52, 54, 53, 54, 54, 54, 55, 54, 56, 54, 57, 55, 48, 55, 49, 55, 50, 55, 51, 55, 52, 55, 53, 55, 54, 55, 55, 55, 56, 55, 57, 56, 48, 56, 49, 56, 50, 56, 51, 56, 52, 56, 53, 56, 54, 56, 55, 56, 56, 56, 57, 57, 48, 57, 49, 57, 50, 57, 51, 57, 52, 57, 53, 57, 54, 57, 55, 57, 56, 57, 57]⟩) v67) fun v94 =>
bindP (pIndexL 1 s0 v90) fun v95 =>
bindW (st 1 v95 v93 w88.drew) fun w96 =>
bindP (pIndexL 1 s0 v91) fun v98 =>
bindW (st 1 v98 v94 w96) fun w99 =>
bindP (bSub s4 (.int .i64 7)) fun v101 =>
bindP (bSub s4 (.int .i64 8)) fun v102 =>
bindP (bAdd v65 (.int .u32 1)) fun v103 =>
bindP (pIndexS (.string ⟨#[48, 48, 48, 49, 48, 50, 48, 51, 48, 52, 48, 53, 48, 54, 48, 55, 48, 56, 48, 57, 49, 48, 49, 49, 49, 50, 49, 51, 49, 52, 49, 53, 49, 54, 49, 55, 49, 56, 49, 57, 50, 48, 50, 49, 50, 50, 50, 51, 50, 52, 50, 53, 50, 54, 50, 55, 50, 56, 50, 57, 51, 48, 51, 49, 51, 50, 51, 51, 51, 52, 51, 53, 51, 54, 51, 55, 51, 56, 51, 57, 52, 48, 52, 49, 52, 50, 52, 51, 52, 52, 52, 53, 52, 54, 52, 55, 52, 56, 52, 57, 53, 48, 53, 49, 53, 50, 53, 51, 53, 52, 53, 53, 53, 54, 53, 55, 53, 56, 53, 57, 54, 48, 54, 49, 54, 50, 54, 51, 54, 52, 54, 53, 54, 54, 54, 55, 54, 56, 54, 57, 55, 48, 55, 49, 55, 50, 55, 51, 55, 52, 55, 53, 55, 54, 55, 55, 55, 56, 55, 57, 56, 48, 56, 49, 56, 50, 56, 51, 56, 52, 56, 53, 56, 54, 56, 55, 56, 56, 56, 57, 57, 48, 57, 49, 57, 50, 57, 51, 57, 52, 57, 53, 57, 54, 57, 55, 57, 56, 57, 57]⟩) v103) fun v104 =>
bindP (pIndexS (.string ⟨#[48, 48, 48, 49, 48, 50, 48, 51, 48, 52, 48, 53, 48, 54, 48, 55, 48, 56, 48, 57, 49, 48, 49, 49, 49, 50, 49, 51, 49, 52, 49, 53, 49, 54, 49, 55, 49, 56, 49, 57, 50, 48, 50, 49, 50, 50, 50, 51, 50, 52, 50, 53, 50, 54, 50, 55, 50, 56, 50, 57, 51, 48, 51, 49, 51, 50, 51, 51, 51, 52, 51, 53, 51, 54, 51, 55, 51, 56, 51, 57, 52, 48, 52, 49, 52, 50, 52, 51, 52, 52, 52, 53, 52, 54, 52, 55, 52, 56, 52, 57, 53, 48, 53, 49, 53, 50, 53, 51, 53, 52, 53, 53, 53, 54, 53, 55, 53, 56, 53, 57, 54, 48, 54, 49, 54, 50, 54, 51, 54, 52, 54, 53, 54, 54, 54, 55, 54, 56, 54, 57, 55, 48, 55, 49, 55, 50, 55, 51, 55, 52, 55, 53, 55, 54, 55, 55, 55, 56, 55, 57, 56, 48, 56, 49, 56, 50, 56, 51, 56, 52, 56, 53, 56, 54, 56, 55, 56, 56, 56, 57, 57, 48, 57, 49, 57, 50, 57, 51, 57, 52, 57, 53, 57, 54, 57, 55, 57, 56, 57, 57]⟩) v65) fun v105 =>
bindP (pIndexL 1 s0 v101) fun v106 =>
bindW (st 1 v106 v104 w99.drew) fun w107 =>
bindP (pIndexL 1 s0 v102) fun v109 =>
bindW (st 1 v109 v105 w107) fun w110 =>
bindP (bSub s4 (.int .i64 8)) fun v112 =>
Y0 s0 v57 v112 w110) (
Y1 s0 s1 s4 w)
def F115_2L : Nat → Value → Value → Value → World → (V1) → Prop
  | 0, _, _, _, _, _ => False
  | n + 1, s0, s1, s4, w, K => F115_2b s0 s1 s4 w K (fun a0 a1 a4 w => F115_2L n a0 a1 a4 w K) (fun a0 a1 a4 w => F115_3 a0 a1 a4 w K)
def F115_2 (s0 s1 s4 : Value) (w : World) (K : V1) : Prop := F115_2L fuel s0 s1 s4 w K
theorem ok115_2 {K : V1}
    (hn : HN (fun e w => K (.tuple #[]) w) kn) (hr : HR Tryz.prog [] K kr) (he : HE noE ke) :
    ∀ e w, F115_2 (e 0) (e 1) (e 4) w K → denL Tryz.prog (tabOf T115) 167 fuel ((flat (bodyOf Tryz.f115)).drop 1) e w kn kr ke := by
  intro e w h
  unfold F115_2 at h
  refine seg_loop (id := 0) (body := (loopB (blkB (nthC (flat (bodyOf Tryz.f115)) 1)))) (l2 := (flat (bodyOf Tryz.f115)).drop 2) (by kernel_rfl) ?_
  refine loop_ok (FL := fun m e w => F115_2L m (e 0) (e 1) (e 4) w K) (fr := endD Tryz.prog [] K) (fe := (blkK 0 (fun e w => F115_3 (e 0) (e 1) (e 4) w K) noE)) (fun _ _ h => h) ?_ hr (blkK_mono (fun e w h => ok115_3 hn hr he e w h) he) fuel e w h
  intro m e w h
  have h : F115_2L (m + 1) (e 0) (e 1) (e 4) w K := h
  rw [F115_2L] at h
  have e1 : ∀ (Y0 : V3) (Y1 : V3), F115_2b (e 0) (e 1) (e 4) w K Y0 Y1 = denL Tryz.prog (tabOf T115) 167 fuel (flat (loopB (blkB (nthC (flat (bodyOf Tryz.f115)) 1)))) e w (fun e w => Y0 (e 0) (e 1) (e 4) w) (endD Tryz.prog [] K) (blkK 0 (fun e w => Y1 (e 0) (e 1) (e 4) w) noE) := by intro Y0 Y1; kernel_rfl
  exact Eq.mp (e1 (fun a0 a1 a4 w => F115_2L m a0 a1 a4 w K) (fun a0 a1 a4 w => F115_3 a0 a1 a4 w K)) h
def F115_1b (s0 s1 : Value) (w : World) (_K : V1) (Y0 : V3) : Prop :=
bindP (lenL s0) fun v113 =>
Y0 s0 s1 v113 w
def F115_1 (s0 s1 : Value) (w : World) (K : V1) : Prop := F115_1b s0 s1 w K (fun a0 a1 a4 w => F115_2 a0 a1 a4 w K)
theorem ok115_1 {K : V1}
    (hn : HN (fun e w => K (.tuple #[]) w) kn) (hr : HR Tryz.prog [] K kr) (he : HE noE ke) :
    ∀ e w, F115_1 (e 0) (e 1) w K → denL Tryz.prog (tabOf T115) 167 fuel ((flat (bodyOf Tryz.f115)).drop 0) e w kn kr ke := by
  intro e w h
  unfold F115_1 at h
  have e1 : ∀ (Y0 : V3), F115_1b (e 0) (e 1) w K Y0 = denL Tryz.prog (tabOf T115) 167 fuel (((flat (bodyOf Tryz.f115)).drop 0).take 1) e w (fun e w => Y0 (e 0) (e 1) (e 4) w) (endD Tryz.prog [] K) noE := by intro Y0; kernel_rfl
  exact seg 1 (Eq.mp (e1 (fun a0 a1 a4 w => F115_2 a0 a1 a4 w K)) h) (fun e w h => ok115_2 hn hr he e w h) hr he
def F115 (x0 x1 : Value) (w : World) (K : V1) : Prop := F115_1 x0 x1 w K
def G115 : FnT := fun args w K => on2 (fun x0 x1 => F115 x0 x1 w K) args
theorem ok115 : OkF Tryz.prog 115 G115 := by
  refine okF_of (tab_ok (l := T115) trivial) mixed (n := fuel) Tryz.func115 Tryz.call115 fun args w K h => ?_
  obtain ⟨x0, x1, rfl, hh⟩ := of_on2 h
  unfold F115 at hh
  exact fnD_list (c := bodyOf Tryz.f115) (by kernel_rfl) (by kernel_rfl) (ok115_1 (fun _ _ h => h) (fun _ _ h => h) (fun _ _ _ h => h) (initE [x0, x1]) w hh)
def T144 : List (Nat × FnT) := []
def F144 (x0 : Value) (w : World) (K : V1) : Prop :=
bindP (bSub x0 (.int .i64 1)) fun v1 =>
bindP (bBit .and x0 v1) fun v2 =>
bindP (bEq Tryz.prog 3 (.tmp 6) (.const (.int .i64 0)) v2 (.int .i64 0)) fun v3 =>
K v3 w
def G144 : FnT := fun args w K => on1 (fun x0 => F144 x0 w K) args
theorem c144 {x0 : Value} {w : World} {K : V1} (h : F144 x0 w K) : callP G144 [x0] w K := callP_intro (on1_mk (p := fun x0 => F144 x0 w K) h)
theorem ok144 : OkF Tryz.prog 144 G144 := by
  refine okF_of (tab_ok (l := T144) trivial) mixed (n := fuel) Tryz.func144 Tryz.call144 fun args w K h => ?_
  obtain ⟨x0, rfl, hh⟩ := of_on1 h
  exact fnD_list (c := bodyOf Tryz.f144) (by kernel_rfl) (by kernel_rfl) (Eq.mp (by kernel_rfl) hh)
def T158 : List (Nat × FnT) := []
def F158 (x0 : Value) (w : World) (K : V1) : Prop :=
bindP (bEq Tryz.prog 114 (.tmp 3) (.const (.int .u32 0)) x0 (.int .u32 0)) fun v1 =>
ifB v1 (
K (.int .i64 32) w) (
bindP (uNeg x0) fun v2 =>
bindP (bBit .and x0 v2) fun v3 =>
bindP (bMul v3 (.int .u32 125613361)) fun v4 =>
bindP (bShr v4 (.int .u64 27)) fun v5 =>
bindP (pIndexP 32 1 (.pointer (some ⟨5, 0, none⟩)) v5) fun v6 =>
bindP (ld1 v6 w) fun v7 =>
bindP (cInt .i64 v7) fun v8 =>
K v8 w)
def G158 : FnT := fun args w K => on1 (fun x0 => F158 x0 w K) args
theorem ok158 : OkF Tryz.prog 158 G158 := by
  refine okF_of (tab_ok (l := T158) trivial) mixed (n := fuel) Tryz.func158 Tryz.call158 fun args w K h => ?_
  obtain ⟨x0, rfl, hh⟩ := of_on1 h
  exact fnD_list (c := bodyOf Tryz.f158) (by kernel_rfl) (by kernel_rfl) (Eq.mp (by kernel_rfl) hh)
def T159 : List (Nat × FnT) := []
def F159 (x0 : Value) (w : World) (K : V1) : Prop :=
bindP (bEq Tryz.prog 85 (.tmp 3) (.const (.int .u64 0)) x0 (.int .u64 0)) fun v1 =>
ifB v1 (
K (.int .i64 64) w) (
bindP (uNeg x0) fun v2 =>
bindP (bBit .and x0 v2) fun v3 =>
bindP (bMul v3 (.int .u64 285870213051353865)) fun v4 =>
bindP (bShr v4 (.int .u64 58)) fun v5 =>
bindP (pIndexP 64 1 (.pointer (some ⟨6, 0, none⟩)) v5) fun v6 =>
bindP (ld1 v6 w) fun v7 =>
bindP (cInt .i64 v7) fun v8 =>
K v8 w)
def G159 : FnT := fun args w K => on1 (fun x0 => F159 x0 w K) args
theorem c159 {x0 : Value} {w : World} {K : V1} (h : F159 x0 w K) : callP G159 [x0] w K := callP_intro (on1_mk (p := fun x0 => F159 x0 w K) h)
theorem ok159 : OkF Tryz.prog 159 G159 := by
  refine okF_of (tab_ok (l := T159) trivial) mixed (n := fuel) Tryz.func159 Tryz.call159 fun args w K h => ?_
  obtain ⟨x0, rfl, hh⟩ := of_on1 h
  exact fnD_list (c := bodyOf Tryz.f159) (by kernel_rfl) (by kernel_rfl) (Eq.mp (by kernel_rfl) hh)
def T145 : List (Nat × FnT) := [(158, G158), (159, G159)]
def F145 (x0 : Value) (w : World) (K : V1) : Prop :=
ifB (.bool false) (
bindP (cInt .u32 x0) fun v1 =>
callP G158 [v1] w fun v3 w2 =>
K v3 w2) (
callP G159 [x0] w fun v5 w4 =>
K v5 w4)
def G145 : FnT := fun args w K => on1 (fun x0 => F145 x0 w K) args
theorem c145 {x0 : Value} {w : World} {K : V1} (h : F145 x0 w K) : callP G145 [x0] w K := callP_intro (on1_mk (p := fun x0 => F145 x0 w K) h)
theorem ok145 : OkF Tryz.prog 145 G145 := by
  refine okF_of (tab_ok (l := T145) ⟨ok158, ok159, trivial⟩) mixed (n := fuel) Tryz.func145 Tryz.call145 fun args w K h => ?_
  obtain ⟨x0, rfl, hh⟩ := of_on1 h
  exact fnD_list (c := bodyOf Tryz.f145) (by kernel_rfl) (by kernel_rfl) (Eq.mp (by kernel_rfl) hh)
def T116 : List (Nat × FnT) := [(144, G144), (145, G145)]
def F116_6b (s0 s4 s10 s11 s12 s13 : Value) (w : World) (K : V1) : Prop :=
ifB s4 (
bindP (pSliceA 65 1 s12 (some s13) none none) fun v1 =>
eAppend Tryz.prog 86 86 s0 v1 w fun v3 w2 =>
K (.tuple #[v3, s11]) w2) (
bindP (pSliceA 65 1 s12 (some s13) none none) fun v4 =>
bindP (cBytes v4 w) fun v5 =>
K (.tuple #[s10, v5]) w)
def F116_6 (s0 s4 s10 s11 s12 s13 : Value) (w : World) (K : V1) : Prop := F116_6b s0 s4 s10 s11 s12 s13 w K
theorem ok116_6 {K : V1}
    (hn : HN (fun e w => K (.tuple #[(e 10), (e 11)]) w) kn) (hr : HR Tryz.prog [.tmp 10, .tmp 11] K kr) (he : HE noE ke) :
    ∀ e w, F116_6 (e 0) (e 4) (e 10) (e 11) (e 12) (e 13) w K → denL Tryz.prog (tabOf T116) 102 fuel ((flat (bodyOf Tryz.f116)).drop 11) e w kn kr ke := by
  intro e w h
  unfold F116_6 at h
  have e1 : ∀ (_ : Unit), F116_6b (e 0) (e 4) (e 10) (e 11) (e 12) (e 13) w K = denL Tryz.prog (tabOf T116) 102 fuel ((flat (bodyOf Tryz.f116)).drop 11) e w (fun e w => K (.tuple #[(e 10), (e 11)]) w) (endD Tryz.prog [.tmp 10, .tmp 11] K) noE := by intro _; kernel_rfl
  exact seg_end (Eq.mp (e1 ()) h) hn hr he
def F116_5b (s0 s3 s4 s10 s11 s12 s13 : Value) (w : World) (_K : V1) (Y0 : V6) : Prop :=
ifB s3 (
bindP (bSub s13 (.int .i64 1)) fun v6 =>
bindP (pIndexP 65 1 s12 v6) fun v7 =>
bindW (st 1 v7 (.int .u8 45) w) fun w8 =>
Y0 s0 s4 s10 s11 s12 v6 w8) (
Y0 s0 s4 s10 s11 s12 s13 w)
def F116_5 (s0 s3 s4 s10 s11 s12 s13 : Value) (w : World) (K : V1) : Prop := F116_5b s0 s3 s4 s10 s11 s12 s13 w K (fun a0 a4 a10 a11 a12 a13 w => F116_6 a0 a4 a10 a11 a12 a13 w K)
theorem ok116_5 {K : V1}
    (hn : HN (fun e w => K (.tuple #[(e 10), (e 11)]) w) kn) (hr : HR Tryz.prog [.tmp 10, .tmp 11] K kr) (he : HE noE ke) :
    ∀ e w, F116_5 (e 0) (e 3) (e 4) (e 10) (e 11) (e 12) (e 13) w K → denL Tryz.prog (tabOf T116) 102 fuel ((flat (bodyOf Tryz.f116)).drop 9) e w kn kr ke := by
  intro e w h
  unfold F116_5 at h
  have e1 : ∀ (Y0 : V6), F116_5b (e 0) (e 3) (e 4) (e 10) (e 11) (e 12) (e 13) w K Y0 = denL Tryz.prog (tabOf T116) 102 fuel (((flat (bodyOf Tryz.f116)).drop 9).take 2) e w (fun e w => Y0 (e 0) (e 4) (e 10) (e 11) (e 12) (e 13) w) (endD Tryz.prog [.tmp 10, .tmp 11] K) noE := by intro Y0; kernel_rfl
  exact seg 2 (Eq.mp (e1 (fun a0 a4 a10 a11 a12 a13 w => F116_6 a0 a4 a10 a11 a12 a13 w K)) h) (fun e w h => ok116_6 hn hr he e w h) hr he
def F116_9b (s0 s1 s3 s4 s10 s11 s12 s13 : Value) (w : World) (_K : V1) (Y0 : V7) : Prop :=
bindP (bSub s13 (.int .i64 1)) fun v10 =>
bindP (pIndexS (.string ⟨#[48, 49, 50, 51, 52, 53, 54, 55, 56, 57, 97, 98, 99, 100, 101, 102, 103, 104, 105, 106, 107, 108, 109, 110, 111, 112, 113, 114, 115, 116, 117, 118, 119, 120, 121, 122]⟩) s1) fun v11 =>
bindP (pIndexP 65 1 s12 v10) fun v12 =>
bindW (st 1 v12 v11 w) fun w13 =>
Y0 s0 s3 s4 s10 s11 s12 v10 w13
def F116_9 (s0 s1 s3 s4 s10 s11 s12 s13 : Value) (w : World) (K : V1) : Prop := F116_9b s0 s1 s3 s4 s10 s11 s12 s13 w K (fun a0 a3 a4 a10 a11 a12 a13 w => F116_5 a0 a3 a4 a10 a11 a12 a13 w K)
theorem ok116_9 {K : V1}
    (hn : HN (fun e w => F116_5 (e 0) (e 3) (e 4) (e 10) (e 11) (e 12) (e 13) w K) kn) (hr : HR Tryz.prog [.tmp 10, .tmp 11] K kr) (he : HE noE ke) :
    ∀ e w, F116_9 (e 0) (e 1) (e 3) (e 4) (e 10) (e 11) (e 12) (e 13) w K → denL Tryz.prog (tabOf T116) 102 fuel ((flat (thenC (nthC (flat (bodyOf Tryz.f116)) 8))).drop 4) e w kn kr ke := by
  intro e w h
  unfold F116_9 at h
  have e1 : ∀ (Y0 : V7), F116_9b (e 0) (e 1) (e 3) (e 4) (e 10) (e 11) (e 12) (e 13) w K Y0 = denL Tryz.prog (tabOf T116) 102 fuel ((flat (thenC (nthC (flat (bodyOf Tryz.f116)) 8))).drop 4) e w (fun e w => Y0 (e 0) (e 3) (e 4) (e 10) (e 11) (e 12) (e 13) w) (endD Tryz.prog [.tmp 10, .tmp 11] K) noE := by intro Y0; kernel_rfl
  exact seg_end (Eq.mp (e1 (fun a0 a3 a4 a10 a11 a12 a13 w => F116_5 a0 a3 a4 a10 a11 a12 a13 w K)) h) hn hr he
def F116_8b (s0 s1 s3 s4 s10 s11 s12 s13 s14 s15 s16 : Value) (w : World) (_K : V1) (Y0 : V11) (Y1 : V8) : Prop :=
bindP (bGe s1 s15) fun v15 =>
ifB v15 (
bindP (bSub s13 (.int .i64 1)) fun v16 =>
bindP (bBit .and s1 s16) fun v17 =>
bindP (pIndexS (.string ⟨#[48, 49, 50, 51, 52, 53, 54, 55, 56, 57, 97, 98, 99, 100, 101, 102, 103, 104, 105, 106, 107, 108, 109, 110, 111, 112, 113, 114, 115, 116, 117, 118, 119, 120, 121, 122]⟩) v17) fun v18 =>
bindP (pIndexP 65 1 s12 v16) fun v19 =>
bindW (st 1 v19 v18 w) fun w20 =>
bindP (bShr s1 s14) fun v22 =>
Y0 s0 v22 s3 s4 s10 s11 s12 v16 s14 s15 s16 w20) (
Y1 s0 s1 s3 s4 s10 s11 s12 s13 w)
def F116_8L : Nat → Value → Value → Value → Value → Value → Value → Value → Value → Value → Value → Value → World → (V1) → Prop
  | 0, _, _, _, _, _, _, _, _, _, _, _, _, _ => False
  | n + 1, s0, s1, s3, s4, s10, s11, s12, s13, s14, s15, s16, w, K => F116_8b s0 s1 s3 s4 s10 s11 s12 s13 s14 s15 s16 w K (fun a0 a1 a3 a4 a10 a11 a12 a13 a14 a15 a16 w => F116_8L n a0 a1 a3 a4 a10 a11 a12 a13 a14 a15 a16 w K) (fun a0 a1 a3 a4 a10 a11 a12 a13 w => F116_9 a0 a1 a3 a4 a10 a11 a12 a13 w K)
def F116_8 (s0 s1 s3 s4 s10 s11 s12 s13 s14 s15 s16 : Value) (w : World) (K : V1) : Prop := F116_8L fuel s0 s1 s3 s4 s10 s11 s12 s13 s14 s15 s16 w K
theorem ok116_8 {K : V1}
    (hn : HN (fun e w => F116_5 (e 0) (e 3) (e 4) (e 10) (e 11) (e 12) (e 13) w K) kn) (hr : HR Tryz.prog [.tmp 10, .tmp 11] K kr) (he : HE noE ke) :
    ∀ e w, F116_8 (e 0) (e 1) (e 3) (e 4) (e 10) (e 11) (e 12) (e 13) (e 14) (e 15) (e 16) w K → denL Tryz.prog (tabOf T116) 102 fuel ((flat (thenC (nthC (flat (bodyOf Tryz.f116)) 8))).drop 3) e w kn kr ke := by
  intro e w h
  unfold F116_8 at h
  refine seg_loop (id := 0) (body := (loopB (blkB (nthC (flat (thenC (nthC (flat (bodyOf Tryz.f116)) 8))) 3)))) (l2 := (flat (thenC (nthC (flat (bodyOf Tryz.f116)) 8))).drop 4) (by kernel_rfl) ?_
  refine loop_ok (FL := fun m e w => F116_8L m (e 0) (e 1) (e 3) (e 4) (e 10) (e 11) (e 12) (e 13) (e 14) (e 15) (e 16) w K) (fr := endD Tryz.prog [.tmp 10, .tmp 11] K) (fe := (blkK 0 (fun e w => F116_9 (e 0) (e 1) (e 3) (e 4) (e 10) (e 11) (e 12) (e 13) w K) noE)) (fun _ _ h => h) ?_ hr (blkK_mono (fun e w h => ok116_9 hn hr he e w h) he) fuel e w h
  intro m e w h
  have h : F116_8L (m + 1) (e 0) (e 1) (e 3) (e 4) (e 10) (e 11) (e 12) (e 13) (e 14) (e 15) (e 16) w K := h
  rw [F116_8L] at h
  have e1 : ∀ (Y0 : V11) (Y1 : V8), F116_8b (e 0) (e 1) (e 3) (e 4) (e 10) (e 11) (e 12) (e 13) (e 14) (e 15) (e 16) w K Y0 Y1 = denL Tryz.prog (tabOf T116) 102 fuel (flat (loopB (blkB (nthC (flat (thenC (nthC (flat (bodyOf Tryz.f116)) 8))) 3)))) e w (fun e w => Y0 (e 0) (e 1) (e 3) (e 4) (e 10) (e 11) (e 12) (e 13) (e 14) (e 15) (e 16) w) (endD Tryz.prog [.tmp 10, .tmp 11] K) (blkK 0 (fun e w => Y1 (e 0) (e 1) (e 3) (e 4) (e 10) (e 11) (e 12) (e 13) w) noE) := by intro Y0 Y1; kernel_rfl
  exact Eq.mp (e1 (fun a0 a1 a3 a4 a10 a11 a12 a13 a14 a15 a16 w => F116_8L m a0 a1 a3 a4 a10 a11 a12 a13 a14 a15 a16 w K) (fun a0 a1 a3 a4 a10 a11 a12 a13 w => F116_9 a0 a1 a3 a4 a10 a11 a12 a13 w K)) h
def F116_7b (s0 s1 s2 s3 s4 s10 s11 s12 s13 : Value) (w : World) (_K : V1) (Y0 : V11) : Prop :=
bindP (cInt .u64 s2) fun v23 =>
callP G145 [v23] w fun v25 w24 =>
bindP (cInt .u64 v25) fun v26 =>
bindP (cInt .u64 s2) fun v27 =>
bindP (cInt .u64 s2) fun v28 =>
bindP (bSub v28 (.int .u64 1)) fun v29 =>
Y0 s0 s1 s3 s4 s10 s11 s12 s13 v26 v27 v29 w24
def F116_7 (s0 s1 s2 s3 s4 s10 s11 s12 s13 : Value) (w : World) (K : V1) : Prop := F116_7b s0 s1 s2 s3 s4 s10 s11 s12 s13 w K (fun a0 a1 a3 a4 a10 a11 a12 a13 a14 a15 a16 w => F116_8 a0 a1 a3 a4 a10 a11 a12 a13 a14 a15 a16 w K)
theorem ok116_7 {K : V1}
    (hn : HN (fun e w => F116_5 (e 0) (e 3) (e 4) (e 10) (e 11) (e 12) (e 13) w K) kn) (hr : HR Tryz.prog [.tmp 10, .tmp 11] K kr) (he : HE noE ke) :
    ∀ e w, F116_7 (e 0) (e 1) (e 2) (e 3) (e 4) (e 10) (e 11) (e 12) (e 13) w K → denL Tryz.prog (tabOf T116) 102 fuel ((flat (thenC (nthC (flat (bodyOf Tryz.f116)) 8))).drop 0) e w kn kr ke := by
  intro e w h
  unfold F116_7 at h
  have e1 : ∀ (Y0 : V11), F116_7b (e 0) (e 1) (e 2) (e 3) (e 4) (e 10) (e 11) (e 12) (e 13) w K Y0 = denL Tryz.prog (tabOf T116) 102 fuel (((flat (thenC (nthC (flat (bodyOf Tryz.f116)) 8))).drop 0).take 3) e w (fun e w => Y0 (e 0) (e 1) (e 3) (e 4) (e 10) (e 11) (e 12) (e 13) (e 14) (e 15) (e 16) w) (endD Tryz.prog [.tmp 10, .tmp 11] K) noE := by intro Y0; kernel_rfl
  exact seg 3 (Eq.mp (e1 (fun a0 a1 a3 a4 a10 a11 a12 a13 a14 a15 a16 w => F116_8 a0 a1 a3 a4 a10 a11 a12 a13 a14 a15 a16 w K)) h) (fun e w h => ok116_8 hn hr he e w h) hr he
def F116_12b (s0 s1 s3 s4 s10 s11 s12 s13 : Value) (w : World) (_K : V1) (Y0 : V7) : Prop :=
bindP (bSub s13 (.int .i64 1)) fun v30 =>
bindP (pIndexS (.string ⟨#[48, 49, 50, 51, 52, 53, 54, 55, 56, 57, 97, 98, 99, 100, 101, 102, 103, 104, 105, 106, 107, 108, 109, 110, 111, 112, 113, 114, 115, 116, 117, 118, 119, 120, 121, 122]⟩) s1) fun v31 =>
bindP (pIndexP 65 1 s12 v30) fun v32 =>
bindW (st 1 v32 v31 w) fun w33 =>
Y0 s0 s3 s4 s10 s11 s12 v30 w33
def F116_12 (s0 s1 s3 s4 s10 s11 s12 s13 : Value) (w : World) (K : V1) : Prop := F116_12b s0 s1 s3 s4 s10 s11 s12 s13 w K (fun a0 a3 a4 a10 a11 a12 a13 w => F116_5 a0 a3 a4 a10 a11 a12 a13 w K)
theorem ok116_12 {K : V1}
    (hn : HN (fun e w => F116_5 (e 0) (e 3) (e 4) (e 10) (e 11) (e 12) (e 13) w K) kn) (hr : HR Tryz.prog [.tmp 10, .tmp 11] K kr) (he : HE noE ke) :
    ∀ e w, F116_12 (e 0) (e 1) (e 3) (e 4) (e 10) (e 11) (e 12) (e 13) w K → denL Tryz.prog (tabOf T116) 102 fuel ((flat (elseC (nthC (flat (bodyOf Tryz.f116)) 8))).drop 2) e w kn kr ke := by
  intro e w h
  unfold F116_12 at h
  have e1 : ∀ (Y0 : V7), F116_12b (e 0) (e 1) (e 3) (e 4) (e 10) (e 11) (e 12) (e 13) w K Y0 = denL Tryz.prog (tabOf T116) 102 fuel ((flat (elseC (nthC (flat (bodyOf Tryz.f116)) 8))).drop 2) e w (fun e w => Y0 (e 0) (e 3) (e 4) (e 10) (e 11) (e 12) (e 13) w) (endD Tryz.prog [.tmp 10, .tmp 11] K) noE := by intro Y0; kernel_rfl
  exact seg_end (Eq.mp (e1 (fun a0 a3 a4 a10 a11 a12 a13 w => F116_5 a0 a3 a4 a10 a11 a12 a13 w K)) h) hn hr he
def F116_11b (s0 s1 s3 s4 s10 s11 s12 s13 s17 : Value) (w : World) (_K : V1) (Y0 : V9) (Y1 : V8) : Prop :=
bindP (bGe s1 s17) fun v35 =>
ifB v35 (
bindP (bSub s13 (.int .i64 1)) fun v36 =>
bindP (bQuo s1 s17) fun v37 =>
bindP (bMul v37 s17) fun v38 =>
bindP (bSub s1 v38) fun v39 =>
bindP (pIndexS (.string ⟨#[48, 49, 50, 51, 52, 53, 54, 55, 56, 57, 97, 98, 99, 100, 101, 102, 103, 104, 105, 106, 107, 108, 109, 110, 111, 112, 113, 114, 115, 116, 117, 118, 119, 120, 121, 122]⟩) v39) fun v40 =>
bindP (pIndexP 65 1 s12 v36) fun v41 =>
bindW (st 1 v41 v40 w) fun w42 =>
Y0 s0 v37 s3 s4 s10 s11 s12 v36 s17 w42) (
Y1 s0 s1 s3 s4 s10 s11 s12 s13 w)
def F116_11L : Nat → Value → Value → Value → Value → Value → Value → Value → Value → Value → World → (V1) → Prop
  | 0, _, _, _, _, _, _, _, _, _, _, _ => False
  | n + 1, s0, s1, s3, s4, s10, s11, s12, s13, s17, w, K => F116_11b s0 s1 s3 s4 s10 s11 s12 s13 s17 w K (fun a0 a1 a3 a4 a10 a11 a12 a13 a17 w => F116_11L n a0 a1 a3 a4 a10 a11 a12 a13 a17 w K) (fun a0 a1 a3 a4 a10 a11 a12 a13 w => F116_12 a0 a1 a3 a4 a10 a11 a12 a13 w K)
def F116_11 (s0 s1 s3 s4 s10 s11 s12 s13 s17 : Value) (w : World) (K : V1) : Prop := F116_11L fuel s0 s1 s3 s4 s10 s11 s12 s13 s17 w K
theorem ok116_11 {K : V1}
    (hn : HN (fun e w => F116_5 (e 0) (e 3) (e 4) (e 10) (e 11) (e 12) (e 13) w K) kn) (hr : HR Tryz.prog [.tmp 10, .tmp 11] K kr) (he : HE noE ke) :
    ∀ e w, F116_11 (e 0) (e 1) (e 3) (e 4) (e 10) (e 11) (e 12) (e 13) (e 17) w K → denL Tryz.prog (tabOf T116) 102 fuel ((flat (elseC (nthC (flat (bodyOf Tryz.f116)) 8))).drop 1) e w kn kr ke := by
  intro e w h
  unfold F116_11 at h
  refine seg_loop (id := 2) (body := (loopB (blkB (nthC (flat (elseC (nthC (flat (bodyOf Tryz.f116)) 8))) 1)))) (l2 := (flat (elseC (nthC (flat (bodyOf Tryz.f116)) 8))).drop 2) (by kernel_rfl) ?_
  refine loop_ok (FL := fun m e w => F116_11L m (e 0) (e 1) (e 3) (e 4) (e 10) (e 11) (e 12) (e 13) (e 17) w K) (fr := endD Tryz.prog [.tmp 10, .tmp 11] K) (fe := (blkK 2 (fun e w => F116_12 (e 0) (e 1) (e 3) (e 4) (e 10) (e 11) (e 12) (e 13) w K) noE)) (fun _ _ h => h) ?_ hr (blkK_mono (fun e w h => ok116_12 hn hr he e w h) he) fuel e w h
  intro m e w h
  have h : F116_11L (m + 1) (e 0) (e 1) (e 3) (e 4) (e 10) (e 11) (e 12) (e 13) (e 17) w K := h
  rw [F116_11L] at h
  have e1 : ∀ (Y0 : V9) (Y1 : V8), F116_11b (e 0) (e 1) (e 3) (e 4) (e 10) (e 11) (e 12) (e 13) (e 17) w K Y0 Y1 = denL Tryz.prog (tabOf T116) 102 fuel (flat (loopB (blkB (nthC (flat (elseC (nthC (flat (bodyOf Tryz.f116)) 8))) 1)))) e w (fun e w => Y0 (e 0) (e 1) (e 3) (e 4) (e 10) (e 11) (e 12) (e 13) (e 17) w) (endD Tryz.prog [.tmp 10, .tmp 11] K) (blkK 2 (fun e w => Y1 (e 0) (e 1) (e 3) (e 4) (e 10) (e 11) (e 12) (e 13) w) noE) := by intro Y0 Y1; kernel_rfl
  exact Eq.mp (e1 (fun a0 a1 a3 a4 a10 a11 a12 a13 a17 w => F116_11L m a0 a1 a3 a4 a10 a11 a12 a13 a17 w K) (fun a0 a1 a3 a4 a10 a11 a12 a13 w => F116_12 a0 a1 a3 a4 a10 a11 a12 a13 w K)) h
def F116_10b (s0 s1 s2 s3 s4 s10 s11 s12 s13 : Value) (w : World) (_K : V1) (Y0 : V9) : Prop :=
bindP (cInt .u64 s2) fun v44 =>
Y0 s0 s1 s3 s4 s10 s11 s12 s13 v44 w
def F116_10 (s0 s1 s2 s3 s4 s10 s11 s12 s13 : Value) (w : World) (K : V1) : Prop := F116_10b s0 s1 s2 s3 s4 s10 s11 s12 s13 w K (fun a0 a1 a3 a4 a10 a11 a12 a13 a17 w => F116_11 a0 a1 a3 a4 a10 a11 a12 a13 a17 w K)
theorem ok116_10 {K : V1}
    (hn : HN (fun e w => F116_5 (e 0) (e 3) (e 4) (e 10) (e 11) (e 12) (e 13) w K) kn) (hr : HR Tryz.prog [.tmp 10, .tmp 11] K kr) (he : HE noE ke) :
    ∀ e w, F116_10 (e 0) (e 1) (e 2) (e 3) (e 4) (e 10) (e 11) (e 12) (e 13) w K → denL Tryz.prog (tabOf T116) 102 fuel ((flat (elseC (nthC (flat (bodyOf Tryz.f116)) 8))).drop 0) e w kn kr ke := by
  intro e w h
  unfold F116_10 at h
  have e1 : ∀ (Y0 : V9), F116_10b (e 0) (e 1) (e 2) (e 3) (e 4) (e 10) (e 11) (e 12) (e 13) w K Y0 = denL Tryz.prog (tabOf T116) 102 fuel (((flat (elseC (nthC (flat (bodyOf Tryz.f116)) 8))).drop 0).take 1) e w (fun e w => Y0 (e 0) (e 1) (e 3) (e 4) (e 10) (e 11) (e 12) (e 13) (e 17) w) (endD Tryz.prog [.tmp 10, .tmp 11] K) noE := by intro Y0; kernel_rfl
  exact seg 1 (Eq.mp (e1 (fun a0 a1 a3 a4 a10 a11 a12 a13 a17 w => F116_11 a0 a1 a3 a4 a10 a11 a12 a13 a17 w K)) h) (fun e w h => ok116_11 hn hr he e w h) hr he
def F116_4 (s0 s1 s2 s3 s4 s10 s11 s12 s13 s34 : Value) (w : World) (K : V1) : Prop := ifB s34 (F116_7 s0 s1 s2 s3 s4 s10 s11 s12 s13 w K) (F116_10 s0 s1 s2 s3 s4 s10 s11 s12 s13 w K)
theorem ok116_4 {K : V1}
    (hn : HN (fun e w => K (.tuple #[(e 10), (e 11)]) w) kn) (hr : HR Tryz.prog [.tmp 10, .tmp 11] K kr) (he : HE noE ke) :
    ∀ e w, F116_4 (e 0) (e 1) (e 2) (e 3) (e 4) (e 10) (e 11) (e 12) (e 13) (e 34) w K → denL Tryz.prog (tabOf T116) 102 fuel ((flat (bodyOf Tryz.f116)).drop 8) e w kn kr ke := by
  intro e w h
  unfold F116_4 at h
  refine seg_cond (c := (.tmp 34)) (a := thenC (nthC (flat (bodyOf Tryz.f116)) 8)) (b := elseC (nthC (flat (bodyOf Tryz.f116)) 8)) (l2 := (flat (bodyOf Tryz.f116)).drop 9) (by kernel_rfl) h (fun h => ?_) (fun h => ?_)
  · exact ok116_7 (fun e w h => ok116_5 hn hr he e w h) hr he e w h
  · exact ok116_10 (fun e w h => ok116_5 hn hr he e w h) hr he e w h
def F116_3b (s0 s1 s2 s3 s4 s10 s11 s12 s13 : Value) (w : World) (_K : V1) (Y0 : V10) : Prop :=
callP G144 [s2] w fun v46 w45 =>
Y0 s0 s1 s2 s3 s4 s10 s11 s12 s13 v46 w45
def F116_3 (s0 s1 s2 s3 s4 s10 s11 s12 s13 : Value) (w : World) (K : V1) : Prop := F116_3b s0 s1 s2 s3 s4 s10 s11 s12 s13 w K (fun a0 a1 a2 a3 a4 a10 a11 a12 a13 a34 w => F116_4 a0 a1 a2 a3 a4 a10 a11 a12 a13 a34 w K)
theorem ok116_3 {K : V1}
    (hn : HN (fun e w => K (.tuple #[(e 10), (e 11)]) w) kn) (hr : HR Tryz.prog [.tmp 10, .tmp 11] K kr) (he : HE noE ke) :
    ∀ e w, F116_3 (e 0) (e 1) (e 2) (e 3) (e 4) (e 10) (e 11) (e 12) (e 13) w K → denL Tryz.prog (tabOf T116) 102 fuel ((flat (bodyOf Tryz.f116)).drop 7) e w kn kr ke := by
  intro e w h
  unfold F116_3 at h
  have e1 : ∀ (Y0 : V10), F116_3b (e 0) (e 1) (e 2) (e 3) (e 4) (e 10) (e 11) (e 12) (e 13) w K Y0 = denL Tryz.prog (tabOf T116) 102 fuel (((flat (bodyOf Tryz.f116)).drop 7).take 1) e w (fun e w => Y0 (e 0) (e 1) (e 2) (e 3) (e 4) (e 10) (e 11) (e 12) (e 13) (e 34) w) (endD Tryz.prog [.tmp 10, .tmp 11] K) noE := by intro Y0; kernel_rfl
  exact seg 1 (Eq.mp (e1 (fun a0 a1 a2 a3 a4 a10 a11 a12 a13 a34 w => F116_4 a0 a1 a2 a3 a4 a10 a11 a12 a13 a34 w K)) h) (fun e w h => ok116_4 hn hr he e w h) hr he
def F116_2b (s0 s1 s2 s3 s4 s10 s11 : Value) (w : World) (_K : V1) (Y0 : V9) : Prop :=
eAlloc Tryz.prog 163 w fun v48 w47 =>
ifB s3 (
bindP (uNeg s1) fun v49 =>
Y0 s0 v49 s2 s3 s4 s10 s11 v48 (.int .i64 65) w47) (
Y0 s0 s1 s2 s3 s4 s10 s11 v48 (.int .i64 65) w47)
def F116_2 (s0 s1 s2 s3 s4 s10 s11 : Value) (w : World) (K : V1) : Prop := F116_2b s0 s1 s2 s3 s4 s10 s11 w K (fun a0 a1 a2 a3 a4 a10 a11 a12 a13 w => F116_3 a0 a1 a2 a3 a4 a10 a11 a12 a13 w K)
theorem ok116_2 {K : V1}
    (hn : HN (fun e w => K (.tuple #[(e 10), (e 11)]) w) kn) (hr : HR Tryz.prog [.tmp 10, .tmp 11] K kr) (he : HE noE ke) :
    ∀ e w, F116_2 (e 0) (e 1) (e 2) (e 3) (e 4) (e 10) (e 11) w K → denL Tryz.prog (tabOf T116) 102 fuel ((flat (bodyOf Tryz.f116)).drop 3) e w kn kr ke := by
  intro e w h
  unfold F116_2 at h
  have e1 : ∀ (Y0 : V9), F116_2b (e 0) (e 1) (e 2) (e 3) (e 4) (e 10) (e 11) w K Y0 = denL Tryz.prog (tabOf T116) 102 fuel (((flat (bodyOf Tryz.f116)).drop 3).take 4) e w (fun e w => Y0 (e 0) (e 1) (e 2) (e 3) (e 4) (e 10) (e 11) (e 12) (e 13) w) (endD Tryz.prog [.tmp 10, .tmp 11] K) noE := by intro Y0; kernel_rfl
  exact seg 4 (Eq.mp (e1 (fun a0 a1 a2 a3 a4 a10 a11 a12 a13 w => F116_3 a0 a1 a2 a3 a4 a10 a11 a12 a13 w K)) h) (fun e w h => ok116_3 hn hr he e w h) hr he
def F116_1b (s0 s1 s2 s3 s4 : Value) (w : World) (_K : V1) (Y0 : V7) : Prop :=
bindP (bLt s2 (.int .i64 2)) fun v50 =>
stepM (gd false v50) s2 fun v51 =>
Sx.stepG (gd false v50) (bEq Tryz.prog 3 (.tmp 22) (.const (.int .i64 10)) v51 (.int .i64 10)) fun v52 =>
bindP (pPick v50 (.bool true) v52) fun v53 =>
stepM (gd false v53) s2 fun v54 =>
Sx.stepG (gd false v53) (bGt v54 (.int .i64 36)) fun v55 =>
bindP (pPick v53 (.bool true) v55) fun v56 =>
ifB v56 (
bindP (fMkI Tryz.prog 9 (.string ⟨#[115, 116, 114, 99, 111, 110, 118, 58, 32, 105, 108, 108, 101, 103, 97, 108, 32, 65, 112, 112, 101, 110, 100, 73, 110, 116, 47, 70, 111, 114, 109, 97, 116, 73, 110, 116, 32, 98, 97, 115, 101]⟩)) fun _ =>
bindP (none) fun _ =>
Y0 s0 s1 s2 s3 s4 (.slice none 0 0) (.string ⟨#[]⟩) w) (
Y0 s0 s1 s2 s3 s4 (.slice none 0 0) (.string ⟨#[]⟩) w)
def F116_1 (s0 s1 s2 s3 s4 : Value) (w : World) (K : V1) : Prop := F116_1b s0 s1 s2 s3 s4 w K (fun a0 a1 a2 a3 a4 a10 a11 w => F116_2 a0 a1 a2 a3 a4 a10 a11 w K)
theorem ok116_1 {K : V1}
    (hn : HN (fun e w => K (.tuple #[(e 10), (e 11)]) w) kn) (hr : HR Tryz.prog [.tmp 10, .tmp 11] K kr) (he : HE noE ke) :
    ∀ e w, F116_1 (e 0) (e 1) (e 2) (e 3) (e 4) w K → denL Tryz.prog (tabOf T116) 102 fuel ((flat (bodyOf Tryz.f116)).drop 0) e w kn kr ke := by
  intro e w h
  unfold F116_1 at h
  have e1 : ∀ (Y0 : V7), F116_1b (e 0) (e 1) (e 2) (e 3) (e 4) w K Y0 = denL Tryz.prog (tabOf T116) 102 fuel (((flat (bodyOf Tryz.f116)).drop 0).take 3) e w (fun e w => Y0 (e 0) (e 1) (e 2) (e 3) (e 4) (e 10) (e 11) w) (endD Tryz.prog [.tmp 10, .tmp 11] K) noE := by intro Y0; kernel_rfl
  exact seg 3 (Eq.mp (e1 (fun a0 a1 a2 a3 a4 a10 a11 w => F116_2 a0 a1 a2 a3 a4 a10 a11 w K)) h) (fun e w h => ok116_2 hn hr he e w h) hr he
def F116 (x0 x1 x2 x3 x4 : Value) (w : World) (K : V1) : Prop := F116_1 x0 x1 x2 x3 x4 w K
def G116 : FnT := fun args w K => on5 (fun x0 x1 x2 x3 x4 => F116 x0 x1 x2 x3 x4 w K) args
theorem c116 {x0 x1 x2 x3 x4 : Value} {w : World} {K : V1} (h : F116 x0 x1 x2 x3 x4 w K) : callP G116 [x0, x1, x2, x3, x4] w K := callP_intro (on5_mk (p := fun x0 x1 x2 x3 x4 => F116 x0 x1 x2 x3 x4 w K) h)
theorem ok116 : OkF Tryz.prog 116 G116 := by
  refine okF_of (tab_ok (l := T116) ⟨ok144, ok145, trivial⟩) mixed (n := fuel) Tryz.func116 Tryz.call116 fun args w K h => ?_
  obtain ⟨x0, x1, x2, x3, x4, rfl, hh⟩ := of_on5 h
  unfold F116 at hh
  exact fnD_list (c := bodyOf Tryz.f116) (by kernel_rfl) (by kernel_rfl) (ok116_1 (fun _ _ h => h) (fun _ _ h => h) (fun _ _ _ h => h) (initE [x0, x1, x2, x3, x4]) w hh)
def T88 : List (Nat × FnT) := [(113, G113), (114, G114), (115, G115), (116, G116)]
def F88_3b (s0 s1 : Value) (w : World) (K : V1) : Prop :=
bindP (cInt .u64 s0) fun v1 =>
bindP (bLt s0 (.int .i64 0)) fun v2 =>
callP G116 [(.slice none 0 0), v1, s1, v2, (.bool false)] w fun v4 w3 =>
bindP (pTuple v4 0) fun _ =>
bindP (pTuple v4 1) fun v6 =>
K v6 w3
def F88_3 (s0 s1 : Value) (w : World) (K : V1) : Prop := F88_3b s0 s1 w K
theorem ok88_3 {K : V1}
    (hn : HN (fun e w => K (e 4) w) kn) (hr : HR Tryz.prog [.tmp 4] K kr) (he : HE noE ke) :
    ∀ e w, F88_3 (e 0) (e 1) w K → denL Tryz.prog (tabOf T88) 54 fuel ((flat (bodyOf Tryz.f88)).drop 3) e w kn kr ke := by
  intro e w h
  unfold F88_3 at h
  have e1 : ∀ (_ : Unit), F88_3b (e 0) (e 1) w K = denL Tryz.prog (tabOf T88) 54 fuel ((flat (bodyOf Tryz.f88)).drop 3) e w (fun e w => K (e 4) w) (endD Tryz.prog [.tmp 4] K) noE := by intro _; kernel_rfl
  exact seg_end (Eq.mp (e1 ()) h) hn hr he
def F88_5b (s0 s5 s6 : Value) (w : World) (K : V1) : Prop :=
callP G114 [s6] w fun v8 w7 =>
bindP (bAdd (.int .i64 1) v8) fun v9 =>
bindP (pSliceA 24 1 s5 (some (.int .i64 1)) (some v9) none) fun v10 =>
callP G115 [v10, s6] w7 fun _ w11 =>
bindP (bLt s0 (.int .i64 0)) fun v13 =>
ifB v13 (
bindP (pIndexP 24 1 s5 (.int .i64 0)) fun v14 =>
bindW (st 1 v14 (.int .u8 45) w11) fun w15 =>
bindP (bAdd (.int .i64 1) v8) fun v17 =>
bindP (pSliceA 24 1 s5 none (some v17) none) fun v18 =>
bindP (cBytes v18 w15) fun v19 =>
K v19 w15) (
bindP (bAdd (.int .i64 1) v8) fun v20 =>
bindP (pSliceA 24 1 s5 (some (.int .i64 1)) (some v20) none) fun v21 =>
bindP (cBytes v21 w11) fun v22 =>
K v22 w11)
def F88_5 (s0 s5 s6 : Value) (w : World) (K : V1) : Prop := F88_5b s0 s5 s6 w K
theorem ok88_5 {K : V1}
    (hn : HN (fun e w => F88_3 (e 0) (e 1) w K) kn) (hr : HR Tryz.prog [.tmp 4] K kr) (he : HE noE ke) :
    ∀ e w, F88_5 (e 0) (e 5) (e 6) w K → denL Tryz.prog (tabOf T88) 54 fuel ((flat (thenC (nthC (flat (bodyOf Tryz.f88)) 2))).drop 6) e w kn kr ke := by
  intro e w h
  unfold F88_5 at h
  have e1 : ∀ (_ : Unit), F88_5b (e 0) (e 5) (e 6) w K = denL Tryz.prog (tabOf T88) 54 fuel ((flat (thenC (nthC (flat (bodyOf Tryz.f88)) 2))).drop 6) e w (fun e w => F88_3 (e 0) (e 1) w K) (endD Tryz.prog [.tmp 4] K) noE := by intro _; kernel_rfl
  exact seg_end (Eq.mp (e1 ()) h) hn hr he
def F88_4b (s0 : Value) (w : World) (K : V1) (Y0 : V3) : Prop :=
bindP (bLe (.int .i64 0) s0) fun v23 =>
stepM (gd true v23) s0 fun v24 =>
Sx.stepG (gd true v23) (bLt v24 (.int .i64 100)) fun v25 =>
bindP (pPick v23 v25 (.bool false)) fun v26 =>
ifB v26 (
callP G113 [s0] w fun v28 w27 =>
K v28 w27) (
eAlloc Tryz.prog 133 w fun v30 w29 =>
bindP (cInt .u64 s0) fun v31 =>
bindP (bLt s0 (.int .i64 0)) fun v32 =>
ifB v32 (
bindP (uNeg v31) fun v33 =>
Y0 s0 v30 v33 w29) (
Y0 s0 v30 v31 w29))
def F88_4 (s0 : Value) (w : World) (K : V1) : Prop := F88_4b s0 w K (fun a0 a5 a6 w => F88_5 a0 a5 a6 w K)
theorem ok88_4 {K : V1}
    (hn : HN (fun e w => F88_3 (e 0) (e 1) w K) kn) (hr : HR Tryz.prog [.tmp 4] K kr) (he : HE noE ke) :
    ∀ e w, F88_4 (e 0) w K → denL Tryz.prog (tabOf T88) 54 fuel ((flat (thenC (nthC (flat (bodyOf Tryz.f88)) 2))).drop 0) e w kn kr ke := by
  intro e w h
  unfold F88_4 at h
  have e1 : ∀ (Y0 : V3), F88_4b (e 0) w K Y0 = denL Tryz.prog (tabOf T88) 54 fuel (((flat (thenC (nthC (flat (bodyOf Tryz.f88)) 2))).drop 0).take 6) e w (fun e w => Y0 (e 0) (e 5) (e 6) w) (endD Tryz.prog [.tmp 4] K) noE := by intro Y0; kernel_rfl
  exact seg 6 (Eq.mp (e1 (fun a0 a5 a6 w => F88_5 a0 a5 a6 w K)) h) (fun e w h => ok88_5 hn hr he e w h) hr he
def F88_6b (s0 s1 : Value) (w : World) (_K : V1) (Y0 : V2) : Prop :=
Y0 s0 s1 w
def F88_6 (s0 s1 : Value) (w : World) (K : V1) : Prop := F88_6b s0 s1 w K (fun a0 a1 w => F88_3 a0 a1 w K)
theorem ok88_6 {K : V1}
    (hn : HN (fun e w => F88_3 (e 0) (e 1) w K) kn) (hr : HR Tryz.prog [.tmp 4] K kr) (he : HE noE ke) :
    ∀ e w, F88_6 (e 0) (e 1) w K → denL Tryz.prog (tabOf T88) 54 fuel ((flat (elseC (nthC (flat (bodyOf Tryz.f88)) 2))).drop 0) e w kn kr ke := by
  intro e w h
  unfold F88_6 at h
  have e1 : ∀ (Y0 : V2), F88_6b (e 0) (e 1) w K Y0 = denL Tryz.prog (tabOf T88) 54 fuel ((flat (elseC (nthC (flat (bodyOf Tryz.f88)) 2))).drop 0) e w (fun e w => Y0 (e 0) (e 1) w) (endD Tryz.prog [.tmp 4] K) noE := by intro Y0; kernel_rfl
  exact seg_end (Eq.mp (e1 (fun a0 a1 w => F88_3 a0 a1 w K)) h) hn hr he
def F88_2 (s0 s1 s11 : Value) (w : World) (K : V1) : Prop := ifB s11 (F88_4 s0 w K) (F88_6 s0 s1 w K)
theorem ok88_2 {K : V1}
    (hn : HN (fun e w => K (e 4) w) kn) (hr : HR Tryz.prog [.tmp 4] K kr) (he : HE noE ke) :
    ∀ e w, F88_2 (e 0) (e 1) (e 11) w K → denL Tryz.prog (tabOf T88) 54 fuel ((flat (bodyOf Tryz.f88)).drop 2) e w kn kr ke := by
  intro e w h
  unfold F88_2 at h
  refine seg_cond (c := (.tmp 11)) (a := thenC (nthC (flat (bodyOf Tryz.f88)) 2)) (b := elseC (nthC (flat (bodyOf Tryz.f88)) 2)) (l2 := (flat (bodyOf Tryz.f88)).drop 3) (by kernel_rfl) h (fun h => ?_) (fun h => ?_)
  · exact ok88_4 (fun e w h => ok88_3 hn hr he e w h) hr he e w h
  · exact ok88_6 (fun e w h => ok88_3 hn hr he e w h) hr he e w h
def F88_1b (s0 s1 : Value) (w : World) (_K : V1) (Y0 : V3) : Prop :=
bindP (bEq Tryz.prog 3 (.tmp 10) (.const (.int .i64 10)) s1 (.int .i64 10)) fun v34 =>
Y0 s0 s1 v34 w
def F88_1 (s0 s1 : Value) (w : World) (K : V1) : Prop := F88_1b s0 s1 w K (fun a0 a1 a11 w => F88_2 a0 a1 a11 w K)
theorem ok88_1 {K : V1}
    (hn : HN (fun e w => K (e 4) w) kn) (hr : HR Tryz.prog [.tmp 4] K kr) (he : HE noE ke) :
    ∀ e w, F88_1 (e 0) (e 1) w K → denL Tryz.prog (tabOf T88) 54 fuel ((flat (bodyOf Tryz.f88)).drop 0) e w kn kr ke := by
  intro e w h
  unfold F88_1 at h
  have e1 : ∀ (Y0 : V3), F88_1b (e 0) (e 1) w K Y0 = denL Tryz.prog (tabOf T88) 54 fuel (((flat (bodyOf Tryz.f88)).drop 0).take 2) e w (fun e w => Y0 (e 0) (e 1) (e 11) w) (endD Tryz.prog [.tmp 4] K) noE := by intro Y0; kernel_rfl
  exact seg 2 (Eq.mp (e1 (fun a0 a1 a11 w => F88_2 a0 a1 a11 w K)) h) (fun e w h => ok88_2 hn hr he e w h) hr he
def F88 (x0 x1 : Value) (w : World) (K : V1) : Prop := F88_1 x0 x1 w K
def G88 : FnT := fun args w K => on2 (fun x0 x1 => F88 x0 x1 w K) args
theorem c88 {x0 x1 : Value} {w : World} {K : V1} (h : F88 x0 x1 w K) : callP G88 [x0, x1] w K := callP_intro (on2_mk (p := fun x0 x1 => F88 x0 x1 w K) h)
theorem ok88 : OkF Tryz.prog 88 G88 := by
  refine okF_of (tab_ok (l := T88) ⟨ok113, ok114, ok115, ok116, trivial⟩) mixed (n := fuel) Tryz.func88 Tryz.call88 fun args w K h => ?_
  obtain ⟨x0, x1, rfl, hh⟩ := of_on2 h
  unfold F88 at hh
  exact fnD_list (c := bodyOf Tryz.f88) (by kernel_rfl) (by kernel_rfl) (ok88_1 (fun _ _ h => h) (fun _ _ h => h) (fun _ _ _ h => h) (initE [x0, x1]) w hh)
def T73 : List (Nat × FnT) := [(88, G88)]
def F73 (x0 x1 : Value) (w : World) (K : V1) : Prop :=
callP G88 [x0, x1] w fun v2 w1 =>
K v2 w1
def G73 : FnT := fun args w K => on2 (fun x0 x1 => F73 x0 x1 w K) args
theorem c73 {x0 x1 : Value} {w : World} {K : V1} (h : F73 x0 x1 w K) : callP G73 [x0, x1] w K := callP_intro (on2_mk (p := fun x0 x1 => F73 x0 x1 w K) h)
theorem ok73 : OkF Tryz.prog 73 G73 := by
  refine okF_of (tab_ok (l := T73) ⟨ok88, trivial⟩) mixed (n := fuel) Tryz.func73 Tryz.call73 fun args w K h => ?_
  obtain ⟨x0, x1, rfl, hh⟩ := of_on2 h
  exact fnD_list (c := bodyOf Tryz.f73) (by kernel_rfl) (by kernel_rfl) (Eq.mp (by kernel_rfl) hh)
def T117 : List (Nat × FnT) := []
def F117 (x0 x1 : Value) (w : World) (K : V1) : Prop :=
bindP (cInt .u64 x0) fun v1 =>
bindP (cInt .u64 x1) fun v2 =>
bindP (bMul v1 v2) fun v3 =>
bindP (bShr v3 (.int .u64 32)) fun v4 =>
bindP (cInt .u32 v4) fun v5 =>
bindP (cInt .u32 v3) fun v6 =>
K (.tuple #[v5, v6]) w
def G117 : FnT := fun args w K => on2 (fun x0 x1 => F117 x0 x1 w K) args
theorem ok117 : OkF Tryz.prog 117 G117 := by
  refine okF_of (tab_ok (l := T117) trivial) mixed (n := fuel) Tryz.func117 Tryz.call117 fun args w K h => ?_
  obtain ⟨x0, x1, rfl, hh⟩ := of_on2 h
  exact fnD_list (c := bodyOf Tryz.f117) (by kernel_rfl) (by kernel_rfl) (Eq.mp (by kernel_rfl) hh)
def T118 : List (Nat × FnT) := []
def F118 (x0 x1 : Value) (w : World) (K : V1) : Prop :=
bindP (bBit .and x0 (.int .u64 4294967295)) fun v1 =>
bindP (bShr x0 (.int .u64 32)) fun v2 =>
bindP (bBit .and x1 (.int .u64 4294967295)) fun v3 =>
bindP (bShr x1 (.int .u64 32)) fun v4 =>
bindP (bMul v1 v3) fun v5 =>
bindP (bMul v2 v3) fun v6 =>
bindP (bShr v5 (.int .u64 32)) fun v7 =>
bindP (bAdd v6 v7) fun v8 =>
bindP (bBit .and v8 (.int .u64 4294967295)) fun v9 =>
bindP (bShr v8 (.int .u64 32)) fun v10 =>
bindP (bMul v1 v4) fun v11 =>
bindP (bAdd v9 v11) fun v12 =>
bindP (bMul v2 v4) fun v13 =>
bindP (bAdd v13 v10) fun v14 =>
bindP (bShr v12 (.int .u64 32)) fun v15 =>
bindP (bAdd v14 v15) fun v16 =>
bindP (bMul x0 x1) fun v17 =>
K (.tuple #[v16, v17]) w
def G118 : FnT := fun args w K => on2 (fun x0 x1 => F118 x0 x1 w K) args
theorem c118 {x0 x1 : Value} {w : World} {K : V1} (h : F118 x0 x1 w K) : callP G118 [x0, x1] w K := callP_intro (on2_mk (p := fun x0 x1 => F118 x0 x1 w K) h)
theorem ok118 : OkF Tryz.prog 118 G118 := by
  refine okF_of (tab_ok (l := T118) trivial) mixed (n := fuel) Tryz.func118 Tryz.call118 fun args w K h => ?_
  obtain ⟨x0, x1, rfl, hh⟩ := of_on2 h
  exact fnD_list (c := bodyOf Tryz.f118) (by kernel_rfl) (by kernel_rfl) (Eq.mp (by kernel_rfl) hh)
def T89 : List (Nat × FnT) := [(117, G117), (118, G118)]
def F89 (x0 x1 : Value) (w : World) (K : V1) : Prop :=
ifB (.bool false) (
bindP (cInt .u32 x0) fun v1 =>
bindP (cInt .u32 x1) fun v2 =>
callP G117 [v1, v2] w fun v4 w3 =>
bindP (pTuple v4 0) fun v5 =>
bindP (pTuple v4 1) fun v6 =>
bindP (cInt .u64 v5) fun v7 =>
bindP (cInt .u64 v6) fun v8 =>
K (.tuple #[v7, v8]) w3) (
callP G118 [x0, x1] w fun v10 w9 =>
bindP (pTuple v10 0) fun v11 =>
bindP (pTuple v10 1) fun v12 =>
K (.tuple #[v11, v12]) w9)
def G89 : FnT := fun args w K => on2 (fun x0 x1 => F89 x0 x1 w K) args
theorem c89 {x0 x1 : Value} {w : World} {K : V1} (h : F89 x0 x1 w K) : callP G89 [x0, x1] w K := callP_intro (on2_mk (p := fun x0 x1 => F89 x0 x1 w K) h)
theorem ok89 : OkF Tryz.prog 89 G89 := by
  refine okF_of (tab_ok (l := T89) ⟨ok117, ok118, trivial⟩) mixed (n := fuel) Tryz.func89 Tryz.call89 fun args w K h => ?_
  obtain ⟨x0, x1, rfl, hh⟩ := of_on2 h
  exact fnD_list (c := bodyOf Tryz.f89) (by kernel_rfl) (by kernel_rfl) (Eq.mp (by kernel_rfl) hh)
def T119 : List (Nat × FnT) := []
def F119 (x0 x1 : Value) (w : World) (K : V1) : Prop :=
bindP (lenS x0) fun v1 =>
bindP (lenS x1) fun v2 =>
bindP (bGe v1 v2) fun v3 =>
stepM (gd true v3) x0 fun v4 =>
stepM (gd true v3) x1 fun v5 =>
Sx.stepG (gd true v3) (lenS v5) fun v6 =>
Sx.stepG (gd true v3) (pSliceS v4 none (some v6)) fun v7 =>
stepM (gd true v3) x1 fun v8 =>
Sx.stepG (gd true v3) (bEq Tryz.prog 9 (.tmp 14) (.tmp 15) v7 v8) fun v9 =>
bindP (pPick v3 v9 (.bool false)) fun v10 =>
K v10 w
def G119 : FnT := fun args w K => on2 (fun x0 x1 => F119 x0 x1 w K) args
theorem c119 {x0 x1 : Value} {w : World} {K : V1} (h : F119 x0 x1 w K) : callP G119 [x0, x1] w K := callP_intro (on2_mk (p := fun x0 x1 => F119 x0 x1 w K) h)
theorem ok119 : OkF Tryz.prog 119 G119 := by
  refine okF_of (tab_ok (l := T119) trivial) mixed (n := fuel) Tryz.func119 Tryz.call119 fun args w K h => ?_
  obtain ⟨x0, x1, rfl, hh⟩ := of_on2 h
  exact fnD_list (c := bodyOf Tryz.f119) (by kernel_rfl) (by kernel_rfl) (Eq.mp (by kernel_rfl) hh)
def T90 : List (Nat × FnT) := [(119, G119)]
def F90 (x0 x1 : Value) (w : World) (K : V1) : Prop :=
callP G119 [x0, x1] w fun v2 w1 =>
K v2 w1
def G90 : FnT := fun args w K => on2 (fun x0 x1 => F90 x0 x1 w K) args
theorem c90 {x0 x1 : Value} {w : World} {K : V1} (h : F90 x0 x1 w K) : callP G90 [x0, x1] w K := callP_intro (on2_mk (p := fun x0 x1 => F90 x0 x1 w K) h)
theorem ok90 : OkF Tryz.prog 90 G90 := by
  refine okF_of (tab_ok (l := T90) ⟨ok119, trivial⟩) mixed (n := fuel) Tryz.func90 Tryz.call90 fun args w K h => ?_
  obtain ⟨x0, x1, rfl, hh⟩ := of_on2 h
  exact fnD_list (c := bodyOf Tryz.f90) (by kernel_rfl) (by kernel_rfl) (Eq.mp (by kernel_rfl) hh)
def T74 : List (Nat × FnT) := [(89, G89), (90, G90)]
def F74_7 (_w : World) (_K : V1) : Prop := False
theorem ok74_7 {K : V1}
    (hn : HN (fun e w => K (e 4) w) kn) (hr : HR Tryz.prog [.tmp 4] K kr) (he : HE noE ke) :
    ∀ e w, F74_7 w K → denL Tryz.prog (tabOf T74) 125 fuel ((flat (bodyOf Tryz.f74)).drop 17) e w kn kr ke := fun _ _ h => h.elim
def F74_6b (w : World) (_K : V1) (Y0 : V0) : Prop :=
eAlloc Tryz.prog 109 w fun _ w24 =>
Y0 w24
def F74_6 (w : World) (K : V1) : Prop := F74_6b w K (fun w => F74_7 w K)
theorem ok74_6 {K : V1}
    (hn : HN (fun e w => K (e 4) w) kn) (hr : HR Tryz.prog [.tmp 4] K kr) (he : HE noE ke) :
    ∀ e w, F74_6 w K → denL Tryz.prog (tabOf T74) 125 fuel ((flat (bodyOf Tryz.f74)).drop 16) e w kn kr ke := by
  intro e w h
  unfold F74_6 at h
  have e1 : ∀ (Y0 : V0), F74_6b w K Y0 = denL Tryz.prog (tabOf T74) 125 fuel (((flat (bodyOf Tryz.f74)).drop 16).take 1) e w (fun e w => Y0 w) (endD Tryz.prog [.tmp 4] K) noE := by intro Y0; kernel_rfl
  exact seg 1 (Eq.mp (e1 (fun w => F74_7 w K)) h) (fun e w h => ok74_7 hn hr he e w h) hr he
def F74_5b (s0 s7 : Value) (w : World) (_K : V1) (Y0 : V0) : Prop :=
bindP (bGt s7 (.int .i64 8192)) fun v26 =>
ifB v26 (
bindP (lenS s0) fun v27 =>
bindP (bQuo (.int .i64 8192) v27) fun v28 =>
bindP (lenS s0) fun v29 =>
bindP (bMul v28 v29) fun v30 =>
bindP (bEq Tryz.prog 3 (.tmp 103) (.const (.int .i64 0)) v30 (.int .i64 0)) fun v31 =>
ifB v31 (
bindP (lenS s0) fun _ =>
Y0 w) (
Y0 w)) (
Y0 w)
def F74_5 (s0 s7 : Value) (w : World) (K : V1) : Prop := F74_5b s0 s7 w K (fun w => F74_6 w K)
theorem ok74_5 {K : V1}
    (hn : HN (fun e w => K (e 4) w) kn) (hr : HR Tryz.prog [.tmp 4] K kr) (he : HE noE ke) :
    ∀ e w, F74_5 (e 0) (e 7) w K → denL Tryz.prog (tabOf T74) 125 fuel ((flat (bodyOf Tryz.f74)).drop 13) e w kn kr ke := by
  intro e w h
  unfold F74_5 at h
  have e1 : ∀ (Y0 : V0), F74_5b (e 0) (e 7) w K Y0 = denL Tryz.prog (tabOf T74) 125 fuel (((flat (bodyOf Tryz.f74)).drop 13).take 3) e w (fun e w => Y0 w) (endD Tryz.prog [.tmp 4] K) noE := by intro Y0; kernel_rfl
  exact seg 3 (Eq.mp (e1 (fun w => F74_6 w K)) h) (fun e w h => ok74_6 hn hr he e w h) hr he
def F74_9b (s0 s7 s43 : Value) (w : World) (K : V1) (Y0 : V2) : Prop :=
ifB s43 (
bindP (bLe s7 (.int .i64 128)) fun v37 =>
stepM (gd true v37) s0 fun v38 =>
stepE (gd true v37) (fun k => callP G90 [(.string ⟨#[32, 32, 32, 32, 32, 32, 32, 32, 32, 32, 32, 32, 32, 32, 32, 32, 32, 32, 32, 32, 32, 32, 32, 32, 32, 32, 32, 32, 32, 32, 32, 32, 32, 32, 32, 32, 32, 32, 32, 32, 32, 32, 32, 32, 32, 32, 32, 32, 32, 32, 32, 32, 32, 32, 32, 32, 32, 32, 32, 32, 32, 32, 32, 32, 32, 32, 32, 32, 32, 32, 32, 32, 32, 32, 32, 32, 32, 32, 32, 32, 32, 32, 32, 32, 32, 32, 32, 32, 32, 32, 32, 32, 32, 32, 32, 32, 32, 32, 32, 32, 32, 32, 32, 32, 32, 32, 32, 32, 32, 32, 32, 32, 32, 32, 32, 32, 32, 32, 32, 32, 32, 32, 32, 32, 32, 32, 32, 32]⟩), v38] w k) w fun v40 w39 =>
bindP (pPick v37 v40 (.bool false)) fun v41 =>
ifB v41 (
bindP (pSliceS (.string ⟨#[32, 32, 32, 32, 32, 32, 32, 32, 32, 32, 32, 32, 32, 32, 32, 32, 32, 32, 32, 32, 32, 32, 32, 32, 32, 32, 32, 32, 32, 32, 32, 32, 32, 32, 32, 32, 32, 32, 32, 32, 32, 32, 32, 32, 32, 32, 32, 32, 32, 32, 32, 32, 32, 32, 32, 32, 32, 32, 32, 32, 32, 32, 32, 32, 32, 32, 32, 32, 32, 32, 32, 32, 32, 32, 32, 32, 32, 32, 32, 32, 32, 32, 32, 32, 32, 32, 32, 32, 32, 32, 32, 32, 32, 32, 32, 32, 32, 32, 32, 32, 32, 32, 32, 32, 32, 32, 32, 32, 32, 32, 32, 32, 32, 32, 32, 32, 32, 32, 32, 32, 32, 32, 32, 32, 32, 32, 32, 32]⟩) none (some s7)) fun v42 =>
K v42 w39) (
bindP (bLe s7 (.int .i64 128)) fun v43 =>
stepM (gd true v43) s0 fun v44 =>
stepE (gd true v43) (fun k => callP G90 [(.string ⟨#[45, 45, 45, 45, 45, 45, 45, 45, 45, 45, 45, 45, 45, 45, 45, 45, 45, 45, 45, 45, 45, 45, 45, 45, 45, 45, 45, 45, 45, 45, 45, 45, 45, 45, 45, 45, 45, 45, 45, 45, 45, 45, 45, 45, 45, 45, 45, 45, 45, 45, 45, 45, 45, 45, 45, 45, 45, 45, 45, 45, 45, 45, 45, 45, 45, 45, 45, 45, 45, 45, 45, 45, 45, 45, 45, 45, 45, 45, 45, 45, 45, 45, 45, 45, 45, 45, 45, 45, 45, 45, 45, 45, 45, 45, 45, 45, 45, 45, 45, 45, 45, 45, 45, 45, 45, 45, 45, 45, 45, 45, 45, 45, 45, 45, 45, 45, 45, 45, 45, 45, 45, 45, 45, 45, 45, 45, 45, 45]⟩), v44] w39 k) w39 fun v46 w45 =>
bindP (pPick v43 v46 (.bool false)) fun v47 =>
ifB v47 (
bindP (pSliceS (.string ⟨#[45, 45, 45, 45, 45, 45, 45, 45, 45, 45, 45, 45, 45, 45, 45, 45, 45, 45, 45, 45, 45, 45, 45, 45, 45, 45, 45, 45, 45, 45, 45, 45, 45, 45, 45, 45, 45, 45, 45, 45, 45, 45, 45, 45, 45, 45, 45, 45, 45, 45, 45, 45, 45, 45, 45, 45, 45, 45, 45, 45, 45, 45, 45, 45, 45, 45, 45, 45, 45, 45, 45, 45, 45, 45, 45, 45, 45, 45, 45, 45, 45, 45, 45, 45, 45, 45, 45, 45, 45, 45, 45, 45, 45, 45, 45, 45, 45, 45, 45, 45, 45, 45, 45, 45, 45, 45, 45, 45, 45, 45, 45, 45, 45, 45, 45, 45, 45, 45, 45, 45, 45, 45, 45, 45, 45, 45, 45, 45]⟩) none (some s7)) fun v48 =>
K v48 w45) (
bindP (bLe s7 (.int .i64 64)) fun v49 =>
stepM (gd true v49) s0 fun v50 =>
stepE (gd true v49) (fun k => callP G90 [(.string ⟨#[48, 48, 48, 48, 48, 48, 48, 48, 48, 48, 48, 48, 48, 48, 48, 48, 48, 48, 48, 48, 48, 48, 48, 48, 48, 48, 48, 48, 48, 48, 48, 48, 48, 48, 48, 48, 48, 48, 48, 48, 48, 48, 48, 48, 48, 48, 48, 48, 48, 48, 48, 48, 48, 48, 48, 48, 48, 48, 48, 48, 48, 48, 48, 48]⟩), v50] w45 k) w45 fun v52 w51 =>
bindP (pPick v49 v52 (.bool false)) fun v53 =>
ifB v53 (
bindP (pSliceS (.string ⟨#[48, 48, 48, 48, 48, 48, 48, 48, 48, 48, 48, 48, 48, 48, 48, 48, 48, 48, 48, 48, 48, 48, 48, 48, 48, 48, 48, 48, 48, 48, 48, 48, 48, 48, 48, 48, 48, 48, 48, 48, 48, 48, 48, 48, 48, 48, 48, 48, 48, 48, 48, 48, 48, 48, 48, 48, 48, 48, 48, 48, 48, 48, 48, 48]⟩) none (some s7)) fun v54 =>
K v54 w51) (
bindP (bLe s7 (.int .i64 128)) fun v55 =>
stepM (gd true v55) s0 fun v56 =>
stepE (gd true v55) (fun k => callP G90 [(.string ⟨#[61, 61, 61, 61, 61, 61, 61, 61, 61, 61, 61, 61, 61, 61, 61, 61, 61, 61, 61, 61, 61, 61, 61, 61, 61, 61, 61, 61, 61, 61, 61, 61, 61, 61, 61, 61, 61, 61, 61, 61, 61, 61, 61, 61, 61, 61, 61, 61, 61, 61, 61, 61, 61, 61, 61, 61, 61, 61, 61, 61, 61, 61, 61, 61, 61, 61, 61, 61, 61, 61, 61, 61, 61, 61, 61, 61, 61, 61, 61, 61, 61, 61, 61, 61, 61, 61, 61, 61, 61, 61, 61, 61, 61, 61, 61, 61, 61, 61, 61, 61, 61, 61, 61, 61, 61, 61, 61, 61, 61, 61, 61, 61, 61, 61, 61, 61, 61, 61, 61, 61, 61, 61, 61, 61, 61, 61, 61, 61]⟩), v56] w51 k) w51 fun v58 w57 =>
bindP (pPick v55 v58 (.bool false)) fun v59 =>
ifB v59 (
bindP (pSliceS (.string ⟨#[61, 61, 61, 61, 61, 61, 61, 61, 61, 61, 61, 61, 61, 61, 61, 61, 61, 61, 61, 61, 61, 61, 61, 61, 61, 61, 61, 61, 61, 61, 61, 61, 61, 61, 61, 61, 61, 61, 61, 61, 61, 61, 61, 61, 61, 61, 61, 61, 61, 61, 61, 61, 61, 61, 61, 61, 61, 61, 61, 61, 61, 61, 61, 61, 61, 61, 61, 61, 61, 61, 61, 61, 61, 61, 61, 61, 61, 61, 61, 61, 61, 61, 61, 61, 61, 61, 61, 61, 61, 61, 61, 61, 61, 61, 61, 61, 61, 61, 61, 61, 61, 61, 61, 61, 61, 61, 61, 61, 61, 61, 61, 61, 61, 61, 61, 61, 61, 61, 61, 61, 61, 61, 61, 61, 61, 61, 61, 61]⟩) none (some s7)) fun v60 =>
K v60 w57) (
bindP (bLe s7 (.int .i64 64)) fun v61 =>
stepM (gd true v61) s0 fun v62 =>
stepE (gd true v61) (fun k => callP G90 [(.string ⟨#[9, 9, 9, 9, 9, 9, 9, 9, 9, 9, 9, 9, 9, 9, 9, 9, 9, 9, 9, 9, 9, 9, 9, 9, 9, 9, 9, 9, 9, 9, 9, 9, 9, 9, 9, 9, 9, 9, 9, 9, 9, 9, 9, 9, 9, 9, 9, 9, 9, 9, 9, 9, 9, 9, 9, 9, 9, 9, 9, 9, 9, 9, 9, 9]⟩), v62] w57 k) w57 fun v64 w63 =>
bindP (pPick v61 v64 (.bool false)) fun v65 =>
ifB v65 (
bindP (pSliceS (.string ⟨#[9, 9, 9, 9, 9, 9, 9, 9, 9, 9, 9, 9, 9, 9, 9, 9, 9, 9, 9, 9, 9, 9, 9, 9, 9, 9, 9, 9, 9, 9, 9, 9, 9, 9, 9, 9, 9, 9, 9, 9, 9, 9, 9, 9, 9, 9, 9, 9, 9, 9, 9, 9, 9, 9, 9, 9, 9, 9, 9, 9, 9, 9, 9, 9]⟩) none (some s7)) fun v66 =>
K v66 w63) (
Y0 s0 s7 w63)))))) (
Y0 s0 s7 w)
def F74_9 (s0 s7 s43 : Value) (w : World) (K : V1) : Prop := F74_9b s0 s7 s43 w K (fun a0 a7 w => F74_5 a0 a7 w K)
theorem ok74_9 {K : V1}
    (hn : HN (fun e w => F74_5 (e 0) (e 7) w K) kn) (hr : HR Tryz.prog [.tmp 4] K kr) (he : HE (blkK 1 (fun e w => F74_5 (e 0) (e 7) w K) noE) ke) :
    ∀ e w, F74_9 (e 0) (e 7) (e 43) w K → denL Tryz.prog (tabOf T74) 125 fuel ((flat (blkB (nthC (flat (bodyOf Tryz.f74)) 12))).drop 2) e w kn kr ke := by
  intro e w h
  unfold F74_9 at h
  have e1 : ∀ (Y0 : V2), F74_9b (e 0) (e 7) (e 43) w K Y0 = denL Tryz.prog (tabOf T74) 125 fuel ((flat (blkB (nthC (flat (bodyOf Tryz.f74)) 12))).drop 2) e w (fun e w => Y0 (e 0) (e 7) w) (endD Tryz.prog [.tmp 4] K) (blkK 1 (fun e w => Y0 (e 0) (e 7) w) noE) := by intro Y0; kernel_rfl
  exact seg_end (Eq.mp (e1 (fun a0 a7 w => F74_5 a0 a7 w K)) h) hn hr he
def F74_8b (s0 s7 s42 : Value) (w : World) (_K : V1) (Y0 : V3) : Prop :=
bindP (bEq Tryz.prog 5 (.tmp 42) (.const (.int .u8 32)) s42 (.int .u8 32)) fun v67 =>
ifB v67 (
Y0 s0 s7 v67 w) (
bindP (bEq Tryz.prog 5 (.tmp 42) (.const (.int .u8 45)) s42 (.int .u8 45)) fun v68 =>
ifB v68 (
Y0 s0 s7 v68 w) (
bindP (bEq Tryz.prog 5 (.tmp 42) (.const (.int .u8 48)) s42 (.int .u8 48)) fun v69 =>
ifB v69 (
Y0 s0 s7 v69 w) (
bindP (bEq Tryz.prog 5 (.tmp 42) (.const (.int .u8 61)) s42 (.int .u8 61)) fun v70 =>
ifB v70 (
Y0 s0 s7 v70 w) (
bindP (bEq Tryz.prog 5 (.tmp 42) (.const (.int .u8 9)) s42 (.int .u8 9)) fun v71 =>
Y0 s0 s7 v71 w))))
def F74_8 (s0 s7 s42 : Value) (w : World) (K : V1) : Prop := F74_8b s0 s7 s42 w K (fun a0 a7 a43 w => F74_9 a0 a7 a43 w K)
theorem ok74_8 {K : V1}
    (hn : HN (fun e w => F74_5 (e 0) (e 7) w K) kn) (hr : HR Tryz.prog [.tmp 4] K kr) (he : HE (blkK 1 (fun e w => F74_5 (e 0) (e 7) w K) noE) ke) :
    ∀ e w, F74_8 (e 0) (e 7) (e 42) w K → denL Tryz.prog (tabOf T74) 125 fuel ((flat (blkB (nthC (flat (bodyOf Tryz.f74)) 12))).drop 0) e w kn kr ke := by
  intro e w h
  unfold F74_8 at h
  have e1 : ∀ (Y0 : V3), F74_8b (e 0) (e 7) (e 42) w K Y0 = denL Tryz.prog (tabOf T74) 125 fuel (((flat (blkB (nthC (flat (bodyOf Tryz.f74)) 12))).drop 0).take 2) e w (fun e w => Y0 (e 0) (e 7) (e 43) w) (endD Tryz.prog [.tmp 4] K) (blkK 1 (fun e w => F74_5 (e 0) (e 7) w K) noE) := by intro Y0; kernel_rfl
  exact seg 2 (Eq.mp (e1 (fun a0 a7 a43 w => F74_9 a0 a7 a43 w K)) h) (fun e w h => ok74_9 hn hr he e w h) hr he
def F74_4 (s0 s7 s42 : Value) (w : World) (K : V1) : Prop := F74_8 s0 s7 s42 w K
theorem ok74_4 {K : V1}
    (hn : HN (fun e w => K (e 4) w) kn) (hr : HR Tryz.prog [.tmp 4] K kr) (he : HE noE ke) :
    ∀ e w, F74_4 (e 0) (e 7) (e 42) w K → denL Tryz.prog (tabOf T74) 125 fuel ((flat (bodyOf Tryz.f74)).drop 12) e w kn kr ke := by
  intro e w h
  unfold F74_4 at h
  refine seg_block (id := 1) (body := (blkB (nthC (flat (bodyOf Tryz.f74)) 12))) (l2 := (flat (bodyOf Tryz.f74)).drop 13) (by kernel_rfl) ?_
  exact ok74_8 (fun e w h => ok74_5 hn hr he e w h) hr (blkK_mono (fun e w h => ok74_5 hn hr he e w h) he) e w h
def F74_3b (s0 s6 : Value) (w : World) (K : V1) (Y0 : V3) : Prop :=
bindP (cInt .i64 s6) fun v72 =>
bindP (lenS s0) fun v73 =>
bindP (bEq Tryz.prog 3 (.tmp 39) (.const (.int .i64 0)) v73 (.int .i64 0)) fun v74 =>
ifB v74 (
K (.string ⟨#[]⟩) w) (
bindP (pIndexS s0 (.int .i64 0)) fun v75 =>
Y0 s0 v72 v75 w)
def F74_3 (s0 s6 : Value) (w : World) (K : V1) : Prop := F74_3b s0 s6 w K (fun a0 a7 a42 w => F74_4 a0 a7 a42 w K)
theorem ok74_3 {K : V1}
    (hn : HN (fun e w => K (e 4) w) kn) (hr : HR Tryz.prog [.tmp 4] K kr) (he : HE noE ke) :
    ∀ e w, F74_3 (e 0) (e 6) w K → denL Tryz.prog (tabOf T74) 125 fuel ((flat (bodyOf Tryz.f74)).drop 8) e w kn kr ke := by
  intro e w h
  unfold F74_3 at h
  have e1 : ∀ (Y0 : V3), F74_3b (e 0) (e 6) w K Y0 = denL Tryz.prog (tabOf T74) 125 fuel (((flat (bodyOf Tryz.f74)).drop 8).take 4) e w (fun e w => Y0 (e 0) (e 7) (e 42) w) (endD Tryz.prog [.tmp 4] K) noE := by intro Y0; kernel_rfl
  exact seg 4 (Eq.mp (e1 (fun a0 a7 a42 w => F74_4 a0 a7 a42 w K)) h) (fun e w h => ok74_4 hn hr he e w h) hr he
def F74_2b (s0 s1 : Value) (w : World) (_K : V1) (Y0 : V2) : Prop :=
bindP (lenS s0) fun v76 =>
bindP (cInt .u64 v76) fun v77 =>
bindP (cInt .u64 s1) fun v78 =>
callP G89 [v77, v78] w fun v80 w79 =>
bindP (pTuple v80 0) fun v81 =>
bindP (pTuple v80 1) fun v82 =>
bindP (bGt v81 (.int .u64 0)) fun v83 =>
stepM (gd false v83) v82 fun v84 =>
Sx.stepG (gd false v83) (bGt v84 (.int .u64 9223372036854775807)) fun v85 =>
bindP (pPick v83 (.bool true) v85) fun v86 =>
ifB v86 (
bindP (fMkI Tryz.prog 9 (.string ⟨#[115, 116, 114, 105, 110, 103, 115, 58, 32, 82, 101, 112, 101, 97, 116, 32, 111, 117, 116, 112, 117, 116, 32, 108, 101, 110, 103, 116, 104, 32, 111, 118, 101, 114, 102, 108, 111, 119]⟩)) fun _ =>
bindP (none) fun _ =>
Y0 s0 v82 w79) (
Y0 s0 v82 w79)
def F74_2 (s0 s1 : Value) (w : World) (K : V1) : Prop := F74_2b s0 s1 w K (fun a0 a6 w => F74_3 a0 a6 w K)
theorem ok74_2 {K : V1}
    (hn : HN (fun e w => K (e 4) w) kn) (hr : HR Tryz.prog [.tmp 4] K kr) (he : HE noE ke) :
    ∀ e w, F74_2 (e 0) (e 1) w K → denL Tryz.prog (tabOf T74) 125 fuel ((flat (bodyOf Tryz.f74)).drop 5) e w kn kr ke := by
  intro e w h
  unfold F74_2 at h
  have e1 : ∀ (Y0 : V2), F74_2b (e 0) (e 1) w K Y0 = denL Tryz.prog (tabOf T74) 125 fuel (((flat (bodyOf Tryz.f74)).drop 5).take 3) e w (fun e w => Y0 (e 0) (e 6) w) (endD Tryz.prog [.tmp 4] K) noE := by intro Y0; kernel_rfl
  exact seg 3 (Eq.mp (e1 (fun a0 a6 w => F74_3 a0 a6 w K)) h) (fun e w h => ok74_3 hn hr he e w h) hr he
def F74_1b (s0 s1 : Value) (w : World) (K : V1) (Y0 : V2) : Prop :=
bindP (bEq Tryz.prog 3 (.tmp 11) (.const (.int .i64 0)) s1 (.int .i64 0)) fun v89 =>
ifB v89 (
K (.string ⟨#[]⟩) w) (
bindP (bEq Tryz.prog 3 (.tmp 11) (.const (.int .i64 1)) s1 (.int .i64 1)) fun v90 =>
ifB v90 (
K s0 w) (
bindP (bLt s1 (.int .i64 0)) fun v91 =>
ifB v91 (
bindP (fMkI Tryz.prog 9 (.string ⟨#[115, 116, 114, 105, 110, 103, 115, 58, 32, 110, 101, 103, 97, 116, 105, 118, 101, 32, 82, 101, 112, 101, 97, 116, 32, 99, 111, 117, 110, 116]⟩)) fun _ =>
bindP (none) fun _ =>
Y0 s0 s1 w) (
Y0 s0 s1 w)))
def F74_1 (s0 s1 : Value) (w : World) (K : V1) : Prop := F74_1b s0 s1 w K (fun a0 a1 w => F74_2 a0 a1 w K)
theorem ok74_1 {K : V1}
    (hn : HN (fun e w => K (e 4) w) kn) (hr : HR Tryz.prog [.tmp 4] K kr) (he : HE noE ke) :
    ∀ e w, F74_1 (e 0) (e 1) w K → denL Tryz.prog (tabOf T74) 125 fuel ((flat (bodyOf Tryz.f74)).drop 0) e w kn kr ke := by
  intro e w h
  unfold F74_1 at h
  have e1 : ∀ (Y0 : V2), F74_1b (e 0) (e 1) w K Y0 = denL Tryz.prog (tabOf T74) 125 fuel (((flat (bodyOf Tryz.f74)).drop 0).take 5) e w (fun e w => Y0 (e 0) (e 1) w) (endD Tryz.prog [.tmp 4] K) noE := by intro Y0; kernel_rfl
  exact seg 5 (Eq.mp (e1 (fun a0 a1 w => F74_2 a0 a1 w K)) h) (fun e w h => ok74_2 hn hr he e w h) hr he
def F74 (x0 x1 : Value) (w : World) (K : V1) : Prop := F74_1 x0 x1 w K
def G74 : FnT := fun args w K => on2 (fun x0 x1 => F74 x0 x1 w K) args
theorem c74 {x0 x1 : Value} {w : World} {K : V1} (h : F74 x0 x1 w K) : callP G74 [x0, x1] w K := callP_intro (on2_mk (p := fun x0 x1 => F74 x0 x1 w K) h)
theorem ok74 : OkF Tryz.prog 74 G74 := by
  refine okF_of (tab_ok (l := T74) ⟨ok89, ok90, trivial⟩) mixed (n := fuel) Tryz.func74 Tryz.call74 fun args w K h => ?_
  obtain ⟨x0, x1, rfl, hh⟩ := of_on2 h
  unfold F74 at hh
  exact fnD_list (c := bodyOf Tryz.f74) (by kernel_rfl) (by kernel_rfl) (ok74_1 (fun _ _ h => h) (fun _ _ h => h) (fun _ _ _ h => h) (initE [x0, x1]) w hh)
def T99 : List (Nat × FnT) := [(119, G119)]
def F99 (x0 x1 : Value) (w : World) (K : V1) : Prop :=
callP G119 [x0, x1] w fun v2 w1 =>
bindP (uNot v2) fun v3 =>
ifB v3 (
K (.tuple #[x0, (.bool false)]) w1) (
bindP (lenS x1) fun v4 =>
bindP (pSliceS x0 (some v4) none) fun v5 =>
K (.tuple #[v5, (.bool true)]) w1)
def G99 : FnT := fun args w K => on2 (fun x0 x1 => F99 x0 x1 w K) args
theorem c99 {x0 x1 : Value} {w : World} {K : V1} (h : F99 x0 x1 w K) : callP G99 [x0, x1] w K := callP_intro (on2_mk (p := fun x0 x1 => F99 x0 x1 w K) h)
theorem ok99 : OkF Tryz.prog 99 G99 := by
  refine okF_of (tab_ok (l := T99) ⟨ok119, trivial⟩) mixed (n := fuel) Tryz.func99 Tryz.call99 fun args w K h => ?_
  obtain ⟨x0, x1, rfl, hh⟩ := of_on2 h
  exact fnD_list (c := bodyOf Tryz.f99) (by kernel_rfl) (by kernel_rfl) (Eq.mp (by kernel_rfl) hh)
def T84 : List (Nat × FnT) := [(99, G99)]
def F84 (x0 x1 : Value) (w : World) (K : V1) : Prop :=
callP G99 [x0, x1] w fun v2 w1 =>
bindP (pTuple v2 0) fun v3 =>
bindP (pTuple v2 1) fun v4 =>
K (.tuple #[v3, v4]) w1
def G84 : FnT := fun args w K => on2 (fun x0 x1 => F84 x0 x1 w K) args
theorem c84 {x0 x1 : Value} {w : World} {K : V1} (h : F84 x0 x1 w K) : callP G84 [x0, x1] w K := callP_intro (on2_mk (p := fun x0 x1 => F84 x0 x1 w K) h)
theorem ok84 : OkF Tryz.prog 84 G84 := by
  refine okF_of (tab_ok (l := T84) ⟨ok99, trivial⟩) mixed (n := fuel) Tryz.func84 Tryz.call84 fun args w K h => ?_
  obtain ⟨x0, x1, rfl, hh⟩ := of_on2 h
  exact fnD_list (c := bodyOf Tryz.f84) (by kernel_rfl) (by kernel_rfl) (Eq.mp (by kernel_rfl) hh)
def T152 : List (Nat × FnT) := []
def F152 (x0 : Value) (w : World) (K : V1) : Prop :=
bindP (bBit .or x0 (.int .u8 32)) fun v1 =>
K v1 w
def G152 : FnT := fun args w K => on1 (fun x0 => F152 x0 w K) args
theorem c152 {x0 : Value} {w : World} {K : V1} (h : F152 x0 w K) : callP G152 [x0] w K := callP_intro (on1_mk (p := fun x0 => F152 x0 w K) h)
theorem ok152 : OkF Tryz.prog 152 G152 := by
  refine okF_of (tab_ok (l := T152) trivial) mixed (n := fuel) Tryz.func152 Tryz.call152 fun args w K h => ?_
  obtain ⟨x0, rfl, hh⟩ := of_on1 h
  exact fnD_list (c := bodyOf Tryz.f152) (by kernel_rfl) (by kernel_rfl) (Eq.mp (by kernel_rfl) hh)
def T153 : List (Nat × FnT) := [(152, G152)]
def F153_4b (s3 : Value) (w : World) (K : V1) : Prop :=
bindP (bNe Tryz.prog 21 (.tmp 92) (.const (.int .i32 95)) s3 (.int .i32 95)) fun v1 =>
K v1 w
def F153_4 (s3 : Value) (w : World) (K : V1) : Prop := F153_4b s3 w K
theorem ok153_4 {K : V1}
    (hn : HN (fun e w => K (e 2) w) kn) (hr : HR Tryz.prog [.tmp 2] K kr) (he : HE noE ke) :
    ∀ e w, F153_4 (e 3) w K → denL Tryz.prog (tabOf T153) 94 fuel ((flat (bodyOf Tryz.f153)).drop 9) e w kn kr ke := by
  intro e w h
  unfold F153_4 at h
  have e1 : ∀ (_ : Unit), F153_4b (e 3) w K = denL Tryz.prog (tabOf T153) 94 fuel ((flat (bodyOf Tryz.f153)).drop 9) e w (fun e w => K (e 2) w) (endD Tryz.prog [.tmp 2] K) noE := by intro _; kernel_rfl
  exact seg_end (Eq.mp (e1 ()) h) hn hr he
def F153_6b (s0 s3 s4 s5 : Value) (w : World) (_K : V1) (R4 : V4) : Prop :=
bindP (bAdd s4 (.int .i64 1)) fun v2 =>
R4 s0 s3 v2 s5 w
def F153_6 (s0 s3 s4 s5 : Value) (w : World) (K : V1) (R4 : V4) : Prop := F153_6b s0 s3 s4 s5 w K R4
theorem ok153_6 (R4 : V4) {K : V1}
    (hn : HN (fun e w => R4 (e 0) (e 3) (e 4) (e 5) w) kn) (hr : HR Tryz.prog [.tmp 2] K kr) (he : HE (blkK 0 (fun e w => F153_4 (e 3) w K) noE) ke) :
    ∀ e w, F153_6 (e 0) (e 3) (e 4) (e 5) w K R4 → denL Tryz.prog (tabOf T153) 94 fuel ((flat (loopB (blkB (nthC (flat (bodyOf Tryz.f153)) 8)))).drop 3) e w kn kr ke := by
  intro e w h
  unfold F153_6 at h
  have e1 : ∀ (_ : Unit), F153_6b (e 0) (e 3) (e 4) (e 5) w K R4 = denL Tryz.prog (tabOf T153) 94 fuel ((flat (loopB (blkB (nthC (flat (bodyOf Tryz.f153)) 8)))).drop 3) e w (fun e w => R4 (e 0) (e 3) (e 4) (e 5) w) (endD Tryz.prog [.tmp 2] K) (blkK 0 (fun e w => F153_4 (e 3) w K) noE) := by intro _; kernel_rfl
  exact seg_end (Eq.mp (e1 ()) h) hn hr he
def F153_5b (s0 s3 s4 s5 : Value) (w : World) (K : V1) (R4 : V4) (Y0 : V4) (Y1 : V1) : Prop :=
bindP (lenS s0) fun v3 =>
bindP (bLt s4 v3) fun v4 =>
ifB v4 (
bindP (pIndexS s0 s4) fun v5 =>
bindP (bLe (.int .u8 48) v5) fun v6 =>
stepM (gd true v6) s0 fun v7 =>
stepM (gd true v6) s4 fun v8 =>
Sx.stepG (gd true v6) (pIndexS v7 v8) fun v9 =>
Sx.stepG (gd true v6) (bLe v9 (.int .u8 57)) fun v10 =>
bindP (pPick v6 v10 (.bool false)) fun v11 =>
stepM (gd false v11) s5 fun v12 =>
stepM (gd false v11) v12 fun v13 =>
stepM (gd true v13) s0 fun v14 =>
stepM (gd true v13) s4 fun v15 =>
Sx.stepG (gd true v13) (pIndexS v14 v15) fun v16 =>
stepE (gd true v13) (fun k => callP G152 [v16] w k) w fun v18 w17 =>
Sx.stepG (gd true v13) (bLe (.int .u8 97) v18) fun v19 =>
Sx.stepG (gd false v11) (pPick v13 v19 (.bool false)) fun v20 =>
stepM (gd false v11) v20 fun v21 =>
stepM (gd true v21) s0 fun v22 =>
stepM (gd true v21) s4 fun v23 =>
Sx.stepG (gd true v21) (pIndexS v22 v23) fun v24 =>
stepE (gd true v21) (fun k => callP G152 [v24] w17 k) w17 fun v26 w25 =>
Sx.stepG (gd true v21) (bLe v26 (.int .u8 102)) fun v27 =>
Sx.stepG (gd false v11) (pPick v21 v27 (.bool false)) fun v28 =>
bindP (pPick v11 (.bool true) v28) fun v29 =>
ifB v29 (
Y0 s0 (.int .i32 48) s4 s5 w25) (
bindP (pIndexS s0 s4) fun v30 =>
bindP (bEq Tryz.prog 5 (.tmp 86) (.const (.int .u8 95)) v30 (.int .u8 95)) fun v31 =>
ifB v31 (
bindP (bNe Tryz.prog 21 (.tmp 88) (.const (.int .i32 48)) s3 (.int .i32 48)) fun v32 =>
ifB v32 (
K (.bool false) w25) (
Y0 s0 (.int .i32 95) s4 s5 w25)) (
bindP (bEq Tryz.prog 21 (.tmp 90) (.const (.int .i32 95)) s3 (.int .i32 95)) fun v33 =>
ifB v33 (
K (.bool false) w25) (
Y0 s0 (.int .i32 33) s4 s5 w25)))) (
Y1 s3 w)
def F153_5 (s0 s3 s4 s5 : Value) (w : World) (K : V1) (R4 : V4) : Prop := F153_5b s0 s3 s4 s5 w K R4 (fun a0 a3 a4 a5 w => F153_6 a0 a3 a4 a5 w K R4) (fun a3 w => F153_4 a3 w K)
theorem ok153_5 (R4 : V4) {K : V1}
    (hn : HN (fun e w => R4 (e 0) (e 3) (e 4) (e 5) w) kn) (hr : HR Tryz.prog [.tmp 2] K kr) (he : HE (blkK 0 (fun e w => F153_4 (e 3) w K) noE) ke) :
    ∀ e w, F153_5 (e 0) (e 3) (e 4) (e 5) w K R4 → denL Tryz.prog (tabOf T153) 94 fuel ((flat (loopB (blkB (nthC (flat (bodyOf Tryz.f153)) 8)))).drop 0) e w kn kr ke := by
  intro e w h
  unfold F153_5 at h
  have e1 : ∀ (Y0 : V4) (Y1 : V1), F153_5b (e 0) (e 3) (e 4) (e 5) w K R4 Y0 Y1 = denL Tryz.prog (tabOf T153) 94 fuel (((flat (loopB (blkB (nthC (flat (bodyOf Tryz.f153)) 8)))).drop 0).take 3) e w (fun e w => Y0 (e 0) (e 3) (e 4) (e 5) w) (endD Tryz.prog [.tmp 2] K) (blkK 0 (fun e w => Y1 (e 3) w) noE) := by intro Y0 Y1; kernel_rfl
  exact seg 3 (Eq.mp (e1 (fun a0 a3 a4 a5 w => F153_6 a0 a3 a4 a5 w K R4) (fun a3 w => F153_4 a3 w K)) h) (fun e w h => ok153_6 R4 hn hr he e w h) hr he
def F153_3L : Nat → Value → Value → Value → Value → World → (V1) → Prop
  | 0, _, _, _, _, _, _ => False
  | n + 1, s0, s3, s4, s5, w, K => F153_5 s0 s3 s4 s5 w K (fun a0 a3 a4 a5 w => F153_3L n a0 a3 a4 a5 w K)
def F153_3 (s0 s3 s4 s5 : Value) (w : World) (K : V1) : Prop := F153_3L fuel s0 s3 s4 s5 w K
theorem ok153_3 {K : V1}
    (hn : HN (fun e w => K (e 2) w) kn) (hr : HR Tryz.prog [.tmp 2] K kr) (he : HE noE ke) :
    ∀ e w, F153_3 (e 0) (e 3) (e 4) (e 5) w K → denL Tryz.prog (tabOf T153) 94 fuel ((flat (bodyOf Tryz.f153)).drop 8) e w kn kr ke := by
  intro e w h
  unfold F153_3 at h
  refine seg_loop (id := 0) (body := (loopB (blkB (nthC (flat (bodyOf Tryz.f153)) 8)))) (l2 := (flat (bodyOf Tryz.f153)).drop 9) (by kernel_rfl) ?_
  refine loop_ok (FL := fun m e w => F153_3L m (e 0) (e 3) (e 4) (e 5) w K) (fr := endD Tryz.prog [.tmp 2] K) (fe := (blkK 0 (fun e w => F153_4 (e 3) w K) noE)) (fun _ _ h => h) ?_ hr (blkK_mono (fun e w h => ok153_4 hn hr he e w h) he) fuel e w h
  intro m e w h
  have h : F153_3L (m + 1) (e 0) (e 3) (e 4) (e 5) w K := h
  rw [F153_3L] at h
  exact ok153_5 (fun a0 a3 a4 a5 w => F153_3L m a0 a3 a4 a5 w K) (fun _ _ h => h) (fun _ _ h => h) (fun _ _ _ h => h) e w h
def F153_2b (s0 s3 s4 : Value) (w : World) (_K : V1) (Y0 : V4) : Prop :=
bindP (lenS s0) fun v34 =>
bindP (bGe v34 (.int .i64 2)) fun v35 =>
stepM (gd true v35) s0 fun v36 =>
Sx.stepG (gd true v35) (pIndexS v36 (.int .i64 0)) fun v37 =>
Sx.stepG (gd true v35) (bEq Tryz.prog 5 (.tmp 26) (.const (.int .u8 48)) v37 (.int .u8 48)) fun v38 =>
bindP (pPick v35 v38 (.bool false)) fun v39 =>
stepM (gd true v39) s0 fun v40 =>
Sx.stepG (gd true v39) (pIndexS v40 (.int .i64 1)) fun v41 =>
stepE (gd true v39) (fun k => callP G152 [v41] w k) w fun v43 w42 =>
Sx.stepG (gd true v39) (bEq Tryz.prog 5 (.tmp 32) (.const (.int .u8 98)) v43 (.int .u8 98)) fun v44 =>
stepM (gd true v39) v44 fun v45 =>
stepM (gd false v45) s0 fun v46 =>
Sx.stepG (gd false v45) (pIndexS v46 (.int .i64 1)) fun v47 =>
stepE (gd false v45) (fun k => callP G152 [v47] w42 k) w42 fun v49 w48 =>
Sx.stepG (gd false v45) (bEq Tryz.prog 5 (.tmp 37) (.const (.int .u8 111)) v49 (.int .u8 111)) fun v50 =>
Sx.stepG (gd true v39) (pPick v45 (.bool true) v50) fun v51 =>
stepM (gd true v39) v51 fun v52 =>
stepM (gd false v52) s0 fun v53 =>
Sx.stepG (gd false v52) (pIndexS v53 (.int .i64 1)) fun v54 =>
stepE (gd false v52) (fun k => callP G152 [v54] w48 k) w48 fun v56 w55 =>
Sx.stepG (gd false v52) (bEq Tryz.prog 5 (.tmp 43) (.const (.int .u8 120)) v56 (.int .u8 120)) fun v57 =>
Sx.stepG (gd true v39) (pPick v52 (.bool true) v57) fun v58 =>
bindP (pPick v39 v58 (.bool false)) fun v59 =>
ifB v59 (
bindP (pIndexS s0 (.int .i64 1)) fun v60 =>
callP G152 [v60] w55 fun v62 w61 =>
bindP (bEq Tryz.prog 5 (.tmp 49) (.const (.int .u8 120)) v62 (.int .u8 120)) fun v63 =>
Y0 s0 (.int .i32 48) (.int .i64 2) v63 w61) (
Y0 s0 s3 s4 (.bool false) w55)
def F153_2 (s0 s3 s4 : Value) (w : World) (K : V1) : Prop := F153_2b s0 s3 s4 w K (fun a0 a3 a4 a5 w => F153_3 a0 a3 a4 a5 w K)
theorem ok153_2 {K : V1}
    (hn : HN (fun e w => K (e 2) w) kn) (hr : HR Tryz.prog [.tmp 2] K kr) (he : HE noE ke) :
    ∀ e w, F153_2 (e 0) (e 3) (e 4) w K → denL Tryz.prog (tabOf T153) 94 fuel ((flat (bodyOf Tryz.f153)).drop 5) e w kn kr ke := by
  intro e w h
  unfold F153_2 at h
  have e1 : ∀ (Y0 : V4), F153_2b (e 0) (e 3) (e 4) w K Y0 = denL Tryz.prog (tabOf T153) 94 fuel (((flat (bodyOf Tryz.f153)).drop 5).take 3) e w (fun e w => Y0 (e 0) (e 3) (e 4) (e 5) w) (endD Tryz.prog [.tmp 2] K) noE := by intro Y0; kernel_rfl
  exact seg 3 (Eq.mp (e1 (fun a0 a3 a4 a5 w => F153_3 a0 a3 a4 a5 w K)) h) (fun e w h => ok153_3 hn hr he e w h) hr he
def F153_1b (s0 : Value) (w : World) (_K : V1) (Y0 : V3) : Prop :=
bindP (lenS s0) fun v64 =>
bindP (bGe v64 (.int .i64 1)) fun v65 =>
stepM (gd true v65) s0 fun v66 =>
Sx.stepG (gd true v65) (pIndexS v66 (.int .i64 0)) fun v67 =>
Sx.stepG (gd true v65) (bEq Tryz.prog 5 (.tmp 11) (.const (.int .u8 45)) v67 (.int .u8 45)) fun v68 =>
stepM (gd true v65) v68 fun v69 =>
stepM (gd false v69) s0 fun v70 =>
Sx.stepG (gd false v69) (pIndexS v70 (.int .i64 0)) fun v71 =>
Sx.stepG (gd false v69) (bEq Tryz.prog 5 (.tmp 15) (.const (.int .u8 43)) v71 (.int .u8 43)) fun v72 =>
Sx.stepG (gd true v65) (pPick v69 (.bool true) v72) fun v73 =>
bindP (pPick v65 v73 (.bool false)) fun v74 =>
ifB v74 (
bindP (pSliceS s0 (some (.int .i64 1)) none) fun v75 =>
Y0 v75 (.int .i32 94) (.int .i64 0) w) (
Y0 s0 (.int .i32 94) (.int .i64 0) w)
def F153_1 (s0 : Value) (w : World) (K : V1) : Prop := F153_1b s0 w K (fun a0 a3 a4 w => F153_2 a0 a3 a4 w K)
theorem ok153_1 {K : V1}
    (hn : HN (fun e w => K (e 2) w) kn) (hr : HR Tryz.prog [.tmp 2] K kr) (he : HE noE ke) :
    ∀ e w, F153_1 (e 0) w K → denL Tryz.prog (tabOf T153) 94 fuel ((flat (bodyOf Tryz.f153)).drop 0) e w kn kr ke := by
  intro e w h
  unfold F153_1 at h
  have e1 : ∀ (Y0 : V3), F153_1b (e 0) w K Y0 = denL Tryz.prog (tabOf T153) 94 fuel (((flat (bodyOf Tryz.f153)).drop 0).take 5) e w (fun e w => Y0 (e 0) (e 3) (e 4) w) (endD Tryz.prog [.tmp 2] K) noE := by intro Y0; kernel_rfl
  exact seg 5 (Eq.mp (e1 (fun a0 a3 a4 w => F153_2 a0 a3 a4 w K)) h) (fun e w h => ok153_2 hn hr he e w h) hr he
def F153 (x0 : Value) (w : World) (K : V1) : Prop := F153_1 x0 w K
def G153 : FnT := fun args w K => on1 (fun x0 => F153 x0 w K) args
theorem ok153 : OkF Tryz.prog 153 G153 := by
  refine okF_of (tab_ok (l := T153) ⟨ok152, trivial⟩) mixed (n := fuel) Tryz.func153 Tryz.call153 fun args w K h => ?_
  obtain ⟨x0, rfl, hh⟩ := of_on1 h
  unfold F153 at hh
  exact fnD_list (c := bodyOf Tryz.f153) (by kernel_rfl) (by kernel_rfl) (ok153_1 (fun _ _ h => h) (fun _ _ h => h) (fun _ _ _ h => h) (initE [x0]) w hh)
def T131 : List (Nat × FnT) := [(152, G152), (153, G153)]
def F131_6b (s9 s12 s13 : Value) (w : World) (K : V1) : Prop :=
stepM (gd true s12) s9 fun v1 =>
stepE (gd true s12) (fun k => callP G153 [v1] w k) w fun v3 w2 =>
Sx.stepG (gd true s12) (uNot v3) fun v4 =>
bindP (pPick s12 v4 (.bool false)) fun v5 =>
ifB v5 (
bindP (fMkI Tryz.prog 148 (.int .i64 2)) fun v6 =>
K (.tuple #[(.int .u64 0), v6]) w2) (
K (.tuple #[s13, .nilIface]) w2)
def F131_6 (s9 s12 s13 : Value) (w : World) (K : V1) : Prop := F131_6b s9 s12 s13 w K
theorem ok131_6 {K : V1}
    (hn : HN (fun e w => K (.tuple #[(e 6), (e 7)]) w) kn) (hr : HR Tryz.prog [.tmp 6, .tmp 7] K kr) (he : HE noE ke) :
    ∀ e w, F131_6 (e 9) (e 12) (e 13) w K → denL Tryz.prog (tabOf T131) 172 fuel ((flat (bodyOf Tryz.f131)).drop 16) e w kn kr ke := by
  intro e w h
  unfold F131_6 at h
  have e1 : ∀ (_ : Unit), F131_6b (e 9) (e 12) (e 13) w K = denL Tryz.prog (tabOf T131) 172 fuel ((flat (bodyOf Tryz.f131)).drop 16) e w (fun e w => K (.tuple #[(e 6), (e 7)]) w) (endD Tryz.prog [.tmp 6, .tmp 7] K) noE := by intro _; kernel_rfl
  exact seg_end (Eq.mp (e1 ()) h) hn hr he
def F131_9b (s1 s8 s9 s10 s11 s12 s13 s99 s100 s101 : Value) (w : World) (_K : V1) (R6 : V10) : Prop :=
bindP (bAdd s101 (.int .i64 1)) fun v7 =>
R6 s1 s8 s9 s10 s11 s12 s13 s99 s100 v7 w
def F131_9 (s1 s8 s9 s10 s11 s12 s13 s99 s100 s101 : Value) (w : World) (K : V1) (R6 : V10) : Prop := F131_9b s1 s8 s9 s10 s11 s12 s13 s99 s100 s101 w K R6
theorem ok131_9 (R6 : V10) {K : V1}
    (hn : HN (fun e w => R6 (e 1) (e 8) (e 9) (e 10) (e 11) (e 12) (e 13) (e 99) (e 100) (e 101) w) kn) (hr : HR Tryz.prog [.tmp 6, .tmp 7] K kr) (he : HE (blkK 3 (fun e w => F131_6 (e 9) (e 12) (e 13) w K) noE) ke) :
    ∀ e w, F131_9 (e 1) (e 8) (e 9) (e 10) (e 11) (e 12) (e 13) (e 99) (e 100) (e 101) w K R6 → denL Tryz.prog (tabOf T131) 172 fuel ((flat (loopB (blkB (nthC (flat (bodyOf Tryz.f131)) 15)))).drop 3) e w kn kr ke := by
  intro e w h
  unfold F131_9 at h
  have e1 : ∀ (_ : Unit), F131_9b (e 1) (e 8) (e 9) (e 10) (e 11) (e 12) (e 13) (e 99) (e 100) (e 101) w K R6 = denL Tryz.prog (tabOf T131) 172 fuel ((flat (loopB (blkB (nthC (flat (bodyOf Tryz.f131)) 15)))).drop 3) e w (fun e w => R6 (e 1) (e 8) (e 9) (e 10) (e 11) (e 12) (e 13) (e 99) (e 100) (e 101) w) (endD Tryz.prog [.tmp 6, .tmp 7] K) (blkK 3 (fun e w => F131_6 (e 9) (e 12) (e 13) w K) noE) := by intro _; kernel_rfl
  exact seg_end (Eq.mp (e1 ()) h) hn hr he
def F131_11b (s1 s8 s9 s10 s11 s12 s13 s16 s99 s100 s101 : Value) (w : World) (K : V1) (R6 : V10) (Y0 : V10) : Prop :=
bindP (cInt .u8 s1) fun v8 =>
bindP (bGe s16 v8) fun v9 =>
ifB v9 (
bindP (fMkI Tryz.prog 148 (.int .i64 2)) fun v10 =>
K (.tuple #[(.int .u64 0), v10]) w) (
bindP (bGe s13 s10) fun v11 =>
ifB v11 (
bindP (fMkI Tryz.prog 148 (.int .i64 1)) fun v12 =>
K (.tuple #[s11, v12]) w) (
bindP (cInt .u64 s1) fun v13 =>
bindP (bMul s13 v13) fun v14 =>
bindP (cInt .u64 s16) fun v15 =>
bindP (bAdd v14 v15) fun v16 =>
bindP (bLt v16 v14) fun v17 =>
stepM (gd false v17) v16 fun v18 =>
stepM (gd false v17) s11 fun v19 =>
Sx.stepG (gd false v17) (bGt v18 v19) fun v20 =>
bindP (pPick v17 (.bool true) v20) fun v21 =>
ifB v21 (
bindP (fMkI Tryz.prog 148 (.int .i64 1)) fun v22 =>
K (.tuple #[s11, v22]) w) (
Y0 s1 s8 s9 s10 s11 s12 v16 s99 s100 s101 w)))
def F131_11 (s1 s8 s9 s10 s11 s12 s13 s16 s99 s100 s101 : Value) (w : World) (K : V1) (R6 : V10) : Prop := F131_11b s1 s8 s9 s10 s11 s12 s13 s16 s99 s100 s101 w K R6 (fun a1 a8 a9 a10 a11 a12 a13 a99 a100 a101 w => F131_9 a1 a8 a9 a10 a11 a12 a13 a99 a100 a101 w K R6)
theorem ok131_11 (R6 : V10) {K : V1}
    (hn : HN (fun e w => F131_9 (e 1) (e 8) (e 9) (e 10) (e 11) (e 12) (e 13) (e 99) (e 100) (e 101) w K R6) kn) (hr : HR Tryz.prog [.tmp 6, .tmp 7] K kr) (he : HE (blkK 4 (fun e w => F131_9 (e 1) (e 8) (e 9) (e 10) (e 11) (e 12) (e 13) (e 99) (e 100) (e 101) w K R6) (blkK 3 (fun e w => F131_6 (e 9) (e 12) (e 13) w K) noE)) ke) :
    ∀ e w, F131_11 (e 1) (e 8) (e 9) (e 10) (e 11) (e 12) (e 13) (e 16) (e 99) (e 100) (e 101) w K R6 → denL Tryz.prog (tabOf T131) 172 fuel ((flat (blkB (nthC (flat (loopB (blkB (nthC (flat (bodyOf Tryz.f131)) 15)))) 2))).drop 3) e w kn kr ke := by
  intro e w h
  unfold F131_11 at h
  have e1 : ∀ (Y0 : V10), F131_11b (e 1) (e 8) (e 9) (e 10) (e 11) (e 12) (e 13) (e 16) (e 99) (e 100) (e 101) w K R6 Y0 = denL Tryz.prog (tabOf T131) 172 fuel ((flat (blkB (nthC (flat (loopB (blkB (nthC (flat (bodyOf Tryz.f131)) 15)))) 2))).drop 3) e w (fun e w => Y0 (e 1) (e 8) (e 9) (e 10) (e 11) (e 12) (e 13) (e 99) (e 100) (e 101) w) (endD Tryz.prog [.tmp 6, .tmp 7] K) (blkK 4 (fun e w => Y0 (e 1) (e 8) (e 9) (e 10) (e 11) (e 12) (e 13) (e 99) (e 100) (e 101) w) (blkK 3 (fun e w => F131_6 (e 9) (e 12) (e 13) w K) noE)) := by intro Y0; kernel_rfl
  exact seg_end (Eq.mp (e1 (fun a1 a8 a9 a10 a11 a12 a13 a99 a100 a101 w => F131_9 a1 a8 a9 a10 a11 a12 a13 a99 a100 a101 w K R6)) h) hn hr he
def F131_10b (s1 s8 s9 s10 s11 s12 s13 s99 s100 s101 : Value) (w : World) (K : V1) (R6 : V10) (Y0 : V10) (Y1 : V11) : Prop :=
bindP (pIndexL 1 s99 s101) fun v23 =>
bindP (ld1 v23 w) fun v24 =>
bindP (bEq Tryz.prog 5 (.tmp 107) (.const (.int .u8 95)) v24 (.int .u8 95)) fun v25 =>
stepM (gd true v25) s8 fun v26 =>
bindP (pPick v25 v26 (.bool false)) fun v27 =>
ifB v27 (
Y0 s1 s8 s9 s10 s11 (.bool true) s13 s99 s100 s101 w) (
bindP (bLe (.int .u8 48) v24) fun v28 =>
stepM (gd true v28) v24 fun v29 =>
Sx.stepG (gd true v28) (bLe v29 (.int .u8 57)) fun v30 =>
bindP (pPick v28 v30 (.bool false)) fun v31 =>
ifB v31 (
bindP (bSub v24 (.int .u8 48)) fun v32 =>
Y1 s1 s8 s9 s10 s11 s12 s13 v32 s99 s100 s101 w) (
callP G152 [v24] w fun v34 w33 =>
bindP (bLe (.int .u8 97) v34) fun v35 =>
stepM (gd true v35) v24 fun v36 =>
stepE (gd true v35) (fun k => callP G152 [v36] w33 k) w33 fun v38 w37 =>
Sx.stepG (gd true v35) (bLe v38 (.int .u8 122)) fun v39 =>
bindP (pPick v35 v39 (.bool false)) fun v40 =>
ifB v40 (
callP G152 [v24] w37 fun v42 w41 =>
bindP (bSub v42 (.int .u8 97)) fun v43 =>
bindP (bAdd v43 (.int .u8 10)) fun v44 =>
Y1 s1 s8 s9 s10 s11 s12 s13 v44 s99 s100 s101 w41) (
bindP (fMkI Tryz.prog 148 (.int .i64 2)) fun v45 =>
K (.tuple #[(.int .u64 0), v45]) w37)))
def F131_10 (s1 s8 s9 s10 s11 s12 s13 s99 s100 s101 : Value) (w : World) (K : V1) (R6 : V10) : Prop := F131_10b s1 s8 s9 s10 s11 s12 s13 s99 s100 s101 w K R6 (fun a1 a8 a9 a10 a11 a12 a13 a99 a100 a101 w => F131_9 a1 a8 a9 a10 a11 a12 a13 a99 a100 a101 w K R6) (fun a1 a8 a9 a10 a11 a12 a13 a16 a99 a100 a101 w => F131_11 a1 a8 a9 a10 a11 a12 a13 a16 a99 a100 a101 w K R6)
theorem ok131_10 (R6 : V10) {K : V1}
    (hn : HN (fun e w => F131_9 (e 1) (e 8) (e 9) (e 10) (e 11) (e 12) (e 13) (e 99) (e 100) (e 101) w K R6) kn) (hr : HR Tryz.prog [.tmp 6, .tmp 7] K kr) (he : HE (blkK 4 (fun e w => F131_9 (e 1) (e 8) (e 9) (e 10) (e 11) (e 12) (e 13) (e 99) (e 100) (e 101) w K R6) (blkK 3 (fun e w => F131_6 (e 9) (e 12) (e 13) w K) noE)) ke) :
    ∀ e w, F131_10 (e 1) (e 8) (e 9) (e 10) (e 11) (e 12) (e 13) (e 99) (e 100) (e 101) w K R6 → denL Tryz.prog (tabOf T131) 172 fuel ((flat (blkB (nthC (flat (loopB (blkB (nthC (flat (bodyOf Tryz.f131)) 15)))) 2))).drop 0) e w kn kr ke := by
  intro e w h
  unfold F131_10 at h
  have e1 : ∀ (Y0 : V10) (Y1 : V11), F131_10b (e 1) (e 8) (e 9) (e 10) (e 11) (e 12) (e 13) (e 99) (e 100) (e 101) w K R6 Y0 Y1 = denL Tryz.prog (tabOf T131) 172 fuel (((flat (blkB (nthC (flat (loopB (blkB (nthC (flat (bodyOf Tryz.f131)) 15)))) 2))).drop 0).take 3) e w (fun e w => Y1 (e 1) (e 8) (e 9) (e 10) (e 11) (e 12) (e 13) (e 16) (e 99) (e 100) (e 101) w) (endD Tryz.prog [.tmp 6, .tmp 7] K) (blkK 4 (fun e w => Y0 (e 1) (e 8) (e 9) (e 10) (e 11) (e 12) (e 13) (e 99) (e 100) (e 101) w) (blkK 3 (fun e w => F131_6 (e 9) (e 12) (e 13) w K) noE)) := by intro Y0 Y1; kernel_rfl
  exact seg 3 (Eq.mp (e1 (fun a1 a8 a9 a10 a11 a12 a13 a99 a100 a101 w => F131_9 a1 a8 a9 a10 a11 a12 a13 a99 a100 a101 w K R6) (fun a1 a8 a9 a10 a11 a12 a13 a16 a99 a100 a101 w => F131_11 a1 a8 a9 a10 a11 a12 a13 a16 a99 a100 a101 w K R6)) h) (fun e w h => ok131_11 R6 hn hr he e w h) hr he
def F131_8 (s1 s8 s9 s10 s11 s12 s13 s99 s100 s101 : Value) (w : World) (K : V1) (R6 : V10) : Prop := F131_10 s1 s8 s9 s10 s11 s12 s13 s99 s100 s101 w K R6
theorem ok131_8 (R6 : V10) {K : V1}
    (hn : HN (fun e w => R6 (e 1) (e 8) (e 9) (e 10) (e 11) (e 12) (e 13) (e 99) (e 100) (e 101) w) kn) (hr : HR Tryz.prog [.tmp 6, .tmp 7] K kr) (he : HE (blkK 3 (fun e w => F131_6 (e 9) (e 12) (e 13) w K) noE) ke) :
    ∀ e w, F131_8 (e 1) (e 8) (e 9) (e 10) (e 11) (e 12) (e 13) (e 99) (e 100) (e 101) w K R6 → denL Tryz.prog (tabOf T131) 172 fuel ((flat (loopB (blkB (nthC (flat (bodyOf Tryz.f131)) 15)))).drop 2) e w kn kr ke := by
  intro e w h
  unfold F131_8 at h
  refine seg_block (id := 4) (body := (blkB (nthC (flat (loopB (blkB (nthC (flat (bodyOf Tryz.f131)) 15)))) 2))) (l2 := (flat (loopB (blkB (nthC (flat (bodyOf Tryz.f131)) 15)))).drop 3) (by kernel_rfl) ?_
  exact ok131_10 R6 (fun e w h => ok131_9 R6 hn hr he e w h) hr (blkK_mono (fun e w h => ok131_9 R6 hn hr he e w h) he) e w h
def F131_7b (s1 s8 s9 s10 s11 s12 s13 s99 s100 s101 : Value) (w : World) (_K : V1) (R6 : V10) (Y0 : V10) (Y1 : V3) : Prop :=
bindP (bLt s101 s100) fun v46 =>
ifB v46 (
Y0 s1 s8 s9 s10 s11 s12 s13 s99 s100 s101 w) (
Y1 s9 s12 s13 w)
def F131_7 (s1 s8 s9 s10 s11 s12 s13 s99 s100 s101 : Value) (w : World) (K : V1) (R6 : V10) : Prop := F131_7b s1 s8 s9 s10 s11 s12 s13 s99 s100 s101 w K R6 (fun a1 a8 a9 a10 a11 a12 a13 a99 a100 a101 w => F131_8 a1 a8 a9 a10 a11 a12 a13 a99 a100 a101 w K R6) (fun a9 a12 a13 w => F131_6 a9 a12 a13 w K)
theorem ok131_7 (R6 : V10) {K : V1}
    (hn : HN (fun e w => R6 (e 1) (e 8) (e 9) (e 10) (e 11) (e 12) (e 13) (e 99) (e 100) (e 101) w) kn) (hr : HR Tryz.prog [.tmp 6, .tmp 7] K kr) (he : HE (blkK 3 (fun e w => F131_6 (e 9) (e 12) (e 13) w K) noE) ke) :
    ∀ e w, F131_7 (e 1) (e 8) (e 9) (e 10) (e 11) (e 12) (e 13) (e 99) (e 100) (e 101) w K R6 → denL Tryz.prog (tabOf T131) 172 fuel ((flat (loopB (blkB (nthC (flat (bodyOf Tryz.f131)) 15)))).drop 0) e w kn kr ke := by
  intro e w h
  unfold F131_7 at h
  have e1 : ∀ (Y0 : V10) (Y1 : V3), F131_7b (e 1) (e 8) (e 9) (e 10) (e 11) (e 12) (e 13) (e 99) (e 100) (e 101) w K R6 Y0 Y1 = denL Tryz.prog (tabOf T131) 172 fuel (((flat (loopB (blkB (nthC (flat (bodyOf Tryz.f131)) 15)))).drop 0).take 2) e w (fun e w => Y0 (e 1) (e 8) (e 9) (e 10) (e 11) (e 12) (e 13) (e 99) (e 100) (e 101) w) (endD Tryz.prog [.tmp 6, .tmp 7] K) (blkK 3 (fun e w => Y1 (e 9) (e 12) (e 13) w) noE) := by intro Y0 Y1; kernel_rfl
  exact seg 2 (Eq.mp (e1 (fun a1 a8 a9 a10 a11 a12 a13 a99 a100 a101 w => F131_8 a1 a8 a9 a10 a11 a12 a13 a99 a100 a101 w K R6) (fun a9 a12 a13 w => F131_6 a9 a12 a13 w K)) h) (fun e w h => ok131_8 R6 hn hr he e w h) hr he
def F131_5L : Nat → Value → Value → Value → Value → Value → Value → Value → Value → Value → Value → World → (V1) → Prop
  | 0, _, _, _, _, _, _, _, _, _, _, _, _ => False
  | n + 1, s1, s8, s9, s10, s11, s12, s13, s99, s100, s101, w, K => F131_7 s1 s8 s9 s10 s11 s12 s13 s99 s100 s101 w K (fun a1 a8 a9 a10 a11 a12 a13 a99 a100 a101 w => F131_5L n a1 a8 a9 a10 a11 a12 a13 a99 a100 a101 w K)
def F131_5 (s1 s8 s9 s10 s11 s12 s13 s99 s100 s101 : Value) (w : World) (K : V1) : Prop := F131_5L fuel s1 s8 s9 s10 s11 s12 s13 s99 s100 s101 w K
theorem ok131_5 {K : V1}
    (hn : HN (fun e w => K (.tuple #[(e 6), (e 7)]) w) kn) (hr : HR Tryz.prog [.tmp 6, .tmp 7] K kr) (he : HE noE ke) :
    ∀ e w, F131_5 (e 1) (e 8) (e 9) (e 10) (e 11) (e 12) (e 13) (e 99) (e 100) (e 101) w K → denL Tryz.prog (tabOf T131) 172 fuel ((flat (bodyOf Tryz.f131)).drop 15) e w kn kr ke := by
  intro e w h
  unfold F131_5 at h
  refine seg_loop (id := 3) (body := (loopB (blkB (nthC (flat (bodyOf Tryz.f131)) 15)))) (l2 := (flat (bodyOf Tryz.f131)).drop 16) (by kernel_rfl) ?_
  refine loop_ok (FL := fun m e w => F131_5L m (e 1) (e 8) (e 9) (e 10) (e 11) (e 12) (e 13) (e 99) (e 100) (e 101) w K) (fr := endD Tryz.prog [.tmp 6, .tmp 7] K) (fe := (blkK 3 (fun e w => F131_6 (e 9) (e 12) (e 13) w K) noE)) (fun _ _ h => h) ?_ hr (blkK_mono (fun e w h => ok131_6 hn hr he e w h) he) fuel e w h
  intro m e w h
  have h : F131_5L (m + 1) (e 1) (e 8) (e 9) (e 10) (e 11) (e 12) (e 13) (e 99) (e 100) (e 101) w K := h
  rw [F131_5L] at h
  exact ok131_7 (fun a1 a8 a9 a10 a11 a12 a13 a99 a100 a101 w => F131_5L m a1 a8 a9 a10 a11 a12 a13 a99 a100 a101 w K) (fun _ _ h => h) (fun _ _ h => h) (fun _ _ _ h => h) e w h
def F131_4b (s0 s1 s2 s8 s9 s10 : Value) (w : World) (_K : V1) (Y0 : V10) : Prop :=
bindP (cInt .u64 s2) fun v47 =>
bindP (bShl (.int .u64 1) v47) fun v48 =>
bindP (bSub v48 (.int .u64 1)) fun v49 =>
eToBytes Tryz.prog 9 86 s0 w fun v51 w50 =>
bindP (lenL v51) fun v52 =>
Y0 s1 s8 s9 s10 v49 (.bool false) (.int .u64 0) v51 v52 (.int .i64 0) w50
def F131_4 (s0 s1 s2 s8 s9 s10 : Value) (w : World) (K : V1) : Prop := F131_4b s0 s1 s2 s8 s9 s10 w K (fun a1 a8 a9 a10 a11 a12 a13 a99 a100 a101 w => F131_5 a1 a8 a9 a10 a11 a12 a13 a99 a100 a101 w K)
theorem ok131_4 {K : V1}
    (hn : HN (fun e w => K (.tuple #[(e 6), (e 7)]) w) kn) (hr : HR Tryz.prog [.tmp 6, .tmp 7] K kr) (he : HE noE ke) :
    ∀ e w, F131_4 (e 0) (e 1) (e 2) (e 8) (e 9) (e 10) w K → denL Tryz.prog (tabOf T131) 172 fuel ((flat (bodyOf Tryz.f131)).drop 11) e w kn kr ke := by
  intro e w h
  unfold F131_4 at h
  have e1 : ∀ (Y0 : V10), F131_4b (e 0) (e 1) (e 2) (e 8) (e 9) (e 10) w K Y0 = denL Tryz.prog (tabOf T131) 172 fuel (((flat (bodyOf Tryz.f131)).drop 11).take 4) e w (fun e w => Y0 (e 1) (e 8) (e 9) (e 10) (e 11) (e 12) (e 13) (e 99) (e 100) (e 101) w) (endD Tryz.prog [.tmp 6, .tmp 7] K) noE := by intro Y0; kernel_rfl
  exact seg 4 (Eq.mp (e1 (fun a1 a8 a9 a10 a11 a12 a13 a99 a100 a101 w => F131_5 a1 a8 a9 a10 a11 a12 a13 a99 a100 a101 w K)) h) (fun e w h => ok131_5 hn hr he e w h) hr he
def F131_3b (s0 s1 s2 s8 s9 : Value) (w : World) (_K : V1) (Y0 : V6) : Prop :=
bindP (bEq Tryz.prog 3 (.tmp 85) (.const (.int .i64 10)) s1 (.int .i64 10)) fun v53 =>
ifB v53 (
Y0 s0 s1 s2 s8 s9 (.int .u64 1844674407370955162) w) (
bindP (bEq Tryz.prog 3 (.tmp 85) (.const (.int .i64 16)) s1 (.int .i64 16)) fun v54 =>
ifB v54 (
Y0 s0 s1 s2 s8 s9 (.int .u64 1152921504606846976) w) (
bindP (cInt .u64 s1) fun v55 =>
bindP (bQuo (.int .u64 18446744073709551615) v55) fun v56 =>
bindP (bAdd v56 (.int .u64 1)) fun v57 =>
Y0 s0 s1 s2 s8 s9 v57 w))
def F131_3 (s0 s1 s2 s8 s9 : Value) (w : World) (K : V1) : Prop := F131_3b s0 s1 s2 s8 s9 w K (fun a0 a1 a2 a8 a9 a10 w => F131_4 a0 a1 a2 a8 a9 a10 w K)
theorem ok131_3 {K : V1}
    (hn : HN (fun e w => K (.tuple #[(e 6), (e 7)]) w) kn) (hr : HR Tryz.prog [.tmp 6, .tmp 7] K kr) (he : HE noE ke) :
    ∀ e w, F131_3 (e 0) (e 1) (e 2) (e 8) (e 9) w K → denL Tryz.prog (tabOf T131) 172 fuel ((flat (bodyOf Tryz.f131)).drop 8) e w kn kr ke := by
  intro e w h
  unfold F131_3 at h
  have e1 : ∀ (Y0 : V6), F131_3b (e 0) (e 1) (e 2) (e 8) (e 9) w K Y0 = denL Tryz.prog (tabOf T131) 172 fuel (((flat (bodyOf Tryz.f131)).drop 8).take 3) e w (fun e w => Y0 (e 0) (e 1) (e 2) (e 8) (e 9) (e 10) w) (endD Tryz.prog [.tmp 6, .tmp 7] K) noE := by intro Y0; kernel_rfl
  exact seg 3 (Eq.mp (e1 (fun a0 a1 a2 a8 a9 a10 w => F131_4 a0 a1 a2 a8 a9 a10 w K)) h) (fun e w h => ok131_4 hn hr he e w h) hr he
def F131_2b (s0 s1 s2 s8 s9 : Value) (w : World) (K : V1) (Y0 : V5) : Prop :=
bindP (bEq Tryz.prog 3 (.tmp 76) (.const (.int .i64 0)) s2 (.int .i64 0)) fun v58 =>
ifB v58 (
Y0 s0 s1 (.int .i64 64) s8 s9 w) (
bindP (bLt s2 (.int .i64 0)) fun v59 =>
stepM (gd false v59) s2 fun v60 =>
Sx.stepG (gd false v59) (bGt v60 (.int .i64 64)) fun v61 =>
bindP (pPick v59 (.bool true) v61) fun v62 =>
ifB v62 (
bindP (fMkI Tryz.prog 148 (.int .i64 4)) fun v63 =>
K (.tuple #[(.int .u64 0), v63]) w) (
Y0 s0 s1 s2 s8 s9 w))
def F131_2 (s0 s1 s2 s8 s9 : Value) (w : World) (K : V1) : Prop := F131_2b s0 s1 s2 s8 s9 w K (fun a0 a1 a2 a8 a9 w => F131_3 a0 a1 a2 a8 a9 w K)
theorem ok131_2 {K : V1}
    (hn : HN (fun e w => K (.tuple #[(e 6), (e 7)]) w) kn) (hr : HR Tryz.prog [.tmp 6, .tmp 7] K kr) (he : HE noE ke) :
    ∀ e w, F131_2 (e 0) (e 1) (e 2) (e 8) (e 9) w K → denL Tryz.prog (tabOf T131) 172 fuel ((flat (bodyOf Tryz.f131)).drop 6) e w kn kr ke := by
  intro e w h
  unfold F131_2 at h
  have e1 : ∀ (Y0 : V5), F131_2b (e 0) (e 1) (e 2) (e 8) (e 9) w K Y0 = denL Tryz.prog (tabOf T131) 172 fuel (((flat (bodyOf Tryz.f131)).drop 6).take 2) e w (fun e w => Y0 (e 0) (e 1) (e 2) (e 8) (e 9) w) (endD Tryz.prog [.tmp 6, .tmp 7] K) noE := by intro Y0; kernel_rfl
  exact seg 2 (Eq.mp (e1 (fun a0 a1 a2 a8 a9 w => F131_3 a0 a1 a2 a8 a9 w K)) h) (fun e w h => ok131_3 hn hr he e w h) hr he
def F131_1b (s0 s1 s2 : Value) (w : World) (K : V1) (Y0 : V5) : Prop :=
bindP (bEq Tryz.prog 9 (.tmp 18) (.const (.string ⟨#[]⟩)) s0 (.string ⟨#[]⟩)) fun v64 =>
ifB v64 (
bindP (fMkI Tryz.prog 148 (.int .i64 2)) fun v65 =>
K (.tuple #[(.int .u64 0), v65]) w) (
bindP (bEq Tryz.prog 3 (.tmp 21) (.const (.int .i64 0)) s1 (.int .i64 0)) fun v66 =>
bindP (bLe (.int .i64 2) s1) fun v67 =>
stepM (gd true v67) s1 fun v68 =>
Sx.stepG (gd true v67) (bLe v68 (.int .i64 36)) fun v69 =>
bindP (pPick v67 v69 (.bool false)) fun v70 =>
ifB v70 (
Y0 s0 s1 s2 v66 s0 w) (
bindP (bEq Tryz.prog 3 (.tmp 33) (.const (.int .i64 0)) s1 (.int .i64 0)) fun v71 =>
ifB v71 (
bindP (pIndexS s0 (.int .i64 0)) fun v72 =>
bindP (bEq Tryz.prog 5 (.tmp 36) (.const (.int .u8 48)) v72 (.int .u8 48)) fun v73 =>
ifB v73 (
bindP (lenS s0) fun v74 =>
bindP (bGe v74 (.int .i64 3)) fun v75 =>
stepM (gd true v75) s0 fun v76 =>
Sx.stepG (gd true v75) (pIndexS v76 (.int .i64 1)) fun v77 =>
stepE (gd true v75) (fun k => callP G152 [v77] w k) w fun v79 w78 =>
Sx.stepG (gd true v75) (bEq Tryz.prog 5 (.tmp 47) (.const (.int .u8 98)) v79 (.int .u8 98)) fun v80 =>
bindP (pPick v75 v80 (.bool false)) fun v81 =>
ifB v81 (
bindP (pSliceS s0 (some (.int .i64 2)) none) fun v82 =>
Y0 v82 (.int .i64 2) s2 v66 s0 w78) (
bindP (lenS s0) fun v83 =>
bindP (bGe v83 (.int .i64 3)) fun v84 =>
stepM (gd true v84) s0 fun v85 =>
Sx.stepG (gd true v84) (pIndexS v85 (.int .i64 1)) fun v86 =>
stepE (gd true v84) (fun k => callP G152 [v86] w78 k) w78 fun v88 w87 =>
Sx.stepG (gd true v84) (bEq Tryz.prog 5 (.tmp 59) (.const (.int .u8 111)) v88 (.int .u8 111)) fun v89 =>
bindP (pPick v84 v89 (.bool false)) fun v90 =>
ifB v90 (
bindP (pSliceS s0 (some (.int .i64 2)) none) fun v91 =>
Y0 v91 (.int .i64 8) s2 v66 s0 w87) (
bindP (lenS s0) fun v92 =>
bindP (bGe v92 (.int .i64 3)) fun v93 =>
stepM (gd true v93) s0 fun v94 =>
Sx.stepG (gd true v93) (pIndexS v94 (.int .i64 1)) fun v95 =>
stepE (gd true v93) (fun k => callP G152 [v95] w87 k) w87 fun v97 w96 =>
Sx.stepG (gd true v93) (bEq Tryz.prog 5 (.tmp 71) (.const (.int .u8 120)) v97 (.int .u8 120)) fun v98 =>
bindP (pPick v93 v98 (.bool false)) fun v99 =>
ifB v99 (
bindP (pSliceS s0 (some (.int .i64 2)) none) fun v100 =>
Y0 v100 (.int .i64 16) s2 v66 s0 w96) (
bindP (pSliceS s0 (some (.int .i64 1)) none) fun v101 =>
Y0 v101 (.int .i64 8) s2 v66 s0 w96)))) (
Y0 s0 (.int .i64 10) s2 v66 s0 w)) (
bindP (fMkI Tryz.prog 148 (.int .i64 3)) fun v102 =>
K (.tuple #[(.int .u64 0), v102]) w)))
def F131_1 (s0 s1 s2 : Value) (w : World) (K : V1) : Prop := F131_1b s0 s1 s2 w K (fun a0 a1 a2 a8 a9 w => F131_2 a0 a1 a2 a8 a9 w K)
theorem ok131_1 {K : V1}
    (hn : HN (fun e w => K (.tuple #[(e 6), (e 7)]) w) kn) (hr : HR Tryz.prog [.tmp 6, .tmp 7] K kr) (he : HE noE ke) :
    ∀ e w, F131_1 (e 0) (e 1) (e 2) w K → denL Tryz.prog (tabOf T131) 172 fuel ((flat (bodyOf Tryz.f131)).drop 0) e w kn kr ke := by
  intro e w h
  unfold F131_1 at h
  have e1 : ∀ (Y0 : V5), F131_1b (e 0) (e 1) (e 2) w K Y0 = denL Tryz.prog (tabOf T131) 172 fuel (((flat (bodyOf Tryz.f131)).drop 0).take 6) e w (fun e w => Y0 (e 0) (e 1) (e 2) (e 8) (e 9) w) (endD Tryz.prog [.tmp 6, .tmp 7] K) noE := by intro Y0; kernel_rfl
  exact seg 6 (Eq.mp (e1 (fun a0 a1 a2 a8 a9 w => F131_2 a0 a1 a2 a8 a9 w K)) h) (fun e w h => ok131_2 hn hr he e w h) hr he
def F131 (x0 x1 x2 : Value) (w : World) (K : V1) : Prop := F131_1 x0 x1 x2 w K
def G131 : FnT := fun args w K => on3 (fun x0 x1 x2 => F131 x0 x1 x2 w K) args
theorem c131 {x0 x1 x2 : Value} {w : World} {K : V1} (h : F131 x0 x1 x2 w K) : callP G131 [x0, x1, x2] w K := callP_intro (on3_mk (p := fun x0 x1 x2 => F131 x0 x1 x2 w K) h)
theorem ok131 : OkF Tryz.prog 131 G131 := by
  refine okF_of (tab_ok (l := T131) ⟨ok152, ok153, trivial⟩) mixed (n := fuel) Tryz.func131 Tryz.call131 fun args w K h => ?_
  obtain ⟨x0, x1, x2, rfl, hh⟩ := of_on3 h
  unfold F131 at hh
  exact fnD_list (c := bodyOf Tryz.f131) (by kernel_rfl) (by kernel_rfl) (ok131_1 (fun _ _ h => h) (fun _ _ h => h) (fun _ _ _ h => h) (initE [x0, x1, x2]) w hh)
def T100 : List (Nat × FnT) := [(131, G131)]
def F100_4b (s11 : Value) (w : World) (K : V1) : Prop :=
K (.tuple #[s11, .nilIface]) w
def F100_4 (s11 : Value) (w : World) (K : V1) : Prop := F100_4b s11 w K
theorem ok100_4 {K : V1}
    (hn : HN (fun e w => K (.tuple #[(e 6), (e 7)]) w) kn) (hr : HR Tryz.prog [.tmp 6, .tmp 7] K kr) (he : HE noE ke) :
    ∀ e w, F100_4 (e 11) w K → denL Tryz.prog (tabOf T100) 73 fuel ((flat (bodyOf Tryz.f100)).drop 20) e w kn kr ke := by
  intro e w h
  unfold F100_4 at h
  have e1 : ∀ (_ : Unit), F100_4b (e 11) w K = denL Tryz.prog (tabOf T100) 73 fuel ((flat (bodyOf Tryz.f100)).drop 20) e w (fun e w => K (.tuple #[(e 6), (e 7)]) w) (endD Tryz.prog [.tmp 6, .tmp 7] K) noE := by intro _; kernel_rfl
  exact seg_end (Eq.mp (e1 ()) h) hn hr he
def F100_3b (s2 s8 s9 : Value) (w : World) (K : V1) (Y0 : V1) : Prop :=
bindP (bSub s2 (.int .i64 1)) fun v1 =>
bindP (cInt .u64 v1) fun v2 =>
bindP (bShl (.int .u64 1) v2) fun v3 =>
bindP (uNot s8) fun v4 =>
stepM (gd true v4) s9 fun v5 =>
stepM (gd true v4) v3 fun v6 =>
Sx.stepG (gd true v4) (bGe v5 v6) fun v7 =>
bindP (pPick v4 v7 (.bool false)) fun v8 =>
ifB v8 (
bindP (bSub v3 (.int .u64 1)) fun v9 =>
bindP (cInt .i64 v9) fun v10 =>
bindP (fMkI Tryz.prog 148 (.int .i64 1)) fun v11 =>
K (.tuple #[v10, v11]) w) (
stepM (gd true s8) s9 fun v12 =>
stepM (gd true s8) v3 fun v13 =>
Sx.stepG (gd true s8) (bGt v12 v13) fun v14 =>
bindP (pPick s8 v14 (.bool false)) fun v15 =>
ifB v15 (
bindP (cInt .i64 v3) fun v16 =>
bindP (uNeg v16) fun v17 =>
bindP (fMkI Tryz.prog 148 (.int .i64 1)) fun v18 =>
K (.tuple #[v17, v18]) w) (
bindP (cInt .i64 s9) fun v19 =>
ifB s8 (
bindP (uNeg v19) fun v20 =>
Y0 v20 w) (
Y0 v19 w)))
def F100_3 (s2 s8 s9 : Value) (w : World) (K : V1) : Prop := F100_3b s2 s8 s9 w K (fun a11 w => F100_4 a11 w K)
theorem ok100_3 {K : V1}
    (hn : HN (fun e w => K (.tuple #[(e 6), (e 7)]) w) kn) (hr : HR Tryz.prog [.tmp 6, .tmp 7] K kr) (he : HE noE ke) :
    ∀ e w, F100_3 (e 2) (e 8) (e 9) w K → denL Tryz.prog (tabOf T100) 73 fuel ((flat (bodyOf Tryz.f100)).drop 12) e w kn kr ke := by
  intro e w h
  unfold F100_3 at h
  have e1 : ∀ (Y0 : V1), F100_3b (e 2) (e 8) (e 9) w K Y0 = denL Tryz.prog (tabOf T100) 73 fuel (((flat (bodyOf Tryz.f100)).drop 12).take 8) e w (fun e w => Y0 (e 11) w) (endD Tryz.prog [.tmp 6, .tmp 7] K) noE := by intro Y0; kernel_rfl
  exact seg 8 (Eq.mp (e1 (fun a11 w => F100_4 a11 w K)) h) (fun e w h => ok100_4 hn hr he e w h) hr he
def F100_2b (s0 s1 s2 s8 : Value) (w : World) (K : V1) (Y0 : V3) : Prop :=
callP G131 [s0, s1, s2] w fun v22 w21 =>
bindP (pTuple v22 0) fun v23 =>
bindP (pTuple v22 1) fun v24 =>
bindP (bNe Tryz.prog 99 (.tmp 32) (.const .nilIface) v24 .nilIface) fun v25 =>
stepM (gd true v25) v24 fun v26 =>
Sx.stepG (gd true v25) (fMkI Tryz.prog 148 (.int .i64 1)) fun v27 =>
Sx.stepG (gd true v25) (bNe Tryz.prog 99 (.tmp 35) (.tmp 36) v26 v27) fun v28 =>
bindP (pPick v25 v28 (.bool false)) fun v29 =>
ifB v29 (
K (.tuple #[(.int .i64 0), v24]) w21) (
bindP (bEq Tryz.prog 3 (.tmp 40) (.const (.int .i64 0)) s2 (.int .i64 0)) fun v30 =>
ifB v30 (
Y0 (.int .i64 64) s8 v23 w21) (
Y0 s2 s8 v23 w21))
def F100_2 (s0 s1 s2 s8 : Value) (w : World) (K : V1) : Prop := F100_2b s0 s1 s2 s8 w K (fun a2 a8 a9 w => F100_3 a2 a8 a9 w K)
theorem ok100_2 {K : V1}
    (hn : HN (fun e w => K (.tuple #[(e 6), (e 7)]) w) kn) (hr : HR Tryz.prog [.tmp 6, .tmp 7] K kr) (he : HE noE ke) :
    ∀ e w, F100_2 (e 0) (e 1) (e 2) (e 8) w K → denL Tryz.prog (tabOf T100) 73 fuel ((flat (bodyOf Tryz.f100)).drop 6) e w kn kr ke := by
  intro e w h
  unfold F100_2 at h
  have e1 : ∀ (Y0 : V3), F100_2b (e 0) (e 1) (e 2) (e 8) w K Y0 = denL Tryz.prog (tabOf T100) 73 fuel (((flat (bodyOf Tryz.f100)).drop 6).take 6) e w (fun e w => Y0 (e 2) (e 8) (e 9) w) (endD Tryz.prog [.tmp 6, .tmp 7] K) noE := by intro Y0; kernel_rfl
  exact seg 6 (Eq.mp (e1 (fun a2 a8 a9 w => F100_3 a2 a8 a9 w K)) h) (fun e w h => ok100_3 hn hr he e w h) hr he
def F100_1b (s0 s1 s2 : Value) (w : World) (K : V1) (Y0 : V4) : Prop :=
bindP (bEq Tryz.prog 9 (.tmp 12) (.const (.string ⟨#[]⟩)) s0 (.string ⟨#[]⟩)) fun v31 =>
ifB v31 (
bindP (fMkI Tryz.prog 148 (.int .i64 2)) fun v32 =>
K (.tuple #[(.int .i64 0), v32]) w) (
bindP (pIndexS s0 (.int .i64 0)) fun v33 =>
bindP (bEq Tryz.prog 5 (.tmp 16) (.const (.int .u8 43)) v33 (.int .u8 43)) fun v34 =>
ifB v34 (
bindP (pSliceS s0 (some (.int .i64 1)) none) fun v35 =>
Y0 v35 s1 s2 (.bool false) w) (
bindP (bEq Tryz.prog 5 (.tmp 16) (.const (.int .u8 45)) v33 (.int .u8 45)) fun v36 =>
ifB v36 (
bindP (pSliceS s0 (some (.int .i64 1)) none) fun v37 =>
Y0 v37 s1 s2 (.bool true) w) (
Y0 s0 s1 s2 (.bool false) w)))
def F100_1 (s0 s1 s2 : Value) (w : World) (K : V1) : Prop := F100_1b s0 s1 s2 w K (fun a0 a1 a2 a8 w => F100_2 a0 a1 a2 a8 w K)
theorem ok100_1 {K : V1}
    (hn : HN (fun e w => K (.tuple #[(e 6), (e 7)]) w) kn) (hr : HR Tryz.prog [.tmp 6, .tmp 7] K kr) (he : HE noE ke) :
    ∀ e w, F100_1 (e 0) (e 1) (e 2) w K → denL Tryz.prog (tabOf T100) 73 fuel ((flat (bodyOf Tryz.f100)).drop 0) e w kn kr ke := by
  intro e w h
  unfold F100_1 at h
  have e1 : ∀ (Y0 : V4), F100_1b (e 0) (e 1) (e 2) w K Y0 = denL Tryz.prog (tabOf T100) 73 fuel (((flat (bodyOf Tryz.f100)).drop 0).take 6) e w (fun e w => Y0 (e 0) (e 1) (e 2) (e 8) w) (endD Tryz.prog [.tmp 6, .tmp 7] K) noE := by intro Y0; kernel_rfl
  exact seg 6 (Eq.mp (e1 (fun a0 a1 a2 a8 w => F100_2 a0 a1 a2 a8 w K)) h) (fun e w h => ok100_2 hn hr he e w h) hr he
def F100 (x0 x1 x2 : Value) (w : World) (K : V1) : Prop := F100_1 x0 x1 x2 w K
def G100 : FnT := fun args w K => on3 (fun x0 x1 x2 => F100 x0 x1 x2 w K) args
theorem c100 {x0 x1 x2 : Value} {w : World} {K : V1} (h : F100 x0 x1 x2 w K) : callP G100 [x0, x1, x2] w K := callP_intro (on3_mk (p := fun x0 x1 x2 => F100 x0 x1 x2 w K) h)
theorem ok100 : OkF Tryz.prog 100 G100 := by
  refine okF_of (tab_ok (l := T100) ⟨ok131, trivial⟩) mixed (n := fuel) Tryz.func100 Tryz.call100 fun args w K h => ?_
  obtain ⟨x0, x1, x2, rfl, hh⟩ := of_on3 h
  unfold F100 at hh
  exact fnD_list (c := bodyOf Tryz.f100) (by kernel_rfl) (by kernel_rfl) (ok100_1 (fun _ _ h => h) (fun _ _ h => h) (fun _ _ _ h => h) (initE [x0, x1, x2]) w hh)
def LayC154_ren : Go.Shelf.Ren := ⟨fun | 316 => 154 | n => n, fun | 9 => 9 | 3 => 3 | 4 => 4 | 37 => 86 | 0 => 0 | 127 => 141 | 5 => 5 | n => n, fun | n => n⟩
theorem LayC154 : Go.Proofs.LaysM.n316 Tryz.prog LayC154_ren := {
  mixed := by kernel_rfl
  f316 := Tryz.func154.trans (congrArg some (by kernel_rfl))
  t0 := Tryz.underlying0
  a0 := Tryz.isAgg0
  z0 := Tryz.sizeOf0
  v0 := Tryz.zeroValue0
  t3 := Tryz.underlying3
  a3 := Tryz.isAgg3
  z3 := Tryz.sizeOf3
  v3 := Tryz.zeroValue3
  t4 := Tryz.underlying4
  a4 := Tryz.isAgg4
  z4 := Tryz.sizeOf4
  v4 := Tryz.zeroValue4
  t9 := Tryz.underlying9
  a9 := Tryz.isAgg9
  z9 := Tryz.sizeOf9
  v9 := Tryz.zeroValue9
  t37 := Tryz.underlying86
  a37 := Tryz.isAgg86
  z37 := Tryz.sizeOf86
  v37 := Tryz.zeroValue86
  t127 := Tryz.underlying141
  a127 := Tryz.isAgg141
  z127 := Tryz.sizeOf141
  v127 := Tryz.zeroValue141
  t5 := Tryz.underlying5
  a5 := Tryz.isAgg5
  z5 := Tryz.sizeOf5
  v5 := Tryz.zeroValue5
  i0 := by kernel_rfl
  i3 := by kernel_rfl
  i4 := by kernel_rfl
  i5 := by kernel_rfl
  i9 := by kernel_rfl
  i37 := by kernel_rfl
  i127 := by kernel_rfl }
def G154 : FnT := gCopyS
theorem ok154 : OkF Tryz.prog 154 G154 := okCopyS LayC154 rfl Tryz.call154
def T132 : List (Nat × FnT) := [(154, G154)]
def F132 (x0 x1 : Value) (w : World) (K : V1) : Prop :=
bindP (ld1 (.pointer (some ⟨2, 0, none⟩)) w.drew) fun v1 =>
callP G154 [x1] w.drew fun v3 w2 =>
fok true (ld1 (.pointer (some ⟨2, 0, none⟩)) w2) v1 ∧ (bindP (fBuild Tryz.prog 171 [(0, x0), (1, v3), (2, v1)]) fun v4 =>
eBox 171 v4 w2 fun v6 w5 =>
K v6 w5)
def G132 : FnT := fun args w K => on2 (fun x0 x1 => F132 x0 x1 w K) args
theorem c132 {x0 x1 : Value} {w : World} {K : V1} (h : F132 x0 x1 w K) : callP G132 [x0, x1] w K := callP_intro (on2_mk (p := fun x0 x1 => F132 x0 x1 w K) h)
theorem ok132 : OkF Tryz.prog 132 G132 := by
  refine okF_of (tab_ok (l := T132) ⟨ok154, trivial⟩) mixed (n := fuel) Tryz.func132 Tryz.call132 fun args w K h => ?_
  obtain ⟨x0, x1, rfl, hh⟩ := of_on2 h
  exact fnD_list (c := bodyOf Tryz.f132) (by kernel_rfl) (by kernel_rfl) (Eq.mp (by kernel_rfl) hh)
def T133 : List (Nat × FnT) := [(154, G154)]
def F133 (x0 x1 : Value) (w : World) (K : V1) : Prop :=
bindP (ld1 (.pointer (some ⟨3, 0, none⟩)) w.drew) fun v1 =>
callP G154 [x1] w.drew fun v3 w2 =>
fok true (ld1 (.pointer (some ⟨3, 0, none⟩)) w2) v1 ∧ (bindP (fBuild Tryz.prog 171 [(0, x0), (1, v3), (2, v1)]) fun v4 =>
eBox 171 v4 w2 fun v6 w5 =>
K v6 w5)
def G133 : FnT := fun args w K => on2 (fun x0 x1 => F133 x0 x1 w K) args
theorem ok133 : OkF Tryz.prog 133 G133 := by
  refine okF_of (tab_ok (l := T133) ⟨ok154, trivial⟩) mixed (n := fuel) Tryz.func133 Tryz.call133 fun args w K h => ?_
  obtain ⟨x0, x1, rfl, hh⟩ := of_on2 h
  exact fnD_list (c := bodyOf Tryz.f133) (by kernel_rfl) (by kernel_rfl) (Eq.mp (by kernel_rfl) hh)
def T155 : List (Nat × FnT) := []
def F155 (x0 : Value) (w : World) (K : V1) : Prop :=
bindP (fBuild Tryz.prog 179 [(0, x0)]) fun v1 =>
eBox 179 v1 w fun v3 w2 =>
bindP (fMkI Tryz.prog 177 v3) fun v4 =>
K v4 w2
def G155 : FnT := fun args w K => on1 (fun x0 => F155 x0 w K) args
theorem ok155 : OkF Tryz.prog 155 G155 := by
  refine okF_of (tab_ok (l := T155) trivial) mixed (n := fuel) Tryz.func155 Tryz.call155 fun args w K h => ?_
  obtain ⟨x0, rfl, hh⟩ := of_on1 h
  exact fnD_list (c := bodyOf Tryz.f155) (by kernel_rfl) (by kernel_rfl) (Eq.mp (by kernel_rfl) hh)
def T161 : List (Nat × FnT) := [(88, G88)]
def F161 (x0 : Value) (w : World) (K : V1) : Prop :=
callP G88 [x0, (.int .i64 10)] w fun v2 w1 =>
K v2 w1
def G161 : FnT := fun args w K => on1 (fun x0 => F161 x0 w K) args
theorem ok161 : OkF Tryz.prog 161 G161 := by
  refine okF_of (tab_ok (l := T161) ⟨ok88, trivial⟩) mixed (n := fuel) Tryz.func161 Tryz.call161 fun args w K h => ?_
  obtain ⟨x0, rfl, hh⟩ := of_on1 h
  exact fnD_list (c := bodyOf Tryz.f161) (by kernel_rfl) (by kernel_rfl) (Eq.mp (by kernel_rfl) hh)
def T156 : List (Nat × FnT) := [(161, G161)]
def F156 (x0 : Value) (w : World) (K : V1) : Prop :=
callP G161 [x0] w fun v2 w1 =>
K v2 w1
def G156 : FnT := fun args w K => on1 (fun x0 => F156 x0 w K) args
theorem ok156 : OkF Tryz.prog 156 G156 := by
  refine okF_of (tab_ok (l := T156) ⟨ok161, trivial⟩) mixed (n := fuel) Tryz.func156 Tryz.call156 fun args w K h => ?_
  obtain ⟨x0, rfl, hh⟩ := of_on1 h
  exact fnD_list (c := bodyOf Tryz.f156) (by kernel_rfl) (by kernel_rfl) (Eq.mp (by kernel_rfl) hh)
def T134 : List (Nat × FnT) := [(154, G154), (155, G155), (156, G156)]
def F134 (x0 x1 x2 : Value) (w : World) (K : V1) : Prop :=
callP G154 [x1] w fun v2 w1 =>
callP G156 [x2] w1 fun v4 w3 =>
bindP (bAdd (.string ⟨#[105, 110, 118, 97, 108, 105, 100, 32, 98, 97, 115, 101, 32]⟩) v4) fun v5 =>
callP G155 [v5] w3 fun v7 w6 =>
bindP (fBuild Tryz.prog 171 [(0, x0), (1, v2), (2, v7)]) fun v8 =>
eBox 171 v8 w6 fun v10 w9 =>
K v10 w9
def G134 : FnT := fun args w K => on3 (fun x0 x1 x2 => F134 x0 x1 x2 w K) args
theorem ok134 : OkF Tryz.prog 134 G134 := by
  refine okF_of (tab_ok (l := T134) ⟨ok154, ok155, ok156, trivial⟩) mixed (n := fuel) Tryz.func134 Tryz.call134 fun args w K h => ?_
  obtain ⟨x0, x1, x2, rfl, hh⟩ := of_on3 h
  exact fnD_list (c := bodyOf Tryz.f134) (by kernel_rfl) (by kernel_rfl) (Eq.mp (by kernel_rfl) hh)
def T135 : List (Nat × FnT) := [(154, G154), (155, G155), (156, G156)]
def F135 (x0 x1 x2 : Value) (w : World) (K : V1) : Prop :=
callP G154 [x1] w fun v2 w1 =>
callP G156 [x2] w1 fun v4 w3 =>
bindP (bAdd (.string ⟨#[105, 110, 118, 97, 108, 105, 100, 32, 98, 105, 116, 32, 115, 105, 122, 101, 32]⟩) v4) fun v5 =>
callP G155 [v5] w3 fun v7 w6 =>
bindP (fBuild Tryz.prog 171 [(0, x0), (1, v2), (2, v7)]) fun v8 =>
eBox 171 v8 w6 fun v10 w9 =>
K v10 w9
def G135 : FnT := fun args w K => on3 (fun x0 x1 x2 => F135 x0 x1 x2 w K) args
theorem ok135 : OkF Tryz.prog 135 G135 := by
  refine okF_of (tab_ok (l := T135) ⟨ok154, ok155, ok156, trivial⟩) mixed (n := fuel) Tryz.func135 Tryz.call135 fun args w K h => ?_
  obtain ⟨x0, x1, x2, rfl, hh⟩ := of_on3 h
  exact fnD_list (c := bodyOf Tryz.f135) (by kernel_rfl) (by kernel_rfl) (Eq.mp (by kernel_rfl) hh)
def T101 : List (Nat × FnT) := [(132, G132), (133, G133), (134, G134), (135, G135)]
def F101 (x0 x1 x2 x3 x4 : Value) (w : World) (K : V1) : Prop :=
bindP (fMkI Tryz.prog 148 (.int .i64 2)) fun v1 =>
bindP (bEq Tryz.prog 99 (.tmp 11) (.tmp 13) x4 v1) fun v2 =>
ifB v2 (
callP G132 [x0, x1] w fun v4 w3 =>
bindP (fMkI Tryz.prog 151 v4) fun v5 =>
K v5 w3) (
bindP (fMkI Tryz.prog 148 (.int .i64 1)) fun v6 =>
bindP (bEq Tryz.prog 99 (.tmp 11) (.tmp 20) x4 v6) fun v7 =>
ifB v7 (
callP G133 [x0, x1] w fun v9 w8 =>
bindP (fMkI Tryz.prog 151 v9) fun v10 =>
K v10 w8) (
bindP (fMkI Tryz.prog 148 (.int .i64 3)) fun v11 =>
bindP (bEq Tryz.prog 99 (.tmp 11) (.tmp 27) x4 v11) fun v12 =>
ifB v12 (
callP G134 [x0, x1, x2] w fun v14 w13 =>
bindP (fMkI Tryz.prog 151 v14) fun v15 =>
K v15 w13) (
bindP (fMkI Tryz.prog 148 (.int .i64 4)) fun v16 =>
bindP (bEq Tryz.prog 99 (.tmp 11) (.tmp 35) x4 v16) fun v17 =>
ifB v17 (
callP G135 [x0, x1, x3] w fun v19 w18 =>
bindP (fMkI Tryz.prog 151 v19) fun v20 =>
K v20 w18) (
K x4 w))))
def G101 : FnT := fun args w K => on5 (fun x0 x1 x2 x3 x4 => F101 x0 x1 x2 x3 x4 w K) args
theorem c101 {x0 x1 x2 x3 x4 : Value} {w : World} {K : V1} (h : F101 x0 x1 x2 x3 x4 w K) : callP G101 [x0, x1, x2, x3, x4] w K := callP_intro (on5_mk (p := fun x0 x1 x2 x3 x4 => F101 x0 x1 x2 x3 x4 w K) h)
theorem ok101 : OkF Tryz.prog 101 G101 := by
  refine okF_of (tab_ok (l := T101) ⟨ok132, ok133, ok134, ok135, trivial⟩) mixed (n := fuel) Tryz.func101 Tryz.call101 fun args w K h => ?_
  obtain ⟨x0, x1, x2, x3, x4, rfl, hh⟩ := of_on5 h
  exact fnD_list (c := bodyOf Tryz.f101) (by kernel_rfl) (by kernel_rfl) (Eq.mp (by kernel_rfl) hh)
def T85 : List (Nat × FnT) := [(100, G100), (101, G101)]
def F85 (x0 x1 x2 : Value) (w : World) (K : V1) : Prop :=
callP G100 [x0, x1, x2] w fun v2 w1 =>
bindP (pTuple v2 0) fun v3 =>
bindP (pTuple v2 1) fun v4 =>
bindP (bNe Tryz.prog 99 (.tmp 16) (.const .nilIface) v4 .nilIface) fun v5 =>
ifB v5 (
callP G101 [(.string ⟨#[80, 97, 114, 115, 101, 73, 110, 116]⟩), x0, x1, x2, v4] w1 fun v7 w6 =>
K (.tuple #[v3, v7]) w6) (
K (.tuple #[v3, .nilIface]) w1)
def G85 : FnT := fun args w K => on3 (fun x0 x1 x2 => F85 x0 x1 x2 w K) args
theorem c85 {x0 x1 x2 : Value} {w : World} {K : V1} (h : F85 x0 x1 x2 w K) : callP G85 [x0, x1, x2] w K := callP_intro (on3_mk (p := fun x0 x1 x2 => F85 x0 x1 x2 w K) h)
theorem ok85 : OkF Tryz.prog 85 G85 := by
  refine okF_of (tab_ok (l := T85) ⟨ok100, ok101, trivial⟩) mixed (n := fuel) Tryz.func85 Tryz.call85 fun args w K h => ?_
  obtain ⟨x0, x1, x2, rfl, hh⟩ := of_on3 h
  exact fnD_list (c := bodyOf Tryz.f85) (by kernel_rfl) (by kernel_rfl) (Eq.mp (by kernel_rfl) hh)
def T81 : List (Nat × FnT) := []
def F81_3b (w : World) (K : V1) : Prop :=
K (.int .i64 (-1)) w
def F81_3 (w : World) (K : V1) : Prop := F81_3b w K
theorem ok81_3 {K : V1}
    (hn : HN (fun e w => K (e 4) w) kn) (hr : HR Tryz.prog [.tmp 4] K kr) (he : HE noE ke) :
    ∀ e w, F81_3 w K → denL Tryz.prog (tabOf T81) 19 fuel ((flat (bodyOf Tryz.f81)).drop 3) e w kn kr ke := by
  intro e w h
  unfold F81_3 at h
  have e1 : ∀ (_ : Unit), F81_3b w K = denL Tryz.prog (tabOf T81) 19 fuel ((flat (bodyOf Tryz.f81)).drop 3) e w (fun e w => K (e 4) w) (endD Tryz.prog [.tmp 4] K) noE := by intro _; kernel_rfl
  exact seg_end (Eq.mp (e1 ()) h) hn hr he
def F81_2b (s0 s1 s7 s8 : Value) (w : World) (K : V1) (Y0 : V4) (Y1 : V0) : Prop :=
bindP (bLt s8 s7) fun v1 =>
ifB v1 (
bindP (pIndexL 1 s0 s8) fun v2 =>
bindP (ld1 v2 w) fun v3 =>
bindP (bEq Tryz.prog 9 (.tmp 11) (.tmp 15) s1 v3) fun v4 =>
ifB v4 (
K s8 w) (
bindP (bAdd s8 (.int .i64 1)) fun v5 =>
Y0 s0 s1 s7 v5 w)) (
Y1 w)
def F81_2L : Nat → Value → Value → Value → Value → World → (V1) → Prop
  | 0, _, _, _, _, _, _ => False
  | n + 1, s0, s1, s7, s8, w, K => F81_2b s0 s1 s7 s8 w K (fun a0 a1 a7 a8 w => F81_2L n a0 a1 a7 a8 w K) (fun w => F81_3 w K)
def F81_2 (s0 s1 s7 s8 : Value) (w : World) (K : V1) : Prop := F81_2L fuel s0 s1 s7 s8 w K
theorem ok81_2 {K : V1}
    (hn : HN (fun e w => K (e 4) w) kn) (hr : HR Tryz.prog [.tmp 4] K kr) (he : HE noE ke) :
    ∀ e w, F81_2 (e 0) (e 1) (e 7) (e 8) w K → denL Tryz.prog (tabOf T81) 19 fuel ((flat (bodyOf Tryz.f81)).drop 2) e w kn kr ke := by
  intro e w h
  unfold F81_2 at h
  refine seg_loop (id := 0) (body := (loopB (blkB (nthC (flat (bodyOf Tryz.f81)) 2)))) (l2 := (flat (bodyOf Tryz.f81)).drop 3) (by kernel_rfl) ?_
  refine loop_ok (FL := fun m e w => F81_2L m (e 0) (e 1) (e 7) (e 8) w K) (fr := endD Tryz.prog [.tmp 4] K) (fe := (blkK 0 (fun e w => F81_3 w K) noE)) (fun _ _ h => h) ?_ hr (blkK_mono (fun e w h => ok81_3 hn hr he e w h) he) fuel e w h
  intro m e w h
  have h : F81_2L (m + 1) (e 0) (e 1) (e 7) (e 8) w K := h
  rw [F81_2L] at h
  have e1 : ∀ (Y0 : V4) (Y1 : V0), F81_2b (e 0) (e 1) (e 7) (e 8) w K Y0 Y1 = denL Tryz.prog (tabOf T81) 19 fuel (flat (loopB (blkB (nthC (flat (bodyOf Tryz.f81)) 2)))) e w (fun e w => Y0 (e 0) (e 1) (e 7) (e 8) w) (endD Tryz.prog [.tmp 4] K) (blkK 0 (fun e w => Y1 w) noE) := by intro Y0 Y1; kernel_rfl
  exact Eq.mp (e1 (fun a0 a1 a7 a8 w => F81_2L m a0 a1 a7 a8 w K) (fun w => F81_3 w K)) h
def F81_1b (s0 s1 : Value) (w : World) (_K : V1) (Y0 : V4) : Prop :=
bindP (lenL s0) fun v6 =>
Y0 s0 s1 v6 (.int .i64 0) w
def F81_1 (s0 s1 : Value) (w : World) (K : V1) : Prop := F81_1b s0 s1 w K (fun a0 a1 a7 a8 w => F81_2 a0 a1 a7 a8 w K)
theorem ok81_1 {K : V1}
    (hn : HN (fun e w => K (e 4) w) kn) (hr : HR Tryz.prog [.tmp 4] K kr) (he : HE noE ke) :
    ∀ e w, F81_1 (e 0) (e 1) w K → denL Tryz.prog (tabOf T81) 19 fuel ((flat (bodyOf Tryz.f81)).drop 0) e w kn kr ke := by
  intro e w h
  unfold F81_1 at h
  have e1 : ∀ (Y0 : V4), F81_1b (e 0) (e 1) w K Y0 = denL Tryz.prog (tabOf T81) 19 fuel (((flat (bodyOf Tryz.f81)).drop 0).take 2) e w (fun e w => Y0 (e 0) (e 1) (e 7) (e 8) w) (endD Tryz.prog [.tmp 4] K) noE := by intro Y0; kernel_rfl
  exact seg 2 (Eq.mp (e1 (fun a0 a1 a7 a8 w => F81_2 a0 a1 a7 a8 w K)) h) (fun e w h => ok81_2 hn hr he e w h) hr he
def F81 (x0 x1 : Value) (w : World) (K : V1) : Prop := F81_1 x0 x1 w K
def G81 : FnT := fun args w K => on2 (fun x0 x1 => F81 x0 x1 w K) args
theorem c81 {x0 x1 : Value} {w : World} {K : V1} (h : F81 x0 x1 w K) : callP G81 [x0, x1] w K := callP_intro (on2_mk (p := fun x0 x1 => F81 x0 x1 w K) h)
theorem ok81 : OkF Tryz.prog 81 G81 := by
  refine okF_of (tab_ok (l := T81) trivial) mixed (n := fuel) Tryz.func81 Tryz.call81 fun args w K h => ?_
  obtain ⟨x0, x1, rfl, hh⟩ := of_on2 h
  unfold F81 at hh
  exact fnD_list (c := bodyOf Tryz.f81) (by kernel_rfl) (by kernel_rfl) (ok81_1 (fun _ _ h => h) (fun _ _ h => h) (fun _ _ _ h => h) (initE [x0, x1]) w hh)
def T63 : List (Nat × FnT) := [(81, G81)]
def F63 (x0 x1 : Value) (w : World) (K : V1) : Prop :=
callP G81 [x0, x1] w fun v2 w1 =>
bindP (bGe v2 (.int .i64 0)) fun v3 =>
K v3 w1
def G63 : FnT := fun args w K => on2 (fun x0 x1 => F63 x0 x1 w K) args
theorem c63 {x0 x1 : Value} {w : World} {K : V1} (h : F63 x0 x1 w K) : callP G63 [x0, x1] w K := callP_intro (on2_mk (p := fun x0 x1 => F63 x0 x1 w K) h)
theorem ok63 : OkF Tryz.prog 63 G63 := by
  refine okF_of (tab_ok (l := T63) ⟨ok81, trivial⟩) mixed (n := fuel) Tryz.func63 Tryz.call63 fun args w K h => ?_
  obtain ⟨x0, x1, rfl, hh⟩ := of_on2 h
  exact fnD_list (c := bodyOf Tryz.f63) (by kernel_rfl) (by kernel_rfl) (Eq.mp (by kernel_rfl) hh)
def LayM70_ren : Go.Shelf.Ren := ⟨fun | 5 => 70 | 8 => 87 | 7 => 86 | 19 => 111 | 20 => 112 | 10 => 102 | 11 => 103 | 12 => 104 | 13 => 105 | 14 => 106 | 15 => 107 | 16 => 108 | 17 => 109 | 18 => 110 | 30 => 136 | 31 => 137 | 32 => 138 | 33 => 139 | 34 => 140 | 35 => 141 | 40 => 157 | n => n, fun | 23 => 45 | 25 => 3 | 3 => 3 | 32 => 87 | 22 => 45 | 0 => 0 | 44 => 114 | 46 => 85 | 4 => 4 | 36 => 124 | 35 => 123 | 41 => 129 | 5 => 5 | 9 => 9 | 53 => 154 | 57 => 158 | 63 => 173 | 64 => 174 | n => n, fun | n => n⟩
theorem LayM70 : Go.Proofs.SlLaysM.n5 Tryz.prog LayM70_ren := {
  mixed := by kernel_rfl
  f5 := ⟨Tryz.f70.name, by decide, Tryz.func70.trans (congrArg some (by kernel_rfl))⟩
  f7 := ⟨Tryz.f86.name, by decide, Tryz.func86.trans (congrArg some (by kernel_rfl))⟩
  f8 := Tryz.func87.trans (congrArg some (by kernel_rfl))
  f10 := ⟨Tryz.f102.name, by decide, Tryz.func102.trans (congrArg some (by kernel_rfl))⟩
  f11 := ⟨Tryz.f103.name, by decide, Tryz.func103.trans (congrArg some (by kernel_rfl))⟩
  f12 := ⟨Tryz.f104.name, by decide, Tryz.func104.trans (congrArg some (by kernel_rfl))⟩
  f13 := ⟨Tryz.f105.name, by decide, Tryz.func105.trans (congrArg some (by kernel_rfl))⟩
  f14 := ⟨Tryz.f106.name, by decide, Tryz.func106.trans (congrArg some (by kernel_rfl))⟩
  f15 := ⟨Tryz.f107.name, by decide, Tryz.func107.trans (congrArg some (by kernel_rfl))⟩
  f16 := ⟨Tryz.f108.name, by decide, Tryz.func108.trans (congrArg some (by kernel_rfl))⟩
  f17 := ⟨Tryz.f109.name, by decide, Tryz.func109.trans (congrArg some (by kernel_rfl))⟩
  f18 := ⟨Tryz.f110.name, by decide, Tryz.func110.trans (congrArg some (by kernel_rfl))⟩
  f19 := Tryz.func111.trans (congrArg some (by kernel_rfl))
  f20 := Tryz.func112.trans (congrArg some (by kernel_rfl))
  f30 := ⟨Tryz.f136.name, by decide, Tryz.func136.trans (congrArg some (by kernel_rfl))⟩
  f31 := Tryz.func137.trans (congrArg some (by kernel_rfl))
  f32 := Tryz.func138.trans (congrArg some (by kernel_rfl))
  f33 := ⟨Tryz.f139.name, by decide, Tryz.func139.trans (congrArg some (by kernel_rfl))⟩
  f34 := ⟨Tryz.f140.name, by decide, Tryz.func140.trans (congrArg some (by kernel_rfl))⟩
  f35 := ⟨Tryz.f141.name, by decide, Tryz.func141.trans (congrArg some (by kernel_rfl))⟩
  f40 := ⟨Tryz.f157.name, by decide, Tryz.func157.trans (congrArg some (by kernel_rfl))⟩
  t0 := Tryz.underlying0
  a0 := Tryz.isAgg0
  z0 := Tryz.sizeOf0
  v0 := Tryz.zeroValue0
  t3 := Tryz.underlying3
  a3 := Tryz.isAgg3
  z3 := Tryz.sizeOf3
  v3 := Tryz.zeroValue3
  t4 := Tryz.underlying4
  a4 := Tryz.isAgg4
  z4 := Tryz.sizeOf4
  v4 := Tryz.zeroValue4
  t5 := Tryz.underlying5
  a5 := Tryz.isAgg5
  z5 := Tryz.sizeOf5
  v5 := Tryz.zeroValue5
  t9 := Tryz.underlying9
  a9 := Tryz.isAgg9
  z9 := Tryz.sizeOf9
  v9 := Tryz.zeroValue9
  t22 := Tryz.underlying45
  a22 := Tryz.isAgg45
  z22 := Tryz.sizeOf45
  v22 := Tryz.zeroValue45
  t23 := Tryz.underlying45
  a23 := Tryz.isAgg45
  z23 := Tryz.sizeOf45
  v23 := Tryz.zeroValue45
  t25 := Tryz.underlying3
  a25 := Tryz.isAgg3
  z25 := Tryz.sizeOf3
  v25 := Tryz.zeroValue3
  t32 := Tryz.underlying87
  a32 := Tryz.isAgg87
  z32 := Tryz.sizeOf87
  v32 := Tryz.zeroValue87
  t35 := Tryz.underlying123
  a35 := Tryz.isAgg123
  z35 := Tryz.sizeOf123
  v35 := Tryz.zeroValue123
  t36 := Tryz.underlying124
  a36 := Tryz.isAgg124
  z36 := Tryz.sizeOf124
  v36 := Tryz.zeroValue124
  t41 := Tryz.underlying129
  a41 := Tryz.isAgg129
  z41 := Tryz.sizeOf129
  v41 := Tryz.zeroValue129
  t44 := Tryz.underlying114
  a44 := Tryz.isAgg114
  z44 := Tryz.sizeOf114
  v44 := Tryz.zeroValue114
  t46 := Tryz.underlying85
  a46 := Tryz.isAgg85
  z46 := Tryz.sizeOf85
  v46 := Tryz.zeroValue85
  t53 := Tryz.underlying154
  a53 := Tryz.isAgg154
  z53 := Tryz.sizeOf154
  v53 := Tryz.zeroValue154
  t57 := Tryz.underlying158
  a57 := Tryz.isAgg158
  z57 := Tryz.sizeOf158
  v57 := Tryz.zeroValue158
  t63 := Tryz.underlying173
  a63 := Tryz.isAgg173
  z63 := Tryz.sizeOf173
  v63 := Tryz.zeroValue173
  t64 := Tryz.underlying174
  a64 := Tryz.isAgg174
  z64 := Tryz.sizeOf174
  v64 := Tryz.zeroValue174 }
def G70 : FnT := gSortI 3
theorem ok70 : OkF Tryz.prog 70 G70 := okSortI LayM70 rfl Tryz.call70
def T36 : List (Nat × FnT) := []
def F36 (x0 : Value) (w : World) (K : V1) : Prop :=
bindP (bEq Tryz.prog 22 (.tmp 3) (.const (.slice none 0 0)) x0 (.slice none 0 0)) fun v1 =>
ifB v1 (
K (.slice none 0 0) w) (
eBuildSl Tryz.prog 22 0 [] w fun v3 w2 =>
eAppend Tryz.prog 22 22 v3 x0 w2 fun v5 w4 =>
K v5 w4)
def G36 : FnT := fun args w K => on1 (fun x0 => F36 x0 w K) args
theorem c36 {x0 : Value} {w : World} {K : V1} (h : F36 x0 w K) : callP G36 [x0] w K := callP_intro (on1_mk (p := fun x0 => F36 x0 w K) h)
theorem ok36 : OkF Tryz.prog 36 G36 := by
  refine okF_of (tab_ok (l := T36) trivial) mixed (n := fuel) Tryz.func36 Tryz.call36 fun args w K h => ?_
  obtain ⟨x0, rfl, hh⟩ := of_on1 h
  exact fnD_list (c := bodyOf Tryz.f36) (by kernel_rfl) (by kernel_rfl) (Eq.mp (by kernel_rfl) hh)
end Go.Proofs.Gong

/- Jh1 -/
namespace Go.Proofs.Gong
open Go Go.Sx Go.Proofs
set_option maxRecDepth 100000
def BruIs (w : World) : Prop := w.cell? ⟨6, 15, none⟩ = some (.int .u8 4)
theorem hx_at {d : Nat} (h : d < 16) : pIndexS (.string ⟨#[48, 49, 50, 51, 52, 53, 54, 55, 56, 57, 97, 98, 99, 100, 101, 102, 103, 104, 105, 106, 107, 108, 109, 110, 111, 112, 113, 114, 115, 116, 117, 118, 119, 120, 121, 122]⟩) (.int .u64 (d : Nat)) = some (.int .u8 ((hx d).toNat : Nat)) := by
  have : d = 0 ∨ d = 1 ∨ d = 2 ∨ d = 3 ∨ d = 4 ∨ d = 5 ∨ d = 6 ∨ d = 7 ∨ d = 8 ∨ d = 9 ∨ d = 10 ∨ d = 11 ∨ d = 12 ∨ d = 13 ∨ d = 14 ∨ d = 15 := by omega
  rcases this with rfl | rfl | rfl | rfl | rfl | rfl | rfl | rfl | rfl | rfl | rfl | rfl | rfl | rfl | rfl | rfl <;> rfl
theorem bAnd15u {a : Nat} (ha : a < 18446744073709551616) : bBit .and (.int .u64 a) (.int .u64 15) = some (.int .u64 ((a % 16 : Nat))) := by
  simp only [bBit, bBits, if_true, Option.map_some]
  congr 3
  rw [BitVec.toNat_and]
  have e1 : (BitVec.ofInt IntKind.u64.bits (a : Int)).toNat = a := by
    rw [BitVec.ofInt_natCast, BitVec.toNat_ofNat]; exact Nat.mod_eq_of_lt ha
  have e2 : (BitVec.ofInt IntKind.u64.bits (15 : Int)).toNat = 15 := by decide
  rw [e1, e2, show (15 : Nat) = 2 ^ 4 - 1 from rfl, Nat.and_two_pow_sub_one_eq_mod]
  exact wrap_u64 (by omega)
theorem shr4u (n : Nat) : bShr (.int .u64 n) (.int .u64 4) = some (.int .u64 ((n / 16 : Nat))) := bShr_nat (k := 4) (by decide)
section
variable {w0 w : World} {L : List HP} {K : Value → World → Prop}
theorem hexLoop {p : Nat} {ty : TypeId} : ∀ (j n i m : Nat) (acc : List Nat) (c : Array Value) (w : World), n < 18446744073709551616 → n < 16 ^ (j + 1) → j < i → i ≤ 65 → j < m → c.size = 65 → c.toList.drop i = cellsB (acc.map hx) → Sat w0 (Cl p c ty :: L) w →
    (∀ w', Sat w0 L w' → K (.tuple #[.slice none 0 0, .string (bs ((hexT j n acc).map hx))]) w') →
    F116_8L m (.slice none 0 0) (.int .u64 n) (.bool false) (.bool false) (.slice none 0 0) (.string ⟨#[]⟩) (.pointer (some ⟨p, 0, none⟩)) (.int .i64 i) (.int .u64 4) (.int .u64 16) (.int .u64 15) w K := by
  intro j
  induction j with
  | zero =>
    intro n i m acc c w h64 hn hi hi2 hm hc hd hs hK
    obtain ⟨m, rfl⟩ : ∃ k, m = k + 1 := ⟨m - 1, by omega⟩
    rw [F116_8L]; unfold F116_8b F116_9 F116_9b F116_5 F116_5b F116_6 F116_6b
    obtain ⟨i, rfl⟩ : ∃ k, i = k + 1 := ⟨i - 1, by omega⟩
    have e : bGe (.int .u64 (n : Int)) (.int .u64 16) = some (.bool false) := by simp; omega
    simp only [e, bindP_some, ifB_false, sub1 (show i < 9223372036854775807 by omega), hx_at (show n < 16 by omega), ixp (show i < 65 by omega)]
    refine bindW_st hs (by omega) fun w1 h1 => ?_
    obtain ⟨v, e1, e2⟩ := cBytes_arr (j := .i64) h1.cl (n := 65) (by simpa using hc) (by omega) (set_drop (l := acc.map hx) (by omega) hd (hx n))
    simp only [e1, e2, bindP_some]
    exact hK _ h1.drop
  | succ j ih =>
    intro n i m acc c w h64 hn hi hi2 hm hc hd hs hK
    obtain ⟨m, rfl⟩ : ∃ k, m = k + 1 := ⟨m - 1, by omega⟩
    rw [F116_8L]; unfold F116_8b
    obtain ⟨i, rfl⟩ : ∃ k, i = k + 1 := ⟨i - 1, by omega⟩
    unfold hexT at hK
    by_cases g : n < 16
    · rw [if_pos g] at hK
      unfold F116_9 F116_9b F116_5 F116_5b F116_6 F116_6b
      have e : bGe (.int .u64 (n : Int)) (.int .u64 16) = some (.bool false) := by simp; omega
      simp only [e, bindP_some, ifB_false, sub1 (show i < 9223372036854775807 by omega), hx_at g, ixp (show i < 65 by omega)]
      refine bindW_st hs (by omega) fun w1 h1 => ?_
      obtain ⟨v, e1, e2⟩ := cBytes_arr (j := .i64) h1.cl (n := 65) (by simpa using hc) (by omega) (set_drop (l := acc.map hx) (by omega) hd (hx n))
      simp only [e1, e2, bindP_some]
      exact hK _ h1.drop
    · rw [if_neg g] at hK
      have e : bGe (.int .u64 (n : Int)) (.int .u64 16) = some (.bool true) := by simp; omega
      simp only [e, bindP_some, ifB_true, sub1 (show i < 9223372036854775807 by omega), bAnd15u h64, hx_at (Nat.mod_lt n (by decide : 16 > 0)), ixp (show i < 65 by omega)]
      refine bindW_st hs (by omega) fun w1 h1 => ?_
      simp only [shr4u, bindP_some]
      exact ih (n / 16) i m (n % 16 :: acc) _ w1 (by omega) (by rw [Nat.pow_succ] at hn; omega) (by omega) (by omega) (by omega) (by simpa using hc) (set_drop (l := acc.map hx) (by omega) hd (hx (n % 16))) h1 hK
theorem fmt_spec {n : Nat} (B : BruIs w0) (h : Sat w0 L w) (hn : n < 9223372036854775808) (hK : ∀ w', Sat w0 L w' → K (.string (bs ((hexL n).map hx))) w') : callP G73 [.int .i64 n, .int .i64 16] w K := by
  refine c73 ?_
  unfold F73
  refine c88 ?_
  unfold F88 F88_1 F88_1b F88_2 F88_6 F88_6b F88_3 F88_3b
  have e1 : cInt .u64 (.int .i64 (n : Int)) = some (.int .u64 (n : Nat)) := by simp only [cInt]; rw [wrap_u64 (by omega)]
  have e2 : bLt (.int .i64 (n : Int)) (.int .i64 0) = some (.bool false) := by simp
  have e3 : bEq Tryz.prog 3 (.tmp 10) (.const (.int .i64 10)) (.int .i64 16) (.int .i64 10) = some (.bool false) := by simp
  simp only [bEq_int, show decide ((16 : Int) = 10) = false from rfl, bindP_some, ifB_false, e1, e2]
  refine c116 ?_
  unfold F116 F116_1 F116_1b F116_2 F116_2b
  simp only [bLt_int, bEq_int, bGt_int, bindP_some, show decide ((16 : Int) < 2) = false from rfl, show decide ((16 : Int) = 10) = false from rfl, show decide ((16 : Int) > 36) = false from rfl, gd_false, Bool.not_false, stepM_true, stepG_true, pPick_false, ifB_false]
  have hz : fZero Tryz.prog 163 = some (.agg (Array.replicate 65 (.int .u8 0))) := by kernel_rfl
  refine eAlloc_sat h hz fun p w1 h1 => ?_
  unfold F116_3 F116_3b
  refine c144 ?_
  rw [show F144 (.int .i64 16) w1 = fun K => K (.bool true) w1 by funext K; kernel_rfl]
  simp only []
  unfold F116_4 F116_7 F116_7b
  simp only [ifB_true]
  rw [show cInt .u64 (.int .i64 16) = some (.int .u64 16) from rfl]
  simp only [bindP_some]
  refine c145 ?_
  unfold F145
  simp only [ifB_false]
  refine c159 ?_
  rw [show F159 (.int .u64 16) w1 = fun K => bindP (ld1 (.pointer (some ⟨6, 15, none⟩)) w1) fun v7 => bindP (cInt .i64 v7) fun v8 => K v8 w1 by funext K; kernel_rfl]
  simp only [ld1_ptr, h1.cellOld B, bindP_some]
  rw [show cInt .i64 (.int .u8 4) = some (.int .i64 4) from rfl]
  simp only [bindP_some]
  rw [show cInt .u64 (.int .i64 4) = some (.int .u64 4) from rfl, show bSub (.int .u64 16) (.int .u64 1) = some (.int .u64 15) from rfl]
  simp only [bindP_some]
  unfold F116_8
  refine hexLoop (L := L) 15 n 65 fuel [] _ w1 (by omega) (by omega) (by omega) (by omega) (by unfold fuel; omega) (by simp) (by simp [cellsB]) h1 fun w' h' => ?_
  rw [show pTuple (.tuple #[.slice none 0 0, .string (bs ((hexT 15 n []).map hx))]) 0 = some (.slice none 0 0) from rfl, show pTuple (.tuple #[.slice none 0 0, .string (bs ((hexT 15 n []).map hx))]) 1 = some (.string (bs ((hexT 15 n []).map hx))) from rfl]
  simp only [bindP_some]
  exact hK w' h'
theorem hasp_spec {s p : List UInt8} (hp : p.length ≤ 4611686018427387904) (hK : K (.bool (decide (p.length ≤ s.length) && decide (s.take p.length = p))) w) : callP G90 [.string (bs s), .string (bs p)] w K := by
  refine c90 ?_
  unfold F90
  refine c119 ?_
  unfold F119
  by_cases g : p.length ≤ s.length
  · have e : bGe (.int .i64 (s.length : Int)) (.int .i64 (p.length : Int)) = some (.bool true) := by simp; omega
    simp only [lenS_mk, bs_size, bindP_some, e, gd_true, stepM_true, stepG_true, sub_to g, bEq_str, bs_beq, bs_inj, pPick_true]
    simpa [g] using hK
  · have e : bGe (.int .i64 (s.length : Int)) (.int .i64 (p.length : Int)) = some (.bool false) := by simp; omega
    simp only [lenS_mk, bs_size, bindP_some, e, gd_true, stepM_false, stepG_false, pPick_false]
    simpa [g] using hK
theorem hasp_b {s p : List UInt8} (b : Bool) (hp : p.length ≤ 4611686018427387904) (hb : (decide (p.length ≤ s.length) && decide (s.take p.length = p)) = b) (hK : K (.bool b) w) : callP G90 [.string (bs s), .string (bs p)] w K :=
  hasp_spec hp (by rw [hb]; exact hK)
theorem repeat_spec {c : Nat} (hc : c ≤ 7) (hK : K (.string (bs (List.replicate c 48))) w) : callP G74 [.string ⟨#[48]⟩, .int .i64 c] w K := by
  refine c74 ?_
  unfold F74 F74_1 F74_1b
  by_cases h0 : c = 0
  · subst h0
    simp only [bEq_int, bindP_some, show decide (((0 : Nat) : Int) = 0) = true from rfl, ifB_true]
    exact hK
  by_cases h1 : c = 1
  · subst h1
    simp only [bEq_int, bindP_some, show decide (((1 : Nat) : Int) = 0) = false from rfl, show decide (((1 : Nat) : Int) = 1) = true from rfl, ifB_true, ifB_false]
    exact hK
  have d0 : decide ((c : Int) = 0) = false := by simpa using h0
  have d1 : decide ((c : Int) = 1) = false := by simp; omega
  have d2 : decide ((c : Int) < 0) = false := by simp
  simp only [bEq_int, bLt_int, bindP_some, d0, d1, d2, ifB_false]
  unfold F74_2 F74_2b
  have e1 : cInt .u64 (.int .i64 (c : Int)) = some (.int .u64 (c : Nat)) := by simp only [cInt]; rw [wrap_u64 (by omega)]
  rw [show lenS (.string ⟨#[48]⟩) = some (.int .i64 1) from rfl]
  simp only [bindP_some, e1]
  rw [show cInt .u64 (.int .i64 1) = some (.int .u64 1) from rfl]
  simp only [bindP_some]
  refine c89 ?_
  unfold F89
  simp only [ifB_false]
  refine c118 ?_
  have e2 : ∀ K : Value → World → Prop, F118 (.int .u64 1) (.int .u64 (c : Nat)) w K = K (.tuple #[.int .u64 0, .int .u64 (c : Nat)]) w := by
    intro K
    have : c = 2 ∨ c = 3 ∨ c = 4 ∨ c = 5 ∨ c = 6 ∨ c = 7 := by omega
    rcases this with rfl | rfl | rfl | rfl | rfl | rfl <;> rfl
  rw [e2]
  have t0 : ∀ x y : Value, pTuple (.tuple #[x, y]) 0 = some x := fun _ _ => rfl
  have t1 : ∀ x y : Value, pTuple (.tuple #[x, y]) 1 = some y := fun _ _ => rfl
  have d3 : decide ((c : Int) > 9223372036854775807) = false := by simp; omega
  simp only [t0, t1, bindP_some, bGt_int, show decide ((0 : Int) > 0) = false from rfl, gd_false, Bool.not_false, stepM_true, stepG_true, d3, pPick_false, ifB_false]
  unfold F74_3 F74_3b
  have e3 : cInt .i64 (.int .u64 (c : Nat)) = some (.int .i64 (c : Nat)) := by simp only [cInt]; rw [wrap_id (by omega)]
  rw [show lenS (.string ⟨#[48]⟩) = some (.int .i64 1) from rfl, show pIndexS (.string ⟨#[48]⟩) (.int .i64 0) = some (.int .u8 48) from rfl]
  simp only [bindP_some, e3, bEq_int, show decide ((1 : Int) = 0) = false from rfl, ifB_false]
  unfold F74_4 F74_8 F74_8b
  simp only [bEq_int, bindP_some, show decide ((48 : Int) = 32) = false from rfl, show decide ((48 : Int) = 45) = false from rfl, show decide ((48 : Int) = 48) = true from rfl, ifB_true, ifB_false]
  unfold F74_9 F74_9b
  have d4 : decide ((c : Int) ≤ 128) = true := by simp; omega
  have d5 : decide ((c : Int) ≤ 64) = true := by simp; omega
  simp only [ifB_true, bLe_int, d4, d5, bindP_some, gd_true, stepM_true, stepE_true]
  refine hasp_b (p := [48]) false (by simp) (by rfl) ?_
  simp only [pPick_true, bindP_some, ifB_false]
  refine hasp_b (p := [48]) false (by simp) (by rfl) ?_
  simp only [pPick_true, bindP_some, ifB_false]
  refine hasp_b (p := [48]) true (by simp) (by rfl) ?_
  simp only [pPick_true, bindP_some, ifB_true]
  have : c = 2 ∨ c = 3 ∨ c = 4 ∨ c = 5 ∨ c = 6 ∨ c = 7 := by omega
  rcases this with rfl | rfl | rfl | rfl | rfl | rfl <;> exact hK
end
end Go.Proofs.Gong
