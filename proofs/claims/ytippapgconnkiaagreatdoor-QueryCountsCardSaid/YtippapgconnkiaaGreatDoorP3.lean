/- A part of the proofs: what stands below it, told in lemmas. No condition. -/
import Derived.Test.YtippapgconnkiaaGreatDoorP1
import Derived.Shelf.Spec.SlicesGrow
import Derived.Test.YtippapgconnkiaaGreatDoorP2
import Derived.Shelf.Strconv.Clone
set_option linter.all false

/- So8 -/
set_option linter.all false
namespace Go.Sx
open Go.Proofs
def za (es bytes : Nat) (ty : TypeId) : FnT := fun args w K => ∃ (n : Nat) (w0 : World) (L : List HP), args = [.slice none 0 0, .int .i64 n] ∧ 0 < n ∧ n * bytes ≤ 140737488355328 ∧ n ≤ 4611686018427387904 ∧ Sat w0 L w ∧ ∀ v w', Sat w0 (SlH es ty v 0 [] :: L) w' → K v w'
theorem OH {P : Program} {ρ : Go.Shelf.Ren} {f es bytes : Nat} {ty : TypeId} (Y : Lays8.n4 P ρ) (i0 : TypeInfo) (z : Value) (hi0 : P.info? ty = some i0) (hz0 : i0.zero = some z) (hzc : z.cells.size = es) (hs : i0.size = es) (hb : i0.bytes = bytes) (hes : 0 < es) (hf : ρ.f 4 = f) (ht : ρ.t 25 = ty) (ef : ∀ args w, (callFunc f args).run P w = .ok (.enter f args) w) : OkF P f (za es bytes ty) := by
  subst hf ht
  intro args w K ⟨n, w0, L, ha, hn, hbig, h63, h, hk⟩
  subst ha
  refine .inl ⟨ef _ _, ?_⟩
  have hc := Any8.slices_Grow_grow Y i0 z hi0 hz0 (by omega) none 0 0 n [] w (Nat.le_refl _) (by omega) (by rw [Nat.zero_add, hb]; exact hbig) (by omega) (by simp) (fun _ => rfl) (fun a e => by cases e)
  refine hc.mono fun e w' ⟨he, hw⟩ => ⟨_, he, hk _ w' ?_⟩
  subst hw
  generalize grownCap w (0 + n) 0 (ρ.t 25) = cap
  have hsz : (([] : List Value).toArray ++ Builtin.zeroCells z.cells (0 + n - 0) ++ Builtin.zeroCells z.cells (cap - (0 + n))).size = n * es + (cap - n) * es := by
    simp [Builtin.zeroCells, hzc]
  have ho : Own (w.drew.alloc (.cells (([] : List Value).toArray ++ Builtin.zeroCells z.cells (0 + n - 0) ++ Builtin.zeroCells z.cells (cap - (0 + n))) (ρ.t 25))) es (ρ.t 25) [w.heap.size] (.slice (some ⟨w.heap.size, 0, none⟩) 0 cap) 0 [] := by
    refine .blk (heap_alloc_new _ _) (Nat.zero_le _) ?_ (by simp)
    rw [hsz, ← Nat.add_mul, Nat.zero_add]
    exact Nat.mul_le_mul_right _ (by omega)
  exact h.ofOwn ho ⟨((Fr.drew [] w).trans (Fr.alloc [] w.drew _) fun x hx => .inl hx), fun b hb => .inr (by simp at hb; omega)⟩
theorem Hw {α : Type} {f : α → List Value} {es bytes n : Nat} {ty : TypeId} {w0 w : World} {L : List HP} {K : Value → World → Prop} (h : Sat w0 L w) (hn : 0 < n) (hb : n * bytes ≤ 140737488355328) (h63 : n ≤ 4611686018427387904) (hK : ∀ v w', Sat w0 (LsH f es ty v ([] : List α) :: L) w' → K v w') : ai (za es bytes ty) [.slice none 0 0, .int .i64 n] w K :=
  aj ⟨n, w0, L, rfl, hn, hb, h63, h, fun v w' h' => hK v w' h'⟩
end Go.Sx

/- Stamp -/
namespace Go.Proofs.Gong
open Go Go.Sx Go.Proofs
set_option linter.all false
set_option maxRecDepth 100000
set_option maxHeartbeats 4000000
variable {kn kr : ET} {ke : JT}
def T296 : List (Nat × FnT) := []
def Yx (x0 : Value) (w : World) (K : V1) : Prop :=
aa (gI x0 (.int .i64 4)) fun v1 =>
aa (bEq Tryz.prog 3 (.tmp 4) (.const (.int .i64 0)) v1 (.int .i64 0)) fun v2 =>
aS (gd true v2) x0 fun v3 =>
Sx.stepG (gd true v2) (gI v3 (.int .i64 100)) fun v4 =>
Sx.stepG (gd true v2) (bNe Tryz.prog 3 (.tmp 8) (.const (.int .i64 0)) v4 (.int .i64 0)) fun v5 =>
aS (gd true v2) v5 fun v6 =>
aS (gd false v6) x0 fun v7 =>
Sx.stepG (gd false v6) (gI v7 (.int .i64 400)) fun v8 =>
Sx.stepG (gd false v6) (bEq Tryz.prog 3 (.tmp 12) (.const (.int .i64 0)) v8 (.int .i64 0)) fun v9 =>
Sx.stepG (gd true v2) (aG v6 (.bool true) v9) fun v10 =>
aa (aG v2 v10 (.bool false)) fun v11 =>
ifB v11 (
K (.int .i64 1) w) (
K (.int .i64 0) w)
def Tj : FnT := fun args w K => on1 (fun x0 => Yx x0 w K) args
theorem c296 {x0 : Value} {w : World} {K : V1} (h : Yx x0 w K) : ai Tj [x0] w K := aj (bL (p := fun x0 => Yx x0 w K) h)
theorem ok296 : OkF Tryz.prog 296 Tj := by
  refine aO (aN (l := T296) trivial) mixed (n := fuel) Tryz.func296 Tryz.call296 fun args w K h => ?_
  obtain ⟨x0, rfl, hh⟩ := bJ h
  exact az (c := ah Tryz.f296) (by kernel_rfl) (by kernel_rfl) (Eq.mp (by kernel_rfl) hh)
def T270 : List (Nat × FnT) := [(296, Tj)]
def YC (x0 x1 : Value) (w : World) (K : V1) : Prop :=
aa (bGt x1 (.int .i64 2)) fun v1 =>
ifB v1 (
aa (iq 14 1 (.pointer (some ⟨11, 0, none⟩)) x1) fun v2 =>
aa (ld1 v2 w.drew) fun v3 =>
ai Tj [x0] w.drew fun v5 w4 =>
fok true (ld1 v2 w4) v3 ∧ (aa (bH v3 v5) fun v6 =>
K v6 w4)) (
aa (iq 14 1 (.pointer (some ⟨11, 0, none⟩)) x1) fun v7 =>
aa (ld1 v7 w) fun v8 =>
K v8 w)
def lq : FnT := fun args w K => on2 (fun x0 x1 => YC x0 x1 w K) args
theorem c270 {x0 x1 : Value} {w : World} {K : V1} (h : YC x0 x1 w K) : ai lq [x0, x1] w K := aj (dm (p := fun x0 x1 => YC x0 x1 w K) h)
theorem QR : OkF Tryz.prog 270 lq := by
  refine aO (aN (l := T270) ⟨ok296, trivial⟩) mixed (n := fuel) Tryz.func270 Tryz.call270 fun args w K h => ?_
  obtain ⟨x0, x1, rfl, hh⟩ := dn h
  exact az (c := ah Tryz.f270) (by kernel_rfl) (by kernel_rfl) (Eq.mp (by kernel_rfl) hh)
def T276 : List (Nat × FnT) := []
def YA (x0 : Value) (w : World) (K : V1) : Prop :=
aa (jK x0 (.int .i64 1)) fun v1 =>
aa (nP v1 (.int .i64 365)) fun v2 =>
aa (iM v1 (.int .i64 4)) fun v3 =>
aa (bH v2 v3) fun v4 =>
aa (iM v1 (.int .i64 100)) fun v5 =>
aa (jK v4 v5) fun v6 =>
aa (iM v1 (.int .i64 400)) fun v7 =>
aa (bH v6 v7) fun v8 =>
aa (jK v8 (.int .i64 719162)) fun v9 =>
K v9 w
def IU : FnT := fun args w K => on1 (fun x0 => YA x0 w K) args
theorem c276 {x0 : Value} {w : World} {K : V1} (h : YA x0 w K) : ai IU [x0] w K := aj (bL (p := fun x0 => YA x0 w K) h)
theorem Zy : OkF Tryz.prog 276 IU := by
  refine aO (aN (l := T276) trivial) mixed (n := fuel) Tryz.func276 Tryz.call276 fun args w K h => ?_
  obtain ⟨x0, rfl, hh⟩ := bJ h
  exact az (c := ah Tryz.f276) (by kernel_rfl) (by kernel_rfl) (Eq.mp (by kernel_rfl) hh)
def T277 : List (Nat × FnT) := []
def Yz (x0 : Value) (w : World) (K : V1) : Prop :=
aa (iM x0 (.int .i64 10)) fun v1 =>
aa (bH (.int .i64 48) v1) fun v2 =>
aa (iG .u8 v2) fun v3 =>
aa (gI x0 (.int .i64 10)) fun v4 =>
aa (bH (.int .i64 48) v4) fun v5 =>
aa (iG .u8 v5) fun v6 =>
aB Tryz.prog 181 2 [(0, v3), (1, v6)] w fun v8 w7 =>
aa (gF v8 w7) fun v9 =>
K v9 w7
def zL : FnT := fun args w K => on1 (fun x0 => Yz x0 w K) args
theorem c277 {x0 : Value} {w : World} {K : V1} (h : Yz x0 w K) : ai zL [x0] w K := aj (bL (p := fun x0 => Yz x0 w K) h)
theorem ok277 : OkF Tryz.prog 277 zL := by
  refine aO (aN (l := T277) trivial) mixed (n := fuel) Tryz.func277 Tryz.call277 fun args w K h => ?_
  obtain ⟨x0, rfl, hh⟩ := bJ h
  exact az (c := ah Tryz.f277) (by kernel_rfl) (by kernel_rfl) (Eq.mp (by kernel_rfl) hh)
def zB : List (Nat × FnT) := [(270, lq), (276, IU), (277, zL)]
def Eh (s3 s4 s5 s6 : Value) (w : World) (K : V1) : Prop :=
aa (iM s5 (.int .i64 100)) fun v1 =>
ai zL [v1] w fun v3 w2 =>
aa (gI s5 (.int .i64 100)) fun v4 =>
ai zL [v4] w2 fun v6 w5 =>
aa (bH v3 v6) fun v7 =>
aa (bH v7 (.string ⟨#[45]⟩)) fun v8 =>
ai zL [s6] w5 fun v10 w9 =>
aa (bH v8 v10) fun v11 =>
aa (bH v11 (.string ⟨#[45]⟩)) fun v12 =>
ai lq [s5, s6] w9 fun v14 w13 =>
aa (jK s3 v14) fun v15 =>
aa (bH v15 (.int .i64 1)) fun v16 =>
ai zL [v16] w13 fun v18 w17 =>
aa (bH v12 v18) fun v19 =>
aa (bH v19 (.string ⟨#[84]⟩)) fun v20 =>
aa (iM s4 (.int .i64 3600)) fun v21 =>
ai zL [v21] w17 fun v23 w22 =>
aa (bH v20 v23) fun v24 =>
aa (bH v24 (.string ⟨#[58]⟩)) fun v25 =>
aa (iM s4 (.int .i64 60)) fun v26 =>
aa (gI v26 (.int .i64 60)) fun v27 =>
ai zL [v27] w22 fun v29 w28 =>
aa (bH v25 v29) fun v30 =>
aa (bH v30 (.string ⟨#[58]⟩)) fun v31 =>
aa (gI s4 (.int .i64 60)) fun v32 =>
ai zL [v32] w28 fun v34 w33 =>
aa (bH v31 v34) fun v35 =>
K v35 w33
def rC (s3 s4 s5 s6 : Value) (w : World) (K : V1) : Prop := Eh s3 s4 s5 s6 w K
theorem VH {K : V1}
    (hn : HN (fun e w => K (e 2) w) kn) (hr : HR Tryz.prog [.tmp 2] K kr) (he : HE noE ke) :
    ∀ e w, rC (e 3) (e 4) (e 5) (e 6) w K → aA Tryz.prog (au zB) 71 fuel ((flat (ah Tryz.f235)).drop 7) e w kn kr ke := by
  intro e w h
  unfold rC at h
  have e1 : ∀ (_ : Unit), Eh (e 3) (e 4) (e 5) (e 6) w K = aA Tryz.prog (au zB) 71 fuel ((flat (ah Tryz.f235)).drop 7) e w (fun e w => K (e 2) w) (aW Tryz.prog [.tmp 2] K) noE := by intro _; kernel_rfl
  exact bQ (Eq.mp (e1 ()) h) hn hr he
def Ei (s3 s4 s5 s6 : Value) (w : World) (_K : V1) (Y0 : V4) (Y1 : V4) : Prop :=
aa (bH s6 (.int .i64 1)) fun v36 =>
ai lq [s5, v36] w fun v38 w37 =>
aa (bLe v38 s3) fun v39 =>
ifB v39 (
aa (bH s6 (.int .i64 1)) fun v40 =>
Y0 s3 s4 s5 v40 w37) (
Y1 s3 s4 s5 s6 w37)
def lL : Nat → Value → Value → Value → Value → World → (V1) → Prop
  | 0, _, _, _, _, _, _ => False
  | n + 1, s3, s4, s5, s6, w, K => Ei s3 s4 s5 s6 w K (fun a3 a4 a5 a6 w => lL n a3 a4 a5 a6 w K) (fun a3 a4 a5 a6 w => rC a3 a4 a5 a6 w K)
def zQ (s3 s4 s5 s6 : Value) (w : World) (K : V1) : Prop := lL fuel s3 s4 s5 s6 w K
theorem VI {K : V1}
    (hn : HN (fun e w => K (e 2) w) kn) (hr : HR Tryz.prog [.tmp 2] K kr) (he : HE noE ke) :
    ∀ e w, zQ (e 3) (e 4) (e 5) (e 6) w K → aA Tryz.prog (au zB) 71 fuel ((flat (ah Tryz.f235)).drop 6) e w kn kr ke := by
  intro e w h
  unfold zQ at h
  refine bM (id := 2) (body := (aU (bi (aV (flat (ah Tryz.f235)) 6)))) (l2 := (flat (ah Tryz.f235)).drop 7) (by kernel_rfl) ?_
  refine bV (FL := fun m e w => lL m (e 3) (e 4) (e 5) (e 6) w K) (fr := aW Tryz.prog [.tmp 2] K) (fe := (bB 2 (fun e w => rC (e 3) (e 4) (e 5) (e 6) w K) noE)) (fun _ _ h => h) ?_ hr (bD (fun e w h => VH hn hr he e w h) he) fuel e w h
  intro m e w h
  have h : lL (m + 1) (e 3) (e 4) (e 5) (e 6) w K := h
  rw [lL] at h
  have e1 : ∀ (Y0 : V4) (Y1 : V4), Ei (e 3) (e 4) (e 5) (e 6) w K Y0 Y1 = aA Tryz.prog (au zB) 71 fuel (flat (aU (bi (aV (flat (ah Tryz.f235)) 6)))) e w (fun e w => Y0 (e 3) (e 4) (e 5) (e 6) w) (aW Tryz.prog [.tmp 2] K) (bB 2 (fun e w => Y1 (e 3) (e 4) (e 5) (e 6) w) noE) := by intro Y0 Y1; kernel_rfl
  exact Eq.mp (e1 (fun a3 a4 a5 a6 w => lL m a3 a4 a5 a6 w K) (fun a3 a4 a5 a6 w => rC a3 a4 a5 a6 w K)) h
def Ej (s3 s4 s5 : Value) (w : World) (_K : V1) (Y0 : V4) : Prop :=
ai IU [s5] w fun v42 w41 =>
aa (jK s3 v42) fun v43 =>
Y0 v43 s4 s5 (.int .i64 1) w41
def rD (s3 s4 s5 : Value) (w : World) (K : V1) : Prop := Ej s3 s4 s5 w K (fun a3 a4 a5 a6 w => zQ a3 a4 a5 a6 w K)
theorem VJ {K : V1}
    (hn : HN (fun e w => K (e 2) w) kn) (hr : HR Tryz.prog [.tmp 2] K kr) (he : HE noE ke) :
    ∀ e w, rD (e 3) (e 4) (e 5) w K → aA Tryz.prog (au zB) 71 fuel ((flat (ah Tryz.f235)).drop 4) e w kn kr ke := by
  intro e w h
  unfold rD at h
  have e1 : ∀ (Y0 : V4), Ej (e 3) (e 4) (e 5) w K Y0 = aA Tryz.prog (au zB) 71 fuel (((flat (ah Tryz.f235)).drop 4).take 2) e w (fun e w => Y0 (e 3) (e 4) (e 5) (e 6) w) (aW Tryz.prog [.tmp 2] K) noE := by intro Y0; kernel_rfl
  exact seg 2 (Eq.mp (e1 (fun a3 a4 a5 a6 w => zQ a3 a4 a5 a6 w K)) h) (fun e w h => VI hn hr he e w h) hr he
def El (s3 s4 s5 : Value) (w : World) (_K : V1) (Y0 : V3) (Y1 : V3) : Prop :=
aa (bH s5 (.int .i64 1)) fun v44 =>
ai IU [v44] w fun v46 w45 =>
aa (bLe v46 s3) fun v47 =>
ifB v47 (
aa (bH s5 (.int .i64 1)) fun v48 =>
Y0 s3 s4 v48 w45) (
Y1 s3 s4 s5 w45)
def lM : Nat → Value → Value → Value → World → (V1) → Prop
  | 0, _, _, _, _, _ => False
  | n + 1, s3, s4, s5, w, K => El s3 s4 s5 w K (fun a3 a4 a5 w => lM n a3 a4 a5 w K) (fun a3 a4 a5 w => rD a3 a4 a5 w K)
def zS (s3 s4 s5 : Value) (w : World) (K : V1) : Prop := lM fuel s3 s4 s5 w K
theorem VK {K : V1}
    (hn : HN (fun e w => K (e 2) w) kn) (hr : HR Tryz.prog [.tmp 2] K kr) (he : HE noE ke) :
    ∀ e w, zS (e 3) (e 4) (e 5) w K → aA Tryz.prog (au zB) 71 fuel ((flat (ah Tryz.f235)).drop 3) e w kn kr ke := by
  intro e w h
  unfold zS at h
  refine bM (id := 0) (body := (aU (bi (aV (flat (ah Tryz.f235)) 3)))) (l2 := (flat (ah Tryz.f235)).drop 4) (by kernel_rfl) ?_
  refine bV (FL := fun m e w => lM m (e 3) (e 4) (e 5) w K) (fr := aW Tryz.prog [.tmp 2] K) (fe := (bB 0 (fun e w => rD (e 3) (e 4) (e 5) w K) noE)) (fun _ _ h => h) ?_ hr (bD (fun e w h => VJ hn hr he e w h) he) fuel e w h
  intro m e w h
  have h : lM (m + 1) (e 3) (e 4) (e 5) w K := h
  rw [lM] at h
  have e1 : ∀ (Y0 : V3) (Y1 : V3), El (e 3) (e 4) (e 5) w K Y0 Y1 = aA Tryz.prog (au zB) 71 fuel (flat (aU (bi (aV (flat (ah Tryz.f235)) 3)))) e w (fun e w => Y0 (e 3) (e 4) (e 5) w) (aW Tryz.prog [.tmp 2] K) (bB 0 (fun e w => Y1 (e 3) (e 4) (e 5) w) noE) := by intro Y0 Y1; kernel_rfl
  exact Eq.mp (e1 (fun a3 a4 a5 w => lM m a3 a4 a5 w K) (fun a3 a4 a5 w => rD a3 a4 a5 w K)) h
def Em (s0 : Value) (w : World) (_K : V1) (Y0 : V3) : Prop :=
aa (iM s0 (.int .i64 86400)) fun v49 =>
aa (gI s0 (.int .i64 86400)) fun v50 =>
aa (iM v49 (.int .i64 366)) fun v51 =>
aa (bH (.int .i64 1970) v51) fun v52 =>
Y0 v49 v50 v52 w
def En (s0 : Value) (w : World) (K : V1) : Prop := Em s0 w K (fun a3 a4 a5 w => zS a3 a4 a5 w K)
theorem VL {K : V1}
    (hn : HN (fun e w => K (e 2) w) kn) (hr : HR Tryz.prog [.tmp 2] K kr) (he : HE noE ke) :
    ∀ e w, En (e 0) w K → aA Tryz.prog (au zB) 71 fuel ((flat (ah Tryz.f235)).drop 0) e w kn kr ke := by
  intro e w h
  unfold En at h
  have e1 : ∀ (Y0 : V3), Em (e 0) w K Y0 = aA Tryz.prog (au zB) 71 fuel (((flat (ah Tryz.f235)).drop 0).take 3) e w (fun e w => Y0 (e 3) (e 4) (e 5) w) (aW Tryz.prog [.tmp 2] K) noE := by intro Y0; kernel_rfl
  exact seg 3 (Eq.mp (e1 (fun a3 a4 a5 w => zS a3 a4 a5 w K)) h) (fun e w h => VK hn hr he e w h) hr he
def UD (x0 : Value) (w : World) (K : V1) : Prop := En x0 w K
def Tw : FnT := fun args w K => on1 (fun x0 => UD x0 w K) args
theorem c235 {x0 : Value} {w : World} {K : V1} (h : UD x0 w K) : ai Tw [x0] w K := aj (bL (p := fun x0 => UD x0 w K) h)
theorem ok235 : OkF Tryz.prog 235 Tw := by
  refine aO (aN (l := zB) ⟨QR, Zy, ok277, trivial⟩) mixed (n := fuel) Tryz.func235 Tryz.call235 fun args w K h => ?_
  obtain ⟨x0, rfl, hh⟩ := bJ h
  unfold UD at hh
  exact az (c := ah Tryz.f235) (by kernel_rfl) (by kernel_rfl) (VL (fun _ _ h => h) (fun _ _ h => h) (fun _ _ _ h => h) (dD [x0]) w hh)
def T179 : List (Nat × FnT) := [(11, G11), (235, Tw), (236, G236)]
def YQ (x0 x1 : Value) (w : World) (K : V1) : Prop :=
ai Tw [x0] w fun v2 w1 =>
aa (bEq Tryz.prog 3 (.tmp 9) (.const (.int .i64 0)) x1 (.int .i64 0)) fun v3 =>
ifB v3 (
K v2 w1) (
aa (bH (.int .i64 1000000000) x1) fun v4 =>
ai G11 [v4] w1 fun v6 w5 =>
aa (bH v2 (.string ⟨#[46]⟩)) fun v7 =>
aa (di v6 (some (.int .i64 1)) none) fun v8 =>
ai G236 [v8, (.string ⟨#[48]⟩)] w5 fun v10 w9 =>
aa (bH v7 v10) fun v11 =>
K v11 w9)
def TH : FnT := fun args w K => on2 (fun x0 x1 => YQ x0 x1 w K) args
theorem c179 {x0 x1 : Value} {w : World} {K : V1} (h : YQ x0 x1 w K) : ai TH [x0, x1] w K := aj (dm (p := fun x0 x1 => YQ x0 x1 w K) h)
theorem ok179 : OkF Tryz.prog 179 TH := by
  refine aO (aN (l := T179) ⟨Q5, ok235, ok236, trivial⟩) mixed (n := fuel) Tryz.func179 Tryz.call179 fun args w K h => ?_
  obtain ⟨x0, x1, rfl, hh⟩ := dn h
  exact az (c := ah Tryz.f179) (by kernel_rfl) (by kernel_rfl) (Eq.mp (by kernel_rfl) hh)
def T132 : List (Nat × FnT) := [(179, TH)]
def Y3 (x0 : Value) (w : World) (K : V1) : Prop :=
aa (bLt x0 (.int .i64 0)) fun v1 =>
aS (gd false v1) x0 fun v2 =>
Sx.stepG (gd false v1) (bGt v2 (.int .i64 2305843009213693952)) fun v3 =>
aa (aG v1 (.bool true) v3) fun v4 =>
ifB v4 (
K (.tuple #[(.string ⟨#[]⟩), (.int .i64 1)]) w) (
aa (iM x0 (.int .i64 1000000000)) fun v5 =>
aa (gI x0 (.int .i64 1000000000)) fun v6 =>
ai TH [v5, v6] w fun v8 w7 =>
aa (bH v8 (.string ⟨#[90]⟩)) fun v9 =>
K (.tuple #[v9, (.int .i64 0)]) w7)
def P7 : FnT := fun args w K => on1 (fun x0 => Y3 x0 w K) args
theorem c132 {x0 : Value} {w : World} {K : V1} (h : Y3 x0 w K) : ai P7 [x0] w K := aj (bL (p := fun x0 => Y3 x0 w K) h)
theorem ok132 : OkF Tryz.prog 132 P7 := by
  refine aO (aN (l := T132) ⟨ok179, trivial⟩) mixed (n := fuel) Tryz.func132 Tryz.call132 fun args w K h => ?_
  obtain ⟨x0, rfl, hh⟩ := bJ h
  exact az (c := ah Tryz.f132) (by kernel_rfl) (by kernel_rfl) (Eq.mp (by kernel_rfl) hh)
def T268 : List (Nat × FnT) := []
def YE (x0 : Value) (w : World) (K : V1) : Prop :=
aa (bGe x0 (.int .u8 48)) fun v1 =>
aS (gd true v1) x0 fun v2 =>
Sx.stepG (gd true v1) (bLe v2 (.int .u8 57)) fun v3 =>
aa (aG v1 v3 (.bool false)) fun v4 =>
K v4 w
def Lu : FnT := fun args w K => on1 (fun x0 => YE x0 w K) args
theorem c268 {x0 : Value} {w : World} {K : V1} (h : YE x0 w K) : ai Lu [x0] w K := aj (bL (p := fun x0 => YE x0 w K) h)
theorem Zz : OkF Tryz.prog 268 Lu := by
  refine aO (aN (l := T268) trivial) mixed (n := fuel) Tryz.func268 Tryz.call268 fun args w K h => ?_
  obtain ⟨x0, rfl, hh⟩ := bJ h
  exact az (c := ah Tryz.f268) (by kernel_rfl) (by kernel_rfl) (Eq.mp (by kernel_rfl) hh)
def Lc : List (Nat × FnT) := [(268, Lu)]
def Ev (w : World) (K : V1) : Prop :=
K (.bool true) w
def vC (w : World) (K : V1) : Prop := Ev w K
theorem VR {K : V1}
    (hn : HN (fun e w => K (e 4) w) kn) (hr : HR Tryz.prog [.tmp 4] K kr) (he : HE noE ke) :
    ∀ e w, vC w K → aA Tryz.prog (au Lc) 43 fuel ((flat (ah Tryz.f221)).drop 5) e w kn kr ke := by
  intro e w h
  unfold vC at h
  have e1 : ∀ (_ : Unit), Ev w K = aA Tryz.prog (au Lc) 43 fuel ((flat (ah Tryz.f221)).drop 5) e w (fun e w => K (e 4) w) (aW Tryz.prog [.tmp 4] K) noE := by intro _; kernel_rfl
  exact bQ (Eq.mp (e1 ()) h) hn hr he
def xx (s0 s1 s12 s13 : Value) (w : World) (K : V1) (Y0 : V4) (Y1 : V0) : Prop :=
aa (bLt s13 s12) fun v1 =>
ifB v1 (
aa (dG s1 s13) fun v2 =>
aa (bEq Tryz.prog 5 (.tmp 18) (.const (.int .u8 100)) v2 (.int .u8 100)) fun v3 =>
aS (gd true v3) s0 fun v4 =>
aS (gd true v3) s13 fun v5 =>
Sx.stepG (gd true v3) (dG v4 v5) fun v6 =>
dz (gd true v3) (fun k => ai Lu [v6] w.drew k) w.drew fun v8 w7 =>
Sx.stepG (gd true v3) (dN v8) fun v9 =>
aa (aG v3 v9 (.bool false)) fun v10 =>
aS (gd false v10) s1 fun v11 =>
aS (gd false v10) s13 fun v12 =>
Sx.stepG (gd false v10) (dG v11 v12) fun v13 =>
Sx.stepG (gd false v10) (bNe Tryz.prog 5 (.tmp 30) (.const (.int .u8 100)) v13 (.int .u8 100)) fun v14 =>
aS (gd false v10) v14 fun v15 =>
aS (gd true v15) s0 fun v16 =>
aS (gd true v15) s13 fun v17 =>
Sx.stepG (gd true v15) (dG v16 v17) fun v18 =>
aS (gd true v15) s1 fun v19 =>
aS (gd true v15) s13 fun v20 =>
Sx.stepG (gd true v15) (dG v19 v20) fun v21 =>
Sx.stepG (gd true v15) (bNe Tryz.prog 5 (.tmp 35) (.tmp 38) v18 v21) fun v22 =>
Sx.stepG (gd false v10) (aG v15 v22 (.bool false)) fun v23 =>
aa (aG v10 (.bool true) v23) fun v24 =>
ifB v24 (
K (.bool false) w7) (
aa (bH s13 (.int .i64 1)) fun v25 =>
Y0 s0 s1 s12 v25 w7)) (
Y1 w)
def jy : Nat → Value → Value → Value → Value → World → (V1) → Prop
  | 0, _, _, _, _, _, _ => False
  | n + 1, s0, s1, s12, s13, w, K => xx s0 s1 s12 s13 w K (fun a0 a1 a12 a13 w => jy n a0 a1 a12 a13 w K) (fun w => vC w K)
def zU (s0 s1 s12 s13 : Value) (w : World) (K : V1) : Prop := jy fuel s0 s1 s12 s13 w K
theorem VS {K : V1}
    (hn : HN (fun e w => K (e 4) w) kn) (hr : HR Tryz.prog [.tmp 4] K kr) (he : HE noE ke) :
    ∀ e w, zU (e 0) (e 1) (e 12) (e 13) w K → aA Tryz.prog (au Lc) 43 fuel ((flat (ah Tryz.f221)).drop 4) e w kn kr ke := by
  intro e w h
  unfold zU at h
  refine bM (id := 0) (body := (aU (bi (aV (flat (ah Tryz.f221)) 4)))) (l2 := (flat (ah Tryz.f221)).drop 5) (by kernel_rfl) ?_
  refine bV (FL := fun m e w => jy m (e 0) (e 1) (e 12) (e 13) w K) (fr := aW Tryz.prog [.tmp 4] K) (fe := (bB 0 (fun e w => vC w K) noE)) (fun _ _ h => h) ?_ hr (bD (fun e w h => VR hn hr he e w h) he) fuel e w h
  intro m e w h
  have h : jy (m + 1) (e 0) (e 1) (e 12) (e 13) w K := h
  rw [jy] at h
  have e1 : ∀ (Y0 : V4) (Y1 : V0), xx (e 0) (e 1) (e 12) (e 13) w K Y0 Y1 = aA Tryz.prog (au Lc) 43 fuel (flat (aU (bi (aV (flat (ah Tryz.f221)) 4)))) e w (fun e w => Y0 (e 0) (e 1) (e 12) (e 13) w) (aW Tryz.prog [.tmp 4] K) (bB 0 (fun e w => Y1 w) noE) := by intro Y0 Y1; kernel_rfl
  exact Eq.mp (e1 (fun a0 a1 a12 a13 w => jy m a0 a1 a12 a13 w K) (fun w => vC w K)) h
def Ew (s0 s1 : Value) (w : World) (K : V1) (Y0 : V4) : Prop :=
aa (ik s0) fun v26 =>
aa (ik s1) fun v27 =>
aa (bNe Tryz.prog 3 (.tmp 7) (.tmp 9) v26 v27) fun v28 =>
ifB v28 (
K (.bool false) w) (
aa (ik s0) fun v29 =>
Y0 s0 s1 v29 (.int .i64 0) w)
def Ex (s0 s1 : Value) (w : World) (K : V1) : Prop := Ew s0 s1 w K (fun a0 a1 a12 a13 w => zU a0 a1 a12 a13 w K)
theorem VT {K : V1}
    (hn : HN (fun e w => K (e 4) w) kn) (hr : HR Tryz.prog [.tmp 4] K kr) (he : HE noE ke) :
    ∀ e w, Ex (e 0) (e 1) w K → aA Tryz.prog (au Lc) 43 fuel ((flat (ah Tryz.f221)).drop 0) e w kn kr ke := by
  intro e w h
  unfold Ex at h
  have e1 : ∀ (Y0 : V4), Ew (e 0) (e 1) w K Y0 = aA Tryz.prog (au Lc) 43 fuel (((flat (ah Tryz.f221)).drop 0).take 4) e w (fun e w => Y0 (e 0) (e 1) (e 12) (e 13) w) (aW Tryz.prog [.tmp 4] K) noE := by intro Y0; kernel_rfl
  exact seg 4 (Eq.mp (e1 (fun a0 a1 a12 a13 w => zU a0 a1 a12 a13 w K)) h) (fun e w h => VS hn hr he e w h) hr he
def UG (x0 x1 : Value) (w : World) (K : V1) : Prop := Ex x0 x1 w K
def IV : FnT := fun args w K => on2 (fun x0 x1 => UG x0 x1 w K) args
theorem c221 {x0 x1 : Value} {w : World} {K : V1} (h : UG x0 x1 w K) : ai IV [x0, x1] w K := aj (dm (p := fun x0 x1 => UG x0 x1 w K) h)
theorem ZB : OkF Tryz.prog 221 IV := by
  refine aO (aN (l := Lc) ⟨Zz, trivial⟩) mixed (n := fuel) Tryz.func221 Tryz.call221 fun args w K h => ?_
  obtain ⟨x0, x1, rfl, hh⟩ := dn h
  unfold UG at hh
  exact az (c := ah Tryz.f221) (by kernel_rfl) (by kernel_rfl) (VT (fun _ _ h => h) (fun _ _ h => h) (fun _ _ _ h => h) (dD [x0, x1]) w hh)
def T269 : List (Nat × FnT) := [(121, Ud)]
def YD (x0 : Value) (w : World) (K : V1) : Prop :=
ai Ud [x0] w fun v2 w1 =>
aa (aK v2 0) fun v3 =>
aa (aK v2 1) fun _ =>
K v3 w1
def gK : FnT := fun args w K => on1 (fun x0 => YD x0 w K) args
theorem c269 {x0 : Value} {w : World} {K : V1} (h : YD x0 w K) : ai gK [x0] w K := aj (bL (p := fun x0 => YD x0 w K) h)
theorem QS : OkF Tryz.prog 269 gK := by
  refine aO (aN (l := T269) ⟨ZM, trivial⟩) mixed (n := fuel) Tryz.func269 Tryz.call269 fun args w K h => ?_
  obtain ⟨x0, rfl, hh⟩ := bJ h
  exact az (c := ah Tryz.f269) (by kernel_rfl) (by kernel_rfl) (Eq.mp (by kernel_rfl) hh)
def T222 : List (Nat × FnT) := [(269, gK), (270, lq)]
def YM (x0 : Value) (w : World) (K : V1) : Prop :=
aY Tryz.prog 342 w fun v2 w1 =>
aa (di x0 none (some (.int .i64 4))) fun v3 =>
aa (di x0 (some (.int .i64 5)) (some (.int .i64 7))) fun v4 =>
aa (di x0 (some (.int .i64 8)) (some (.int .i64 10))) fun v5 =>
aa (di x0 (some (.int .i64 11)) (some (.int .i64 13))) fun v6 =>
aa (di x0 (some (.int .i64 14)) (some (.int .i64 16))) fun v7 =>
aa (di x0 (some (.int .i64 17)) (some (.int .i64 19))) fun v8 =>
(ai gK [v3] w1.drew fun v10 w9 =>
(ai gK [v4] w9 fun v12 w11 =>
(ai gK [v5] w11 fun v14 w13 =>
(ai gK [v6] w13 fun v16 w15 =>
(ai gK [v7] w15 fun v18 w17 =>
(ai gK [v8] w17 fun v20 w19 =>
aa (aD Tryz.prog 342 [(0, v10), (1, v12), (2, v14), (3, v16), (4, v18), (5, v20)]) fun v21 =>
aY Tryz.prog 342 w19 fun v23 w22 =>
bF (st 6 v23 v21 w22) fun w24 =>
aa (ae 0 v23) fun v26 =>
aa (ld1 v26 w24) fun v27 =>
aa (bGt v27 (.int .i64 2100)) fun v28 =>
Sx.stepG (gd false v28) (ae 1 v23) fun v29 =>
Sx.stepG (gd false v28) (ld1 v29 w24) fun v30 =>
Sx.stepG (gd false v28) (bLt v30 (.int .i64 1)) fun v31 =>
aa (aG v28 (.bool true) v31) fun v32 =>
Sx.stepG (gd false v32) (ae 1 v23) fun v33 =>
Sx.stepG (gd false v32) (ld1 v33 w24) fun v34 =>
Sx.stepG (gd false v32) (bGt v34 (.int .i64 12)) fun v35 =>
aa (aG v32 (.bool true) v35) fun v36 =>
ifB v36 (
aa (ldN 6 v23 w24) fun v37 =>
bF (st 6 v2 v37 w24) fun w38 =>
aa (ldN 6 v2 w38) fun v40 =>
K (.tuple #[v40, (.bool false)]) w38) (
aa (ae 0 v23) fun v41 =>
aa (ld1 v41 w24.drew) fun v42 =>
aa (ae 1 v23) fun v43 =>
aa (ld1 v43 w24.drew) fun v44 =>
aa (bH v44 (.int .i64 1)) fun v45 =>
aa (ae 0 v23) fun v46 =>
aa (ld1 v46 w24.drew) fun v47 =>
aa (ae 1 v23) fun v48 =>
aa (ld1 v48 w24.drew) fun v49 =>
ai lq [v42, v45] w24.drew fun v51 w50 =>
(fok true (ld1 v46 w50) v47 ∧ fok true (ld1 v48 w50) v49) ∧ (ai lq [v47, v49] w50 fun v53 w52 =>
aa (jK v51 v53) fun v54 =>
aa (ldN 6 v23 w52.drew) fun v55 =>
aa (ae 2 v23) fun v56 =>
aa (ld1 v56 w52.drew) fun v57 =>
aa (bGe v57 (.int .i64 1)) fun v58 =>
Sx.stepG (gd true v58) (ae 2 v23) fun v59 =>
Sx.stepG (gd true v58) (ld1 v59 w52.drew) fun v60 =>
aS (gd true v58) v54 fun v61 =>
Sx.stepG (gd true v58) (bLe v60 v61) fun v62 =>
aa (aG v58 v62 (.bool false)) fun v63 =>
Sx.stepG (gd true v63) (ae 3 v23) fun v64 =>
Sx.stepG (gd true v63) (ld1 v64 w52.drew) fun v65 =>
Sx.stepG (gd true v63) (bLt v65 (.int .i64 24)) fun v66 =>
aa (aG v63 v66 (.bool false)) fun v67 =>
Sx.stepG (gd true v67) (ae 4 v23) fun v68 =>
Sx.stepG (gd true v67) (ld1 v68 w52.drew) fun v69 =>
Sx.stepG (gd true v67) (bLt v69 (.int .i64 60)) fun v70 =>
aa (aG v67 v70 (.bool false)) fun v71 =>
Sx.stepG (gd true v71) (ae 5 v23) fun v72 =>
Sx.stepG (gd true v71) (ld1 v72 w52.drew) fun v73 =>
Sx.stepG (gd true v71) (bLt v73 (.int .i64 60)) fun v74 =>
aa (aG v71 v74 (.bool false)) fun v75 =>
bF (st 6 v2 v55 w52.drew) fun w76 =>
fok (gd true v71) (ld1 v72 w76) v73 ∧ (aa (ldN 6 v2 w76) fun v78 =>
K (.tuple #[v78, v75]) w76)))) ∧ (aY Tryz.prog 342 w17 fun v80 w79 =>
ai gK [v8] w79 fun v82 w81 =>
aa (aD Tryz.prog 342 [(0, v10), (1, v12), (2, v14), (3, v16), (4, v18), (5, v82)]) fun v83 =>
bF (st 6 v80 v83 w81) fun w84 =>
aa (ae 0 v80) fun v86 =>
aa (ld1 v86 w84) fun v87 =>
aa (bGt v87 (.int .i64 2100)) fun v88 =>
Sx.stepG (gd false v88) (ae 1 v80) fun v89 =>
Sx.stepG (gd false v88) (ld1 v89 w84) fun v90 =>
Sx.stepG (gd false v88) (bLt v90 (.int .i64 1)) fun v91 =>
aa (aG v88 (.bool true) v91) fun v92 =>
Sx.stepG (gd false v92) (ae 1 v80) fun v93 =>
Sx.stepG (gd false v92) (ld1 v93 w84) fun v94 =>
Sx.stepG (gd false v92) (bGt v94 (.int .i64 12)) fun v95 =>
aa (aG v92 (.bool true) v95) fun v96 =>
ifB v96 (
aa (ldN 6 v80 w84) fun v97 =>
bF (st 6 v2 v97 w84) fun w98 =>
aa (ldN 6 v2 w98) fun v100 =>
K (.tuple #[v100, (.bool false)]) w98) (
aa (ae 0 v80) fun v101 =>
aa (ld1 v101 w84.drew) fun v102 =>
aa (ae 1 v80) fun v103 =>
aa (ld1 v103 w84.drew) fun v104 =>
aa (bH v104 (.int .i64 1)) fun v105 =>
aa (ae 0 v80) fun v106 =>
aa (ld1 v106 w84.drew) fun v107 =>
aa (ae 1 v80) fun v108 =>
aa (ld1 v108 w84.drew) fun v109 =>
ai lq [v102, v105] w84.drew fun v111 w110 =>
(fok true (ld1 v106 w110) v107 ∧ fok true (ld1 v108 w110) v109) ∧ (ai lq [v107, v109] w110 fun v113 w112 =>
aa (jK v111 v113) fun v114 =>
aa (ldN 6 v80 w112.drew) fun v115 =>
aa (ae 2 v80) fun v116 =>
aa (ld1 v116 w112.drew) fun v117 =>
aa (bGe v117 (.int .i64 1)) fun v118 =>
Sx.stepG (gd true v118) (ae 2 v80) fun v119 =>
Sx.stepG (gd true v118) (ld1 v119 w112.drew) fun v120 =>
aS (gd true v118) v114 fun v121 =>
Sx.stepG (gd true v118) (bLe v120 v121) fun v122 =>
aa (aG v118 v122 (.bool false)) fun v123 =>
Sx.stepG (gd true v123) (ae 3 v80) fun v124 =>
Sx.stepG (gd true v123) (ld1 v124 w112.drew) fun v125 =>
Sx.stepG (gd true v123) (bLt v125 (.int .i64 24)) fun v126 =>
aa (aG v123 v126 (.bool false)) fun v127 =>
Sx.stepG (gd true v127) (ae 4 v80) fun v128 =>
Sx.stepG (gd true v127) (ld1 v128 w112.drew) fun v129 =>
Sx.stepG (gd true v127) (bLt v129 (.int .i64 60)) fun v130 =>
aa (aG v127 v130 (.bool false)) fun v131 =>
Sx.stepG (gd true v131) (ae 5 v80) fun v132 =>
Sx.stepG (gd true v131) (ld1 v132 w112.drew) fun v133 =>
Sx.stepG (gd true v131) (bLt v133 (.int .i64 60)) fun v134 =>
aa (aG v131 v134 (.bool false)) fun v135 =>
bF (st 6 v2 v115 w112.drew) fun w136 =>
fok (gd true v131) (ld1 v132 w136) v133 ∧ (aa (ldN 6 v2 w136) fun v138 =>
K (.tuple #[v138, v135]) w136))))) ∧ (aY Tryz.prog 342 w15 fun v140 w139 =>
ai gK [v7] w139 fun v142 w141 =>
ai gK [v8] w141 fun v144 w143 =>
aa (aD Tryz.prog 342 [(0, v10), (1, v12), (2, v14), (3, v16), (4, v142), (5, v144)]) fun v145 =>
bF (st 6 v140 v145 w143) fun w146 =>
aa (ae 0 v140) fun v148 =>
aa (ld1 v148 w146) fun v149 =>
aa (bGt v149 (.int .i64 2100)) fun v150 =>
Sx.stepG (gd false v150) (ae 1 v140) fun v151 =>
Sx.stepG (gd false v150) (ld1 v151 w146) fun v152 =>
Sx.stepG (gd false v150) (bLt v152 (.int .i64 1)) fun v153 =>
aa (aG v150 (.bool true) v153) fun v154 =>
Sx.stepG (gd false v154) (ae 1 v140) fun v155 =>
Sx.stepG (gd false v154) (ld1 v155 w146) fun v156 =>
Sx.stepG (gd false v154) (bGt v156 (.int .i64 12)) fun v157 =>
aa (aG v154 (.bool true) v157) fun v158 =>
ifB v158 (
aa (ldN 6 v140 w146) fun v159 =>
bF (st 6 v2 v159 w146) fun w160 =>
aa (ldN 6 v2 w160) fun v162 =>
K (.tuple #[v162, (.bool false)]) w160) (
aa (ae 0 v140) fun v163 =>
aa (ld1 v163 w146.drew) fun v164 =>
aa (ae 1 v140) fun v165 =>
aa (ld1 v165 w146.drew) fun v166 =>
aa (bH v166 (.int .i64 1)) fun v167 =>
aa (ae 0 v140) fun v168 =>
aa (ld1 v168 w146.drew) fun v169 =>
aa (ae 1 v140) fun v170 =>
aa (ld1 v170 w146.drew) fun v171 =>
ai lq [v164, v167] w146.drew fun v173 w172 =>
(fok true (ld1 v168 w172) v169 ∧ fok true (ld1 v170 w172) v171) ∧ (ai lq [v169, v171] w172 fun v175 w174 =>
aa (jK v173 v175) fun v176 =>
aa (ldN 6 v140 w174.drew) fun v177 =>
aa (ae 2 v140) fun v178 =>
aa (ld1 v178 w174.drew) fun v179 =>
aa (bGe v179 (.int .i64 1)) fun v180 =>
Sx.stepG (gd true v180) (ae 2 v140) fun v181 =>
Sx.stepG (gd true v180) (ld1 v181 w174.drew) fun v182 =>
aS (gd true v180) v176 fun v183 =>
Sx.stepG (gd true v180) (bLe v182 v183) fun v184 =>
aa (aG v180 v184 (.bool false)) fun v185 =>
Sx.stepG (gd true v185) (ae 3 v140) fun v186 =>
Sx.stepG (gd true v185) (ld1 v186 w174.drew) fun v187 =>
Sx.stepG (gd true v185) (bLt v187 (.int .i64 24)) fun v188 =>
aa (aG v185 v188 (.bool false)) fun v189 =>
Sx.stepG (gd true v189) (ae 4 v140) fun v190 =>
Sx.stepG (gd true v189) (ld1 v190 w174.drew) fun v191 =>
Sx.stepG (gd true v189) (bLt v191 (.int .i64 60)) fun v192 =>
aa (aG v189 v192 (.bool false)) fun v193 =>
Sx.stepG (gd true v193) (ae 5 v140) fun v194 =>
Sx.stepG (gd true v193) (ld1 v194 w174.drew) fun v195 =>
Sx.stepG (gd true v193) (bLt v195 (.int .i64 60)) fun v196 =>
aa (aG v193 v196 (.bool false)) fun v197 =>
bF (st 6 v2 v177 w174.drew) fun w198 =>
fok (gd true v193) (ld1 v194 w198) v195 ∧ (aa (ldN 6 v2 w198) fun v200 =>
K (.tuple #[v200, v197]) w198))))) ∧ (aY Tryz.prog 342 w13 fun v202 w201 =>
ai gK [v6] w201 fun v204 w203 =>
ai gK [v7] w203 fun v206 w205 =>
ai gK [v8] w205 fun v208 w207 =>
aa (aD Tryz.prog 342 [(0, v10), (1, v12), (2, v14), (3, v204), (4, v206), (5, v208)]) fun v209 =>
bF (st 6 v202 v209 w207) fun w210 =>
aa (ae 0 v202) fun v212 =>
aa (ld1 v212 w210) fun v213 =>
aa (bGt v213 (.int .i64 2100)) fun v214 =>
Sx.stepG (gd false v214) (ae 1 v202) fun v215 =>
Sx.stepG (gd false v214) (ld1 v215 w210) fun v216 =>
Sx.stepG (gd false v214) (bLt v216 (.int .i64 1)) fun v217 =>
aa (aG v214 (.bool true) v217) fun v218 =>
Sx.stepG (gd false v218) (ae 1 v202) fun v219 =>
Sx.stepG (gd false v218) (ld1 v219 w210) fun v220 =>
Sx.stepG (gd false v218) (bGt v220 (.int .i64 12)) fun v221 =>
aa (aG v218 (.bool true) v221) fun v222 =>
ifB v222 (
aa (ldN 6 v202 w210) fun v223 =>
bF (st 6 v2 v223 w210) fun w224 =>
aa (ldN 6 v2 w224) fun v226 =>
K (.tuple #[v226, (.bool false)]) w224) (
aa (ae 0 v202) fun v227 =>
aa (ld1 v227 w210.drew) fun v228 =>
aa (ae 1 v202) fun v229 =>
aa (ld1 v229 w210.drew) fun v230 =>
aa (bH v230 (.int .i64 1)) fun v231 =>
aa (ae 0 v202) fun v232 =>
aa (ld1 v232 w210.drew) fun v233 =>
aa (ae 1 v202) fun v234 =>
aa (ld1 v234 w210.drew) fun v235 =>
ai lq [v228, v231] w210.drew fun v237 w236 =>
(fok true (ld1 v232 w236) v233 ∧ fok true (ld1 v234 w236) v235) ∧ (ai lq [v233, v235] w236 fun v239 w238 =>
aa (jK v237 v239) fun v240 =>
aa (ldN 6 v202 w238.drew) fun v241 =>
aa (ae 2 v202) fun v242 =>
aa (ld1 v242 w238.drew) fun v243 =>
aa (bGe v243 (.int .i64 1)) fun v244 =>
Sx.stepG (gd true v244) (ae 2 v202) fun v245 =>
Sx.stepG (gd true v244) (ld1 v245 w238.drew) fun v246 =>
aS (gd true v244) v240 fun v247 =>
Sx.stepG (gd true v244) (bLe v246 v247) fun v248 =>
aa (aG v244 v248 (.bool false)) fun v249 =>
Sx.stepG (gd true v249) (ae 3 v202) fun v250 =>
Sx.stepG (gd true v249) (ld1 v250 w238.drew) fun v251 =>
Sx.stepG (gd true v249) (bLt v251 (.int .i64 24)) fun v252 =>
aa (aG v249 v252 (.bool false)) fun v253 =>
Sx.stepG (gd true v253) (ae 4 v202) fun v254 =>
Sx.stepG (gd true v253) (ld1 v254 w238.drew) fun v255 =>
Sx.stepG (gd true v253) (bLt v255 (.int .i64 60)) fun v256 =>
aa (aG v253 v256 (.bool false)) fun v257 =>
Sx.stepG (gd true v257) (ae 5 v202) fun v258 =>
Sx.stepG (gd true v257) (ld1 v258 w238.drew) fun v259 =>
Sx.stepG (gd true v257) (bLt v259 (.int .i64 60)) fun v260 =>
aa (aG v257 v260 (.bool false)) fun v261 =>
bF (st 6 v2 v241 w238.drew) fun w262 =>
fok (gd true v257) (ld1 v258 w262) v259 ∧ (aa (ldN 6 v2 w262) fun v264 =>
K (.tuple #[v264, v261]) w262))))) ∧ (aY Tryz.prog 342 w11 fun v266 w265 =>
ai gK [v5] w265 fun v268 w267 =>
ai gK [v6] w267 fun v270 w269 =>
ai gK [v7] w269 fun v272 w271 =>
ai gK [v8] w271 fun v274 w273 =>
aa (aD Tryz.prog 342 [(0, v10), (1, v12), (2, v268), (3, v270), (4, v272), (5, v274)]) fun v275 =>
bF (st 6 v266 v275 w273) fun w276 =>
aa (ae 0 v266) fun v278 =>
aa (ld1 v278 w276) fun v279 =>
aa (bGt v279 (.int .i64 2100)) fun v280 =>
Sx.stepG (gd false v280) (ae 1 v266) fun v281 =>
Sx.stepG (gd false v280) (ld1 v281 w276) fun v282 =>
Sx.stepG (gd false v280) (bLt v282 (.int .i64 1)) fun v283 =>
aa (aG v280 (.bool true) v283) fun v284 =>
Sx.stepG (gd false v284) (ae 1 v266) fun v285 =>
Sx.stepG (gd false v284) (ld1 v285 w276) fun v286 =>
Sx.stepG (gd false v284) (bGt v286 (.int .i64 12)) fun v287 =>
aa (aG v284 (.bool true) v287) fun v288 =>
ifB v288 (
aa (ldN 6 v266 w276) fun v289 =>
bF (st 6 v2 v289 w276) fun w290 =>
aa (ldN 6 v2 w290) fun v292 =>
K (.tuple #[v292, (.bool false)]) w290) (
aa (ae 0 v266) fun v293 =>
aa (ld1 v293 w276.drew) fun v294 =>
aa (ae 1 v266) fun v295 =>
aa (ld1 v295 w276.drew) fun v296 =>
aa (bH v296 (.int .i64 1)) fun v297 =>
aa (ae 0 v266) fun v298 =>
aa (ld1 v298 w276.drew) fun v299 =>
aa (ae 1 v266) fun v300 =>
aa (ld1 v300 w276.drew) fun v301 =>
ai lq [v294, v297] w276.drew fun v303 w302 =>
(fok true (ld1 v298 w302) v299 ∧ fok true (ld1 v300 w302) v301) ∧ (ai lq [v299, v301] w302 fun v305 w304 =>
aa (jK v303 v305) fun v306 =>
aa (ldN 6 v266 w304.drew) fun v307 =>
aa (ae 2 v266) fun v308 =>
aa (ld1 v308 w304.drew) fun v309 =>
aa (bGe v309 (.int .i64 1)) fun v310 =>
Sx.stepG (gd true v310) (ae 2 v266) fun v311 =>
Sx.stepG (gd true v310) (ld1 v311 w304.drew) fun v312 =>
aS (gd true v310) v306 fun v313 =>
Sx.stepG (gd true v310) (bLe v312 v313) fun v314 =>
aa (aG v310 v314 (.bool false)) fun v315 =>
Sx.stepG (gd true v315) (ae 3 v266) fun v316 =>
Sx.stepG (gd true v315) (ld1 v316 w304.drew) fun v317 =>
Sx.stepG (gd true v315) (bLt v317 (.int .i64 24)) fun v318 =>
aa (aG v315 v318 (.bool false)) fun v319 =>
Sx.stepG (gd true v319) (ae 4 v266) fun v320 =>
Sx.stepG (gd true v319) (ld1 v320 w304.drew) fun v321 =>
Sx.stepG (gd true v319) (bLt v321 (.int .i64 60)) fun v322 =>
aa (aG v319 v322 (.bool false)) fun v323 =>
Sx.stepG (gd true v323) (ae 5 v266) fun v324 =>
Sx.stepG (gd true v323) (ld1 v324 w304.drew) fun v325 =>
Sx.stepG (gd true v323) (bLt v325 (.int .i64 60)) fun v326 =>
aa (aG v323 v326 (.bool false)) fun v327 =>
bF (st 6 v2 v307 w304.drew) fun w328 =>
fok (gd true v323) (ld1 v324 w328) v325 ∧ (aa (ldN 6 v2 w328) fun v330 =>
K (.tuple #[v330, v327]) w328))))) ∧ (aY Tryz.prog 342 w9 fun v332 w331 =>
ai gK [v4] w331 fun v334 w333 =>
ai gK [v5] w333 fun v336 w335 =>
ai gK [v6] w335 fun v338 w337 =>
ai gK [v7] w337 fun v340 w339 =>
ai gK [v8] w339 fun v342 w341 =>
aa (aD Tryz.prog 342 [(0, v10), (1, v334), (2, v336), (3, v338), (4, v340), (5, v342)]) fun v343 =>
bF (st 6 v332 v343 w341) fun w344 =>
aa (ae 0 v332) fun v346 =>
aa (ld1 v346 w344) fun v347 =>
aa (bGt v347 (.int .i64 2100)) fun v348 =>
Sx.stepG (gd false v348) (ae 1 v332) fun v349 =>
Sx.stepG (gd false v348) (ld1 v349 w344) fun v350 =>
Sx.stepG (gd false v348) (bLt v350 (.int .i64 1)) fun v351 =>
aa (aG v348 (.bool true) v351) fun v352 =>
Sx.stepG (gd false v352) (ae 1 v332) fun v353 =>
Sx.stepG (gd false v352) (ld1 v353 w344) fun v354 =>
Sx.stepG (gd false v352) (bGt v354 (.int .i64 12)) fun v355 =>
aa (aG v352 (.bool true) v355) fun v356 =>
ifB v356 (
aa (ldN 6 v332 w344) fun v357 =>
bF (st 6 v2 v357 w344) fun w358 =>
aa (ldN 6 v2 w358) fun v360 =>
K (.tuple #[v360, (.bool false)]) w358) (
aa (ae 0 v332) fun v361 =>
aa (ld1 v361 w344.drew) fun v362 =>
aa (ae 1 v332) fun v363 =>
aa (ld1 v363 w344.drew) fun v364 =>
aa (bH v364 (.int .i64 1)) fun v365 =>
aa (ae 0 v332) fun v366 =>
aa (ld1 v366 w344.drew) fun v367 =>
aa (ae 1 v332) fun v368 =>
aa (ld1 v368 w344.drew) fun v369 =>
ai lq [v362, v365] w344.drew fun v371 w370 =>
(fok true (ld1 v366 w370) v367 ∧ fok true (ld1 v368 w370) v369) ∧ (ai lq [v367, v369] w370 fun v373 w372 =>
aa (jK v371 v373) fun v374 =>
aa (ldN 6 v332 w372.drew) fun v375 =>
aa (ae 2 v332) fun v376 =>
aa (ld1 v376 w372.drew) fun v377 =>
aa (bGe v377 (.int .i64 1)) fun v378 =>
Sx.stepG (gd true v378) (ae 2 v332) fun v379 =>
Sx.stepG (gd true v378) (ld1 v379 w372.drew) fun v380 =>
aS (gd true v378) v374 fun v381 =>
Sx.stepG (gd true v378) (bLe v380 v381) fun v382 =>
aa (aG v378 v382 (.bool false)) fun v383 =>
Sx.stepG (gd true v383) (ae 3 v332) fun v384 =>
Sx.stepG (gd true v383) (ld1 v384 w372.drew) fun v385 =>
Sx.stepG (gd true v383) (bLt v385 (.int .i64 24)) fun v386 =>
aa (aG v383 v386 (.bool false)) fun v387 =>
Sx.stepG (gd true v387) (ae 4 v332) fun v388 =>
Sx.stepG (gd true v387) (ld1 v388 w372.drew) fun v389 =>
Sx.stepG (gd true v387) (bLt v389 (.int .i64 60)) fun v390 =>
aa (aG v387 v390 (.bool false)) fun v391 =>
Sx.stepG (gd true v391) (ae 5 v332) fun v392 =>
Sx.stepG (gd true v391) (ld1 v392 w372.drew) fun v393 =>
Sx.stepG (gd true v391) (bLt v393 (.int .i64 60)) fun v394 =>
aa (aG v391 v394 (.bool false)) fun v395 =>
bF (st 6 v2 v375 w372.drew) fun w396 =>
fok (gd true v391) (ld1 v392 w396) v393 ∧ (aa (ldN 6 v2 w396) fun v398 =>
K (.tuple #[v398, v395]) w396))))) ∧ (aY Tryz.prog 342 w1.drew fun v400 w399 =>
ai gK [v3] w399 fun v402 w401 =>
ai gK [v4] w401 fun v404 w403 =>
ai gK [v5] w403 fun v406 w405 =>
ai gK [v6] w405 fun v408 w407 =>
ai gK [v7] w407 fun v410 w409 =>
ai gK [v8] w409 fun v412 w411 =>
aa (aD Tryz.prog 342 [(0, v402), (1, v404), (2, v406), (3, v408), (4, v410), (5, v412)]) fun v413 =>
bF (st 6 v400 v413 w411) fun w414 =>
aa (ae 0 v400) fun v416 =>
aa (ld1 v416 w414) fun v417 =>
aa (bGt v417 (.int .i64 2100)) fun v418 =>
Sx.stepG (gd false v418) (ae 1 v400) fun v419 =>
Sx.stepG (gd false v418) (ld1 v419 w414) fun v420 =>
Sx.stepG (gd false v418) (bLt v420 (.int .i64 1)) fun v421 =>
aa (aG v418 (.bool true) v421) fun v422 =>
Sx.stepG (gd false v422) (ae 1 v400) fun v423 =>
Sx.stepG (gd false v422) (ld1 v423 w414) fun v424 =>
Sx.stepG (gd false v422) (bGt v424 (.int .i64 12)) fun v425 =>
aa (aG v422 (.bool true) v425) fun v426 =>
ifB v426 (
aa (ldN 6 v400 w414) fun v427 =>
bF (st 6 v2 v427 w414) fun w428 =>
aa (ldN 6 v2 w428) fun v430 =>
K (.tuple #[v430, (.bool false)]) w428) (
aa (ae 0 v400) fun v431 =>
aa (ld1 v431 w414.drew) fun v432 =>
aa (ae 1 v400) fun v433 =>
aa (ld1 v433 w414.drew) fun v434 =>
aa (bH v434 (.int .i64 1)) fun v435 =>
aa (ae 0 v400) fun v436 =>
aa (ld1 v436 w414.drew) fun v437 =>
aa (ae 1 v400) fun v438 =>
aa (ld1 v438 w414.drew) fun v439 =>
ai lq [v432, v435] w414.drew fun v441 w440 =>
(fok true (ld1 v436 w440) v437 ∧ fok true (ld1 v438 w440) v439) ∧ (ai lq [v437, v439] w440 fun v443 w442 =>
aa (jK v441 v443) fun v444 =>
aa (ldN 6 v400 w442.drew) fun v445 =>
aa (ae 2 v400) fun v446 =>
aa (ld1 v446 w442.drew) fun v447 =>
aa (bGe v447 (.int .i64 1)) fun v448 =>
Sx.stepG (gd true v448) (ae 2 v400) fun v449 =>
Sx.stepG (gd true v448) (ld1 v449 w442.drew) fun v450 =>
aS (gd true v448) v444 fun v451 =>
Sx.stepG (gd true v448) (bLe v450 v451) fun v452 =>
aa (aG v448 v452 (.bool false)) fun v453 =>
Sx.stepG (gd true v453) (ae 3 v400) fun v454 =>
Sx.stepG (gd true v453) (ld1 v454 w442.drew) fun v455 =>
Sx.stepG (gd true v453) (bLt v455 (.int .i64 24)) fun v456 =>
aa (aG v453 v456 (.bool false)) fun v457 =>
Sx.stepG (gd true v457) (ae 4 v400) fun v458 =>
Sx.stepG (gd true v457) (ld1 v458 w442.drew) fun v459 =>
Sx.stepG (gd true v457) (bLt v459 (.int .i64 60)) fun v460 =>
aa (aG v457 v460 (.bool false)) fun v461 =>
Sx.stepG (gd true v461) (ae 5 v400) fun v462 =>
Sx.stepG (gd true v461) (ld1 v462 w442.drew) fun v463 =>
Sx.stepG (gd true v461) (bLt v463 (.int .i64 60)) fun v464 =>
aa (aG v461 v464 (.bool false)) fun v465 =>
bF (st 6 v2 v445 w442.drew) fun w466 =>
fok (gd true v461) (ld1 v462 w466) v463 ∧ (aa (ldN 6 v2 w466) fun v468 =>
K (.tuple #[v468, v465]) w466))))
def TA : FnT := fun args w K => on1 (fun x0 => YM x0 w K) args
theorem c222 {x0 : Value} {w : World} {K : V1} (h : YM x0 w K) : ai TA [x0] w K := aj (bL (p := fun x0 => YM x0 w K) h)
theorem ok222 : OkF Tryz.prog 222 TA := by
  refine aO (aN (l := T222) ⟨QS, QR, trivial⟩) mixed (n := fuel) Tryz.func222 Tryz.call222 fun args w K h => ?_
  obtain ⟨x0, rfl, hh⟩ := bJ h
  exact az (c := ah Tryz.f222) (by kernel_rfl) (by kernel_rfl) (Eq.mp (by kernel_rfl) hh)
def Lb : List (Nat × FnT) := [(240, Tv), (268, Lu), (269, gK), (271, G271)]
def NQ (s3 s5 : Value) (w : World) (K : V1) : Prop :=
aa (di s3 none (some s5)) fun v1 =>
aa (jK (.int .i64 9) s5) fun v2 =>
aa (di s3 (some s5) none) fun v3 =>
aa (bGt s5 (.int .i64 0)) fun v4 =>
ai G271 [(.string ⟨#[48]⟩), v2] w.drew fun v6 w5 =>
aa (bH v1 v6) fun v7 =>
ai gK [v7] w5 fun v9 w8 =>
K (.tuple #[v9, v3, v4]) w8
def zT (s3 s5 : Value) (w : World) (K : V1) : Prop := NQ s3 s5 w K
theorem VO {K : V1}
    (hn : HN (fun e w => K (.tuple #[(e 2), (e 3), (e 4)]) w) kn) (hr : HR Tryz.prog [.tmp 2, .tmp 3, .tmp 4] K kr) (he : HE noE ke) :
    ∀ e w, zT (e 3) (e 5) w K → aA Tryz.prog (au Lb) 43 fuel ((flat (ah Tryz.f223)).drop 6) e w kn kr ke := by
  intro e w h
  unfold zT at h
  have e1 : ∀ (_ : Unit), NQ (e 3) (e 5) w K = aA Tryz.prog (au Lb) 43 fuel ((flat (ah Tryz.f223)).drop 6) e w (fun e w => K (.tuple #[(e 2), (e 3), (e 4)]) w) (aW Tryz.prog [.tmp 2, .tmp 3, .tmp 4] K) noE := by intro _; kernel_rfl
  exact bQ (Eq.mp (e1 ()) h) hn hr he
def NR (s3 s5 : Value) (w : World) (_K : V1) (Y0 : V2) (Y1 : V2) : Prop :=
aa (ik s3) fun v10 =>
aa (bLt s5 v10) fun v11 =>
aS (gd true v11) s5 fun v12 =>
Sx.stepG (gd true v11) (bLt v12 (.int .i64 9)) fun v13 =>
aa (aG v11 v13 (.bool false)) fun v14 =>
aS (gd true v14) s3 fun v15 =>
aS (gd true v14) s5 fun v16 =>
Sx.stepG (gd true v14) (dG v15 v16) fun v17 =>
dz (gd true v14) (fun k => ai Lu [v17] w k) w fun v19 w18 =>
aa (aG v14 v19 (.bool false)) fun v20 =>
ifB v20 (
aa (bH s5 (.int .i64 1)) fun v21 =>
Y0 s3 v21 w18) (
Y1 s3 s5 w18)
def qf : Nat → Value → Value → World → (V1) → Prop
  | 0, _, _, _, _ => False
  | n + 1, s3, s5, w, K => NR s3 s5 w K (fun a3 a5 w => qf n a3 a5 w K) (fun a3 a5 w => zT a3 a5 w K)
def Es (s3 s5 : Value) (w : World) (K : V1) : Prop := qf fuel s3 s5 w K
theorem VP {K : V1}
    (hn : HN (fun e w => K (.tuple #[(e 2), (e 3), (e 4)]) w) kn) (hr : HR Tryz.prog [.tmp 2, .tmp 3, .tmp 4] K kr) (he : HE noE ke) :
    ∀ e w, Es (e 3) (e 5) w K → aA Tryz.prog (au Lb) 43 fuel ((flat (ah Tryz.f223)).drop 5) e w kn kr ke := by
  intro e w h
  unfold Es at h
  refine bM (id := 0) (body := (aU (bi (aV (flat (ah Tryz.f223)) 5)))) (l2 := (flat (ah Tryz.f223)).drop 6) (by kernel_rfl) ?_
  refine bV (FL := fun m e w => qf m (e 3) (e 5) w K) (fr := aW Tryz.prog [.tmp 2, .tmp 3, .tmp 4] K) (fe := (bB 0 (fun e w => zT (e 3) (e 5) w K) noE)) (fun _ _ h => h) ?_ hr (bD (fun e w h => VO hn hr he e w h) he) fuel e w h
  intro m e w h
  have h : qf (m + 1) (e 3) (e 5) w K := h
  rw [qf] at h
  have e1 : ∀ (Y0 : V2) (Y1 : V2), NR (e 3) (e 5) w K Y0 Y1 = aA Tryz.prog (au Lb) 43 fuel (flat (aU (bi (aV (flat (ah Tryz.f223)) 5)))) e w (fun e w => Y0 (e 3) (e 5) w) (aW Tryz.prog [.tmp 2, .tmp 3, .tmp 4] K) (bB 0 (fun e w => Y1 (e 3) (e 5) w) noE) := by intro Y0 Y1; kernel_rfl
  exact Eq.mp (e1 (fun a3 a5 w => qf m a3 a5 w K) (fun a3 a5 w => zT a3 a5 w K)) h
def Et (s0 : Value) (w : World) (K : V1) (Y0 : V2) : Prop :=
ai Tv [s0, (.string ⟨#[46]⟩)] w fun v23 w22 =>
aa (aK v23 0) fun v24 =>
aa (aK v23 1) fun v25 =>
aa (dN v25) fun v26 =>
ifB v26 (
K (.tuple #[(.int .i64 0), s0, (.bool true)]) w22) (
Y0 v24 (.int .i64 0) w22)
def Eu (s0 : Value) (w : World) (K : V1) : Prop := Et s0 w K (fun a3 a5 w => Es a3 a5 w K)
theorem VQ {K : V1}
    (hn : HN (fun e w => K (.tuple #[(e 2), (e 3), (e 4)]) w) kn) (hr : HR Tryz.prog [.tmp 2, .tmp 3, .tmp 4] K kr) (he : HE noE ke) :
    ∀ e w, Eu (e 0) w K → aA Tryz.prog (au Lb) 43 fuel ((flat (ah Tryz.f223)).drop 0) e w kn kr ke := by
  intro e w h
  unfold Eu at h
  have e1 : ∀ (Y0 : V2), Et (e 0) w K Y0 = aA Tryz.prog (au Lb) 43 fuel (((flat (ah Tryz.f223)).drop 0).take 5) e w (fun e w => Y0 (e 3) (e 5) w) (aW Tryz.prog [.tmp 2, .tmp 3, .tmp 4] K) noE := by intro Y0; kernel_rfl
  exact seg 5 (Eq.mp (e1 (fun a3 a5 w => Es a3 a5 w K)) h) (fun e w h => VP hn hr he e w h) hr he
def UF (x0 : Value) (w : World) (K : V1) : Prop := Eu x0 w K
def Tz : FnT := fun args w K => on1 (fun x0 => UF x0 w K) args
theorem c223 {x0 : Value} {w : World} {K : V1} (h : UF x0 w K) : ai Tz [x0] w K := aj (bL (p := fun x0 => UF x0 w K) h)
theorem ok223 : OkF Tryz.prog 223 Tz := by
  refine aO (aN (l := Lb) ⟨ok240, Zz, QS, ok271, trivial⟩) mixed (n := fuel) Tryz.func223 Tryz.call223 fun args w K h => ?_
  obtain ⟨x0, rfl, hh⟩ := bJ h
  unfold UF at hh
  exact az (c := ah Tryz.f223) (by kernel_rfl) (by kernel_rfl) (VQ (fun _ _ h => h) (fun _ _ h => h) (fun _ _ _ h => h) (dD [x0]) w hh)
def Ta : List (Nat × FnT) := [(221, IV), (269, gK)]
def NP (s0 s4 : Value) (w : World) (K : V1) : Prop :=
aa (di s0 (some (.int .i64 1)) (some (.int .i64 3))) fun v1 =>
aa (di s0 (some (.int .i64 4)) none) fun v2 =>
ai gK [v1] w.drew fun v4 w3 =>
ai gK [v2] w3 fun v6 w5 =>
aa (nP v4 (.int .i64 60)) fun v7 =>
aa (bH v7 v6) fun v8 =>
aa (nP s4 v8) fun v9 =>
aa (bLt v4 (.int .i64 24)) fun v10 =>
aS (gd true v10) v6 fun v11 =>
Sx.stepG (gd true v10) (bLt v11 (.int .i64 60)) fun v12 =>
aa (aG v10 v12 (.bool false)) fun v13 =>
K (.tuple #[v9, v13]) w5
def Eo (s0 s4 : Value) (w : World) (K : V1) : Prop := NP s0 s4 w K
theorem VM {K : V1}
    (hn : HN (fun e w => K (.tuple #[(e 2), (e 3)]) w) kn) (hr : HR Tryz.prog [.tmp 2, .tmp 3] K kr) (he : HE noE ke) :
    ∀ e w, Eo (e 0) (e 4) w K → aA Tryz.prog (au Ta) 34 fuel ((flat (ah Tryz.f224)).drop 5) e w kn kr ke := by
  intro e w h
  unfold Eo at h
  have e1 : ∀ (_ : Unit), NP (e 0) (e 4) w K = aA Tryz.prog (au Ta) 34 fuel ((flat (ah Tryz.f224)).drop 5) e w (fun e w => K (.tuple #[(e 2), (e 3)]) w) (aW Tryz.prog [.tmp 2, .tmp 3] K) noE := by intro _; kernel_rfl
  exact bQ (Eq.mp (e1 ()) h) hn hr he
def Ep (s0 : Value) (w : World) (K : V1) (Y0 : V2) : Prop :=
aa (bEq Tryz.prog 9 (.tmp 7) (.const (.string ⟨#[90]⟩)) s0 (.string ⟨#[90]⟩)) fun v14 =>
ifB v14 (
K (.tuple #[(.int .i64 0), (.bool true)]) w) (
ai IV [s0, (.string ⟨#[45, 100, 100, 58, 100, 100]⟩)] w fun v16 w15 =>
ifB v16 (
Y0 s0 (.int .i64 (-1)) w15) (
ai IV [s0, (.string ⟨#[43, 100, 100, 58, 100, 100]⟩)] w15 fun v18 w17 =>
aa (dN v18) fun v19 =>
ifB v19 (
K (.tuple #[(.int .i64 0), (.bool false)]) w17) (
Y0 s0 (.int .i64 1) w17)))
def Er (s0 : Value) (w : World) (K : V1) : Prop := Ep s0 w K (fun a0 a4 w => Eo a0 a4 w K)
theorem VN {K : V1}
    (hn : HN (fun e w => K (.tuple #[(e 2), (e 3)]) w) kn) (hr : HR Tryz.prog [.tmp 2, .tmp 3] K kr) (he : HE noE ke) :
    ∀ e w, Er (e 0) w K → aA Tryz.prog (au Ta) 34 fuel ((flat (ah Tryz.f224)).drop 0) e w kn kr ke := by
  intro e w h
  unfold Er at h
  have e1 : ∀ (Y0 : V2), Ep (e 0) w K Y0 = aA Tryz.prog (au Ta) 34 fuel (((flat (ah Tryz.f224)).drop 0).take 5) e w (fun e w => Y0 (e 0) (e 4) w) (aW Tryz.prog [.tmp 2, .tmp 3] K) noE := by intro Y0; kernel_rfl
  exact seg 5 (Eq.mp (e1 (fun a0 a4 w => Eo a0 a4 w K)) h) (fun e w h => VM hn hr he e w h) hr he
def UE (x0 : Value) (w : World) (K : V1) : Prop := Er x0 w K
def Ty : FnT := fun args w K => on1 (fun x0 => UE x0 w K) args
theorem c224 {x0 : Value} {w : World} {K : V1} (h : UE x0 w K) : ai Ty [x0] w K := aj (bL (p := fun x0 => UE x0 w K) h)
theorem ok224 : OkF Tryz.prog 224 Ty := by
  refine aO (aN (l := Ta) ⟨ZB, QS, trivial⟩) mixed (n := fuel) Tryz.func224 Tryz.call224 fun args w K h => ?_
  obtain ⟨x0, rfl, hh⟩ := bJ h
  unfold UE at hh
  exact az (c := ah Tryz.f224) (by kernel_rfl) (by kernel_rfl) (VN (fun _ _ h => h) (fun _ _ h => h) (fun _ _ _ h => h) (dD [x0]) w hh)
def T272 : List (Nat × FnT) := [(270, lq), (276, IU)]
def YB (x0 : Value) (w : World) (K : V1) : Prop :=
bT 342 x0 w fun v2 w1 =>
aa (ae 0 v2) fun v3 =>
aa (ld1 v3 w1.drew) fun v4 =>
aa (ae 0 v2) fun v5 =>
aa (ld1 v5 w1.drew) fun v6 =>
aa (ae 1 v2) fun v7 =>
aa (ld1 v7 w1.drew) fun v8 =>
aa (ae 2 v2) fun v9 =>
aa (ld1 v9 w1.drew) fun v10 =>
ai IU [v4] w1.drew fun v12 w11 =>
(fok true (ld1 v5 w11) v6 ∧ fok true (ld1 v7 w11) v8 ∧ fok true (ld1 v9 w11) v10) ∧ (ai lq [v6, v8] w11 fun v14 w13 =>
fok true (ld1 v9 w13) v10 ∧ (aa (bH v12 v14) fun v15 =>
aa (bH v15 v10) fun v16 =>
aa (jK v16 (.int .i64 1)) fun v17 =>
aa (nP v17 (.int .i64 86400)) fun v18 =>
aa (ae 3 v2) fun v19 =>
aa (ld1 v19 w13) fun v20 =>
aa (nP v20 (.int .i64 3600)) fun v21 =>
aa (bH v18 v21) fun v22 =>
aa (ae 4 v2) fun v23 =>
aa (ld1 v23 w13) fun v24 =>
aa (nP v24 (.int .i64 60)) fun v25 =>
aa (bH v22 v25) fun v26 =>
aa (ae 5 v2) fun v27 =>
aa (ld1 v27 w13) fun v28 =>
aa (bH v26 v28) fun v29 =>
K v29 w13))
def Tm : FnT := fun args w K => on1 (fun x0 => YB x0 w K) args
theorem c272 {x0 : Value} {w : World} {K : V1} (h : YB x0 w K) : ai Tm [x0] w K := aj (bL (p := fun x0 => YB x0 w K) h)
theorem ok272 : OkF Tryz.prog 272 Tm := by
  refine aO (aN (l := T272) ⟨QR, Zy, trivial⟩) mixed (n := fuel) Tryz.func272 Tryz.call272 fun args w K h => ?_
  obtain ⟨x0, rfl, hh⟩ := bJ h
  exact az (c := ah Tryz.f272) (by kernel_rfl) (by kernel_rfl) (Eq.mp (by kernel_rfl) hh)
def T225 : List (Nat × FnT) := [(272, Tm)]
def YL (x0 x1 : Value) (w : World) (K : V1) : Prop :=
bT 342 x0 w fun v2 w1 =>
aa (dN x1) fun v3 =>
ifB v3 (
K (.int .i64 0) w1) (
aa (ldN 6 v2 w1) fun v4 =>
ai Tm [v4] w1 fun v6 w5 =>
K v6 w5)
def Tx : FnT := fun args w K => on2 (fun x0 x1 => YL x0 x1 w K) args
theorem c225 {x0 x1 : Value} {w : World} {K : V1} (h : YL x0 x1 w K) : ai Tx [x0, x1] w K := aj (dm (p := fun x0 x1 => YL x0 x1 w K) h)
theorem ok225 : OkF Tryz.prog 225 Tx := by
  refine aO (aN (l := T225) ⟨ok272, trivial⟩) mixed (n := fuel) Tryz.func225 Tryz.call225 fun args w K h => ?_
  obtain ⟨x0, x1, rfl, hh⟩ := dn h
  exact az (c := ah Tryz.f225) (by kernel_rfl) (by kernel_rfl) (Eq.mp (by kernel_rfl) hh)
def T173 : List (Nat × FnT) := [(221, IV), (222, TA), (223, Tz), (224, Ty), (225, Tx)]
def YT (x0 : Value) (w : World) (K : V1) : Prop :=
aa (ik x0) fun v1 =>
aa (bLt v1 (.int .i64 19)) fun v2 =>
aS (gd false v2) x0 fun v3 =>
Sx.stepG (gd false v2) (di v3 none (some (.int .i64 19))) fun v4 =>
dz (gd false v2) (fun k => ai IV [v4, (.string ⟨#[100, 100, 100, 100, 45, 100, 100, 45, 100, 100, 84, 100, 100, 58, 100, 100, 58, 100, 100]⟩)] w k) w fun v6 w5 =>
Sx.stepG (gd false v2) (dN v6) fun v7 =>
aa (aG v2 (.bool true) v7) fun v8 =>
ifB v8 (
K (.tuple #[(.int .i64 0), (.int .i64 30)]) w5) (
ai TA [x0] w5 fun v10 w9 =>
aa (aK v10 0) fun v11 =>
aa (aK v10 1) fun v12 =>
aY Tryz.prog 342 w9 fun v14 w13 =>
bF (st 6 v14 v11 w13) fun w15 =>
aa (di x0 (some (.int .i64 19)) none) fun v17 =>
ai Tz [v17] w15 fun v19 w18 =>
aa (aK v19 0) fun v20 =>
aa (aK v19 1) fun v21 =>
aa (aK v19 2) fun v22 =>
ai Ty [v21] w18 fun v24 w23 =>
aa (aK v24 0) fun v25 =>
aa (aK v24 1) fun v26 =>
aa (ldN 6 v14 w23) fun v27 =>
ai Tx [v27, v12] w23 fun v29 w28 =>
aa (nP v25 (.int .i64 60)) fun v30 =>
aa (jK v29 v30) fun v31 =>
aa (dN v12) fun v32 =>
aS (gd false v32) v22 fun v33 =>
Sx.stepG (gd false v32) (dN v33) fun v34 =>
aa (aG v32 (.bool true) v34) fun v35 =>
aS (gd false v35) v26 fun v36 =>
Sx.stepG (gd false v35) (dN v36) fun v37 =>
aa (aG v35 (.bool true) v37) fun v38 =>
aS (gd false v38) v31 fun v39 =>
Sx.stepG (gd false v38) (bLt v39 (.int .i64 0)) fun v40 =>
aa (aG v38 (.bool true) v40) fun v41 =>
aS (gd false v41) v31 fun v42 =>
Sx.stepG (gd false v41) (bGt v42 (.int .i64 2305843009)) fun v43 =>
aa (aG v41 (.bool true) v43) fun v44 =>
aS (gd false v44) v31 fun v45 =>
Sx.stepG (gd false v44) (nP v45 (.int .i64 1000000000)) fun v46 =>
aS (gd false v44) v20 fun v47 =>
Sx.stepG (gd false v44) (jK (.int .i64 2305843009213693952) v47) fun v48 =>
Sx.stepG (gd false v44) (bGt v46 v48) fun v49 =>
aa (aG v44 (.bool true) v49) fun v50 =>
ifB v50 (
K (.tuple #[(.int .i64 0), (.int .i64 30)]) w28) (
aa (nP v31 (.int .i64 1000000000)) fun v51 =>
aa (bH v51 v20) fun v52 =>
K (.tuple #[v52, (.int .i64 0)]) w28))
def PZ : FnT := fun args w K => on1 (fun x0 => YT x0 w K) args
theorem c173 {x0 : Value} {w : World} {K : V1} (h : YT x0 w K) : ai PZ [x0] w K := aj (bL (p := fun x0 => YT x0 w K) h)
theorem ok173 : OkF Tryz.prog 173 PZ := by
  refine aO (aN (l := T173) ⟨ZB, ok222, ok223, ok224, ok225, trivial⟩) mixed (n := fuel) Tryz.func173 Tryz.call173 fun args w K h => ?_
  obtain ⟨x0, rfl, hh⟩ := bJ h
  exact az (c := ah Tryz.f173) (by kernel_rfl) (by kernel_rfl) (Eq.mp (by kernel_rfl) hh)
end Go.Proofs.Gong

/- Query -/
namespace Go.Proofs.Gong
open Go Go.Sx Go.Proofs
set_option linter.all false
set_option maxRecDepth 100000
set_option maxHeartbeats 4000000
variable {kn kr : ET} {ke : JT}
def Lr : Go.Shelf.Ren := ⟨fun | 4 => 184 | n => n, fun | 22 => 32 | 25 => 9 | 3 => 3 | 4 => 4 | 9 => 9 | 20 => 20 | 0 => 0 | n => n, fun | n => n⟩
theorem Lay184 : Go.Proofs.Lays8.n4 Tryz.prog Lr := {
  mixed := by kernel_rfl
  f4 := ⟨Tryz.f184.name, by decide, Tryz.func184.trans (congrArg some (by kernel_rfl))⟩
  t0 := Tryz.underlying0
  a0 := Tryz.isAgg0
  z0 := Tryz.sizeOf0
  v0 := Tryz.zeroValue0
  t3 := Tryz.underlying3
  a3 := Tryz.isAgg3
  z3 := Tryz.sizeOf3
  v3 := Tryz.zeroValue3
  t4 := Tryz.underlying4
  a4 := Tryz.isAgg4
  z4 := Tryz.sizeOf4
  v4 := Tryz.zeroValue4
  t9 := Tryz.underlying9
  a9 := Tryz.isAgg9
  z9 := Tryz.sizeOf9
  v9 := Tryz.zeroValue9
  t20 := Tryz.underlying20
  a20 := Tryz.isAgg20
  z20 := Tryz.sizeOf20
  v20 := Tryz.zeroValue20
  t22 := Tryz.underlying32
  a22 := Tryz.isAgg32
  z22 := Tryz.sizeOf32
  v22 := Tryz.zeroValue32 }
def G184 : FnT := za 1 16 9
theorem ok184 : OkF Tryz.prog 184 G184 := OH Lay184 _ (.string ⟨#[]⟩) (show Tryz.prog.info? 9 = some Tryz.t9 by kernel_rfl) (by kernel_rfl) (by kernel_rfl) (by kernel_rfl) (by kernel_rfl) (by decide) rfl rfl Tryz.call184
def tK : List (Nat × FnT) := [(184, G184)]
def Fh (s6 : Value) (w : World) (K : V1) : Prop :=
K s6 w
def vM (s6 : Value) (w : World) (K : V1) : Prop := Fh s6 w K
theorem WS {K : V1}
    (hn : HN (fun e w => K (e 2) w) kn) (hr : HR Tryz.prog [.tmp 2] K kr) (he : HE noE ke) :
    ∀ e w, vM (e 6) w K → aA Tryz.prog (au tK) 36 fuel ((flat (ah Tryz.f135)).drop 7) e w kn kr ke := by
  intro e w h
  unfold vM at h
  have e1 : ∀ (_ : Unit), Fh (e 6) w K = aA Tryz.prog (au tK) 36 fuel ((flat (ah Tryz.f135)).drop 7) e w (fun e w => K (e 2) w) (aW Tryz.prog [.tmp 2] K) noE := by intro _; kernel_rfl
  exact bQ (Eq.mp (e1 ()) h) hn hr he
def uo (s6 s25 s26 s27 : Value) (w : World) (_K : V1) (Y0 : V4) (Y1 : V1) : Prop :=
aa (bLt s27 s26) fun v1 =>
ifB v1 (
aa (bq 1 s25 s27) fun v2 =>
aa (ld1 v2 w) fun v3 =>
aJ Tryz.prog 32 32 s6 v3 w fun v5 w4 =>
aa (bH s27 (.int .i64 1)) fun v6 =>
Y0 v5 s25 s26 v6 w4) (
Y1 s6 w)
def jB : Nat → Value → Value → Value → Value → World → (V1) → Prop
  | 0, _, _, _, _, _, _ => False
  | n + 1, s6, s25, s26, s27, w, K => uo s6 s25 s26 s27 w K (fun a6 a25 a26 a27 w => jB n a6 a25 a26 a27 w K) (fun a6 w => vM a6 w K)
def Aj (s6 s25 s26 s27 : Value) (w : World) (K : V1) : Prop := jB fuel s6 s25 s26 s27 w K
theorem WT {K : V1}
    (hn : HN (fun e w => K (e 2) w) kn) (hr : HR Tryz.prog [.tmp 2] K kr) (he : HE noE ke) :
    ∀ e w, Aj (e 6) (e 25) (e 26) (e 27) w K → aA Tryz.prog (au tK) 36 fuel ((flat (ah Tryz.f135)).drop 6) e w kn kr ke := by
  intro e w h
  unfold Aj at h
  refine bM (id := 2) (body := (aU (bi (aV (flat (ah Tryz.f135)) 6)))) (l2 := (flat (ah Tryz.f135)).drop 7) (by kernel_rfl) ?_
  refine bV (FL := fun m e w => jB m (e 6) (e 25) (e 26) (e 27) w K) (fr := aW Tryz.prog [.tmp 2] K) (fe := (bB 2 (fun e w => vM (e 6) w K) noE)) (fun _ _ h => h) ?_ hr (bD (fun e w h => WS hn hr he e w h) he) fuel e w h
  intro m e w h
  have h : jB (m + 1) (e 6) (e 25) (e 26) (e 27) w K := h
  rw [jB] at h
  have e1 : ∀ (Y0 : V4) (Y1 : V1), uo (e 6) (e 25) (e 26) (e 27) w K Y0 Y1 = aA Tryz.prog (au tK) 36 fuel (flat (aU (bi (aV (flat (ah Tryz.f135)) 6)))) e w (fun e w => Y0 (e 6) (e 25) (e 26) (e 27) w) (aW Tryz.prog [.tmp 2] K) (bB 2 (fun e w => Y1 (e 6) w) noE) := by intro Y0 Y1; kernel_rfl
  exact Eq.mp (e1 (fun a6 a25 a26 a27 w => jB m a6 a25 a26 a27 w K) (fun a6 w => vM a6 w K)) h
def Fj (s0 s3 : Value) (w : World) (_K : V1) (Y0 : V4) : Prop :=
ai G184 [(.slice none 0 0), s3] w fun v8 w7 =>
aa (bI s0) fun v9 =>
Y0 v8 s0 v9 (.int .i64 0) w7
def nK (s0 s3 : Value) (w : World) (K : V1) : Prop := Fj s0 s3 w K (fun a6 a25 a26 a27 w => Aj a6 a25 a26 a27 w K)
theorem WU {K : V1}
    (hn : HN (fun e w => K (e 2) w) kn) (hr : HR Tryz.prog [.tmp 2] K kr) (he : HE noE ke) :
    ∀ e w, nK (e 0) (e 3) w K → aA Tryz.prog (au tK) 36 fuel ((flat (ah Tryz.f135)).drop 4) e w kn kr ke := by
  intro e w h
  unfold nK at h
  have e1 : ∀ (Y0 : V4), Fj (e 0) (e 3) w K Y0 = aA Tryz.prog (au tK) 36 fuel (((flat (ah Tryz.f135)).drop 4).take 2) e w (fun e w => Y0 (e 6) (e 25) (e 26) (e 27) w) (aW Tryz.prog [.tmp 2] K) noE := by intro Y0; kernel_rfl
  exact seg 2 (Eq.mp (e1 (fun a6 a25 a26 a27 w => Aj a6 a25 a26 a27 w K)) h) (fun e w h => WT hn hr he e w h) hr he
def xN (s0 s3 s9 s10 s11 : Value) (w : World) (_K : V1) (R5 : V5) : Prop :=
aa (bH s11 (.int .i64 1)) fun v10 =>
R5 s0 s3 s9 s10 v10 w
def vK (s0 s3 s9 s10 s11 : Value) (w : World) (K : V1) (R5 : V5) : Prop := xN s0 s3 s9 s10 s11 w K R5
theorem WQ (R5 : V5) {K : V1}
    (hn : HN (fun e w => R5 (e 0) (e 3) (e 9) (e 10) (e 11) w) kn) (hr : HR Tryz.prog [.tmp 2] K kr) (he : HE (bB 0 (fun e w => nK (e 0) (e 3) w K) noE) ke) :
    ∀ e w, vK (e 0) (e 3) (e 9) (e 10) (e 11) w K R5 → aA Tryz.prog (au tK) 36 fuel ((flat (aU (bi (aV (flat (ah Tryz.f135)) 3)))).drop 3) e w kn kr ke := by
  intro e w h
  unfold vK at h
  have e1 : ∀ (_ : Unit), xN (e 0) (e 3) (e 9) (e 10) (e 11) w K R5 = aA Tryz.prog (au tK) 36 fuel ((flat (aU (bi (aV (flat (ah Tryz.f135)) 3)))).drop 3) e w (fun e w => R5 (e 0) (e 3) (e 9) (e 10) (e 11) w) (aW Tryz.prog [.tmp 2] K) (bB 0 (fun e w => nK (e 0) (e 3) w K) noE) := by intro _; kernel_rfl
  exact bQ (Eq.mp (e1 ()) h) hn hr he
def ul (s0 s3 s9 s10 s11 : Value) (w : World) (_K : V1) (R5 : V5) (Y0 : V5) (Y1 : V2) : Prop :=
aa (bLt s11 s10) fun v11 =>
ifB v11 (
aa (bq 1 s9 s11) fun v12 =>
aa (ld1 v12 w) fun v13 =>
aa (bI v13) fun v14 =>
aa (bH s3 v14) fun v15 =>
aa (bLt v15 (.int .i64 0)) fun v16 =>
ifB v16 (
aa (Pv Tryz.prog 9 (.string ⟨#[108, 101, 110, 32, 111, 117, 116, 32, 111, 102, 32, 114, 97, 110, 103, 101]⟩)) fun _ =>
aa (none) fun _ =>
Y0 s0 v15 s9 s10 s11 w) (
Y0 s0 v15 s9 s10 s11 w)) (
Y1 s0 s3 w)
def vL (s0 s3 s9 s10 s11 : Value) (w : World) (K : V1) (R5 : V5) : Prop := ul s0 s3 s9 s10 s11 w K R5 (fun a0 a3 a9 a10 a11 w => vK a0 a3 a9 a10 a11 w K R5) (fun a0 a3 w => nK a0 a3 w K)
theorem WR (R5 : V5) {K : V1}
    (hn : HN (fun e w => R5 (e 0) (e 3) (e 9) (e 10) (e 11) w) kn) (hr : HR Tryz.prog [.tmp 2] K kr) (he : HE (bB 0 (fun e w => nK (e 0) (e 3) w K) noE) ke) :
    ∀ e w, vL (e 0) (e 3) (e 9) (e 10) (e 11) w K R5 → aA Tryz.prog (au tK) 36 fuel ((flat (aU (bi (aV (flat (ah Tryz.f135)) 3)))).drop 0) e w kn kr ke := by
  intro e w h
  unfold vL at h
  have e1 : ∀ (Y0 : V5) (Y1 : V2), ul (e 0) (e 3) (e 9) (e 10) (e 11) w K R5 Y0 Y1 = aA Tryz.prog (au tK) 36 fuel (((flat (aU (bi (aV (flat (ah Tryz.f135)) 3)))).drop 0).take 3) e w (fun e w => Y0 (e 0) (e 3) (e 9) (e 10) (e 11) w) (aW Tryz.prog [.tmp 2] K) (bB 0 (fun e w => Y1 (e 0) (e 3) w) noE) := by intro Y0 Y1; kernel_rfl
  exact seg 3 (Eq.mp (e1 (fun a0 a3 a9 a10 a11 w => vK a0 a3 a9 a10 a11 w K R5) (fun a0 a3 w => nK a0 a3 w K)) h) (fun e w h => WQ R5 hn hr he e w h) hr he
def jC : Nat → Value → Value → Value → Value → Value → World → (V1) → Prop
  | 0, _, _, _, _, _, _, _ => False
  | n + 1, s0, s3, s9, s10, s11, w, K => vL s0 s3 s9 s10 s11 w K (fun a0 a3 a9 a10 a11 w => jC n a0 a3 a9 a10 a11 w K)
def Ak (s0 s3 s9 s10 s11 : Value) (w : World) (K : V1) : Prop := jC fuel s0 s3 s9 s10 s11 w K
theorem WV {K : V1}
    (hn : HN (fun e w => K (e 2) w) kn) (hr : HR Tryz.prog [.tmp 2] K kr) (he : HE noE ke) :
    ∀ e w, Ak (e 0) (e 3) (e 9) (e 10) (e 11) w K → aA Tryz.prog (au tK) 36 fuel ((flat (ah Tryz.f135)).drop 3) e w kn kr ke := by
  intro e w h
  unfold Ak at h
  refine bM (id := 0) (body := (aU (bi (aV (flat (ah Tryz.f135)) 3)))) (l2 := (flat (ah Tryz.f135)).drop 4) (by kernel_rfl) ?_
  refine bV (FL := fun m e w => jC m (e 0) (e 3) (e 9) (e 10) (e 11) w K) (fr := aW Tryz.prog [.tmp 2] K) (fe := (bB 0 (fun e w => nK (e 0) (e 3) w K) noE)) (fun _ _ h => h) ?_ hr (bD (fun e w h => WU hn hr he e w h) he) fuel e w h
  intro m e w h
  have h : jC (m + 1) (e 0) (e 3) (e 9) (e 10) (e 11) w K := h
  rw [jC] at h
  exact WR (fun a0 a3 a9 a10 a11 w => jC m a0 a3 a9 a10 a11 w K) (fun _ _ h => h) (fun _ _ h => h) (fun _ _ _ h => h) e w h
def Fp (s0 : Value) (w : World) (_K : V1) (Y0 : V5) : Prop :=
aa (bI s0) fun v19 =>
Y0 s0 (.int .i64 0) s0 v19 (.int .i64 0) w
def Fq (s0 : Value) (w : World) (K : V1) : Prop := Fp s0 w K (fun a0 a3 a9 a10 a11 w => Ak a0 a3 a9 a10 a11 w K)
theorem WW {K : V1}
    (hn : HN (fun e w => K (e 2) w) kn) (hr : HR Tryz.prog [.tmp 2] K kr) (he : HE noE ke) :
    ∀ e w, Fq (e 0) w K → aA Tryz.prog (au tK) 36 fuel ((flat (ah Tryz.f135)).drop 0) e w kn kr ke := by
  intro e w h
  unfold Fq at h
  have e1 : ∀ (Y0 : V5), Fp (e 0) w K Y0 = aA Tryz.prog (au tK) 36 fuel (((flat (ah Tryz.f135)).drop 0).take 3) e w (fun e w => Y0 (e 0) (e 3) (e 9) (e 10) (e 11) w) (aW Tryz.prog [.tmp 2] K) noE := by intro Y0; kernel_rfl
  exact seg 3 (Eq.mp (e1 (fun a0 a3 a9 a10 a11 w => Ak a0 a3 a9 a10 a11 w K)) h) (fun e w h => WV hn hr he e w h) hr he
def UW (x0 : Value) (w : World) (K : V1) : Prop := Fq x0 w K
def TV : FnT := fun args w K => on1 (fun x0 => UW x0 w K) args
theorem c135 {x0 : Value} {w : World} {K : V1} (h : UW x0 w K) : ai TV [x0] w K := aj (bL (p := fun x0 => UW x0 w K) h)
theorem ok135 : OkF Tryz.prog 135 TV := by
  refine aO (aN (l := tK) ⟨ok184, trivial⟩) mixed (n := fuel) Tryz.func135 Tryz.call135 fun args w K h => ?_
  obtain ⟨x0, rfl, hh⟩ := bJ h
  unfold UW at hh
  exact az (c := ah Tryz.f135) (by kernel_rfl) (by kernel_rfl) (WW (fun _ _ h => h) (fun _ _ h => h) (fun _ _ _ h => h) (dD [x0]) w hh)
def T74 : List (Nat × FnT) := [(11, G11), (132, P7), (133, IX), (134, TW), (135, TV)]
def LB (s1 s3 s5 s7 : Value) (w : World) (K : V1) : Prop :=
aa (ae 0 s1) fun v1 =>
aa (ld1 v1 w.drew) fun v2 =>
aa (ae 1 s1) fun v3 =>
aa (ae 3 v3) fun v4 =>
aa (ld1 v4 w.drew) fun v5 =>
aa (ae 6 s1) fun v6 =>
aa (ld1 v6 w.drew) fun v7 =>
ai G11 [v2] w.drew fun v9 w8 =>
(fok true (ld1 v4 w8) v5 ∧ fok true (ld1 v6 w8) v7) ∧ (ai G11 [v5] w8 fun v11 w10 =>
fok true (ld1 v6 w10) v7 ∧ (ai G11 [v7] w10 fun v13 w12 =>
aB Tryz.prog 32 6 [(0, v9), (1, v11), (2, v13), (3, s3), (4, s5), (5, s7)] w12 fun v15 w14 =>
aa (ae 1 s1) fun v16 =>
aa (ae 0 v16) fun v17 =>
aa (ld1 v17 w14.drew) fun v18 =>
aa (ae 1 s1) fun v19 =>
aa (ae 1 v19) fun v20 =>
aa (ld1 v20 w14.drew) fun v21 =>
aa (ae 1 s1) fun v22 =>
aa (ae 2 v22) fun v23 =>
aa (ld1 v23 w14.drew) fun v24 =>
aa (ae 1 s1) fun v25 =>
aa (ae 4 v25) fun v26 =>
aa (ld1 v26 w14.drew) fun v27 =>
ai IX [v18] w14.drew fun v29 w28 =>
(fok true (ld1 v20 w28) v21 ∧ fok true (ld1 v23 w28) v24 ∧ fok true (ld1 v26 w28) v27) ∧ (ai IX [v21] w28 fun v31 w30 =>
(fok true (ld1 v23 w30) v24 ∧ fok true (ld1 v26 w30) v27) ∧ (ai IX [v24] w30 fun v33 w32 =>
fok true (ld1 v26 w32) v27 ∧ (ai IX [v27] w32 fun v35 w34 =>
aB Tryz.prog 32 4 [(0, v29), (1, v31), (2, v33), (3, v35)] w34 fun v37 w36 =>
aB Tryz.prog 297 2 [(0, v15), (1, v37)] w36 fun v39 w38 =>
ai TV [v39] w38 fun v41 w40 =>
ai TW [v41, (.string ⟨#[32]⟩)] w40 fun v43 w42 =>
K v43 w42)))))
def Cq (s1 s3 s5 s7 : Value) (w : World) (K : V1) : Prop := LB s1 s3 s5 s7 w K
theorem ok74_2 {K : V1}
    (hn : HN (fun e w => K (e 2) w) kn) (hr : HR Tryz.prog [.tmp 2] K kr) (he : HE noE ke) :
    ∀ e w, Cq (e 1) (e 3) (e 5) (e 7) w K → aA Tryz.prog (au T74) 62 fuel ((flat (ah Tryz.f74)).drop 6) e w kn kr ke := by
  intro e w h
  unfold Cq at h
  have e1 : ∀ (_ : Unit), LB (e 1) (e 3) (e 5) (e 7) w K = aA Tryz.prog (au T74) 62 fuel ((flat (ah Tryz.f74)).drop 6) e w (fun e w => K (e 2) w) (aW Tryz.prog [.tmp 2] K) noE := by intro _; kernel_rfl
  exact bQ (Eq.mp (e1 ()) h) hn hr he
def LC (s0 : Value) (w : World) (_K : V1) (Y0 : V4) : Prop :=
bT 48 s0 w fun v45 w44 =>
aa (ae 7 v45) fun v46 =>
aa (ld1 v46 w44) fun v47 =>
ai P7 [v47] w44 fun v49 w48 =>
aa (aK v49 0) fun v50 =>
aa (aK v49 1) fun _ =>
aa (ae 8 v45) fun v52 =>
aa (ld1 v52 w48) fun v53 =>
ai P7 [v53] w48 fun v55 w54 =>
aa (aK v55 0) fun v56 =>
aa (aK v55 1) fun _ =>
aa (ae 9 v45) fun v58 =>
aa (ld1 v58 w54) fun v59 =>
ifB v59 (
aa (ae 10 v45) fun v60 =>
aa (ld1 v60 w54) fun v61 =>
Y0 v45 v50 v56 v61 w54) (
Y0 v45 v50 v56 (.string ⟨#[45]⟩) w54)
def Ny (s0 : Value) (w : World) (K : V1) : Prop := LC s0 w K (fun a1 a3 a5 a7 w => Cq a1 a3 a5 a7 w K)
theorem ok74_1 {K : V1}
    (hn : HN (fun e w => K (e 2) w) kn) (hr : HR Tryz.prog [.tmp 2] K kr) (he : HE noE ke) :
    ∀ e w, Ny (e 0) w K → aA Tryz.prog (au T74) 62 fuel ((flat (ah Tryz.f74)).drop 0) e w kn kr ke := by
  intro e w h
  unfold Ny at h
  have e1 : ∀ (Y0 : V4), LC (e 0) w K Y0 = aA Tryz.prog (au T74) 62 fuel (((flat (ah Tryz.f74)).drop 0).take 6) e w (fun e w => Y0 (e 1) (e 3) (e 5) (e 7) w) (aW Tryz.prog [.tmp 2] K) noE := by intro Y0; kernel_rfl
  exact seg 6 (Eq.mp (e1 (fun a1 a3 a5 a7 w => Cq a1 a3 a5 a7 w K)) h) (fun e w h => ok74_2 hn hr he e w h) hr he
def F74 (x0 : Value) (w : World) (K : V1) : Prop := Ny x0 w K
def G74 : FnT := fun args w K => on1 (fun x0 => F74 x0 w K) args
theorem c74 {x0 : Value} {w : World} {K : V1} (h : F74 x0 w K) : ai G74 [x0] w K := aj (bL (p := fun x0 => F74 x0 w K) h)
theorem ok74 : OkF Tryz.prog 74 G74 := by
  refine aO (aN (l := T74) ⟨Q5, ok132, ok133, ok134, ok135, trivial⟩) mixed (n := fuel) Tryz.func74 Tryz.call74 fun args w K h => ?_
  obtain ⟨x0, rfl, hh⟩ := bJ h
  unfold F74 at hh
  exact az (c := ah Tryz.f74) (by kernel_rfl) (by kernel_rfl) (ok74_1 (fun _ _ h => h) (fun _ _ h => h) (fun _ _ _ h => h) (dD [x0]) w hh)
def T41 : List (Nat × FnT) := [(67, G67)]
def Ml (s3 : Value) (w : World) (K : V1) : Prop :=
K s3 w
def ug (s3 : Value) (w : World) (K : V1) : Prop := Ml s3 w K
theorem ok41_3 {K : V1}
    (hn : HN (fun e w => K (e 2) w) kn) (hr : HR Tryz.prog [.tmp 2] K kr) (he : HE noE ke) :
    ∀ e w, ug (e 3) w K → aA Tryz.prog (au T41) 21 fuel ((flat (ah Tryz.f41)).drop 4) e w kn kr ke := by
  intro e w h
  unfold ug at h
  have e1 : ∀ (_ : Unit), Ml (e 3) w K = aA Tryz.prog (au T41) 21 fuel ((flat (ah Tryz.f41)).drop 4) e w (fun e w => K (e 2) w) (aW Tryz.prog [.tmp 2] K) noE := by intro _; kernel_rfl
  exact bQ (Eq.mp (e1 ()) h) hn hr he
def D8 (s3 s7 s8 s9 : Value) (w : World) (_K : V1) (R3 : V4) : Prop :=
aa (bH s9 (.int .i64 1)) fun v1 =>
R3 s3 s7 s8 v1 w
def CE (s3 s7 s8 s9 : Value) (w : World) (K : V1) (R3 : V4) : Prop := D8 s3 s7 s8 s9 w K R3
theorem ok41_5 (R3 : V4) {K : V1}
    (hn : HN (fun e w => R3 (e 3) (e 7) (e 8) (e 9) w) kn) (hr : HR Tryz.prog [.tmp 2] K kr) (he : HE (bB 0 (fun e w => ug (e 3) w K) noE) ke) :
    ∀ e w, CE (e 3) (e 7) (e 8) (e 9) w K R3 → aA Tryz.prog (au T41) 21 fuel ((flat (aU (bi (aV (flat (ah Tryz.f41)) 3)))).drop 3) e w kn kr ke := by
  intro e w h
  unfold CE at h
  have e1 : ∀ (_ : Unit), D8 (e 3) (e 7) (e 8) (e 9) w K R3 = aA Tryz.prog (au T41) 21 fuel ((flat (aU (bi (aV (flat (ah Tryz.f41)) 3)))).drop 3) e w (fun e w => R3 (e 3) (e 7) (e 8) (e 9) w) (aW Tryz.prog [.tmp 2] K) (bB 0 (fun e w => ug (e 3) w K) noE) := by intro _; kernel_rfl
  exact bQ (Eq.mp (e1 ()) h) hn hr he
def D9 (s3 s7 s8 s9 : Value) (w : World) (_K : V1) (R3 : V4) (Y0 : V4) (Y1 : V1) : Prop :=
aa (bLt s9 s8) fun v2 =>
ifB v2 (
aa (bq 1 s7 s9) fun v3 =>
aa (ld1 v3 w) fun v4 =>
aa (bNe Tryz.prog 9 (.tmp 13) (.const (.string ⟨#[]⟩)) v4 (.string ⟨#[]⟩)) fun v5 =>
ifB v5 (
aB Tryz.prog 32 1 [(0, v4)] w fun v7 w6 =>
aJ Tryz.prog 32 32 s3 v7 w6 fun v9 w8 =>
Y0 v9 s7 s8 s9 w8) (
Y0 s3 s7 s8 s9 w)) (
Y1 s3 w)
def Jl (s3 s7 s8 s9 : Value) (w : World) (K : V1) (R3 : V4) : Prop := D9 s3 s7 s8 s9 w K R3 (fun a3 a7 a8 a9 w => CE a3 a7 a8 a9 w K R3) (fun a3 w => ug a3 w K)
theorem ok41_4 (R3 : V4) {K : V1}
    (hn : HN (fun e w => R3 (e 3) (e 7) (e 8) (e 9) w) kn) (hr : HR Tryz.prog [.tmp 2] K kr) (he : HE (bB 0 (fun e w => ug (e 3) w K) noE) ke) :
    ∀ e w, Jl (e 3) (e 7) (e 8) (e 9) w K R3 → aA Tryz.prog (au T41) 21 fuel ((flat (aU (bi (aV (flat (ah Tryz.f41)) 3)))).drop 0) e w kn kr ke := by
  intro e w h
  unfold Jl at h
  have e1 : ∀ (Y0 : V4) (Y1 : V1), D9 (e 3) (e 7) (e 8) (e 9) w K R3 Y0 Y1 = aA Tryz.prog (au T41) 21 fuel (((flat (aU (bi (aV (flat (ah Tryz.f41)) 3)))).drop 0).take 3) e w (fun e w => Y0 (e 3) (e 7) (e 8) (e 9) w) (aW Tryz.prog [.tmp 2] K) (bB 0 (fun e w => Y1 (e 3) w) noE) := by intro Y0 Y1; kernel_rfl
  exact seg 3 (Eq.mp (e1 (fun a3 a7 a8 a9 w => CE a3 a7 a8 a9 w K R3) (fun a3 w => ug a3 w K)) h) (fun e w h => ok41_5 R3 hn hr he e w h) hr he
def nH : Nat → Value → Value → Value → Value → World → (V1) → Prop
  | 0, _, _, _, _, _, _ => False
  | n + 1, s3, s7, s8, s9, w, K => Jl s3 s7 s8 s9 w K (fun a3 a7 a8 a9 w => nH n a3 a7 a8 a9 w K)
def Jm (s3 s7 s8 s9 : Value) (w : World) (K : V1) : Prop := nH fuel s3 s7 s8 s9 w K
theorem ok41_2 {K : V1}
    (hn : HN (fun e w => K (e 2) w) kn) (hr : HR Tryz.prog [.tmp 2] K kr) (he : HE noE ke) :
    ∀ e w, Jm (e 3) (e 7) (e 8) (e 9) w K → aA Tryz.prog (au T41) 21 fuel ((flat (ah Tryz.f41)).drop 3) e w kn kr ke := by
  intro e w h
  unfold Jm at h
  refine bM (id := 0) (body := (aU (bi (aV (flat (ah Tryz.f41)) 3)))) (l2 := (flat (ah Tryz.f41)).drop 4) (by kernel_rfl) ?_
  refine bV (FL := fun m e w => nH m (e 3) (e 7) (e 8) (e 9) w K) (fr := aW Tryz.prog [.tmp 2] K) (fe := (bB 0 (fun e w => ug (e 3) w K) noE)) (fun _ _ h => h) ?_ hr (bD (fun e w h => ok41_3 hn hr he e w h) he) fuel e w h
  intro m e w h
  have h : nH (m + 1) (e 3) (e 7) (e 8) (e 9) w K := h
  rw [nH] at h
  exact ok41_4 (fun a3 a7 a8 a9 w => nH m a3 a7 a8 a9 w K) (fun _ _ h => h) (fun _ _ h => h) (fun _ _ _ h => h) e w h
def Mm (s0 : Value) (w : World) (_K : V1) (Y0 : V4) : Prop :=
ai G67 [s0, (.string ⟨#[32]⟩)] w fun v11 w10 =>
aa (bI v11) fun v12 =>
Y0 (.slice none 0 0) v11 v12 (.int .i64 0) w10
def NL (s0 : Value) (w : World) (K : V1) : Prop := Mm s0 w K (fun a3 a7 a8 a9 w => Jm a3 a7 a8 a9 w K)
theorem ok41_1 {K : V1}
    (hn : HN (fun e w => K (e 2) w) kn) (hr : HR Tryz.prog [.tmp 2] K kr) (he : HE noE ke) :
    ∀ e w, NL (e 0) w K → aA Tryz.prog (au T41) 21 fuel ((flat (ah Tryz.f41)).drop 0) e w kn kr ke := by
  intro e w h
  unfold NL at h
  have e1 : ∀ (Y0 : V4), Mm (e 0) w K Y0 = aA Tryz.prog (au T41) 21 fuel (((flat (ah Tryz.f41)).drop 0).take 3) e w (fun e w => Y0 (e 3) (e 7) (e 8) (e 9) w) (aW Tryz.prog [.tmp 2] K) noE := by intro Y0; kernel_rfl
  exact seg 3 (Eq.mp (e1 (fun a3 a7 a8 a9 w => Jm a3 a7 a8 a9 w K)) h) (fun e w h => ok41_2 hn hr he e w h) hr he
def F41 (x0 : Value) (w : World) (K : V1) : Prop := NL x0 w K
def G41 : FnT := fun args w K => on1 (fun x0 => F41 x0 w K) args
theorem c41 {x0 : Value} {w : World} {K : V1} (h : F41 x0 w K) : ai G41 [x0] w K := aj (bL (p := fun x0 => F41 x0 w K) h)
theorem ok41 : OkF Tryz.prog 41 G41 := by
  refine aO (aN (l := T41) ⟨ok67, trivial⟩) mixed (n := fuel) Tryz.func41 Tryz.call41 fun args w K h => ?_
  obtain ⟨x0, rfl, hh⟩ := bJ h
  unfold F41 at hh
  exact az (c := ah Tryz.f41) (by kernel_rfl) (by kernel_rfl) (ok41_1 (fun _ _ h => h) (fun _ _ h => h) (fun _ _ _ h => h) (dD [x0]) w hh)
def T68 : List (Nat × FnT) := []
def F68 (x0 : Value) (w : World) (K : V1) : Prop :=
aa (bEq Tryz.prog 9 (.tmp 3) (.const (.string ⟨#[105, 100]⟩)) x0 (.string ⟨#[105, 100]⟩)) fun v1 =>
ifB v1 (
K (.func (.func 114) #[] #[]) w) (
aa (bEq Tryz.prog 9 (.tmp 3) (.const (.string ⟨#[108, 97, 115, 116]⟩)) x0 (.string ⟨#[108, 97, 115, 116]⟩)) fun v2 =>
ifB v2 (
K (.func (.func 115) #[] #[]) w) (
aa (bEq Tryz.prog 9 (.tmp 3) (.const (.string ⟨#[108, 101, 118, 101, 108]⟩)) x0 (.string ⟨#[108, 101, 118, 101, 108]⟩)) fun v3 =>
ifB v3 (
K (.func (.func 116) #[] #[]) w) (
aa (bEq Tryz.prog 9 (.tmp 3) (.const (.string ⟨#[116, 97, 108, 108, 121]⟩)) x0 (.string ⟨#[116, 97, 108, 108, 121]⟩)) fun v4 =>
ifB v4 (
K (.func (.func 117) #[] #[]) w) (
K .nilFunc w))))
def G68 : FnT := fun args w K => on1 (fun x0 => F68 x0 w K) args
theorem c68 {x0 : Value} {w : World} {K : V1} (h : F68 x0 w K) : ai G68 [x0] w K := aj (bL (p := fun x0 => F68 x0 w K) h)
theorem ok68 : OkF Tryz.prog 68 G68 := by
  refine aO (aN (l := T68) trivial) mixed (n := fuel) Tryz.func68 Tryz.call68 fun args w K h => ?_
  obtain ⟨x0, rfl, hh⟩ := bJ h
  exact az (c := ah Tryz.f68) (by kernel_rfl) (by kernel_rfl) (Eq.mp (by kernel_rfl) hh)
def T69 : List (Nat × FnT) := [(68, G68)]
def F69 (x0 : Value) (w : World) (K : V1) : Prop :=
ai G68 [x0] w fun v2 w1 =>
aY Tryz.prog 161 w1 fun v4 w3 =>
bF (st 1 v4 v2 w3) fun w5 =>
aa (some (.func (.func 118) #[] #[v4])) fun v7 =>
K v7 w5
def G69 : FnT := fun args w K => on1 (fun x0 => F69 x0 w K) args
theorem c69 {x0 : Value} {w : World} {K : V1} (h : F69 x0 w K) : ai G69 [x0] w K := aj (bL (p := fun x0 => F69 x0 w K) h)
theorem ok69 : OkF Tryz.prog 69 G69 := by
  refine aO (aN (l := T69) ⟨ok68, trivial⟩) mixed (n := fuel) Tryz.func69 Tryz.call69 fun args w K h => ?_
  obtain ⟨x0, rfl, hh⟩ := bJ h
  exact az (c := ah Tryz.f69) (by kernel_rfl) (by kernel_rfl) (Eq.mp (by kernel_rfl) hh)
def T70 : List (Nat × FnT) := [(11, G11), (121, Ud)]
def F70 (x0 : Value) (w : World) (K : V1) : Prop :=
ai Ud [x0] w fun v2 w1 =>
aa (aK v2 0) fun v3 =>
aa (aK v2 1) fun v4 =>
aa (bEq Tryz.prog 227 (.tmp 12) (.const .nilIface) v4 .nilIface) fun v5 =>
aS (gd true v5) v3 fun v6 =>
Sx.stepG (gd true v5) (bGe v6 (.int .i64 0)) fun v7 =>
aa (aG v5 v7 (.bool false)) fun v8 =>
aS (gd true v8) x0 fun v9 =>
Sx.stepG (gd true v8) (ik v9) fun v10 =>
Sx.stepG (gd true v8) (bLe v10 (.int .i64 18)) fun v11 =>
aa (aG v8 v11 (.bool false)) fun v12 =>
aS (gd true v12) v3 fun v13 =>
dz (gd true v12) (fun k => ai G11 [v13] w1 k) w1 fun v15 w14 =>
aS (gd true v12) x0 fun v16 =>
Sx.stepG (gd true v12) (bEq Tryz.prog 9 (.tmp 25) (.tmp 26) v15 v16) fun v17 =>
aa (aG v12 v17 (.bool false)) fun v18 =>
K (.tuple #[v3, v18]) w14
def G70 : FnT := fun args w K => on1 (fun x0 => F70 x0 w K) args
theorem c70 {x0 : Value} {w : World} {K : V1} (h : F70 x0 w K) : ai G70 [x0] w K := aj (bL (p := fun x0 => F70 x0 w K) h)
theorem ok70 : OkF Tryz.prog 70 G70 := by
  refine aO (aN (l := T70) ⟨Q5, ZM, trivial⟩) mixed (n := fuel) Tryz.func70 Tryz.call70 fun args w K h => ?_
  obtain ⟨x0, rfl, hh⟩ := bJ h
  exact az (c := ah Tryz.f70) (by kernel_rfl) (by kernel_rfl) (Eq.mp (by kernel_rfl) hh)
def T122 : List (Nat × FnT) := [(107, I4)]
def Zc (x0 x1 : Value) (w : World) (K : V1) : Prop :=
bT 9 x0 w fun v2 w1 =>
ai I4 [x1] w1 fun v4 w3 =>
aa (aK v4 0) fun v5 =>
aa (aK v4 1) fun v6 =>
aY Tryz.prog 212 w3 fun v8 w7 =>
bF (st 1 v8 v5 w7) fun w9 =>
aa (some (.func (.func 169) #[] #[v8, v2])) fun v11 =>
aa (bEq Tryz.prog 33 (.tmp 14) (.const (.int .i64 0)) v6 (.int .i64 0)) fun v12 =>
K (.tuple #[v11, v12]) w9
def Uc : FnT := fun args w K => on2 (fun x0 x1 => Zc x0 x1 w K) args
theorem c122 {x0 x1 : Value} {w : World} {K : V1} (h : Zc x0 x1 w K) : ai Uc [x0, x1] w K := aj (dm (p := fun x0 x1 => Zc x0 x1 w K) h)
theorem ok122 : OkF Tryz.prog 122 Uc := by
  refine aO (aN (l := T122) ⟨ZT, trivial⟩) mixed (n := fuel) Tryz.func122 Tryz.call122 fun args w K h => ?_
  obtain ⟨x0, x1, rfl, hh⟩ := dn h
  exact az (c := ah Tryz.f122) (by kernel_rfl) (by kernel_rfl) (Eq.mp (by kernel_rfl) hh)
def T123 : List (Nat × FnT) := [(70, G70)]
def Zb (x0 : Value) (w : World) (K : V1) : Prop :=
ai G70 [x0] w fun v2 w1 =>
aa (aK v2 0) fun v3 =>
aa (aK v2 1) fun v4 =>
aY Tryz.prog 3 w1 fun v6 w5 =>
bF (st 1 v6 v3 w5) fun w7 =>
aa (some (.func (.func 172) #[] #[v6])) fun v9 =>
Sx.stepG (gd true v4) (ld1 v6 w7.drew) fun v10 =>
Sx.stepG (gd true v4) (bLe v10 (.int .i64 5)) fun v11 =>
aa (aG v4 v11 (.bool false)) fun v12 =>
K (.tuple #[v9, v12]) w7.drew
def Ub : FnT := fun args w K => on1 (fun x0 => Zb x0 w K) args
theorem c123 {x0 : Value} {w : World} {K : V1} (h : Zb x0 w K) : ai Ub [x0] w K := aj (bL (p := fun x0 => Zb x0 w K) h)
theorem ok123 : OkF Tryz.prog 123 Ub := by
  refine aO (aN (l := T123) ⟨ok70, trivial⟩) mixed (n := fuel) Tryz.func123 Tryz.call123 fun args w K h => ?_
  obtain ⟨x0, rfl, hh⟩ := bJ h
  exact az (c := ah Tryz.f123) (by kernel_rfl) (by kernel_rfl) (Eq.mp (by kernel_rfl) hh)
def T124 : List (Nat × FnT) := [(173, PZ)]
def Za (x0 x1 : Value) (w : World) (K : V1) : Prop :=
bT 9 x0 w fun v2 w1 =>
ai PZ [x1] w1 fun v4 w3 =>
aa (aK v4 0) fun v5 =>
aa (aK v4 1) fun v6 =>
aY Tryz.prog 3 w3 fun v8 w7 =>
bF (st 1 v8 v5 w7) fun w9 =>
aa (some (.func (.func 174) #[] #[v8, v2])) fun v11 =>
aa (bEq Tryz.prog 33 (.tmp 14) (.const (.int .i64 0)) v6 (.int .i64 0)) fun v12 =>
K (.tuple #[v11, v12]) w9
def Ua : FnT := fun args w K => on2 (fun x0 x1 => Za x0 x1 w K) args
theorem c124 {x0 x1 : Value} {w : World} {K : V1} (h : Za x0 x1 w K) : ai Ua [x0, x1] w K := aj (dm (p := fun x0 x1 => Za x0 x1 w K) h)
theorem ok124 : OkF Tryz.prog 124 Ua := by
  refine aO (aN (l := T124) ⟨ok173, trivial⟩) mixed (n := fuel) Tryz.func124 Tryz.call124 fun args w K h => ?_
  obtain ⟨x0, x1, rfl, hh⟩ := dn h
  exact az (c := ah Tryz.f124) (by kernel_rfl) (by kernel_rfl) (Eq.mp (by kernel_rfl) hh)
def T71 : List (Nat × FnT) := [(122, Uc), (123, Ub), (124, Ua)]
def D5 (w : World) (K : V1) : Prop :=
K (.tuple #[.nilFunc, (.bool false)]) w
def fE (w : World) (K : V1) : Prop := D5 w K
theorem QQ {K : V1}
    (hn : HN (fun e w => K (.tuple #[(e 4), (e 5)]) w) kn) (hr : HR Tryz.prog [.tmp 4, .tmp 5] K kr) (he : HE noE ke) :
    ∀ e w, fE w K → aA Tryz.prog (au T71) 40 fuel ((flat (ah Tryz.f71)).drop 3) e w kn kr ke := by
  intro e w h
  unfold fE at h
  have e1 : ∀ (_ : Unit), D5 w K = aA Tryz.prog (au T71) 40 fuel ((flat (ah Tryz.f71)).drop 3) e w (fun e w => K (.tuple #[(e 4), (e 5)]) w) (aW Tryz.prog [.tmp 4, .tmp 5] K) noE := by intro _; kernel_rfl
  exact bQ (Eq.mp (e1 ()) h) hn hr he
def LH (s0 s3 : Value) (w : World) (K : V1) : Prop :=
aa (ld1 s3 w) fun v1 =>
ai Uc [s0, v1] w fun v3 w2 =>
aa (aK v3 0) fun v4 =>
aa (aK v3 1) fun v5 =>
K (.tuple #[v4, v5]) w2
def I9 (s0 s3 : Value) (w : World) (K : V1) : Prop := LH s0 s3 w K
theorem ok71_6 {K : V1}
    (hn : HN (fun e w => fE w K) kn) (hr : HR Tryz.prog [.tmp 4, .tmp 5] K kr) (he : HE (bB 0 (fun e w => fE w K) noE) ke) :
    ∀ e w, I9 (e 0) (e 3) w K → aA Tryz.prog (au T71) 40 fuel ((flat (nR (aV (flat (bi (aV (flat (ah Tryz.f71)) 2))) 2))).drop 0) e w kn kr ke := by
  intro e w h
  unfold I9 at h
  have e1 : ∀ (_ : Unit), LH (e 0) (e 3) w K = aA Tryz.prog (au T71) 40 fuel ((flat (nR (aV (flat (bi (aV (flat (ah Tryz.f71)) 2))) 2))).drop 0) e w (fun e w => fE w K) (aW Tryz.prog [.tmp 4, .tmp 5] K) (bB 0 (fun e w => fE w K) noE) := by intro _; kernel_rfl
  exact bQ (Eq.mp (e1 ()) h) hn hr he
def LG (s3 : Value) (w : World) (K : V1) : Prop :=
aa (ld1 s3 w) fun v6 =>
ai Ub [v6] w fun v8 w7 =>
aa (aK v8 0) fun v9 =>
aa (aK v8 1) fun v10 =>
K (.tuple #[v9, v10]) w7
def NA (s3 : Value) (w : World) (K : V1) : Prop := LG s3 w K
theorem ok71_9 {K : V1}
    (hn : HN (fun e w => fE w K) kn) (hr : HR Tryz.prog [.tmp 4, .tmp 5] K kr) (he : HE (bB 0 (fun e w => fE w K) noE) ke) :
    ∀ e w, NA (e 3) w K → aA Tryz.prog (au T71) 40 fuel ((flat (nR (aV (flat (il (aV (flat (bi (aV (flat (ah Tryz.f71)) 2))) 2))) 1))).drop 0) e w kn kr ke := by
  intro e w h
  unfold NA at h
  have e1 : ∀ (_ : Unit), LG (e 3) w K = aA Tryz.prog (au T71) 40 fuel ((flat (nR (aV (flat (il (aV (flat (bi (aV (flat (ah Tryz.f71)) 2))) 2))) 1))).drop 0) e w (fun e w => fE w K) (aW Tryz.prog [.tmp 4, .tmp 5] K) (bB 0 (fun e w => fE w K) noE) := by intro _; kernel_rfl
  exact bQ (Eq.mp (e1 ()) h) hn hr he
def qc (s0 s3 s6 s23 : Value) (w : World) (K : V1) (Y0 : V0) : Prop :=
ifB s23 (
aa (ld1 s3 w) fun v11 =>
ai Ua [s0, v11] w fun v13 w12 =>
aa (aK v13 0) fun v14 =>
aa (aK v13 1) fun v15 =>
K (.tuple #[v14, v15]) w12) (
aa (bEq Tryz.prog 9 (.tmp 6) (.const (.string ⟨#[97, 99, 107, 101, 100]⟩)) s6 (.string ⟨#[97, 99, 107, 101, 100]⟩)) fun v16 =>
ifB v16 (
aa (some (.func (.func 125) #[] #[s3])) fun v17 =>
aa (ld1 s3 w.drew) fun v18 =>
aa (bEq Tryz.prog 9 (.tmp 34) (.const (.string ⟨#[121, 101, 115]⟩)) v18 (.string ⟨#[121, 101, 115]⟩)) fun v19 =>
Sx.stepG (gd false v19) (ld1 s3 w.drew) fun v20 =>
Sx.stepG (gd false v19) (bEq Tryz.prog 9 (.tmp 37) (.const (.string ⟨#[110, 111]⟩)) v20 (.string ⟨#[110, 111]⟩)) fun v21 =>
aa (aG v19 (.bool true) v21) fun v22 =>
K (.tuple #[v17, v22]) w.drew) (
Y0 w))
def nE (s0 s3 s6 s23 : Value) (w : World) (K : V1) : Prop := qc s0 s3 s6 s23 w K (fun w => fE w K)
theorem Vz {K : V1}
    (hn : HN (fun e w => fE w K) kn) (hr : HR Tryz.prog [.tmp 4, .tmp 5] K kr) (he : HE (bB 0 (fun e w => fE w K) noE) ke) :
    ∀ e w, nE (e 0) (e 3) (e 6) (e 23) w K → aA Tryz.prog (au T71) 40 fuel ((flat (il (aV (flat (il (aV (flat (bi (aV (flat (ah Tryz.f71)) 2))) 2))) 1))).drop 2) e w kn kr ke := by
  intro e w h
  unfold nE at h
  have e1 : ∀ (Y0 : V0), qc (e 0) (e 3) (e 6) (e 23) w K Y0 = aA Tryz.prog (au T71) 40 fuel ((flat (il (aV (flat (il (aV (flat (bi (aV (flat (ah Tryz.f71)) 2))) 2))) 1))).drop 2) e w (fun e w => Y0 w) (aW Tryz.prog [.tmp 4, .tmp 5] K) (bB 0 (fun e w => Y0 w) noE) := by intro Y0; kernel_rfl
  exact bQ (Eq.mp (e1 (fun w => fE w K)) h) hn hr he
def qd (s0 s3 s6 : Value) (w : World) (_K : V1) (Y0 : V4) : Prop :=
aa (bEq Tryz.prog 9 (.tmp 6) (.const (.string ⟨#[98, 101, 102, 111, 114, 101]⟩)) s6 (.string ⟨#[98, 101, 102, 111, 114, 101]⟩)) fun v23 =>
ifB v23 (
Y0 s0 s3 s6 v23 w) (
aa (bEq Tryz.prog 9 (.tmp 6) (.const (.string ⟨#[115, 105, 110, 99, 101]⟩)) s6 (.string ⟨#[115, 105, 110, 99, 101]⟩)) fun v24 =>
Y0 s0 s3 s6 v24 w)
def rA (s0 s3 s6 : Value) (w : World) (K : V1) : Prop := qd s0 s3 s6 w K (fun a0 a3 a6 a23 w => nE a0 a3 a6 a23 w K)
theorem VA {K : V1}
    (hn : HN (fun e w => fE w K) kn) (hr : HR Tryz.prog [.tmp 4, .tmp 5] K kr) (he : HE (bB 0 (fun e w => fE w K) noE) ke) :
    ∀ e w, rA (e 0) (e 3) (e 6) w K → aA Tryz.prog (au T71) 40 fuel ((flat (il (aV (flat (il (aV (flat (bi (aV (flat (ah Tryz.f71)) 2))) 2))) 1))).drop 0) e w kn kr ke := by
  intro e w h
  unfold rA at h
  have e1 : ∀ (Y0 : V4), qd (e 0) (e 3) (e 6) w K Y0 = aA Tryz.prog (au T71) 40 fuel (((flat (il (aV (flat (il (aV (flat (bi (aV (flat (ah Tryz.f71)) 2))) 2))) 1))).drop 0).take 2) e w (fun e w => Y0 (e 0) (e 3) (e 6) (e 23) w) (aW Tryz.prog [.tmp 4, .tmp 5] K) (bB 0 (fun e w => fE w K) noE) := by intro Y0; kernel_rfl
  exact seg 2 (Eq.mp (e1 (fun a0 a3 a6 a23 w => nE a0 a3 a6 a23 w K)) h) (fun e w h => Vz hn hr he e w h) hr he
def tT (s0 s3 s6 s17 : Value) (w : World) (K : V1) : Prop := ifB s17 (NA s3 w K) (rA s0 s3 s6 w K)
theorem ok71_8 {K : V1}
    (hn : HN (fun e w => fE w K) kn) (hr : HR Tryz.prog [.tmp 4, .tmp 5] K kr) (he : HE (bB 0 (fun e w => fE w K) noE) ke) :
    ∀ e w, tT (e 0) (e 3) (e 6) (e 17) w K → aA Tryz.prog (au T71) 40 fuel ((flat (il (aV (flat (bi (aV (flat (ah Tryz.f71)) 2))) 2))).drop 1) e w kn kr ke := by
  intro e w h
  unfold tT at h
  refine yo (c := (.tmp 17)) (a := nR (aV (flat (il (aV (flat (bi (aV (flat (ah Tryz.f71)) 2))) 2))) 1)) (b := il (aV (flat (il (aV (flat (bi (aV (flat (ah Tryz.f71)) 2))) 2))) 1)) (l2 := (flat (il (aV (flat (bi (aV (flat (ah Tryz.f71)) 2))) 2))).drop 2) (by kernel_rfl) h (fun h => ?_) (fun h => ?_)
  · exact ok71_9 hn hr he e w h
  · exact VA hn hr he e w h
def rz (s0 s3 s6 : Value) (w : World) (_K : V1) (Y0 : V4) : Prop :=
aa (bEq Tryz.prog 9 (.tmp 6) (.const (.string ⟨#[108, 101, 118, 101, 108]⟩)) s6 (.string ⟨#[108, 101, 118, 101, 108]⟩)) fun v25 =>
Y0 s0 s3 s6 v25 w
def wU (s0 s3 s6 : Value) (w : World) (K : V1) : Prop := rz s0 s3 s6 w K (fun a0 a3 a6 a17 w => tT a0 a3 a6 a17 w K)
theorem ok71_7 {K : V1}
    (hn : HN (fun e w => fE w K) kn) (hr : HR Tryz.prog [.tmp 4, .tmp 5] K kr) (he : HE (bB 0 (fun e w => fE w K) noE) ke) :
    ∀ e w, wU (e 0) (e 3) (e 6) w K → aA Tryz.prog (au T71) 40 fuel ((flat (il (aV (flat (bi (aV (flat (ah Tryz.f71)) 2))) 2))).drop 0) e w kn kr ke := by
  intro e w h
  unfold wU at h
  have e1 : ∀ (Y0 : V4), rz (e 0) (e 3) (e 6) w K Y0 = aA Tryz.prog (au T71) 40 fuel (((flat (il (aV (flat (bi (aV (flat (ah Tryz.f71)) 2))) 2))).drop 0).take 1) e w (fun e w => Y0 (e 0) (e 3) (e 6) (e 17) w) (aW Tryz.prog [.tmp 4, .tmp 5] K) (bB 0 (fun e w => fE w K) noE) := by intro Y0; kernel_rfl
  exact seg 1 (Eq.mp (e1 (fun a0 a3 a6 a17 w => tT a0 a3 a6 a17 w K)) h) (fun e w h => ok71_8 hn hr he e w h) hr he
def mJ (s0 s3 s6 s7 : Value) (w : World) (K : V1) : Prop := ifB s7 (I9 s0 s3 w K) (wU s0 s3 s6 w K)
theorem ok71_5 {K : V1}
    (hn : HN (fun e w => fE w K) kn) (hr : HR Tryz.prog [.tmp 4, .tmp 5] K kr) (he : HE (bB 0 (fun e w => fE w K) noE) ke) :
    ∀ e w, mJ (e 0) (e 3) (e 6) (e 7) w K → aA Tryz.prog (au T71) 40 fuel ((flat (bi (aV (flat (ah Tryz.f71)) 2))).drop 2) e w kn kr ke := by
  intro e w h
  unfold mJ at h
  refine yo (c := (.tmp 7)) (a := nR (aV (flat (bi (aV (flat (ah Tryz.f71)) 2))) 2)) (b := il (aV (flat (bi (aV (flat (ah Tryz.f71)) 2))) 2)) (l2 := (flat (bi (aV (flat (ah Tryz.f71)) 2))).drop 3) (by kernel_rfl) h (fun h => ?_) (fun h => ?_)
  · exact ok71_6 hn hr he e w h
  · exact ok71_7 hn hr he e w h
def oL (s0 s3 s6 : Value) (w : World) (_K : V1) (Y0 : V4) : Prop :=
aa (bEq Tryz.prog 9 (.tmp 6) (.const (.string ⟨#[110, 111, 100, 101]⟩)) s6 (.string ⟨#[110, 111, 100, 101]⟩)) fun v26 =>
ifB v26 (
Y0 s0 s3 s6 v26 w) (
aa (bEq Tryz.prog 9 (.tmp 6) (.const (.string ⟨#[99, 108, 97, 115, 115]⟩)) s6 (.string ⟨#[99, 108, 97, 115, 115]⟩)) fun v27 =>
ifB v27 (
Y0 s0 s3 s6 v27 w) (
aa (bEq Tryz.prog 9 (.tmp 6) (.const (.string ⟨#[107, 101, 121]⟩)) s6 (.string ⟨#[107, 101, 121]⟩)) fun v28 =>
ifB v28 (
Y0 s0 s3 s6 v28 w) (
aa (bEq Tryz.prog 9 (.tmp 6) (.const (.string ⟨#[116, 101, 120, 116]⟩)) s6 (.string ⟨#[116, 101, 120, 116]⟩)) fun v29 =>
Y0 s0 s3 s6 v29 w)))
def tX (s0 s3 s6 : Value) (w : World) (K : V1) : Prop := oL s0 s3 s6 w K (fun a0 a3 a6 a7 w => mJ a0 a3 a6 a7 w K)
theorem ok71_4 {K : V1}
    (hn : HN (fun e w => fE w K) kn) (hr : HR Tryz.prog [.tmp 4, .tmp 5] K kr) (he : HE (bB 0 (fun e w => fE w K) noE) ke) :
    ∀ e w, tX (e 0) (e 3) (e 6) w K → aA Tryz.prog (au T71) 40 fuel ((flat (bi (aV (flat (ah Tryz.f71)) 2))).drop 0) e w kn kr ke := by
  intro e w h
  unfold tX at h
  have e1 : ∀ (Y0 : V4), oL (e 0) (e 3) (e 6) w K Y0 = aA Tryz.prog (au T71) 40 fuel (((flat (bi (aV (flat (ah Tryz.f71)) 2))).drop 0).take 2) e w (fun e w => Y0 (e 0) (e 3) (e 6) (e 7) w) (aW Tryz.prog [.tmp 4, .tmp 5] K) (bB 0 (fun e w => fE w K) noE) := by intro Y0; kernel_rfl
  exact seg 2 (Eq.mp (e1 (fun a0 a3 a6 a7 w => mJ a0 a3 a6 a7 w K)) h) (fun e w h => ok71_5 hn hr he e w h) hr he
def qE (s0 s3 s6 : Value) (w : World) (K : V1) : Prop := tX s0 s3 s6 w K
theorem ok71_2 {K : V1}
    (hn : HN (fun e w => K (.tuple #[(e 4), (e 5)]) w) kn) (hr : HR Tryz.prog [.tmp 4, .tmp 5] K kr) (he : HE noE ke) :
    ∀ e w, qE (e 0) (e 3) (e 6) w K → aA Tryz.prog (au T71) 40 fuel ((flat (ah Tryz.f71)).drop 2) e w kn kr ke := by
  intro e w h
  unfold qE at h
  refine pE (id := 0) (body := (bi (aV (flat (ah Tryz.f71)) 2))) (l2 := (flat (ah Tryz.f71)).drop 3) (by kernel_rfl) ?_
  exact ok71_4 (fun e w h => QQ hn hr he e w h) hr (bD (fun e w h => QQ hn hr he e w h) he) e w h
def oM (s0 s1 : Value) (w : World) (_K : V1) (Y0 : V3) : Prop :=
bT 9 s1 w fun v31 w30 =>
Y0 s0 v31 s0 w30
def tY (s0 s1 : Value) (w : World) (K : V1) : Prop := oM s0 s1 w K (fun a0 a3 a6 w => qE a0 a3 a6 w K)
theorem ok71_1 {K : V1}
    (hn : HN (fun e w => K (.tuple #[(e 4), (e 5)]) w) kn) (hr : HR Tryz.prog [.tmp 4, .tmp 5] K kr) (he : HE noE ke) :
    ∀ e w, tY (e 0) (e 1) w K → aA Tryz.prog (au T71) 40 fuel ((flat (ah Tryz.f71)).drop 0) e w kn kr ke := by
  intro e w h
  unfold tY at h
  have e1 : ∀ (Y0 : V3), oM (e 0) (e 1) w K Y0 = aA Tryz.prog (au T71) 40 fuel (((flat (ah Tryz.f71)).drop 0).take 2) e w (fun e w => Y0 (e 0) (e 3) (e 6) w) (aW Tryz.prog [.tmp 4, .tmp 5] K) noE := by intro Y0; kernel_rfl
  exact seg 2 (Eq.mp (e1 (fun a0 a3 a6 w => qE a0 a3 a6 w K)) h) (fun e w h => ok71_2 hn hr he e w h) hr he
def F71 (x0 x1 : Value) (w : World) (K : V1) : Prop := tY x0 x1 w K
def G71 : FnT := fun args w K => on2 (fun x0 x1 => F71 x0 x1 w K) args
theorem c71 {x0 x1 : Value} {w : World} {K : V1} (h : F71 x0 x1 w K) : ai G71 [x0, x1] w K := aj (dm (p := fun x0 x1 => F71 x0 x1 w K) h)
theorem ok71 : OkF Tryz.prog 71 G71 := by
  refine aO (aN (l := T71) ⟨ok122, ok123, ok124, trivial⟩) mixed (n := fuel) Tryz.func71 Tryz.call71 fun args w K h => ?_
  obtain ⟨x0, x1, rfl, hh⟩ := dn h
  unfold F71 at hh
  exact az (c := ah Tryz.f71) (by kernel_rfl) (by kernel_rfl) (ok71_1 (fun _ _ h => h) (fun _ _ h => h) (fun _ _ _ h => h) (dD [x0, x1]) w hh)
def T42 : List (Nat × FnT) := [(68, G68), (69, G69), (70, G70), (71, G71)]
def Mi (s2 s4 : Value) (w : World) (K : V1) : Prop :=
aa (ldN 3 s4 w) fun v1 =>
bF (st 3 s2 v1 w) fun w2 =>
aa (ldN 3 s2 w2) fun v4 =>
K (.tuple #[v4, (.bool true)]) w2
def CB (s2 s4 : Value) (w : World) (K : V1) : Prop := Mi s2 s4 w K
theorem ok42_4 {K : V1}
    (hn : ∀ e w, (fun e w => aa (ldN 3 (e 2) w) fun v6 =>
K (.tuple #[v6, (e 3)]) w) e w → kn e w) (hr : ∀ e w, aW Tryz.prog [.cell 2 135, .tmp 3] K e w → kr e w) (he : ∀ i e w, noE i e w → ke i e w) :
    ∀ e w, CB (e 2) (e 4) w K → aA Tryz.prog (au T42) 88 fuel ((flat (ah Tryz.f42)).drop 8) e w kn kr ke := by
  intro e w h
  unfold CB at h
  have e1 : ∀ (_ : Unit), Mi (e 2) (e 4) w K = aA Tryz.prog (au T42) 88 fuel ((flat (ah Tryz.f42)).drop 8) e w (fun e w => aa (ldN 3 (e 2) w) fun v5 =>
K (.tuple #[v5, (e 3)]) w) (aW Tryz.prog [.cell 2 135, .tmp 3] K) noE := by intro _; kernel_rfl
  exact bQ (Eq.mp (e1 ()) h) hn hr he
def Mj (s2 s4 : Value) (w : World) (_K : V1) (Y0 : V2) : Prop :=
aa (ae 1 s4) fun v7 =>
aa (ld1 v7 w) fun v8 =>
aa (bEq Tryz.prog 133 (.tmp 83) (.const .nilFunc) v8 .nilFunc) fun v9 =>
ifB v9 (
ai G69 [(.string ⟨#[105, 100]⟩)] w fun v11 w10 =>
aa (ae 1 s4) fun v12 =>
bF (st 1 v12 v11 w10) fun w13 =>
Y0 s2 s4 w13) (
Y0 s2 s4 w)
def qG (s2 s4 : Value) (w : World) (K : V1) : Prop := Mj s2 s4 w K (fun a2 a4 w => CB a2 a4 w K)
theorem ok42_3 {K : V1}
    (hn : ∀ e w, (fun e w => aa (ldN 3 (e 2) w) fun v15 =>
K (.tuple #[v15, (e 3)]) w) e w → kn e w) (hr : ∀ e w, aW Tryz.prog [.cell 2 135, .tmp 3] K e w → kr e w) (he : ∀ i e w, noE i e w → ke i e w) :
    ∀ e w, qG (e 2) (e 4) w K → aA Tryz.prog (au T42) 88 fuel ((flat (ah Tryz.f42)).drop 6) e w kn kr ke := by
  intro e w h
  unfold qG at h
  have e1 : ∀ (Y0 : V2), Mj (e 2) (e 4) w K Y0 = aA Tryz.prog (au T42) 88 fuel (((flat (ah Tryz.f42)).drop 6).take 2) e w (fun e w => Y0 (e 2) (e 4) w) (aW Tryz.prog [.cell 2 135, .tmp 3] K) noE := by intro Y0; kernel_rfl
  exact seg 2 (Eq.mp (e1 (fun a2 a4 w => CB a2 a4 w K)) h) (fun e w h => ok42_4 hn hr he e w h) hr he
def Mh (s0 s2 s4 s5 : Value) (w : World) (_K : V1) (R4 : V4) : Prop :=
aa (bH s5 (.int .i64 2)) fun v16 =>
R4 s0 s2 s4 v16 w
def qF (s0 s2 s4 s5 : Value) (w : World) (K : V1) (R4 : V4) : Prop := Mh s0 s2 s4 s5 w K R4
theorem ok42_6 (R4 : V4) {K : V1}
    (hn : HN (fun e w => R4 (e 0) (e 2) (e 4) (e 5) w) kn) (hr : HR Tryz.prog [.cell 2 135, .tmp 3] K kr) (he : HE (bB 0 (fun e w => qG (e 2) (e 4) w K) noE) ke) :
    ∀ e w, qF (e 0) (e 2) (e 4) (e 5) w K R4 → aA Tryz.prog (au T42) 88 fuel ((flat (aU (bi (aV (flat (ah Tryz.f42)) 5)))).drop 3) e w kn kr ke := by
  intro e w h
  unfold qF at h
  have e1 : ∀ (_ : Unit), Mh (e 0) (e 2) (e 4) (e 5) w K R4 = aA Tryz.prog (au T42) 88 fuel ((flat (aU (bi (aV (flat (ah Tryz.f42)) 5)))).drop 3) e w (fun e w => R4 (e 0) (e 2) (e 4) (e 5) w) (aW Tryz.prog [.cell 2 135, .tmp 3] K) (bB 0 (fun e w => qG (e 2) (e 4) w K) noE) := by intro _; kernel_rfl
  exact bQ (Eq.mp (e1 ()) h) hn hr he
def D7 (s0 s2 s4 s5 : Value) (w : World) (K : V1) (R4 : V4) (Y0 : V4) (Y1 : V2) : Prop :=
aa (bI s0) fun v17 =>
aa (bLt s5 v17) fun v18 =>
ifB v18 (
aa (bq 1 s0 s5) fun v19 =>
aa (ld1 v19 w.drew) fun v20 =>
aa (bH s5 (.int .i64 1)) fun v21 =>
aa (bq 1 s0 v21) fun v22 =>
aa (ld1 v22 w.drew) fun v23 =>
aa (bEq Tryz.prog 9 (.tmp 49) (.const (.string ⟨#[111, 114, 100, 101, 114]⟩)) v20 (.string ⟨#[111, 114, 100, 101, 114]⟩)) fun v24 =>
Sx.stepG (gd true v24) (ae 1 s4) fun v25 =>
Sx.stepG (gd true v24) (ld1 v25 w.drew) fun v26 =>
Sx.stepG (gd true v24) (bEq Tryz.prog 133 (.tmp 53) (.const .nilFunc) v26 .nilFunc) fun v27 =>
aa (aG v24 v27 (.bool false)) fun v28 =>
aS (gd true v28) v23 fun v29 =>
dz (gd true v28) (fun k => ai G68 [v29] w.drew k) w.drew fun v31 w30 =>
Sx.stepG (gd true v28) (bNe Tryz.prog 161 (.tmp 58) (.const .nilFunc) v31 .nilFunc) fun v32 =>
aa (aG v28 v32 (.bool false)) fun v33 =>
ifB v33 (
ai G69 [v23] w30 fun v35 w34 =>
aa (ae 1 s4) fun v36 =>
bF (st 1 v36 v35 w34) fun w37 =>
Y0 s0 s2 s4 s5 w37) (
aa (bEq Tryz.prog 9 (.tmp 65) (.const (.string ⟨#[108, 105, 109, 105, 116]⟩)) v20 (.string ⟨#[108, 105, 109, 105, 116]⟩)) fun v39 =>
Sx.stepG (gd true v39) (ae 2 s4) fun v40 =>
Sx.stepG (gd true v39) (ld1 v40 w30) fun v41 =>
Sx.stepG (gd true v39) (bLt v41 (.int .i64 0)) fun v42 =>
aa (aG v39 v42 (.bool false)) fun v43 =>
ifB v43 (
ai G70 [v23] w30 fun v45 w44 =>
aa (aK v45 0) fun v46 =>
aa (aK v45 1) fun v47 =>
aa (dN v47) fun v48 =>
ifB v48 (
aa (ldN 3 s4 w44) fun v49 =>
bF (st 3 s2 v49 w44) fun w50 =>
aa (ldN 3 s2 w50) fun v52 =>
K (.tuple #[v52, (.bool false)]) w50) (
aa (ae 2 s4) fun v53 =>
bF (st 1 v53 v46 w44) fun w54 =>
Y0 s0 s2 s4 s5 w54)) (
ai G71 [v20, v23] w30 fun v57 w56 =>
aa (aK v57 0) fun v58 =>
aa (aK v57 1) fun v59 =>
aa (dN v59) fun v60 =>
ifB v60 (
aa (ldN 3 s4 w56) fun v61 =>
bF (st 3 s2 v61 w56) fun w62 =>
aa (ldN 3 s2 w62) fun v64 =>
K (.tuple #[v64, (.bool false)]) w62) (
aa (ae 0 s4) fun v65 =>
aa (ld1 v65 w56) fun v66 =>
aB Tryz.prog 132 1 [(0, v58)] w56 fun v68 w67 =>
aJ Tryz.prog 132 132 v66 v68 w67 fun v70 w69 =>
aa (ae 0 s4) fun v71 =>
bF (st 1 v71 v70 w69) fun w72 =>
Y0 s0 s2 s4 s5 w72)))) (
Y1 s2 s4 w)
def Jj (s0 s2 s4 s5 : Value) (w : World) (K : V1) (R4 : V4) : Prop := D7 s0 s2 s4 s5 w K R4 (fun a0 a2 a4 a5 w => qF a0 a2 a4 a5 w K R4) (fun a2 a4 w => qG a2 a4 w K)
theorem ok42_5 (R4 : V4) {K : V1}
    (hn : HN (fun e w => R4 (e 0) (e 2) (e 4) (e 5) w) kn) (hr : HR Tryz.prog [.cell 2 135, .tmp 3] K kr) (he : HE (bB 0 (fun e w => qG (e 2) (e 4) w K) noE) ke) :
    ∀ e w, Jj (e 0) (e 2) (e 4) (e 5) w K R4 → aA Tryz.prog (au T42) 88 fuel ((flat (aU (bi (aV (flat (ah Tryz.f42)) 5)))).drop 0) e w kn kr ke := by
  intro e w h
  unfold Jj at h
  have e1 : ∀ (Y0 : V4) (Y1 : V2), D7 (e 0) (e 2) (e 4) (e 5) w K R4 Y0 Y1 = aA Tryz.prog (au T42) 88 fuel (((flat (aU (bi (aV (flat (ah Tryz.f42)) 5)))).drop 0).take 3) e w (fun e w => Y0 (e 0) (e 2) (e 4) (e 5) w) (aW Tryz.prog [.cell 2 135, .tmp 3] K) (bB 0 (fun e w => Y1 (e 2) (e 4) w) noE) := by intro Y0 Y1; kernel_rfl
  exact seg 3 (Eq.mp (e1 (fun a0 a2 a4 a5 w => qF a0 a2 a4 a5 w K R4) (fun a2 a4 w => qG a2 a4 w K)) h) (fun e w h => ok42_6 R4 hn hr he e w h) hr he
def lu : Nat → Value → Value → Value → Value → World → (V1) → Prop
  | 0, _, _, _, _, _, _ => False
  | n + 1, s0, s2, s4, s5, w, K => Jj s0 s2 s4 s5 w K (fun a0 a2 a4 a5 w => lu n a0 a2 a4 a5 w K)
def Jk (s0 s2 s4 s5 : Value) (w : World) (K : V1) : Prop := lu fuel s0 s2 s4 s5 w K
theorem ok42_2 {K : V1}
    (hn : ∀ e w, (fun e w => aa (ldN 3 (e 2) w) fun v74 =>
K (.tuple #[v74, (e 3)]) w) e w → kn e w) (hr : ∀ e w, aW Tryz.prog [.cell 2 135, .tmp 3] K e w → kr e w) (he : ∀ i e w, noE i e w → ke i e w) :
    ∀ e w, Jk (e 0) (e 2) (e 4) (e 5) w K → aA Tryz.prog (au T42) 88 fuel ((flat (ah Tryz.f42)).drop 5) e w kn kr ke := by
  intro e w h
  unfold Jk at h
  refine bM (id := 0) (body := (aU (bi (aV (flat (ah Tryz.f42)) 5)))) (l2 := (flat (ah Tryz.f42)).drop 6) (by kernel_rfl) ?_
  refine bV (FL := fun m e w => lu m (e 0) (e 2) (e 4) (e 5) w K) (fr := aW Tryz.prog [.cell 2 135, .tmp 3] K) (fe := (bB 0 (fun e w => qG (e 2) (e 4) w K) noE)) (fun _ _ h => h) ?_ hr (bD (fun e w h => ok42_3 hn hr he e w h) he) fuel e w h
  intro m e w h
  have h : lu (m + 1) (e 0) (e 2) (e 4) (e 5) w K := h
  rw [lu] at h
  exact ok42_5 (fun a0 a2 a4 a5 w => lu m a0 a2 a4 a5 w K) (fun _ _ h => h) (fun _ _ h => h) (fun _ _ _ h => h) e w h
def Mk (s0 : Value) (w : World) (K : V1) (Y0 : V4) : Prop :=
aY Tryz.prog 135 w fun v76 w75 =>
aa (aD Tryz.prog 135 [(2, (.int .i64 (-1)))]) fun v77 =>
aY Tryz.prog 135 w75 fun v79 w78 =>
bF (st 3 v79 v77 w78) fun w80 =>
aa (bI s0) fun v82 =>
aa (gI v82 (.int .i64 2)) fun v83 =>
aa (bNe Tryz.prog 3 (.tmp 15) (.const (.int .i64 0)) v83 (.int .i64 0)) fun v84 =>
ifB v84 (
aa (ldN 3 v79 w80) fun v85 =>
bF (st 3 v76 v85 w80) fun w86 =>
aa (ldN 3 v76 w86) fun v88 =>
K (.tuple #[v88, (.bool false)]) w86) (
Y0 s0 v76 v79 (.int .i64 0) w80)
def NK (s0 : Value) (w : World) (K : V1) : Prop := Mk s0 w K (fun a0 a2 a4 a5 w => Jk a0 a2 a4 a5 w K)
theorem ok42_1 {K : V1}
    (hn : ∀ e w, (fun e w => aa (ldN 3 (e 2) w) fun v89 =>
K (.tuple #[v89, (e 3)]) w) e w → kn e w) (hr : ∀ e w, aW Tryz.prog [.cell 2 135, .tmp 3] K e w → kr e w) (he : ∀ i e w, noE i e w → ke i e w) :
    ∀ e w, NK (e 0) w K → aA Tryz.prog (au T42) 88 fuel ((flat (ah Tryz.f42)).drop 0) e w kn kr ke := by
  intro e w h
  unfold NK at h
  have e1 : ∀ (Y0 : V4), Mk (e 0) w K Y0 = aA Tryz.prog (au T42) 88 fuel (((flat (ah Tryz.f42)).drop 0).take 5) e w (fun e w => Y0 (e 0) (e 2) (e 4) (e 5) w) (aW Tryz.prog [.cell 2 135, .tmp 3] K) noE := by intro Y0; kernel_rfl
  exact seg 5 (Eq.mp (e1 (fun a0 a2 a4 a5 w => Jk a0 a2 a4 a5 w K)) h) (fun e w h => ok42_2 hn hr he e w h) hr he
def F42 (x0 : Value) (w : World) (K : V1) : Prop := NK x0 w K
def G42 : FnT := fun args w K => on1 (fun x0 => F42 x0 w K) args
theorem c42 {x0 : Value} {w : World} {K : V1} (h : F42 x0 w K) : ai G42 [x0] w K := aj (bL (p := fun x0 => F42 x0 w K) h)
theorem ok42 : OkF Tryz.prog 42 G42 := by
  refine aO (aN (l := T42) ⟨ok68, ok69, ok70, ok71, trivial⟩) mixed (n := fuel) Tryz.func42 Tryz.call42 fun args w K h => ?_
  obtain ⟨x0, rfl, hh⟩ := bJ h
  unfold F42 at hh
  exact az (c := ah Tryz.f42) (by kernel_rfl) (by kernel_rfl) (ok42_1 (fun _ _ h => h) (fun _ _ h => h) (fun _ _ _ h => h) (dD [x0]) w hh)
def T45 : List (Nat × FnT) := [(70, G70)]
def F45 (x0 : Value) (w : World) (K : V1) : Prop :=
aY Tryz.prog 87 w fun v2 w1 =>
aa (bI x0) fun v3 =>
aa (bNe Tryz.prog 3 (.tmp 7) (.const (.int .i64 1)) v3 (.int .i64 1)) fun v4 =>
ifB v4 (
aa (aD Tryz.prog 87 []) fun v5 =>
bF (st 1 v2 v5 w1) fun w6 =>
aa (ldN 1 v2 w6) fun v8 =>
K (.tuple #[v8, (.bool false)]) w6) (
aa (bq 1 x0 (.int .i64 0)) fun v9 =>
aa (ld1 v9 w1) fun v10 =>
ai G70 [v10] w1 fun v12 w11 =>
aa (aK v12 0) fun v13 =>
aa (aK v12 1) fun v14 =>
aY Tryz.prog 3 w11 fun v16 w15 =>
bF (st 1 v16 v13 w15) fun w17 =>
aa (some (.func (.func 75) #[] #[v16])) fun v19 =>
aa (aD Tryz.prog 87 [(0, v19)]) fun v20 =>
bF (st 1 v2 v20 w17) fun w21 =>
aa (ldN 1 v2 w21) fun v23 =>
K (.tuple #[v23, v14]) w21)
def G45 : FnT := fun args w K => on1 (fun x0 => F45 x0 w K) args
theorem ok45 : OkF Tryz.prog 45 G45 := by
  refine aO (aN (l := T45) ⟨ok70, trivial⟩) mixed (n := fuel) Tryz.func45 Tryz.call45 fun args w K h => ?_
  obtain ⟨x0, rfl, hh⟩ := bJ h
  exact az (c := ah Tryz.f45) (by kernel_rfl) (by kernel_rfl) (Eq.mp (by kernel_rfl) hh)
def T24 : List (Nat × FnT) := [(41, G41), (42, G42), (45, G45)]
def F24 (x0 : Value) (w : World) (K : V1) : Prop :=
aY Tryz.prog 87 w fun v2 w1 =>
ai G41 [x0] w1 fun v4 w3 =>
aa (bI v4) fun v5 =>
aa (bEq Tryz.prog 3 (.tmp 12) (.const (.int .i64 0)) v5 (.int .i64 0)) fun v6 =>
ifB v6 (
aa (aD Tryz.prog 87 []) fun v7 =>
bF (st 1 v2 v7 w3) fun w8 =>
aa (ldN 1 v2 w8) fun v10 =>
K (.tuple #[v10, (.bool false)]) w8) (
aa (bq 1 v4 (.int .i64 0)) fun v11 =>
aa (ld1 v11 w3) fun v12 =>
aa (bEq Tryz.prog 9 (.tmp 17) (.const (.string ⟨#[108, 105, 115, 116]⟩)) v12 (.string ⟨#[108, 105, 115, 116]⟩)) fun v13 =>
ifB v13 (
aa (dZ 1 v4 (some (.int .i64 1)) none none) fun v14 =>
ai G42 [v14] w3 fun v16 w15 =>
aa (aK v16 0) fun v17 =>
aa (aK v16 1) fun v18 =>
aY Tryz.prog 135 w15 fun v20 w19 =>
bF (st 3 v20 v17 w19) fun w21 =>
aa (ldN 3 v20 w21) fun v23 =>
aa (some (.func (.func 43) #[v23] #[])) fun v24 =>
aa (aD Tryz.prog 87 [(0, v24)]) fun v25 =>
bF (st 1 v2 v25 w21) fun w26 =>
aa (ldN 1 v2 w26) fun v28 =>
K (.tuple #[v28, v18]) w26) (
aa (bEq Tryz.prog 9 (.tmp 17) (.const (.string ⟨#[99, 111, 117, 110, 116]⟩)) v12 (.string ⟨#[99, 111, 117, 110, 116]⟩)) fun v29 =>
ifB v29 (
aa (dZ 1 v4 (some (.int .i64 1)) none none) fun v30 =>
ai G42 [v30] w3 fun v32 w31 =>
aa (aK v32 0) fun v33 =>
aa (aK v32 1) fun v34 =>
aY Tryz.prog 135 w31 fun v36 w35 =>
bF (st 3 v36 v33 w35) fun w37 =>
aa (ldN 3 v36 w37) fun v39 =>
aa (some (.func (.func 44) #[v39] #[])) fun v40 =>
aa (aD Tryz.prog 87 [(0, v40)]) fun v41 =>
bF (st 1 v2 v41 w37) fun w42 =>
aa (ldN 1 v2 w42) fun v44 =>
K (.tuple #[v44, v34]) w42) (
aa (bEq Tryz.prog 9 (.tmp 17) (.const (.string ⟨#[115, 104, 111, 119]⟩)) v12 (.string ⟨#[115, 104, 111, 119]⟩)) fun v45 =>
ifB v45 (
aa (dZ 1 v4 (some (.int .i64 1)) none none) fun v46 =>
ai G45 [v46] w3 fun v48 w47 =>
aa (aK v48 0) fun v49 =>
aa (aK v48 1) fun v50 =>
bF (st 1 v2 v49 w47) fun w51 =>
aa (ldN 1 v2 w51) fun v53 =>
K (.tuple #[v53, v50]) w51) (
aa (bEq Tryz.prog 9 (.tmp 17) (.const (.string ⟨#[115, 116, 97, 116, 115]⟩)) v12 (.string ⟨#[115, 116, 97, 116, 115]⟩)) fun v54 =>
ifB v54 (
aa (aD Tryz.prog 87 [(0, (.func (.func 46) #[] #[]))]) fun v55 =>
aa (bI v4) fun v56 =>
aa (bEq Tryz.prog 3 (.tmp 53) (.const (.int .i64 1)) v56 (.int .i64 1)) fun v57 =>
bF (st 1 v2 v55 w3) fun w58 =>
aa (ldN 1 v2 w58) fun v60 =>
K (.tuple #[v60, v57]) w58) (
aa (aD Tryz.prog 87 []) fun v61 =>
bF (st 1 v2 v61 w3) fun w62 =>
aa (ldN 1 v2 w62) fun v64 =>
K (.tuple #[v64, (.bool false)]) w62)))))
def G24 : FnT := fun args w K => on1 (fun x0 => F24 x0 w K) args
theorem c24 {x0 : Value} {w : World} {K : V1} (h : F24 x0 w K) : ai G24 [x0] w K := aj (bL (p := fun x0 => F24 x0 w K) h)
theorem ok24 : OkF Tryz.prog 24 G24 := by
  refine aO (aN (l := T24) ⟨ok41, ok42, ok45, trivial⟩) mixed (n := fuel) Tryz.func24 Tryz.call24 fun args w K h => ?_
  obtain ⟨x0, rfl, hh⟩ := bJ h
  exact az (c := ah Tryz.f24) (by kernel_rfl) (by kernel_rfl) (Eq.mp (by kernel_rfl) hh)
def T114 : List (Nat × FnT) := []
def Zi (x0 : Value) (w : World) (K : V1) : Prop :=
bT 48 x0 w fun _ w1 =>
K (.int .i64 0) w1
def Ui : FnT := fun args w K => on1 (fun x0 => Zi x0 w K) args
theorem c114 {x0 : Value} {w : World} {K : V1} (h : Zi x0 w K) : ai Ui [x0] w K := aj (bL (p := fun x0 => Zi x0 w K) h)
theorem ZR : OkF Tryz.prog 114 Ui := by
  refine aO (aN (l := T114) trivial) mixed (n := fuel) Tryz.func114 Tryz.call114 fun args w K h => ?_
  obtain ⟨x0, rfl, hh⟩ := bJ h
  exact az (c := ah Tryz.f114) (by kernel_rfl) (by kernel_rfl) (Eq.mp (by kernel_rfl) hh)
def T115 : List (Nat × FnT) := []
def Zh (x0 : Value) (w : World) (K : V1) : Prop :=
bT 48 x0 w fun v2 w1 =>
aa (ae 8 v2) fun v3 =>
aa (ld1 v3 w1) fun v4 =>
K v4 w1
def Uh : FnT := fun args w K => on1 (fun x0 => Zh x0 w K) args
theorem c115 {x0 : Value} {w : World} {K : V1} (h : Zh x0 w K) : ai Uh [x0] w K := aj (bL (p := fun x0 => Zh x0 w K) h)
theorem ZQ : OkF Tryz.prog 115 Uh := by
  refine aO (aN (l := T115) trivial) mixed (n := fuel) Tryz.func115 Tryz.call115 fun args w K h => ?_
  obtain ⟨x0, rfl, hh⟩ := bJ h
  exact az (c := ah Tryz.f115) (by kernel_rfl) (by kernel_rfl) (Eq.mp (by kernel_rfl) hh)
def T116 : List (Nat × FnT) := []
def Zg (x0 : Value) (w : World) (K : V1) : Prop :=
bT 48 x0 w fun v2 w1 =>
aa (ae 1 v2) fun v3 =>
aa (ae 3 v3) fun v4 =>
aa (ld1 v4 w1) fun v5 =>
K v5 w1
def Ug : FnT := fun args w K => on1 (fun x0 => Zg x0 w K) args
theorem c116 {x0 : Value} {w : World} {K : V1} (h : Zg x0 w K) : ai Ug [x0] w K := aj (bL (p := fun x0 => Zg x0 w K) h)
theorem ZP : OkF Tryz.prog 116 Ug := by
  refine aO (aN (l := T116) trivial) mixed (n := fuel) Tryz.func116 Tryz.call116 fun args w K h => ?_
  obtain ⟨x0, rfl, hh⟩ := bJ h
  exact az (c := ah Tryz.f116) (by kernel_rfl) (by kernel_rfl) (Eq.mp (by kernel_rfl) hh)
def T117 : List (Nat × FnT) := []
def Zf (x0 : Value) (w : World) (K : V1) : Prop :=
bT 48 x0 w fun v2 w1 =>
aa (ae 6 v2) fun v3 =>
aa (ld1 v3 w1) fun v4 =>
K v4 w1
def Uf : FnT := fun args w K => on1 (fun x0 => Zf x0 w K) args
theorem c117 {x0 : Value} {w : World} {K : V1} (h : Zf x0 w K) : ai Uf [x0] w K := aj (bL (p := fun x0 => Zf x0 w K) h)
theorem ZO : OkF Tryz.prog 117 Uf := by
  refine aO (aN (l := T117) trivial) mixed (n := fuel) Tryz.func117 Tryz.call117 fun args w K h => ?_
  obtain ⟨x0, rfl, hh⟩ := bJ h
  exact az (c := ah Tryz.f117) (by kernel_rfl) (by kernel_rfl) (Eq.mp (by kernel_rfl) hh)
def T125 : List (Nat × FnT) := []
def Y9 (x0 x1 : Value) (w : World) (K : V1) : Prop :=
bT 48 x0 w fun v2 w1 =>
aa (ae 9 v2) fun v3 =>
aa (ld1 v3 w1) fun v4 =>
aa (ld1 x1 w1) fun v5 =>
aa (bEq Tryz.prog 9 (.tmp 6) (.const (.string ⟨#[121, 101, 115]⟩)) v5 (.string ⟨#[121, 101, 115]⟩)) fun v6 =>
aa (bEq Tryz.prog 4 (.tmp 5) (.tmp 7) v4 v6) fun v7 =>
K v7 w1
def TZ : FnT := fun args w K => on2 (fun x0 x1 => Y9 x0 x1 w K) args
theorem c125 {x0 x1 : Value} {w : World} {K : V1} (h : Y9 x0 x1 w K) : ai TZ [x0, x1] w K := aj (dm (p := fun x0 x1 => Y9 x0 x1 w K) h)
theorem ZL : OkF Tryz.prog 125 TZ := by
  refine aO (aN (l := T125) trivial) mixed (n := fuel) Tryz.func125 Tryz.call125 fun args w K h => ?_
  obtain ⟨x0, x1, rfl, hh⟩ := dn h
  exact az (c := ah Tryz.f125) (by kernel_rfl) (by kernel_rfl) (Eq.mp (by kernel_rfl) hh)
def T171 : List (Nat × FnT) := []
def YV (x0 x1 : Value) (w : World) (K : V1) : Prop :=
bT 46 x1 w fun v2 w1 =>
aa (bEq Tryz.prog 9 (.tmp 5) (.const (.string ⟨#[110, 111, 100, 101]⟩)) x0 (.string ⟨#[110, 111, 100, 101]⟩)) fun v3 =>
ifB v3 (
aa (ae 0 v2) fun v4 =>
aa (ld1 v4 w1) fun v5 =>
K v5 w1) (
aa (bEq Tryz.prog 9 (.tmp 5) (.const (.string ⟨#[99, 108, 97, 115, 115]⟩)) x0 (.string ⟨#[99, 108, 97, 115, 115]⟩)) fun v6 =>
ifB v6 (
aa (ae 1 v2) fun v7 =>
aa (ld1 v7 w1) fun v8 =>
K v8 w1) (
aa (bEq Tryz.prog 9 (.tmp 5) (.const (.string ⟨#[107, 101, 121]⟩)) x0 (.string ⟨#[107, 101, 121]⟩)) fun v9 =>
ifB v9 (
aa (ae 2 v2) fun v10 =>
aa (ld1 v10 w1) fun v11 =>
K v11 w1) (
aa (ae 4 v2) fun v12 =>
aa (ld1 v12 w1) fun v13 =>
K v13 w1)))
def TK : FnT := fun args w K => on2 (fun x0 x1 => YV x0 x1 w K) args
theorem c171 {x0 x1 : Value} {w : World} {K : V1} (h : YV x0 x1 w K) : ai TK [x0, x1] w K := aj (dm (p := fun x0 x1 => YV x0 x1 w K) h)
theorem ok171 : OkF Tryz.prog 171 TK := by
  refine aO (aN (l := T171) trivial) mixed (n := fuel) Tryz.func171 Tryz.call171 fun args w K h => ?_
  obtain ⟨x0, x1, rfl, hh⟩ := dn h
  exact az (c := ah Tryz.f171) (by kernel_rfl) (by kernel_rfl) (Eq.mp (by kernel_rfl) hh)
def T169 : List (Nat × FnT) := [(170, P5), (171, TK)]
def YW (x0 x1 x2 : Value) (w : World) (K : V1) : Prop :=
bT 48 x0 w fun v2 w1 =>
aa (ld1 x1 w1.drew) fun v3 =>
aa (ld1 x2 w1.drew) fun v4 =>
aa (ae 1 v2) fun v5 =>
aa (ldN 5 v5 w1.drew) fun v6 =>
ai TK [v4, v6] w1.drew fun v8 w7 =>
fok true (ld1 x1 w7) v3 ∧ (ai P5 [v3, v8] w7 fun v10 w9 =>
K v10 w9)
def TL : FnT := fun args w K => on3 (fun x0 x1 x2 => YW x0 x1 x2 w K) args
theorem c169 {x0 x1 x2 : Value} {w : World} {K : V1} (h : YW x0 x1 x2 w K) : ai TL [x0, x1, x2] w K := aj (kT (p := fun x0 x1 x2 => YW x0 x1 x2 w K) h)
theorem ZJ : OkF Tryz.prog 169 TL := by
  refine aO (aN (l := T169) ⟨ok170, ok171, trivial⟩) mixed (n := fuel) Tryz.func169 Tryz.call169 fun args w K h => ?_
  obtain ⟨x0, x1, x2, rfl, hh⟩ := kV h
  exact az (c := ah Tryz.f169) (by kernel_rfl) (by kernel_rfl) (Eq.mp (by kernel_rfl) hh)
def T172 : List (Nat × FnT) := []
def YU (x0 x1 : Value) (w : World) (K : V1) : Prop :=
bT 48 x0 w fun v2 w1 =>
aa (ae 1 v2) fun v3 =>
aa (ae 3 v3) fun v4 =>
aa (ld1 v4 w1) fun v5 =>
aa (ld1 x1 w1) fun v6 =>
aa (bGe v5 v6) fun v7 =>
K v7 w1
def TJ : FnT := fun args w K => on2 (fun x0 x1 => YU x0 x1 w K) args
theorem c172 {x0 x1 : Value} {w : World} {K : V1} (h : YU x0 x1 w K) : ai TJ [x0, x1] w K := aj (dm (p := fun x0 x1 => YU x0 x1 w K) h)
theorem ZI : OkF Tryz.prog 172 TJ := by
  refine aO (aN (l := T172) trivial) mixed (n := fuel) Tryz.func172 Tryz.call172 fun args w K h => ?_
  obtain ⟨x0, x1, rfl, hh⟩ := dn h
  exact az (c := ah Tryz.f172) (by kernel_rfl) (by kernel_rfl) (Eq.mp (by kernel_rfl) hh)
def T174 : List (Nat × FnT) := []
def YS (x0 x1 x2 : Value) (w : World) (K : V1) : Prop :=
bT 48 x0 w fun v2 w1 =>
aa (ae 8 v2) fun v3 =>
aa (ld1 v3 w1) fun v4 =>
aa (ld1 x1 w1) fun v5 =>
aa (bLt v4 v5) fun v6 =>
aa (ld1 x2 w1) fun v7 =>
aa (bEq Tryz.prog 9 (.tmp 9) (.const (.string ⟨#[98, 101, 102, 111, 114, 101]⟩)) v7 (.string ⟨#[98, 101, 102, 111, 114, 101]⟩)) fun v8 =>
aa (bEq Tryz.prog 4 (.tmp 8) (.tmp 10) v6 v8) fun v9 =>
K v9 w1
def TI : FnT := fun args w K => on3 (fun x0 x1 x2 => YS x0 x1 x2 w K) args
theorem c174 {x0 x1 x2 : Value} {w : World} {K : V1} (h : YS x0 x1 x2 w K) : ai TI [x0, x1, x2] w K := aj (kT (p := fun x0 x1 x2 => YS x0 x1 x2 w K) h)
theorem ZH : OkF Tryz.prog 174 TI := by
  refine aO (aN (l := T174) trivial) mixed (n := fuel) Tryz.func174 Tryz.call174 fun args w K h => ?_
  obtain ⟨x0, x1, x2, rfl, hh⟩ := kV h
  exact az (c := ah Tryz.f174) (by kernel_rfl) (by kernel_rfl) (Eq.mp (by kernel_rfl) hh)
def T127 : List (Nat × FnT) := [(114, Ui), (115, Uh), (116, Ug), (117, Uf), (125, TZ), (169, TL), (172, TJ), (174, TI)]
def Y7 (x0 x1 : Value) (w : World) (K : V1) : Prop :=
aa (ldN 11 x1 w) fun v1 =>
gP (au T127) x0 [v1] w fun v3 w2 =>
aa (dN v3) fun v4 =>
K v4 w2
def Yp : FnT := fun args w K => on2 (fun x0 x1 => Y7 x0 x1 w K) args
theorem c127 {x0 x1 : Value} {w : World} {K : V1} (h : Y7 x0 x1 w K) : ai Yp [x0, x1] w K := aj (dm (p := fun x0 x1 => Y7 x0 x1 w K) h)
theorem ok127 : OkF Tryz.prog 127 Yp := by
  refine aO (aN (l := T127) ⟨ZR, ZQ, ZP, ZO, ZL, ZJ, ZI, ZH, trivial⟩) mixed (n := fuel) Tryz.func127 Tryz.call127 fun args w K h => ?_
  obtain ⟨x0, x1, rfl, hh⟩ := dn h
  exact az (c := ah Tryz.f127) (by kernel_rfl) (by kernel_rfl) (Eq.mp (by kernel_rfl) hh)
def DR : List (Nat × FnT) := [(127, Yp)]
def EU (w : World) (K : V1) : Prop :=
K (.int .i64 (-1)) w
def vH (w : World) (K : V1) : Prop := EU w K
theorem WA {K : V1}
    (hn : HN (fun e w => K (e 4) w) kn) (hr : HR Tryz.prog [.tmp 4] K kr) (he : HE noE ke) :
    ∀ e w, vH w K → aA Tryz.prog (au DR) 19 fuel ((flat (ah Tryz.f175)).drop 3) e w kn kr ke := by
  intro e w h
  unfold vH at h
  have e1 : ∀ (_ : Unit), EU w K = aA Tryz.prog (au DR) 19 fuel ((flat (ah Tryz.f175)).drop 3) e w (fun e w => K (e 4) w) (aW Tryz.prog [.tmp 4] K) noE := by intro _; kernel_rfl
  exact bQ (Eq.mp (e1 ()) h) hn hr he
def xH (s0 s1 s7 s8 : Value) (w : World) (K : V1) (Y0 : V4) (Y1 : V0) : Prop :=
aa (bLt s8 s7) fun v1 =>
ifB v1 (
aa (bq 1 s0 s8) fun v2 =>
aa (ld1 v2 w) fun v3 =>
gP (au DR) s1 [v3] w fun v5 w4 =>
ifB v5 (
K s8 w4) (
aa (bH s8 (.int .i64 1)) fun v6 =>
Y0 s0 s1 s7 v6 w4)) (
Y1 w)
def jW : Nat → Value → Value → Value → Value → World → (V1) → Prop
  | 0, _, _, _, _, _, _ => False
  | n + 1, s0, s1, s7, s8, w, K => xH s0 s1 s7 s8 w K (fun a0 a1 a7 a8 w => jW n a0 a1 a7 a8 w K) (fun w => vH w K)
def Ae (s0 s1 s7 s8 : Value) (w : World) (K : V1) : Prop := jW fuel s0 s1 s7 s8 w K
theorem WB {K : V1}
    (hn : HN (fun e w => K (e 4) w) kn) (hr : HR Tryz.prog [.tmp 4] K kr) (he : HE noE ke) :
    ∀ e w, Ae (e 0) (e 1) (e 7) (e 8) w K → aA Tryz.prog (au DR) 19 fuel ((flat (ah Tryz.f175)).drop 2) e w kn kr ke := by
  intro e w h
  unfold Ae at h
  refine bM (id := 0) (body := (aU (bi (aV (flat (ah Tryz.f175)) 2)))) (l2 := (flat (ah Tryz.f175)).drop 3) (by kernel_rfl) ?_
  refine bV (FL := fun m e w => jW m (e 0) (e 1) (e 7) (e 8) w K) (fr := aW Tryz.prog [.tmp 4] K) (fe := (bB 0 (fun e w => vH w K) noE)) (fun _ _ h => h) ?_ hr (bD (fun e w h => WA hn hr he e w h) he) fuel e w h
  intro m e w h
  have h : jW (m + 1) (e 0) (e 1) (e 7) (e 8) w K := h
  rw [jW] at h
  have e1 : ∀ (Y0 : V4) (Y1 : V0), xH (e 0) (e 1) (e 7) (e 8) w K Y0 Y1 = aA Tryz.prog (au DR) 19 fuel (flat (aU (bi (aV (flat (ah Tryz.f175)) 2)))) e w (fun e w => Y0 (e 0) (e 1) (e 7) (e 8) w) (aW Tryz.prog [.tmp 4] K) (bB 0 (fun e w => Y1 w) noE) := by intro Y0 Y1; kernel_rfl
  exact Eq.mp (e1 (fun a0 a1 a7 a8 w => jW m a0 a1 a7 a8 w K) (fun w => vH w K)) h
def EW (s0 s1 : Value) (w : World) (_K : V1) (Y0 : V4) : Prop :=
aa (bI s0) fun v7 =>
Y0 s0 s1 v7 (.int .i64 0) w
def EX (s0 s1 : Value) (w : World) (K : V1) : Prop := EW s0 s1 w K (fun a0 a1 a7 a8 w => Ae a0 a1 a7 a8 w K)
theorem WC {K : V1}
    (hn : HN (fun e w => K (e 4) w) kn) (hr : HR Tryz.prog [.tmp 4] K kr) (he : HE noE ke) :
    ∀ e w, EX (e 0) (e 1) w K → aA Tryz.prog (au DR) 19 fuel ((flat (ah Tryz.f175)).drop 0) e w kn kr ke := by
  intro e w h
  unfold EX at h
  have e1 : ∀ (Y0 : V4), EW (e 0) (e 1) w K Y0 = aA Tryz.prog (au DR) 19 fuel (((flat (ah Tryz.f175)).drop 0).take 2) e w (fun e w => Y0 (e 0) (e 1) (e 7) (e 8) w) (aW Tryz.prog [.tmp 4] K) noE := by intro Y0; kernel_rfl
  exact seg 2 (Eq.mp (e1 (fun a0 a1 a7 a8 w => Ae a0 a1 a7 a8 w K)) h) (fun e w h => WB hn hr he e w h) hr he
def UQ (x0 x1 : Value) (w : World) (K : V1) : Prop := EX x0 x1 w K
def Ym : FnT := fun args w K => on2 (fun x0 x1 => UQ x0 x1 w K) args
theorem c175 {x0 x1 : Value} {w : World} {K : V1} (h : UQ x0 x1 w K) : ai Ym [x0, x1] w K := aj (dm (p := fun x0 x1 => UQ x0 x1 w K) h)
theorem ok175 : OkF Tryz.prog 175 Ym := by
  refine aO (aN (l := DR) ⟨ok127, trivial⟩) mixed (n := fuel) Tryz.func175 Tryz.call175 fun args w K h => ?_
  obtain ⟨x0, x1, rfl, hh⟩ := dn h
  unfold UQ at hh
  exact az (c := ah Tryz.f175) (by kernel_rfl) (by kernel_rfl) (WC (fun _ _ h => h) (fun _ _ h => h) (fun _ _ _ h => h) (dD [x0, x1]) w hh)
def T126 : List (Nat × FnT) := [(175, Ym)]
def Y8 (x0 x1 : Value) (w : World) (K : V1) : Prop :=
ai Ym [x0, x1] w fun v2 w1 =>
aa (bGe v2 (.int .i64 0)) fun v3 =>
K v3 w1
def TY : FnT := fun args w K => on2 (fun x0 x1 => Y8 x0 x1 w K) args
theorem c126 {x0 x1 : Value} {w : World} {K : V1} (h : Y8 x0 x1 w K) : ai TY [x0, x1] w K := aj (dm (p := fun x0 x1 => Y8 x0 x1 w K) h)
theorem ok126 : OkF Tryz.prog 126 TY := by
  refine aO (aN (l := T126) ⟨ok175, trivial⟩) mixed (n := fuel) Tryz.func126 Tryz.call126 fun args w K h => ?_
  obtain ⟨x0, x1, rfl, hh⟩ := dn h
  exact az (c := ah Tryz.f126) (by kernel_rfl) (by kernel_rfl) (Eq.mp (by kernel_rfl) hh)
def T72 : List (Nat × FnT) := [(126, TY), (128, LA)]
def zN (s5 : Value) (w : World) (K : V1) : Prop :=
K s5 w
def zO (s5 : Value) (w : World) (K : V1) : Prop := zN s5 w K
theorem ok72_4 {K : V1}
    (hn : HN (fun e w => K (e 4) w) kn) (hr : HR Tryz.prog [.tmp 4] K kr) (he : HE noE ke) :
    ∀ e w, zO (e 5) w K → aA Tryz.prog (au T72) 43 fuel ((flat (ah Tryz.f72)).drop 7) e w kn kr ke := by
  intro e w h
  unfold zO at h
  have e1 : ∀ (_ : Unit), zN (e 5) w K = aA Tryz.prog (au T72) 43 fuel ((flat (ah Tryz.f72)).drop 7) e w (fun e w => K (e 4) w) (aW Tryz.prog [.tmp 4] K) noE := by intro _; kernel_rfl
  exact bQ (Eq.mp (e1 ()) h) hn hr he
def LD (s2 s5 : Value) (w : World) (_K : V1) (Y0 : V1) : Prop :=
aa (ae 1 s2) fun v1 =>
aa (ld1 v1 w) fun v2 =>
ai LA [s5, v2] w fun _ w3 =>
aa (ae 2 s2) fun v5 =>
aa (ld1 v5 w3) fun v6 =>
aa (bGe v6 (.int .i64 0)) fun v7 =>
Sx.stepG (gd true v7) (ae 2 s2) fun v8 =>
Sx.stepG (gd true v7) (ld1 v8 w3) fun v9 =>
aS (gd true v7) s5 fun v10 =>
Sx.stepG (gd true v7) (bI v10) fun v11 =>
Sx.stepG (gd true v7) (bLt v9 v11) fun v12 =>
aa (aG v7 v12 (.bool false)) fun v13 =>
ifB v13 (
aa (ae 2 s2) fun v14 =>
aa (ld1 v14 w3) fun v15 =>
aa (dZ 11 s5 none (some v15) none) fun v16 =>
Y0 v16 w3) (
Y0 s5 w3)
def qD (s2 s5 : Value) (w : World) (K : V1) : Prop := LD s2 s5 w K (fun a5 w => zO a5 w K)
theorem ok72_3 {K : V1}
    (hn : HN (fun e w => K (e 4) w) kn) (hr : HR Tryz.prog [.tmp 4] K kr) (he : HE noE ke) :
    ∀ e w, qD (e 2) (e 5) w K → aA Tryz.prog (au T72) 43 fuel ((flat (ah Tryz.f72)).drop 4) e w kn kr ke := by
  intro e w h
  unfold qD at h
  have e1 : ∀ (Y0 : V1), LD (e 2) (e 5) w K Y0 = aA Tryz.prog (au T72) 43 fuel (((flat (ah Tryz.f72)).drop 4).take 3) e w (fun e w => Y0 (e 5) w) (aW Tryz.prog [.tmp 4] K) noE := by intro Y0; kernel_rfl
  exact seg 3 (Eq.mp (e1 (fun a5 w => zO a5 w K)) h) (fun e w h => ok72_4 hn hr he e w h) hr he
def DY (s2 s5 s8 s9 s10 : Value) (w : World) (_K : V1) (R4 : V5) : Prop :=
aa (bH s10 (.int .i64 1)) fun v17 =>
R4 s2 s5 s8 s9 v17 w
def Cr (s2 s5 s8 s9 s10 : Value) (w : World) (K : V1) (R4 : V5) : Prop := DY s2 s5 s8 s9 s10 w K R4
theorem ok72_6 (R4 : V5) {K : V1}
    (hn : HN (fun e w => R4 (e 2) (e 5) (e 8) (e 9) (e 10) w) kn) (hr : HR Tryz.prog [.tmp 4] K kr) (he : HE (bB 0 (fun e w => qD (e 2) (e 5) w K) noE) ke) :
    ∀ e w, Cr (e 2) (e 5) (e 8) (e 9) (e 10) w K R4 → aA Tryz.prog (au T72) 43 fuel ((flat (aU (bi (aV (flat (ah Tryz.f72)) 3)))).drop 3) e w kn kr ke := by
  intro e w h
  unfold Cr at h
  have e1 : ∀ (_ : Unit), DY (e 2) (e 5) (e 8) (e 9) (e 10) w K R4 = aA Tryz.prog (au T72) 43 fuel ((flat (aU (bi (aV (flat (ah Tryz.f72)) 3)))).drop 3) e w (fun e w => R4 (e 2) (e 5) (e 8) (e 9) (e 10) w) (aW Tryz.prog [.tmp 4] K) (bB 0 (fun e w => qD (e 2) (e 5) w K) noE) := by intro _; kernel_rfl
  exact bQ (Eq.mp (e1 ()) h) hn hr he
def DZ (s2 s5 s8 s9 s10 : Value) (w : World) (_K : V1) (R4 : V5) (Y0 : V5) (Y1 : V2) : Prop :=
aa (bLt s10 s9) fun v18 =>
ifB v18 (
aa (bq 11 s8 s10) fun v19 =>
aa (ldN 11 v19 w) fun v20 =>
aY Tryz.prog 48 w fun v22 w21 =>
bF (st 11 v22 v20 w21) fun w23 =>
aa (ae 0 s2) fun v25 =>
aa (ld1 v25 w23) fun v26 =>
aa (some (.func (.func 127) #[] #[v22])) fun v27 =>
ai TY [v26, v27] w23 fun v29 w28 =>
aa (dN v29) fun v30 =>
ifB v30 (
aa (ldN 11 v22 w28) fun v31 =>
aB Tryz.prog 22 1 [(0, v31)] w28 fun v33 w32 =>
aJ Tryz.prog 22 22 s5 v33 w32 fun v35 w34 =>
Y0 s2 v35 s8 s9 s10 w34) (
Y0 s2 s5 s8 s9 s10 w28)) (
Y1 s2 s5 w)
def I7 (s2 s5 s8 s9 s10 : Value) (w : World) (K : V1) (R4 : V5) : Prop := DZ s2 s5 s8 s9 s10 w K R4 (fun a2 a5 a8 a9 a10 w => Cr a2 a5 a8 a9 a10 w K R4) (fun a2 a5 w => qD a2 a5 w K)
theorem ok72_5 (R4 : V5) {K : V1}
    (hn : HN (fun e w => R4 (e 2) (e 5) (e 8) (e 9) (e 10) w) kn) (hr : HR Tryz.prog [.tmp 4] K kr) (he : HE (bB 0 (fun e w => qD (e 2) (e 5) w K) noE) ke) :
    ∀ e w, I7 (e 2) (e 5) (e 8) (e 9) (e 10) w K R4 → aA Tryz.prog (au T72) 43 fuel ((flat (aU (bi (aV (flat (ah Tryz.f72)) 3)))).drop 0) e w kn kr ke := by
  intro e w h
  unfold I7 at h
  have e1 : ∀ (Y0 : V5) (Y1 : V2), DZ (e 2) (e 5) (e 8) (e 9) (e 10) w K R4 Y0 Y1 = aA Tryz.prog (au T72) 43 fuel (((flat (aU (bi (aV (flat (ah Tryz.f72)) 3)))).drop 0).take 3) e w (fun e w => Y0 (e 2) (e 5) (e 8) (e 9) (e 10) w) (aW Tryz.prog [.tmp 4] K) (bB 0 (fun e w => Y1 (e 2) (e 5) w) noE) := by intro Y0 Y1; kernel_rfl
  exact seg 3 (Eq.mp (e1 (fun a2 a5 a8 a9 a10 w => Cr a2 a5 a8 a9 a10 w K R4) (fun a2 a5 w => qD a2 a5 w K)) h) (fun e w h => ok72_6 R4 hn hr he e w h) hr he
def nD : Nat → Value → Value → Value → Value → Value → World → (V1) → Prop
  | 0, _, _, _, _, _, _, _ => False
  | n + 1, s2, s5, s8, s9, s10, w, K => I7 s2 s5 s8 s9 s10 w K (fun a2 a5 a8 a9 a10 w => nD n a2 a5 a8 a9 a10 w K)
def I8 (s2 s5 s8 s9 s10 : Value) (w : World) (K : V1) : Prop := nD fuel s2 s5 s8 s9 s10 w K
theorem ok72_2 {K : V1}
    (hn : HN (fun e w => K (e 4) w) kn) (hr : HR Tryz.prog [.tmp 4] K kr) (he : HE noE ke) :
    ∀ e w, I8 (e 2) (e 5) (e 8) (e 9) (e 10) w K → aA Tryz.prog (au T72) 43 fuel ((flat (ah Tryz.f72)).drop 3) e w kn kr ke := by
  intro e w h
  unfold I8 at h
  refine bM (id := 0) (body := (aU (bi (aV (flat (ah Tryz.f72)) 3)))) (l2 := (flat (ah Tryz.f72)).drop 4) (by kernel_rfl) ?_
  refine bV (FL := fun m e w => nD m (e 2) (e 5) (e 8) (e 9) (e 10) w K) (fr := aW Tryz.prog [.tmp 4] K) (fe := (bB 0 (fun e w => qD (e 2) (e 5) w K) noE)) (fun _ _ h => h) ?_ hr (bD (fun e w h => ok72_3 hn hr he e w h) he) fuel e w h
  intro m e w h
  have h : nD (m + 1) (e 2) (e 5) (e 8) (e 9) (e 10) w K := h
  rw [nD] at h
  exact ok72_5 (fun a2 a5 a8 a9 a10 w => nD m a2 a5 a8 a9 a10 w K) (fun _ _ h => h) (fun _ _ h => h) (fun _ _ _ h => h) e w h
def LF (s0 s1 : Value) (w : World) (_K : V1) (Y0 : V5) : Prop :=
bT 135 s0 w fun v37 w36 =>
aa (bI s1) fun v38 =>
Y0 v37 (.slice none 0 0) s1 v38 (.int .i64 0) w36
def Nz (s0 s1 : Value) (w : World) (K : V1) : Prop := LF s0 s1 w K (fun a2 a5 a8 a9 a10 w => I8 a2 a5 a8 a9 a10 w K)
theorem ok72_1 {K : V1}
    (hn : HN (fun e w => K (e 4) w) kn) (hr : HR Tryz.prog [.tmp 4] K kr) (he : HE noE ke) :
    ∀ e w, Nz (e 0) (e 1) w K → aA Tryz.prog (au T72) 43 fuel ((flat (ah Tryz.f72)).drop 0) e w kn kr ke := by
  intro e w h
  unfold Nz at h
  have e1 : ∀ (Y0 : V5), LF (e 0) (e 1) w K Y0 = aA Tryz.prog (au T72) 43 fuel (((flat (ah Tryz.f72)).drop 0).take 3) e w (fun e w => Y0 (e 2) (e 5) (e 8) (e 9) (e 10) w) (aW Tryz.prog [.tmp 4] K) noE := by intro Y0; kernel_rfl
  exact seg 3 (Eq.mp (e1 (fun a2 a5 a8 a9 a10 w => I8 a2 a5 a8 a9 a10 w K)) h) (fun e w h => ok72_2 hn hr he e w h) hr he
def F72 (x0 x1 : Value) (w : World) (K : V1) : Prop := Nz x0 x1 w K
def G72 : FnT := fun args w K => on2 (fun x0 x1 => F72 x0 x1 w K) args
theorem c72 {x0 x1 : Value} {w : World} {K : V1} (h : F72 x0 x1 w K) : ai G72 [x0, x1] w K := aj (dm (p := fun x0 x1 => F72 x0 x1 w K) h)
theorem ok72 : OkF Tryz.prog 72 G72 := by
  refine aO (aN (l := T72) ⟨ok126, ZK, trivial⟩) mixed (n := fuel) Tryz.func72 Tryz.call72 fun args w K h => ?_
  obtain ⟨x0, x1, rfl, hh⟩ := dn h
  unfold F72 at hh
  exact az (c := ah Tryz.f72) (by kernel_rfl) (by kernel_rfl) (ok72_1 (fun _ _ h => h) (fun _ _ h => h) (fun _ _ _ h => h) (dD [x0, x1]) w hh)
def T43 : List (Nat × FnT) := [(20, G20), (72, G72), (73, G73), (74, G74)]
def Mf (s6 : Value) (w : World) (K : V1) : Prop :=
K (.tuple #[s6, (.int .i64 0)]) w
def Cz (s6 : Value) (w : World) (K : V1) : Prop := Mf s6 w K
theorem ok43_3 {K : V1}
    (hn : HN (fun e w => K (.tuple #[(e 4), (e 5)]) w) kn) (hr : HR Tryz.prog [.tmp 4, .tmp 5] K kr) (he : HE noE ke) :
    ∀ e w, Cz (e 6) w K → aA Tryz.prog (au T43) 29 fuel ((flat (ah Tryz.f43)).drop 4) e w kn kr ke := by
  intro e w h
  unfold Cz at h
  have e1 : ∀ (_ : Unit), Mf (e 6) w K = aA Tryz.prog (au T43) 29 fuel ((flat (ah Tryz.f43)).drop 4) e w (fun e w => K (.tuple #[(e 4), (e 5)]) w) (aW Tryz.prog [.tmp 4, .tmp 5] K) noE := by intro _; kernel_rfl
  exact bQ (Eq.mp (e1 ()) h) hn hr he
def D6 (s6 s16 s17 s18 : Value) (w : World) (_K : V1) (Y0 : V4) (Y1 : V1) : Prop :=
aa (bLt s18 s17) fun v1 =>
ifB v1 (
aa (bq 11 s16 s18) fun v2 =>
aa (ldN 11 v2 w) fun v3 =>
aY Tryz.prog 48 w fun v5 w4 =>
bF (st 11 v5 v3 w4) fun w6 =>
aa (ldN 11 v5 w6) fun v8 =>
ai G74 [v8] w6 fun v10 w9 =>
aB Tryz.prog 32 1 [(0, v10)] w9 fun v12 w11 =>
aJ Tryz.prog 32 32 s6 v12 w11 fun v14 w13 =>
aa (bH s18 (.int .i64 1)) fun v15 =>
Y0 v14 s16 s17 v15 w13) (
Y1 s6 w)
def nG : Nat → Value → Value → Value → Value → World → (V1) → Prop
  | 0, _, _, _, _, _, _ => False
  | n + 1, s6, s16, s17, s18, w, K => D6 s6 s16 s17 s18 w K (fun a6 a16 a17 a18 w => nG n a6 a16 a17 a18 w K) (fun a6 w => Cz a6 w K)
def Ji (s6 s16 s17 s18 : Value) (w : World) (K : V1) : Prop := nG fuel s6 s16 s17 s18 w K
theorem ok43_2 {K : V1}
    (hn : HN (fun e w => K (.tuple #[(e 4), (e 5)]) w) kn) (hr : HR Tryz.prog [.tmp 4, .tmp 5] K kr) (he : HE noE ke) :
    ∀ e w, Ji (e 6) (e 16) (e 17) (e 18) w K → aA Tryz.prog (au T43) 29 fuel ((flat (ah Tryz.f43)).drop 3) e w kn kr ke := by
  intro e w h
  unfold Ji at h
  refine bM (id := 0) (body := (aU (bi (aV (flat (ah Tryz.f43)) 3)))) (l2 := (flat (ah Tryz.f43)).drop 4) (by kernel_rfl) ?_
  refine bV (FL := fun m e w => nG m (e 6) (e 16) (e 17) (e 18) w K) (fr := aW Tryz.prog [.tmp 4, .tmp 5] K) (fe := (bB 0 (fun e w => Cz (e 6) w K) noE)) (fun _ _ h => h) ?_ hr (bD (fun e w h => ok43_3 hn hr he e w h) he) fuel e w h
  intro m e w h
  have h : nG (m + 1) (e 6) (e 16) (e 17) (e 18) w K := h
  rw [nG] at h
  have e1 : ∀ (Y0 : V4) (Y1 : V1), D6 (e 6) (e 16) (e 17) (e 18) w K Y0 Y1 = aA Tryz.prog (au T43) 29 fuel (flat (aU (bi (aV (flat (ah Tryz.f43)) 3)))) e w (fun e w => Y0 (e 6) (e 16) (e 17) (e 18) w) (aW Tryz.prog [.tmp 4, .tmp 5] K) (bB 0 (fun e w => Y1 (e 6) w) noE) := by intro Y0 Y1; kernel_rfl
  exact Eq.mp (e1 (fun a6 a16 a17 a18 w => nG m a6 a16 a17 a18 w K) (fun a6 w => Cz a6 w K)) h
def Mg (s0 s1 : Value) (w : World) (_K : V1) (Y0 : V4) : Prop :=
bT 135 s0 w fun v17 w16 =>
aa (ldN 3 v17 w16.drew) fun v18 =>
aa (cZ s1) fun v19 =>
aa (ae 0 v19) fun v20 =>
aa (ld1 v20 w16.drew) fun v21 =>
ai G20 [v21] w16.drew fun v23 w22 =>
fok true (ldN 3 v17 w22) v18 ∧ (ai G73 [v23] w22 fun v25 w24 =>
fok true (ldN 3 v17 w24) v18 ∧ (ai G72 [v18, v25] w24 fun v27 w26 =>
aa (bI v27) fun v28 =>
Y0 (.slice none 0 0) v27 v28 (.int .i64 0) w26))
def NJ (s0 s1 : Value) (w : World) (K : V1) : Prop := Mg s0 s1 w K (fun a6 a16 a17 a18 w => Ji a6 a16 a17 a18 w K)
theorem ok43_1 {K : V1}
    (hn : HN (fun e w => K (.tuple #[(e 4), (e 5)]) w) kn) (hr : HR Tryz.prog [.tmp 4, .tmp 5] K kr) (he : HE noE ke) :
    ∀ e w, NJ (e 0) (e 1) w K → aA Tryz.prog (au T43) 29 fuel ((flat (ah Tryz.f43)).drop 0) e w kn kr ke := by
  intro e w h
  unfold NJ at h
  have e1 : ∀ (Y0 : V4), Mg (e 0) (e 1) w K Y0 = aA Tryz.prog (au T43) 29 fuel (((flat (ah Tryz.f43)).drop 0).take 3) e w (fun e w => Y0 (e 6) (e 16) (e 17) (e 18) w) (aW Tryz.prog [.tmp 4, .tmp 5] K) noE := by intro Y0; kernel_rfl
  exact seg 3 (Eq.mp (e1 (fun a6 a16 a17 a18 w => Ji a6 a16 a17 a18 w K)) h) (fun e w h => ok43_2 hn hr he e w h) hr he
def F43 (x0 x1 : Value) (w : World) (K : V1) : Prop := NJ x0 x1 w K
def G43 : FnT := fun args w K => on2 (fun x0 x1 => F43 x0 x1 w K) args
theorem c43 {x0 x1 : Value} {w : World} {K : V1} (h : F43 x0 x1 w K) : ai G43 [x0, x1] w K := aj (dm (p := fun x0 x1 => F43 x0 x1 w K) h)
theorem ok43 : OkF Tryz.prog 43 G43 := by
  refine aO (aN (l := T43) ⟨ok20, ok72, ok73, ok74, trivial⟩) mixed (n := fuel) Tryz.func43 Tryz.call43 fun args w K h => ?_
  obtain ⟨x0, x1, rfl, hh⟩ := dn h
  unfold F43 at hh
  exact az (c := ah Tryz.f43) (by kernel_rfl) (by kernel_rfl) (ok43_1 (fun _ _ h => h) (fun _ _ h => h) (fun _ _ _ h => h) (dD [x0, x1]) w hh)
def T44 : List (Nat × FnT) := [(11, G11), (20, G20), (72, G72), (73, G73)]
def F44 (x0 x1 : Value) (w : World) (K : V1) : Prop :=
bT 135 x0 w fun v2 w1 =>
aa (ldN 3 v2 w1.drew) fun v3 =>
aa (cZ x1) fun v4 =>
aa (ae 0 v4) fun v5 =>
aa (ld1 v5 w1.drew) fun v6 =>
ai G20 [v6] w1.drew fun v8 w7 =>
fok true (ldN 3 v2 w7) v3 ∧ (ai G73 [v8] w7 fun v10 w9 =>
fok true (ldN 3 v2 w9) v3 ∧ (ai G72 [v3, v10] w9 fun v12 w11 =>
aa (bI v12) fun v13 =>
ai G11 [v13] w11 fun v15 w14 =>
aB Tryz.prog 32 1 [(0, v15)] w14 fun v17 w16 =>
K (.tuple #[v17, (.int .i64 0)]) w16))
def G44 : FnT := fun args w K => on2 (fun x0 x1 => F44 x0 x1 w K) args
theorem c44 {x0 x1 : Value} {w : World} {K : V1} (h : F44 x0 x1 w K) : ai G44 [x0, x1] w K := aj (dm (p := fun x0 x1 => F44 x0 x1 w K) h)
theorem ok44 : OkF Tryz.prog 44 G44 := by
  refine aO (aN (l := T44) ⟨Q5, ok20, ok72, ok73, trivial⟩) mixed (n := fuel) Tryz.func44 Tryz.call44 fun args w K h => ?_
  obtain ⟨x0, x1, rfl, hh⟩ := dn h
  exact az (c := ah Tryz.f44) (by kernel_rfl) (by kernel_rfl) (Eq.mp (by kernel_rfl) hh)
def G47 : FnT := fun _ _ _ => False
theorem ok47 : OkF Tryz.prog 47 G47 := fun _ _ _ h => h.elim
def T46 : List (Nat × FnT) := [(47, G47)]
def F46 (x0 : Value) (w : World) (K : V1) : Prop :=
ai G47 [x0] w fun v2 w1 =>
K (.tuple #[v2, (.int .i64 0)]) w1
def G46 : FnT := fun args w K => on1 (fun x0 => F46 x0 w K) args
theorem ok46 : OkF Tryz.prog 46 G46 := by
  refine aO (aN (l := T46) ⟨ok47, trivial⟩) mixed (n := fuel) Tryz.func46 Tryz.call46 fun args w K h => ?_
  obtain ⟨x0, rfl, hh⟩ := bJ h
  exact az (c := ah Tryz.f46) (by kernel_rfl) (by kernel_rfl) (Eq.mp (by kernel_rfl) hh)
def G75 : FnT := fun _ _ _ => False
theorem ok75 : OkF Tryz.prog 75 G75 := fun _ _ _ h => h.elim
def T9 : List (Nat × FnT) := [(24, G24), (43, G43), (44, G44), (46, G46), (75, G75)]
def F9 (x0 x1 : Value) (w : World) (K : V1) : Prop :=
ai G24 [x1] w fun v2 w1 =>
aa (aK v2 0) fun v3 =>
aa (aK v2 1) fun v4 =>
aY Tryz.prog 87 w1 fun v6 w5 =>
bF (st 1 v6 v3 w5) fun w7 =>
aa (dN v4) fun v9 =>
ifB v9 (
K (.tuple #[(.slice none 0 0), (.int .i64 300)]) w7) (
aa (ae 0 v6) fun v10 =>
aa (ld1 v10 w7) fun v11 =>
gP (au T9) v11 [x0] w7 fun v13 w12 =>
aa (aK v13 0) fun v14 =>
aa (aK v13 1) fun v15 =>
K (.tuple #[v14, v15]) w12)
def G9 : FnT := fun args w K => on2 (fun x0 x1 => F9 x0 x1 w K) args
theorem c9 {x0 x1 : Value} {w : World} {K : V1} (h : F9 x0 x1 w K) : ai G9 [x0, x1] w K := aj (dm (p := fun x0 x1 => F9 x0 x1 w K) h)
theorem ok9 : OkF Tryz.prog 9 G9 := by
  refine aO (aN (l := T9) ⟨ok24, ok43, ok44, ok46, ok75, trivial⟩) mixed (n := fuel) Tryz.func9 Tryz.call9 fun args w K h => ?_
  obtain ⟨x0, x1, rfl, hh⟩ := dn h
  exact az (c := ah Tryz.f9) (by kernel_rfl) (by kernel_rfl) (Eq.mp (by kernel_rfl) hh)
def Lh : List (Nat × FnT) := []
def FE (s3 : Value) (w : World) (K : V1) : Prop :=
K s3 w
def vQ (s3 : Value) (w : World) (K : V1) : Prop := FE s3 w K
theorem Xj {K : V1}
    (hn : HN (fun e w => K (e 2) w) kn) (hr : HR Tryz.prog [.tmp 2] K kr) (he : HE noE ke) :
    ∀ e w, vQ (e 3) w K → aA Tryz.prog (au Lh) 18 fuel ((flat (ah Tryz.f119)).drop 4) e w kn kr ke := by
  intro e w h
  unfold vQ at h
  have e1 : ∀ (_ : Unit), FE (e 3) w K = aA Tryz.prog (au Lh) 18 fuel ((flat (ah Tryz.f119)).drop 4) e w (fun e w => K (e 2) w) (aW Tryz.prog [.tmp 2] K) noE := by intro _; kernel_rfl
  exact bQ (Eq.mp (e1 ()) h) hn hr he
def FH (s3 s6 s7 s8 : Value) (w : World) (K : V1) (Y0 : V4) (Y1 : V1) : Prop :=
aa (bLt s8 s7) fun v1 =>
ifB v1 (
aa (bq 1 s6 s8) fun v2 =>
aa (ld1 v2 w) fun v3 =>
aa (bNe Tryz.prog 3 (.tmp 12) (.tmp 13) v3 s3) fun v4 =>
ifB v4 (
K v3 w) (
aa (bH s8 (.int .i64 1)) fun v5 =>
Y0 s3 s6 s7 v5 w)) (
Y1 s3 w)
def lQ : Nat → Value → Value → Value → Value → World → (V1) → Prop
  | 0, _, _, _, _, _, _ => False
  | n + 1, s3, s6, s7, s8, w, K => FH s3 s6 s7 s8 w K (fun a3 a6 a7 a8 w => lQ n a3 a6 a7 a8 w K) (fun a3 w => vQ a3 w K)
def FI (s3 s6 s7 s8 : Value) (w : World) (K : V1) : Prop := lQ fuel s3 s6 s7 s8 w K
theorem Xk {K : V1}
    (hn : HN (fun e w => K (e 2) w) kn) (hr : HR Tryz.prog [.tmp 2] K kr) (he : HE noE ke) :
    ∀ e w, FI (e 3) (e 6) (e 7) (e 8) w K → aA Tryz.prog (au Lh) 18 fuel ((flat (ah Tryz.f119)).drop 3) e w kn kr ke := by
  intro e w h
  unfold FI at h
  refine bM (id := 0) (body := (aU (bi (aV (flat (ah Tryz.f119)) 3)))) (l2 := (flat (ah Tryz.f119)).drop 4) (by kernel_rfl) ?_
  refine bV (FL := fun m e w => lQ m (e 3) (e 6) (e 7) (e 8) w K) (fr := aW Tryz.prog [.tmp 2] K) (fe := (bB 0 (fun e w => vQ (e 3) w K) noE)) (fun _ _ h => h) ?_ hr (bD (fun e w h => Xj hn hr he e w h) he) fuel e w h
  intro m e w h
  have h : lQ (m + 1) (e 3) (e 6) (e 7) (e 8) w K := h
  rw [lQ] at h
  have e1 : ∀ (Y0 : V4) (Y1 : V1), FH (e 3) (e 6) (e 7) (e 8) w K Y0 Y1 = aA Tryz.prog (au Lh) 18 fuel (flat (aU (bi (aV (flat (ah Tryz.f119)) 3)))) e w (fun e w => Y0 (e 3) (e 6) (e 7) (e 8) w) (aW Tryz.prog [.tmp 2] K) (bB 0 (fun e w => Y1 (e 3) w) noE) := by intro Y0 Y1; kernel_rfl
  exact Eq.mp (e1 (fun a3 a6 a7 a8 w => lQ m a3 a6 a7 a8 w K) (fun a3 w => vQ a3 w K)) h
def FJ (s0 : Value) (w : World) (_K : V1) (Y0 : V4) : Prop :=
aa (bI s0) fun v6 =>
Y0 (.int .i64 0) s0 v6 (.int .i64 0) w
def FK (s0 : Value) (w : World) (K : V1) : Prop := FJ s0 w K (fun a3 a6 a7 a8 w => FI a3 a6 a7 a8 w K)
theorem Xl {K : V1}
    (hn : HN (fun e w => K (e 2) w) kn) (hr : HR Tryz.prog [.tmp 2] K kr) (he : HE noE ke) :
    ∀ e w, FK (e 0) w K → aA Tryz.prog (au Lh) 18 fuel ((flat (ah Tryz.f119)).drop 0) e w kn kr ke := by
  intro e w h
  unfold FK at h
  have e1 : ∀ (Y0 : V4), FJ (e 0) w K Y0 = aA Tryz.prog (au Lh) 18 fuel (((flat (ah Tryz.f119)).drop 0).take 3) e w (fun e w => Y0 (e 3) (e 6) (e 7) (e 8) w) (aW Tryz.prog [.tmp 2] K) noE := by intro Y0; kernel_rfl
  exact seg 3 (Eq.mp (e1 (fun a3 a6 a7 a8 w => FI a3 a6 a7 a8 w K)) h) (fun e w h => Xk hn hr he e w h) hr he
def UZ (x0 : Value) (w : World) (K : V1) : Prop := FK x0 w K
def Ue : FnT := fun args w K => on1 (fun x0 => UZ x0 w K) args
theorem c119 {x0 : Value} {w : World} {K : V1} (h : UZ x0 w K) : ai Ue [x0] w K := aj (bL (p := fun x0 => UZ x0 w K) h)
theorem ok119 : OkF Tryz.prog 119 Ue := by
  refine aO (aN (l := Lh) trivial) mixed (n := fuel) Tryz.func119 Tryz.call119 fun args w K h => ?_
  obtain ⟨x0, rfl, hh⟩ := bJ h
  unfold UZ at hh
  exact az (c := ah Tryz.f119) (by kernel_rfl) (by kernel_rfl) (Xl (fun _ _ h => h) (fun _ _ h => h) (fun _ _ _ h => h) (dD [x0]) w hh)
def Yh : List (Nat × FnT) := [(114, Ui), (115, Uh), (116, Ug), (117, Uf), (119, Ue), (120, IY), (125, TZ), (169, TL), (172, TJ), (174, TI)]
def Ze (x0 x1 x2 : Value) (w : World) (K : V1) : Prop :=
bT 48 x0 w fun v2 w1 =>
bT 48 x1 w1 fun v4 w3 =>
aa (ld1 x2 w3.drew) fun v5 =>
aa (ldN 11 v4 w3.drew) fun v6 =>
aa (ld1 x2 w3.drew) fun v7 =>
aa (ldN 11 v2 w3.drew) fun v8 =>
aa (ae 0 v2) fun v9 =>
aa (ld1 v9 w3.drew) fun v10 =>
aa (ae 0 v4) fun v11 =>
aa (ld1 v11 w3.drew) fun v12 =>
gP (au Yh) v5 [v6] w3.drew fun v14 w13 =>
(fok true (ld1 x2 w13) v7 ∧ fok true (ldN 11 v2 w13) v8 ∧ fok true (ld1 v9 w13) v10 ∧ fok true (ld1 v11 w13) v12) ∧ (gP (au Yh) v7 [v8] w13 fun v16 w15 =>
(fok true (ld1 v9 w15) v10 ∧ fok true (ld1 v11 w15) v12) ∧ (ai IY [v14, v16] w15 fun v18 w17 =>
(fok true (ld1 v9 w17) v10 ∧ fok true (ld1 v11 w17) v12) ∧ (ai IY [v10, v12] w17 fun v20 w19 =>
aB Tryz.prog 23 2 [(0, v18), (1, v20)] w19 fun v22 w21 =>
ai Ue [v22] w21 fun v24 w23 =>
K v24 w23)))
def G118 : FnT := fun args w K => on3 (fun x0 x1 x2 => Ze x0 x1 x2 w K) args
theorem c118 {x0 x1 x2 : Value} {w : World} {K : V1} (h : Ze x0 x1 x2 w K) : ai G118 [x0, x1, x2] w K := aj (kT (p := fun x0 x1 x2 => Ze x0 x1 x2 w K) h)
theorem ok118 : OkF Tryz.prog 118 G118 := by
  refine aO (aN (l := Yh) ⟨ZR, ZQ, ZP, ZO, ok119, ZN, ZL, ZJ, ZI, ZH, trivial⟩) mixed (n := fuel) Tryz.func118 Tryz.call118 fun args w K h => ?_
  obtain ⟨x0, x1, x2, rfl, hh⟩ := kV h
  exact az (c := ah Tryz.f118) (by kernel_rfl) (by kernel_rfl) (Eq.mp (by kernel_rfl) hh)
end Go.Proofs.Gong

/- Qlaw -/
namespace Go.Proofs.Gong
open Go Go.Sx Go.Proofs
set_option linter.all false
set_option maxRecDepth 100000
set_option maxHeartbeats 4000000
variable {kn kr : ET} {ke : JT}
def T16 : List (Nat × FnT) := []
def F16 (w : World) (K : V1) : Prop :=
aY Tryz.prog 55 w fun v2 w1 =>
aa (aD Tryz.prog 55 [(1, (.int .i64 40)), (2, (.int .i64 5)), (4, (.int .i64 40)), (5, (.int .i64 1)), (6, (.int .i64 9))]) fun v3 =>
bF (st 10 v2 v3 w1) fun w4 =>
aa (ldN 10 v2 w4) fun v6 =>
K v6 w4
def G16 : FnT := fun args w K => on0 (F16 w K) args
theorem c16 {w : World} {K : V1} (h : F16 w K) : ai G16 [] w K := aj (QL (p := F16 w K) h)
theorem ok16 : OkF Tryz.prog 16 G16 := by
  refine aO (aN (l := T16) trivial) mixed (n := fuel) Tryz.func16 Tryz.call16 fun args w K h => ?_
  obtain ⟨rfl, hh⟩ := Q7 h
  exact az (c := ah Tryz.f16) (by kernel_rfl) (by kernel_rfl) (Eq.mp (by kernel_rfl) hh)
def T6 : List (Nat × FnT) := [(16, G16), (17, G17), (18, G18), (19, G19), (20, G20), (21, G21), (22, G22), (23, G23)]
def Uo (s5 s7 : Value) (w : World) (K : V1) : Prop :=
K (.tuple #[s5, s7]) w
def P8 (s5 s7 : Value) (w : World) (K : V1) : Prop := Uo s5 s7 w K
theorem ok6_5 {K : V1}
    (hn : HN (fun e w => K (.tuple #[(e 2), (e 3)]) w) kn) (hr : HR Tryz.prog [.tmp 2, .tmp 3] K kr) (he : HE noE ke) :
    ∀ e w, P8 (e 5) (e 7) w K → aA Tryz.prog (au T6) 122 fuel ((flat (ah Tryz.f6)).drop 13) e w kn kr ke := by
  intro e w h
  unfold P8 at h
  have e1 : ∀ (_ : Unit), Uo (e 5) (e 7) w K = aA Tryz.prog (au T6) 122 fuel ((flat (ah Tryz.f6)).drop 13) e w (fun e w => K (.tuple #[(e 2), (e 3)]) w) (aW Tryz.prog [.tmp 2, .tmp 3] K) noE := by intro _; kernel_rfl
  exact bQ (Eq.mp (e1 ()) h) hn hr he
def ND (s5 s7 s9 s12 : Value) (w : World) (_K : V1) (Y0 : V4) (Y1 : V2) : Prop :=
aa (bI s9) fun v1 =>
aa (bLt s12 v1) fun v2 =>
ifB v2 (
aa (cZ s5) fun v3 =>
aa (ae 1 v3) fun v4 =>
aa (ld1 v4 w.drew) fun v5 =>
aa (bq 11 s9 s12) fun v6 =>
aa (ldN 11 v6 w.drew) fun v7 =>
ai G22 [v5, (.int .i64 1), v7] w.drew fun _ w8 =>
aa (cZ s7) fun v10 =>
aa (ae 1 v10) fun v11 =>
aa (ld1 v11 w8.drew) fun v12 =>
aa (bq 11 s9 s12) fun v13 =>
aa (ldN 11 v13 w8.drew) fun v14 =>
ai G23 [v12, (.int .i64 1), v14] w8.drew fun _ w15 =>
aa (bH s12 (.int .i64 1)) fun v17 =>
Y0 s5 s7 s9 v17 w15) (
Y1 s5 s7 w)
def tZ : Nat → Value → Value → Value → Value → World → (V1) → Prop
  | 0, _, _, _, _, _, _ => False
  | n + 1, s5, s7, s9, s12, w, K => ND s5 s7 s9 s12 w K (fun a5 a7 a9 a12 w => tZ n a5 a7 a9 a12 w K) (fun a5 a7 w => P8 a5 a7 w K)
def Uq (s5 s7 s9 s12 : Value) (w : World) (K : V1) : Prop := tZ fuel s5 s7 s9 s12 w K
theorem ok6_4 {K : V1}
    (hn : HN (fun e w => K (.tuple #[(e 2), (e 3)]) w) kn) (hr : HR Tryz.prog [.tmp 2, .tmp 3] K kr) (he : HE noE ke) :
    ∀ e w, Uq (e 5) (e 7) (e 9) (e 12) w K → aA Tryz.prog (au T6) 122 fuel ((flat (ah Tryz.f6)).drop 12) e w kn kr ke := by
  intro e w h
  unfold Uq at h
  refine bM (id := 2) (body := (aU (bi (aV (flat (ah Tryz.f6)) 12)))) (l2 := (flat (ah Tryz.f6)).drop 13) (by kernel_rfl) ?_
  refine bV (FL := fun m e w => tZ m (e 5) (e 7) (e 9) (e 12) w K) (fr := aW Tryz.prog [.tmp 2, .tmp 3] K) (fe := (bB 2 (fun e w => P8 (e 5) (e 7) w K) noE)) (fun _ _ h => h) ?_ hr (bD (fun e w h => ok6_5 hn hr he e w h) he) fuel e w h
  intro m e w h
  have h : tZ (m + 1) (e 5) (e 7) (e 9) (e 12) w K := h
  rw [tZ] at h
  have e1 : ∀ (Y0 : V4) (Y1 : V2), ND (e 5) (e 7) (e 9) (e 12) w K Y0 Y1 = aA Tryz.prog (au T6) 122 fuel (flat (aU (bi (aV (flat (ah Tryz.f6)) 12)))) e w (fun e w => Y0 (e 5) (e 7) (e 9) (e 12) w) (aW Tryz.prog [.tmp 2, .tmp 3] K) (bB 2 (fun e w => Y1 (e 5) (e 7) w) noE) := by intro Y0 Y1; kernel_rfl
  exact Eq.mp (e1 (fun a5 a7 a9 a12 w => tZ m a5 a7 a9 a12 w K) (fun a5 a7 w => P8 a5 a7 w K)) h
def Ur (s5 s7 s9 : Value) (w : World) (_K : V1) (Y0 : V4) : Prop :=
aa (cZ s7) fun v18 =>
aa (ae 0 v18) fun v19 =>
aa (ld1 v19 w) fun v20 =>
aa (cZ v20) fun v21 =>
aa (ae 3 v21) fun v22 =>
aa (ld1 v22 w) fun v23 =>
ai G19 [v23, s9, (.int .i64 1099511627776)] w fun _ w24 =>
aa (cZ s5) fun v26 =>
aa (ae 0 v26) fun v27 =>
aa (ld1 v27 w24) fun v28 =>
ai G20 [v28] w24 fun v30 w29 =>
ai G21 [v30, s9, (.int .i64 1099511627776)] w29 fun _ w31 =>
Y0 s5 s7 s9 (.int .i64 0) w31
def Bn (s5 s7 s9 : Value) (w : World) (K : V1) : Prop := Ur s5 s7 s9 w K (fun a5 a7 a9 a12 w => Uq a5 a7 a9 a12 w K)
theorem ok6_3 {K : V1}
    (hn : HN (fun e w => K (.tuple #[(e 2), (e 3)]) w) kn) (hr : HR Tryz.prog [.tmp 2, .tmp 3] K kr) (he : HE noE ke) :
    ∀ e w, Bn (e 5) (e 7) (e 9) w K → aA Tryz.prog (au T6) 122 fuel ((flat (ah Tryz.f6)).drop 9) e w kn kr ke := by
  intro e w h
  unfold Bn at h
  have e1 : ∀ (Y0 : V4), Ur (e 5) (e 7) (e 9) w K Y0 = aA Tryz.prog (au T6) 122 fuel (((flat (ah Tryz.f6)).drop 9).take 3) e w (fun e w => Y0 (e 5) (e 7) (e 9) (e 12) w) (aW Tryz.prog [.tmp 2, .tmp 3] K) noE := by intro Y0; kernel_rfl
  exact seg 3 (Eq.mp (e1 (fun a5 a7 a9 a12 w => Uq a5 a7 a9 a12 w K)) h) (fun e w h => ok6_4 hn hr he e w h) hr he
def NB (s0 s5 s7 s9 s10 : Value) (w : World) (_K : V1) (R5 : V5) : Prop :=
aa (bH s10 (.int .i64 1)) fun v33 =>
R5 s0 s5 s7 s9 v33 w
def Ja (s0 s5 s7 s9 s10 : Value) (w : World) (K : V1) (R5 : V5) : Prop := NB s0 s5 s7 s9 s10 w K R5
theorem ok6_7 (R5 : V5) {K : V1}
    (hn : HN (fun e w => R5 (e 0) (e 5) (e 7) (e 9) (e 10) w) kn) (hr : HR Tryz.prog [.tmp 2, .tmp 3] K kr) (he : HE (bB 0 (fun e w => Bn (e 5) (e 7) (e 9) w K) noE) ke) :
    ∀ e w, Ja (e 0) (e 5) (e 7) (e 9) (e 10) w K R5 → aA Tryz.prog (au T6) 122 fuel ((flat (aU (bi (aV (flat (ah Tryz.f6)) 8)))).drop 3) e w kn kr ke := by
  intro e w h
  unfold Ja at h
  have e1 : ∀ (_ : Unit), NB (e 0) (e 5) (e 7) (e 9) (e 10) w K R5 = aA Tryz.prog (au T6) 122 fuel ((flat (aU (bi (aV (flat (ah Tryz.f6)) 8)))).drop 3) e w (fun e w => R5 (e 0) (e 5) (e 7) (e 9) (e 10) w) (aW Tryz.prog [.tmp 2, .tmp 3] K) (bB 0 (fun e w => Bn (e 5) (e 7) (e 9) w K) noE) := by intro _; kernel_rfl
  exact bQ (Eq.mp (e1 ()) h) hn hr he
def NC (s0 s5 s7 s9 s10 : Value) (w : World) (_K : V1) (R5 : V5) (Y0 : V5) (Y1 : V3) : Prop :=
aa (bI s0) fun v34 =>
aa (bLt s10 v34) fun v35 =>
aS (gd true v35) s10 fun v36 =>
Sx.stepG (gd true v35) (bLt v36 (.int .i64 30)) fun v37 =>
aa (aG v35 v37 (.bool false)) fun v38 =>
ifB v38 (
aa (bq 11 s0 s10) fun v39 =>
aa (ldN 11 v39 w.drew) fun v40 =>
(aB Tryz.prog 22 0 [] w.drew fun v42 w41 =>
fok true (ldN 11 v39 w41) v40 ∧ ((aJ Tryz.prog 22 22 v42 s9 w41 fun v44 w43 =>
fok true (ldN 11 v39 w43) v40 ∧ (aB Tryz.prog 22 1 [(0, v40)] w43 fun v46 w45 =>
aJ Tryz.prog 22 22 v44 v46 w45 fun v48 w47 =>
aa (cZ s7) fun v49 =>
aa (ae 0 v49) fun v50 =>
aa (ld1 v50 w47) fun v51 =>
aa (cZ v51) fun v52 =>
aa (ae 3 v52) fun v53 =>
aa (ld1 v53 w47) fun v54 =>
ai G19 [v54, v48, (.int .i64 1099511627776)] w47 fun v56 w55 =>
aa (bEq Tryz.prog 33 (.tmp 77) (.const (.int .i64 0)) v56 (.int .i64 0)) fun v57 =>
ifB v57 (
Y0 s0 s5 s7 v48 s10 w55) (
Y0 s0 s5 s7 s9 s10 w55))) ∧ (aB Tryz.prog 22 1 [(0, v40)] w41 fun v59 w58 =>
aJ Tryz.prog 22 22 v42 s9 w58 fun v61 w60 =>
fok true (ldN 11 v39 w60) v40 ∧ (aJ Tryz.prog 22 22 v61 v59 w60 fun v63 w62 =>
aa (cZ s7) fun v64 =>
aa (ae 0 v64) fun v65 =>
aa (ld1 v65 w62) fun v66 =>
aa (cZ v66) fun v67 =>
aa (ae 3 v67) fun v68 =>
aa (ld1 v68 w62) fun v69 =>
ai G19 [v69, v63, (.int .i64 1099511627776)] w62 fun v71 w70 =>
aa (bEq Tryz.prog 33 (.tmp 77) (.const (.int .i64 0)) v71 (.int .i64 0)) fun v72 =>
ifB v72 (
Y0 s0 s5 s7 v63 s10 w70) (
Y0 s0 s5 s7 s9 s10 w70))))) ∧ (aB Tryz.prog 22 1 [(0, v40)] w.drew fun v74 w73 =>
aB Tryz.prog 22 0 [] w73 fun v76 w75 =>
fok true (ldN 11 v39 w75) v40 ∧ (aJ Tryz.prog 22 22 v76 s9 w75 fun v78 w77 =>
fok true (ldN 11 v39 w77) v40 ∧ (aJ Tryz.prog 22 22 v78 v74 w77 fun v80 w79 =>
aa (cZ s7) fun v81 =>
aa (ae 0 v81) fun v82 =>
aa (ld1 v82 w79) fun v83 =>
aa (cZ v83) fun v84 =>
aa (ae 3 v84) fun v85 =>
aa (ld1 v85 w79) fun v86 =>
ai G19 [v86, v80, (.int .i64 1099511627776)] w79 fun v88 w87 =>
aa (bEq Tryz.prog 33 (.tmp 77) (.const (.int .i64 0)) v88 (.int .i64 0)) fun v89 =>
ifB v89 (
Y0 s0 s5 s7 v80 s10 w87) (
Y0 s0 s5 s7 s9 s10 w87))))) (
Y1 s5 s7 s9 w)
def Un (s0 s5 s7 s9 s10 : Value) (w : World) (K : V1) (R5 : V5) : Prop := NC s0 s5 s7 s9 s10 w K R5 (fun a0 a5 a7 a9 a10 w => Ja a0 a5 a7 a9 a10 w K R5) (fun a5 a7 a9 w => Bn a5 a7 a9 w K)
theorem ok6_6 (R5 : V5) {K : V1}
    (hn : HN (fun e w => R5 (e 0) (e 5) (e 7) (e 9) (e 10) w) kn) (hr : HR Tryz.prog [.tmp 2, .tmp 3] K kr) (he : HE (bB 0 (fun e w => Bn (e 5) (e 7) (e 9) w K) noE) ke) :
    ∀ e w, Un (e 0) (e 5) (e 7) (e 9) (e 10) w K R5 → aA Tryz.prog (au T6) 122 fuel ((flat (aU (bi (aV (flat (ah Tryz.f6)) 8)))).drop 0) e w kn kr ke := by
  intro e w h
  unfold Un at h
  have e1 : ∀ (Y0 : V5) (Y1 : V3), NC (e 0) (e 5) (e 7) (e 9) (e 10) w K R5 Y0 Y1 = aA Tryz.prog (au T6) 122 fuel (((flat (aU (bi (aV (flat (ah Tryz.f6)) 8)))).drop 0).take 3) e w (fun e w => Y0 (e 0) (e 5) (e 7) (e 9) (e 10) w) (aW Tryz.prog [.tmp 2, .tmp 3] K) (bB 0 (fun e w => Y1 (e 5) (e 7) (e 9) w) noE) := by intro Y0 Y1; kernel_rfl
  exact seg 3 (Eq.mp (e1 (fun a0 a5 a7 a9 a10 w => Ja a0 a5 a7 a9 a10 w K R5) (fun a5 a7 a9 w => Bn a5 a7 a9 w K)) h) (fun e w h => ok6_7 R5 hn hr he e w h) hr he
def oN : Nat → Value → Value → Value → Value → Value → World → (V1) → Prop
  | 0, _, _, _, _, _, _, _ => False
  | n + 1, s0, s5, s7, s9, s10, w, K => Un s0 s5 s7 s9 s10 w K (fun a0 a5 a7 a9 a10 w => oN n a0 a5 a7 a9 a10 w K)
def Us (s0 s5 s7 s9 s10 : Value) (w : World) (K : V1) : Prop := oN fuel s0 s5 s7 s9 s10 w K
theorem ok6_2 {K : V1}
    (hn : HN (fun e w => K (.tuple #[(e 2), (e 3)]) w) kn) (hr : HR Tryz.prog [.tmp 2, .tmp 3] K kr) (he : HE noE ke) :
    ∀ e w, Us (e 0) (e 5) (e 7) (e 9) (e 10) w K → aA Tryz.prog (au T6) 122 fuel ((flat (ah Tryz.f6)).drop 8) e w kn kr ke := by
  intro e w h
  unfold Us at h
  refine bM (id := 0) (body := (aU (bi (aV (flat (ah Tryz.f6)) 8)))) (l2 := (flat (ah Tryz.f6)).drop 9) (by kernel_rfl) ?_
  refine bV (FL := fun m e w => oN m (e 0) (e 5) (e 7) (e 9) (e 10) w K) (fr := aW Tryz.prog [.tmp 2, .tmp 3] K) (fe := (bB 0 (fun e w => Bn (e 5) (e 7) (e 9) w K) noE)) (fun _ _ h => h) ?_ hr (bD (fun e w h => ok6_3 hn hr he e w h) he) fuel e w h
  intro m e w h
  have h : oN (m + 1) (e 0) (e 5) (e 7) (e 9) (e 10) w K := h
  rw [oN] at h
  exact ok6_6 (fun a0 a5 a7 a9 a10 w => oN m a0 a5 a7 a9 a10 w K) (fun _ _ h => h) (fun _ _ h => h) (fun _ _ _ h => h) e w h
def Ut (s0 : Value) (w : World) (K : V1) (Y0 : V5) : Prop :=
ai G16 [] w fun v91 w90 =>
aY Tryz.prog 55 w90 fun v93 w92 =>
bF (st 10 v93 v91 w92) fun w94 =>
aa (ldN 10 v93 w94) fun v96 =>
ai G17 [v96] w94 fun v98 w97 =>
aa (aK v98 0) fun v99 =>
aa (aK v98 1) fun v100 =>
aa (ae 0 v93) fun v101 =>
aa (ldN 3 v101 w97) fun v102 =>
aa (ae 3 v93) fun v103 =>
aa (ld1 v103 w97) fun v104 =>
aa (ae 4 v93) fun v105 =>
aa (ld1 v105 w97) fun v106 =>
aa (ae 6 v93) fun v107 =>
aa (ld1 v107 w97) fun v108 =>
aa (ae 7 v93) fun v109 =>
aa (ld1 v109 w97) fun v110 =>
aa (ae 8 v93) fun v111 =>
aa (ld1 v111 w97) fun v112 =>
aa (aD Tryz.prog 61 [(0, v102), (1, v104), (2, v106), (4, v108), (5, v110), (6, v112)]) fun v113 =>
ai G18 [v113] w97 fun v115 w114 =>
aa (aK v115 0) fun v116 =>
aa (aK v115 1) fun v117 =>
aa (bEq Tryz.prog 26 (.tmp 36) (.const (.pointer none)) v99 (.pointer none)) fun v118 =>
aS (gd false v118) v116 fun v119 =>
Sx.stepG (gd false v118) (bEq Tryz.prog 27 (.tmp 39) (.const (.pointer none)) v119 (.pointer none)) fun v120 =>
aa (aG v118 (.bool true) v120) fun v121 =>
aS (gd false v121) v100 fun v122 =>
Sx.stepG (gd false v121) (bNe Tryz.prog 33 (.tmp 43) (.const (.int .i64 0)) v122 (.int .i64 0)) fun v123 =>
aa (aG v121 (.bool true) v123) fun v124 =>
aS (gd false v124) v117 fun v125 =>
Sx.stepG (gd false v124) (bNe Tryz.prog 33 (.tmp 47) (.const (.int .i64 0)) v125 (.int .i64 0)) fun v126 =>
aa (aG v124 (.bool true) v126) fun v127 =>
ifB v127 (
K (.tuple #[(.pointer none), (.pointer none)]) w114) (
Y0 s0 v99 v116 (.slice none 0 0) (.int .i64 0) w114)
def Yt (s0 : Value) (w : World) (K : V1) : Prop := Ut s0 w K (fun a0 a5 a7 a9 a10 w => Us a0 a5 a7 a9 a10 w K)
theorem ok6_1 {K : V1}
    (hn : HN (fun e w => K (.tuple #[(e 2), (e 3)]) w) kn) (hr : HR Tryz.prog [.tmp 2, .tmp 3] K kr) (he : HE noE ke) :
    ∀ e w, Yt (e 0) w K → aA Tryz.prog (au T6) 122 fuel ((flat (ah Tryz.f6)).drop 0) e w kn kr ke := by
  intro e w h
  unfold Yt at h
  have e1 : ∀ (Y0 : V5), Ut (e 0) w K Y0 = aA Tryz.prog (au T6) 122 fuel (((flat (ah Tryz.f6)).drop 0).take 8) e w (fun e w => Y0 (e 0) (e 5) (e 7) (e 9) (e 10) w) (aW Tryz.prog [.tmp 2, .tmp 3] K) noE := by intro Y0; kernel_rfl
  exact seg 8 (Eq.mp (e1 (fun a0 a5 a7 a9 a10 w => Us a0 a5 a7 a9 a10 w K)) h) (fun e w h => ok6_2 hn hr he e w h) hr he
def F6 (x0 : Value) (w : World) (K : V1) : Prop := Yt x0 w K
def G6 : FnT := fun args w K => on1 (fun x0 => F6 x0 w K) args
theorem c6 {x0 : Value} {w : World} {K : V1} (h : F6 x0 w K) : ai G6 [x0] w K := aj (bL (p := fun x0 => F6 x0 w K) h)
theorem ok6 : OkF Tryz.prog 6 G6 := by
  refine aO (aN (l := T6) ⟨ok16, ok17, ok18, ok19, ok20, ok21, ok22, ok23, trivial⟩) mixed (n := fuel) Tryz.func6 Tryz.call6 fun args w K h => ?_
  obtain ⟨x0, rfl, hh⟩ := bJ h
  unfold F6 at hh
  exact az (c := ah Tryz.f6) (by kernel_rfl) (by kernel_rfl) (ok6_1 (fun _ _ h => h) (fun _ _ h => h) (fun _ _ _ h => h) (dD [x0]) w hh)
def T4 : List (Nat × FnT) := [(6, G6), (9, G9)]
def F4 (w : World) (K : V1) : Prop :=
aa (aD Tryz.prog 46 [(0, (.string ⟨#[110]⟩)), (1, (.string ⟨#[99]⟩)), (3, (.int .i64 4))]) fun v1 =>
aa (aD Tryz.prog 48 [(0, (.int .i64 1)), (1, v1), (2, (.int .i64 1))]) fun v2 =>
aa (aD Tryz.prog 46 [(0, (.string ⟨#[109]⟩)), (1, (.string ⟨#[99]⟩)), (3, (.int .i64 3))]) fun v3 =>
aa (aD Tryz.prog 48 [(0, (.int .i64 2)), (1, v3), (2, (.int .i64 1))]) fun v4 =>
aB Tryz.prog 22 2 [(0, v2), (1, v4)] w fun v6 w5 =>
ai G6 [v6] w5 fun v8 w7 =>
aa (aK v8 0) fun v9 =>
aa (aK v8 1) fun _ =>
aa (bEq Tryz.prog 26 (.tmp 14) (.const (.pointer none)) v9 (.pointer none)) fun v11 =>
ifB v11 (
K (.bool false) w7) (
ai G9 [v9, (.string ⟨#[108, 105, 115, 116, 32, 108, 101, 118, 101, 108, 32, 52, 32, 111, 114, 100, 101, 114, 32, 108, 97, 115, 116, 32, 108, 105, 109, 105, 116, 32, 49, 48]⟩)] w7 fun v13 w12 =>
aa (aK v13 0) fun v14 =>
aa (aK v13 1) fun v15 =>
aa (bEq Tryz.prog 33 (.tmp 21) (.const (.int .i64 0)) v15 (.int .i64 0)) fun v16 =>
aS (gd true v16) v14 fun v17 =>
Sx.stepG (gd true v16) (bI v17) fun v18 =>
Sx.stepG (gd true v16) (bEq Tryz.prog 3 (.tmp 25) (.const (.int .i64 1)) v18 (.int .i64 1)) fun v19 =>
aa (aG v16 v19 (.bool false)) fun v20 =>
aS (gd true v20) v14 fun v21 =>
Sx.stepG (gd true v20) (bq 1 v21 (.int .i64 0)) fun v22 =>
Sx.stepG (gd true v20) (ld1 v22 w12) fun v23 =>
Sx.stepG (gd true v20) (bEq Tryz.prog 9 (.tmp 31) (.const (.string ⟨#[49, 32, 52, 32, 49, 32, 49, 57, 55, 48, 45, 48, 49, 45, 48, 49, 84, 48, 48, 58, 48, 48, 58, 48, 48, 90, 32, 49, 57, 55, 48, 45, 48, 49, 45, 48, 49, 84, 48, 48, 58, 48, 48, 58, 48, 48, 90, 32, 45, 32, 34, 110, 34, 32, 34, 99, 34, 32, 34, 34, 32, 34, 34]⟩)) v23 (.string ⟨#[49, 32, 52, 32, 49, 32, 49, 57, 55, 48, 45, 48, 49, 45, 48, 49, 84, 48, 48, 58, 48, 48, 58, 48, 48, 90, 32, 49, 57, 55, 48, 45, 48, 49, 45, 48, 49, 84, 48, 48, 58, 48, 48, 58, 48, 48, 90, 32, 45, 32, 34, 110, 34, 32, 34, 99, 34, 32, 34, 34, 32, 34, 34]⟩)) fun v24 =>
aa (aG v20 v24 (.bool false)) fun v25 =>
K v25 w12)
def G4 : FnT := fun args w K => on0 (F4 w K) args
theorem c4 {w : World} {K : V1} (h : F4 w K) : ai G4 [] w K := aj (QL (p := F4 w K) h)
theorem ok4 : OkF Tryz.prog 4 G4 := by
  refine aO (aN (l := T4) ⟨ok6, ok9, trivial⟩) mixed (n := fuel) Tryz.func4 Tryz.call4 fun args w K h => ?_
  obtain ⟨rfl, hh⟩ := Q7 h
  exact az (c := ah Tryz.f4) (by kernel_rfl) (by kernel_rfl) (Eq.mp (by kernel_rfl) hh)
def T5 : List (Nat × FnT) := []
def NE (w : World) (K : V1) : Prop :=
K (.bool true) w
def LJ (w : World) (K : V1) : Prop := NE w K
theorem ok5_3 {K : V1}
    (hn : HN (fun e w => K (e 2) w) kn) (hr : HR Tryz.prog [.tmp 2] K kr) (he : HE noE ke) :
    ∀ e w, LJ w K → aA Tryz.prog (au T5) 53 fuel ((flat (ah Tryz.f5)).drop 3) e w kn kr ke := by
  intro e w h
  unfold LJ at h
  have e1 : ∀ (_ : Unit), NE w K = aA Tryz.prog (au T5) 53 fuel ((flat (ah Tryz.f5)).drop 3) e w (fun e w => K (e 2) w) (aW Tryz.prog [.tmp 2] K) noE := by intro _; kernel_rfl
  exact bQ (Eq.mp (e1 ()) h) hn hr he
def NF (s0 s3 : Value) (w : World) (K : V1) (Y0 : V2) (Y1 : V0) : Prop :=
aa (bI s0) fun v1 =>
aa (bLt s3 v1) fun v2 =>
aS (gd true v2) s3 fun v3 =>
Sx.stepG (gd true v2) (bLt v3 (.int .i64 30)) fun v4 =>
aa (aG v2 v4 (.bool false)) fun v5 =>
ifB v5 (
aa (bq 11 s0 s3) fun v6 =>
aa (ae 1 v6) fun v7 =>
aa (ae 4 v7) fun v8 =>
aa (ld1 v8 w.drew) fun v9 =>
aa (ik v9) fun v10 =>
aa (bq 11 s0 s3) fun v11 =>
aa (ae 1 v11) fun v12 =>
aa (ae 0 v12) fun v13 =>
aa (ld1 v13 w.drew) fun v14 =>
aa (ik v14) fun v15 =>
aa (bH v10 v15) fun v16 =>
aa (bq 11 s0 s3) fun v17 =>
aa (ae 1 v17) fun v18 =>
aa (ae 1 v18) fun v19 =>
aa (ld1 v19 w.drew) fun v20 =>
aa (ik v20) fun v21 =>
aa (bH v16 v21) fun v22 =>
aa (bq 11 s0 s3) fun v23 =>
aa (ae 1 v23) fun v24 =>
aa (ae 2 v24) fun v25 =>
aa (ld1 v25 w.drew) fun v26 =>
aa (ik v26) fun v27 =>
aa (bH v22 v27) fun v28 =>
aa (bq 11 s0 s3) fun v29 =>
aa (ae 10 v29) fun v30 =>
aa (ld1 v30 w.drew) fun v31 =>
aa (ik v31) fun v32 =>
aa (bH v28 v32) fun v33 =>
aa (bGt v33 (.int .i64 2000)) fun v34 =>
ifB v34 (
K (.bool false) w.drew) (
aa (bH s3 (.int .i64 1)) fun v35 =>
Y0 s0 v35 w.drew)) (
Y1 w)
def uf : Nat → Value → Value → World → (V1) → Prop
  | 0, _, _, _, _ => False
  | n + 1, s0, s3, w, K => NF s0 s3 w K (fun a0 a3 w => uf n a0 a3 w K) (fun w => LJ w K)
def Uu (s0 s3 : Value) (w : World) (K : V1) : Prop := uf fuel s0 s3 w K
theorem ok5_2 {K : V1}
    (hn : HN (fun e w => K (e 2) w) kn) (hr : HR Tryz.prog [.tmp 2] K kr) (he : HE noE ke) :
    ∀ e w, Uu (e 0) (e 3) w K → aA Tryz.prog (au T5) 53 fuel ((flat (ah Tryz.f5)).drop 2) e w kn kr ke := by
  intro e w h
  unfold Uu at h
  refine bM (id := 0) (body := (aU (bi (aV (flat (ah Tryz.f5)) 2)))) (l2 := (flat (ah Tryz.f5)).drop 3) (by kernel_rfl) ?_
  refine bV (FL := fun m e w => uf m (e 0) (e 3) w K) (fr := aW Tryz.prog [.tmp 2] K) (fe := (bB 0 (fun e w => LJ w K) noE)) (fun _ _ h => h) ?_ hr (bD (fun e w h => ok5_3 hn hr he e w h) he) fuel e w h
  intro m e w h
  have h : uf (m + 1) (e 0) (e 3) w K := h
  rw [uf] at h
  have e1 : ∀ (Y0 : V2) (Y1 : V0), NF (e 0) (e 3) w K Y0 Y1 = aA Tryz.prog (au T5) 53 fuel (flat (aU (bi (aV (flat (ah Tryz.f5)) 2)))) e w (fun e w => Y0 (e 0) (e 3) w) (aW Tryz.prog [.tmp 2] K) (bB 0 (fun e w => Y1 w) noE) := by intro Y0 Y1; kernel_rfl
  exact Eq.mp (e1 (fun a0 a3 w => uf m a0 a3 w K) (fun w => LJ w K)) h
def Uv (s0 : Value) (w : World) (_K : V1) (Y0 : V2) : Prop :=
Y0 s0 (.int .i64 0) w
def Yu (s0 : Value) (w : World) (K : V1) : Prop := Uv s0 w K (fun a0 a3 w => Uu a0 a3 w K)
theorem ok5_1 {K : V1}
    (hn : HN (fun e w => K (e 2) w) kn) (hr : HR Tryz.prog [.tmp 2] K kr) (he : HE noE ke) :
    ∀ e w, Yu (e 0) w K → aA Tryz.prog (au T5) 53 fuel ((flat (ah Tryz.f5)).drop 0) e w kn kr ke := by
  intro e w h
  unfold Yu at h
  have e1 : ∀ (Y0 : V2), Uv (e 0) w K Y0 = aA Tryz.prog (au T5) 53 fuel (((flat (ah Tryz.f5)).drop 0).take 2) e w (fun e w => Y0 (e 0) (e 3) w) (aW Tryz.prog [.tmp 2] K) noE := by intro Y0; kernel_rfl
  exact seg 2 (Eq.mp (e1 (fun a0 a3 w => Uu a0 a3 w K)) h) (fun e w h => ok5_2 hn hr he e w h) hr he
def F5 (x0 : Value) (w : World) (K : V1) : Prop := Yu x0 w K
def G5 : FnT := fun args w K => on1 (fun x0 => F5 x0 w K) args
theorem c5 {x0 : Value} {w : World} {K : V1} (h : F5 x0 w K) : ai G5 [x0] w K := aj (bL (p := fun x0 => F5 x0 w K) h)
theorem ok5 : OkF Tryz.prog 5 G5 := by
  refine aO (aN (l := T5) trivial) mixed (n := fuel) Tryz.func5 Tryz.call5 fun args w K h => ?_
  obtain ⟨x0, rfl, hh⟩ := bJ h
  unfold F5 at hh
  exact az (c := ah Tryz.f5) (by kernel_rfl) (by kernel_rfl) (ok5_1 (fun _ _ h => h) (fun _ _ h => h) (fun _ _ _ h => h) (dD [x0]) w hh)
end Go.Proofs.Gong

/- So4 -/
set_option linter.all false
namespace Go.Sx
open Go.Proofs
theorem pO {α : Type} [Inhabited α] {enc : α → Value} {w : World} {b o : Nat} {F : Array α} (i : Nat) : (Go.Sort.putRow enc w b o F).heap[i]? = if i = b then (w.heap[b]?).map (Go.Sort.onCells (Go.Sort.putCells enc o F)) else w.heap[i]? := by
  unfold Go.Sort.putRow Go.Sort.mapBlock
  simp only [Array.getElem?_modify]
  by_cases h : i = b
  · subst h; simp
  · rw [if_neg (fun e => h e.symm), if_neg h]
end Go.Sx

/- So9 -/
set_option linter.all false
namespace Go.Sx
open Go.Proofs
theorem SF (l : List (List UInt8)) : l.flatMap cSt = l.map encStr := by
  induction l with
  | nil => rfl
  | cons a l ih => simp only [List.flatMap_cons, List.map_cons, ih]; rfl
theorem sortWS {w : World} {b o q : Nat} {a : Array Value} {ty : TypeId} {l l' : List (List UInt8)} {os : Array Obj} (hb : w.heap[b]? = some (.cells a ty (0, 0))) (hlen : l'.length = l.length) (ha : o + l.length ≤ a.size) :
    ∃ a' : Array Value, (Go.Sort.grow (Go.Sort.putRow encStr (Go.Sort.ahead w q) b o l'.toArray) os).heap[b]? = some (.cells a' ty (0, 0)) ∧ a'.size = a.size ∧ l'.map encStr = (a'.toList.drop o).take l.length ∧
      Stp [b] [b] w (Go.Sort.grow (Go.Sort.putRow encStr (Go.Sort.ahead w q) b o l'.toArray) os) := by
  have hlt := dX hb
  have hs : (Go.Sort.putRow encStr (Go.Sort.ahead w q) b o l'.toArray).heap.size = w.heap.size := by
    unfold Go.Sort.putRow Go.Sort.mapBlock Go.Sort.ahead; simp
  have heap : ∀ i, i < w.heap.size → (Go.Sort.grow (Go.Sort.putRow encStr (Go.Sort.ahead w q) b o l'.toArray) os).heap[i]? = (Go.Sort.putRow encStr w b o l'.toArray).heap[i]? := by
    intro i hi
    show (((Go.Sort.putRow encStr (Go.Sort.ahead w q) b o l'.toArray).heap) ++ os)[i]? = _
    rw [Array.getElem?_append_left (by rw [hs]; exact hi), pO, pO]
    rfl
  refine ⟨Go.Sort.putCells encStr o l'.toArray a, ?_, by simp [Go.Sort.putCells], ?_, ⟨⟨rfl, rfl, rfl, ?_, fun i hi hn => ?_⟩, fun x hx => .inl hx⟩⟩
  · rw [heap b hlt, pO, if_pos rfl, hb]; rfl
  · apply List.ext_getElem?
    intro i
    rw [List.getElem?_take, List.getElem?_map]
    by_cases hi : i < l.length
    · rw [if_pos hi, List.getElem?_drop]
      have h1 : o + i < a.size := by omega
      have h2 : i < l'.length := by omega
      rw [List.getElem?_eq_getElem h2, Array.getElem?_toList]
      simp only [Go.Sort.putCells, Array.getElem?_mapIdx, Array.getElem?_eq_getElem h1, Option.map_some]
      rw [if_pos ⟨by omega, by rw [List.size_toArray]; omega⟩]
      simp only [Nat.add_sub_cancel_left]
      rw [getElem!_pos _ _ (by simpa using h2)]
      simp
    · rw [if_neg hi, List.getElem?_eq_none (by omega)]; rfl
  · show _ ≤ (((Go.Sort.putRow encStr (Go.Sort.ahead w q) b o l'.toArray).heap) ++ os).size
    rw [Array.size_append, hs]; omega
  · rw [heap i hi, pO, if_neg (by simpa using hn)]
def nM (l : List (List UInt8)) : List (List UInt8) := l.mergeSort fun x y => decide (x ≤ y)
def KC (ty : TypeId) : FnT := fun args w K => ∃ (v : Value) (w0 : World) (L : List HP) (l : List (List UInt8)),
  args = [v] ∧ Sat w0 (LsH cSt 1 ty v l :: L) w ∧ l.length < 4611686018427387904 ∧ ∀ w', Sat w0 (LsH cSt 1 ty v (nM l) :: L) w' → K (.tuple #[]) w'
theorem Vu {P : Program} {ρt : Go.Shelf.Ren} {f : Nat} {ty : TypeId} (T : SlLaysM.n6 P ρt) (hf : ρt.f 6 = f) (ef : ∀ args w, (callFunc f args).run P w = .ok (.enter f args) w) : OkF P f (KC ty) := by
  subst hf
  intro args w K ⟨v, w0, L, l, ha, hs, hlen, hk⟩
  subst ha
  refine .inl ⟨ef _ _, ?_⟩
  obtain ⟨fp, hO', kk⟩ := Sat.own hs
  generalize hcs : l.flatMap cSt = cs at hO'
  generalize hn' : l.length = n at hO'
  cases hO' with
  | nil =>
    obtain rfl : l = [] := List.eq_nil_of_length_eq_zero hn'
    refine (AnyM.slices_Sort_string_none T none 0 w).mono fun e w' ⟨he, hw⟩ => ?_
    subst hw
    exact ⟨_, he, hk w' (by simpa [nM] using hs)⟩
  | blk hb hn ha hc =>
    rename_i b o cap a
    subst hn'
    have hH : Go.Sort.Holds encStr w b o l.toArray := by
      intro j hj
      have hj : j < l.length := by simpa using hj
      refine ⟨?_, by simp [World.frozen?, hb]⟩
      rw [cell_of hb, getElem!_pos _ _ (by simpa using hj)]
      have e1 : (l.map encStr)[j]? = a.toList[o + j]? := by
        rw [← SF, hcs, hc, List.getElem?_take, if_pos (by omega), List.getElem?_drop]
      rw [List.getElem?_map, List.getElem?_eq_getElem hj] at e1
      simpa using e1.symm
    refine (AnyM.slices_Sort_string T b o cap l w hH (dX hb) hlen).mono fun e w' ⟨he, q, os, hw⟩ => ?_
    have hlen' : (nM l).length = l.length := List.length_mergeSort _
    obtain ⟨a', hb', hs', hc', hst⟩ := sortWS (q := q) (os := os) hb hlen' (by omega : o + l.length ≤ a.size)
    refine ⟨_, he, hk w' ?_⟩
    rw [hw]
    have := kk _ [b] (.slice (some ⟨b, o, none⟩) l.length cap) l.length ((nM l).flatMap cSt) 1 ty (.blk hb' hn (by omega) (by rw [SF, hc', Nat.mul_one])) hst
    unfold LsH
    rw [hlen']; exact this
theorem Og {ty : TypeId} {v : Value} {l : List (List UInt8)} {w0 w : World} {L : List HP} {K : Value → World → Prop} (h : Sat w0 (LsH cSt 1 ty v l :: L) w) (hl : l.length < 4611686018427387904)
    (hK : ∀ w', Sat w0 (LsH cSt 1 ty v (nM l) :: L) w' → K (.tuple #[]) w') : ai (KC ty) [v] w K := aj ⟨v, w0, L, l, rfl, h, hl, hK⟩
theorem CSt9 : Cod cSt 1 := ⟨fun _ => rfl, fun _ => rfl, by omega⟩
section
variable {w0 w : World} {L : List HP} {P : Program}
theorem yieldT {n l D Bs N bytes : Nat} {tS tV : TypeId} {i2 i3 : Nat} {opsA opsB : Array Oper} {fn : FuncId} {a : Act} {e : Env} {ds : List Deferred} (hr : RelD 13 ds e a) (he2 : e 2 = ptr Bs)
    (fA : ∀ e w k, fP P nc opsA 13 opsA.toList e w k = k (put 13 e (some 5) (e 7)) w)
    (fB : ∀ e w k, fP P nc opsB 13 opsB.toList e w k = (aa (ld1 (e 2) w) fun s => aB P tS 1 [(0, e 5)] w fun s1 w1 => aJ P tS tS s s1 w1 fun s2 w2 => bF (st 1 (e 2) s2 w2) fun w3 => k (put 13 (put 13 (put 13 (put 13 (put 13 e (some 8) s) (some 9) (e 5)) (some 10) s1) (some 11) s2) none undef) w3))
    (uS : P.underlying tS = some (.slice tV)) (T : SlT P tS tV 1 bytes) (hS : nN P tS = true) (hb : N * bytes ≤ 140737488355328) (fb : ∀ x, dx P tV 1 [(0, kSt x)] = some (cSt x).toArray)
    {xs : List (List UInt8)} {x : List UInt8} {L' : List HP} {W : World} (hl : xs.length < N)
    (h : Sat w0 (JA cSt 1 tS tV l D Bs (iK fn a.tmps (.region i2 opsA false) (.block 1 (.region i3 opsB false)) D) xs :: L') W) :
    YieldAt Fence.wide n P l #[kSt x] W fun e W' => e = .returned (.bool true) ∧ Sat w0 (JA cSt 1 tS tV l D Bs (iK fn a.tmps (.region i2 opsA false) (.block 1 (.region i3 opsB false)) D) (xs ++ [x]) :: L') W' := by
  replace h := oq.1 h
  obtain ⟨sv, h⟩ := h
  have hry := run_yield (P := P) (args := #[kSt x]) h.blk rfl
  refine ⟨fn, a.tmps.setIfInBounds 7 (kSt x), .region i2 opsA false, .block 1 (.region i3 opsB false), by simpa [iK] using hry, roundIn_of_wpIn trivial ?_⟩
  have hr1 : RelD 13 [] (put 13 e (some 7) (kSt x)) { tmps := a.tmps.setIfInBounds 7 (kSt x), defers := [] } := by
    have := hr.put (some 7) (kSt x)
    exact ⟨this.sz, rfl, this.v⟩
  refine dP (Wid.round l) (k := fun e' w => e' 2 = ptr Bs ∧ e' 5 = kSt x ∧ Sat w0 (Blk l (.loop (iK fn a.tmps (.region i2 opsA false) (.block 1 (.region i3 opsB false)) D)) :: Blk D (.deferred (some [])) :: Cl Bs #[sv] tS :: LsH cSt 1 tV sv xs :: L') w) hr1 ?_ ?_
  · rw [fA]
    exact ⟨he2, rfl, h⟩
  rintro e1 w1 a1 hr1 ⟨he2, he5, h⟩
  refine ⟨_, run_beginRound h.blk rfl, ?_⟩
  have h2 : Sat w0 (Blk l (.loop { iK fn a.tmps (.region i2 opsA false) (.block 1 (.region i3 opsB false)) D with state := .busy }) :: Blk D (.deferred (some [])) :: Cl Bs #[sv] tS :: LsH cSt 1 tV sv xs :: L') (w1.putObj l (.loop { iK fn a.tmps (.region i2 opsA false) (.block 1 (.region i3 opsB false)) D with state := .busy })) := h.set _
  generalize w1.putObj l (.loop { iK fn a.tmps (.region i2 opsA false) (.block 1 (.region i3 opsB false)) D with state := .busy }) = W2 at h2 ⊢
  refine wpIn_block (dP (Wid.round l) (k := fun e w => ∃ sv', Sat w0 (Blk l (.loop { iK fn a.tmps (.region i2 opsA false) (.block 1 (.region i3 opsB false)) D with state := .busy }) :: Blk D (.deferred (some [])) :: Cl Bs #[sv'] tS :: LsH cSt 1 tV sv' (xs ++ [x]) :: L') w) hr1 ?_ ?_)
  · rw [fB, he2, he5]
    have h3 : Sat w0 (LsH cSt 1 tV sv xs :: Cl Bs #[sv] tS :: Blk l (.loop { iK fn a.tmps (.region i2 opsA false) (.block 1 (.region i3 opsB false)) D with state := .busy }) :: Blk D (.deferred (some [])) :: L') W2 := h2.get (.pick (.there (.there (.there .here))) (.pick (.there (.there .here)) (.pick .here (.pick .here .done))))
    have e1 : ld1 (ptr Bs) W2 = some sv := by
      have := cell_of h3.f1.cl (i := 0)
      simp only [ld1, ptr]; rw [this]; rfl
    refine ax e1 ?_
    refine iD (m := [x]) (f := cSt) (es := 1) CSt9 h3 uS (fb x) rfl fun s1 w h => ?_
    refine fI (f := cSt) (es := 1) (l := xs) (m := [x]) CSt9 h.f1 T hS (dw h) (by
      have h1 : xs.length + [x].length ≤ N := by simp; omega
      exact Nat.le_trans (Nat.mul_le_mul_right _ h1) hb) fun s2 w h => ?_
    have := fT h
    show bF (st 1 (.pointer (some ⟨Bs, 0, none⟩)) s2 w) _
    refine RL h fun _ h => ?_
    exact ⟨s2, h.get (.pick (.there (.there (.there .here))) (.pick (.there (.there (.there .here))) (.pick (.there (.there .here)) (.pick .here (.skip .done)))))⟩
  · rintro e2 w2 a2 hr2 ⟨sv', h⟩
    simp only [Exit.inBlock, roundPost]
    refine ⟨_, _, run_endRound none h.blk, rfl, oq.2 ⟨sv', ?_⟩⟩
    exact h.set _
theorem Bg {X : HP} {S : List (List UInt8) → Prop} {N : Nat} {fnF : Func} {f g bx bytes : Nat} {tS tV : TypeId} {i0 i1 i2 i3 i4 : Nat} {ops0 ops1 opsA opsB ops4 : Array Oper} (hf : P.funcs[f]? = some fnF) (hres : fnF.results = #[.tmp 4]) (hnt : fnF.ntmps = 13)
    (hb : fnF.body = some (.seq (.region i0 ops0 false) (.seq (.seq (.region i1 ops1 false) (.block 0 (.rangeFunc (.tmp 6) #[7] (.region i2 opsA false) (.block 1 (.region i3 opsB false))))) (.seq (.region i4 ops4 false) .ret))))
    (f0 : ∀ e w k, fP P nc ops0 13 ops0.toList e w k = (bT tS (e 0) w fun p w1 => k (put 13 (put 13 e (some 2) p) (some 4) (.slice none 0 0)) w1))
    (f1 : ∀ e w k, fP P nc ops1 13 ops1.toList e w k = k (put 13 e (some 6) (e 1)) w)
    (fA : ∀ e w k, fP P nc opsA 13 opsA.toList e w k = k (put 13 e (some 5) (e 7)) w)
    (fB : ∀ e w k, fP P nc opsB 13 opsB.toList e w k = (aa (ld1 (e 2) w) fun s => aB P tS 1 [(0, e 5)] w fun s1 w1 => aJ P tS tS s s1 w1 fun s2 w2 => bF (st 1 (e 2) s2 w2) fun w3 => k (put 13 (put 13 (put 13 (put 13 (put 13 e (some 8) s) (some 9) (e 5)) (some 10) s1) (some 11) s2) none undef) w3))
    (f4 : ∀ e w k, fP P nc ops4 13 ops4.toList e w k = (aa (ld1 (e 2) w) fun s => k (put 13 (put 13 e (some 12) s) (some 4) s) w))
    (uS : P.underlying tS = some (.slice tV)) (T : SlT P tS tV 1 bytes) (hS : nN P tS = true) (hbd : N * bytes ≤ 140737488355328) (fb : ∀ x, dx P tV 1 [(0, kSt x)] = some (cSt x).toArray)
    (eg : ∀ args w, (callFunc g args).run P w = .ok (.enter g args) w)
    (hI : ∀ (l : Nat) (J : List (List UInt8) → HP) (W : World) (L' : List HP), (∀ xs x (L'' : List HP) W, xs.length < N → Sat w0 (J xs :: L'') W → YieldAt Fence.wide 0 P l #[kSt x] W fun e W' => e = .returned (.bool true) ∧ Sat w0 (J (xs ++ [x]) :: L'') W') →
      Sat w0 (J [] :: X :: L') W → Calls P g #[.func (.yield l) #[] #[], ptr bx] W fun e W' => (∃ v, e = .returned v) ∧ ∃ xs, S xs ∧ Sat w0 (J xs :: X :: L') W')
    (h : Sat w0 (X :: L) w) :
    Calls P f #[.slice none 0 0, .func (.func g) #[] #[ptr bx]] w fun e w' => ∃ v, e = .returned v ∧ ∃ xs : List (List UInt8), S xs ∧ Sat w0 (LsH cSt 1 tV v xs :: X :: L) w' := by
  refine callsIn_wide.1 (callsIn_of_wp_marks (n := 2) hf hb trivial ?_)
  have hr0 := rW (args := #[.slice none 0 0, .func (.func g) #[] #[ptr bx]]) (nt := fnF.ntmps) (by rw [hnt]; simp)
  generalize ({ tmps := #[.slice none 0 0, .func (.func g) #[] #[ptr bx]] ++ Array.replicate (fnF.ntmps - (#[.slice none 0 0, .func (.func g) #[] #[ptr bx]] : Array Value).size) undef, defers := [] } : Act) = a0 at hr0 ⊢
  rw [hnt] at hr0
  refine wpIn_seq (dP Wid.wide (k := fun e w => e 1 = .func (.func g) #[] #[ptr bx] ∧ ∃ Bs, e 2 = ptr Bs ∧ Sat w0 (Cl Bs #[.slice none 0 0] tS :: X :: L) w) hr0 ?_ ?_)
  · rw [f0]
    exact gB h fun p w h => ⟨rfl, p, rfl, h⟩
  rintro e w a hr ⟨he1, Bs, he2, h⟩
  refine wpIn_seq (wpIn_seq (dP Wid.wide (k := fun e w => e 6 = .func (.func g) #[] #[ptr bx] ∧ e 2 = ptr Bs ∧ Sat w0 (Cl Bs #[.slice none 0 0] tS :: X :: L) w) hr ?_ ?_))
  · rw [f1]
    exact ⟨he1, he2, h⟩
  clear hr he1 he2 h
  rintro e w a hr ⟨he6, he2, h⟩
  refine wpIn_block (wpIn_rangeFunc ?_)
  intro fn _
  have hev6 : a.eval (.tmp 6) = .func (.func g) #[] #[ptr bx] := (gG fun t _ => hr.v t).trans he6
  have h1 := (h.alloc (.deferred (some []))).alloc (.loop (iK fn a.tmps (.region i2 opsA false) (.block 1 (.region i3 opsB false)) w.heap.size))
  rw [show (w.alloc (.deferred (some []))).heap.size = w.heap.size + 1 from by simp] at h1
  generalize hD : w.heap.size = D at h1
  obtain ⟨W1, hW1⟩ : ∃ W1, (w.alloc (.deferred (some []))).alloc (.loop (iK fn a.tmps (.region i2 opsA false) (.block 1 (.region i3 opsB false)) D)) = W1 := ⟨_, rfl⟩
  rw [hW1] at h1
  refine ⟨D + 1, [{ target := .collected D, args := #[] }], W1, { target := .fn (.func g) #[ptr bx], args := #[.func (.yield (D + 1)) #[] #[]] }, W1, g, #[.func (.yield (D + 1)) #[] #[], ptr bx], W1, ?_, ?_, fun _ _ => trivial, ?_, fun _ => by omega, ?_⟩
  · rw [← hW1, ← hD]; exact run_enterLoop_outer fn a.tmps #[7] _ _
  · have key : ∀ ρ : Operand → Value, ρ (.tmp 6) = .func (.func g) #[] #[ptr bx] → (∀ v, ρ (.const v) = v) → (resolve ρ (rangeCall (.tmp 6) (D + 1)) 0).run P W1 = .ok { target := .fn (.func g) #[ptr bx], args := #[.func (.yield (D + 1)) #[] #[]] } W1 := by
      intro ρ h1 h2
      simp [resolve, rangeCall, Deferred.ofValue, h1, h2]
    exact key _ hev6 fun _ => rfl
  · simp [invoke, eg]
  · refine callsIn_wide.2 ((hI (D + 1) (JA cSt 1 tS tV (D + 1) D Bs (iK fn a.tmps (.region i2 opsA false) (.block 1 (.region i3 opsB false)) D)) W1 L ?_ ?_).mono ?_)
    · intro xs x L'' W hl hs
      exact yieldT (N := N) hr he2 fA fB uS T hS hbd fb hl hs
    · refine oq.2 ⟨.slice none 0 0, ?_⟩
      have h2 := yQ (f := cSt) (es := 1) (ty := tV) h1
      exact h2.get (.pick (.there .here) (.pick (.there .here) (.pick (.there .here) (.pick .here .done))))
    · rintro e' W2 ⟨⟨v, rfl⟩, xs, hp, hs⟩
      replace hs := oq.1 hs
      obtain ⟨sv, hs⟩ := hs
      refine ⟨_, _, run_endLoop hs.blk (by simp [iK]), ?_⟩
      have hs2 : Sat w0 (Blk (D + 1) _ :: Blk D (.deferred (some [])) :: Cl Bs #[sv] tS :: LsH cSt 1 tV sv xs :: X :: L) (W2.putObj (D + 1) (.loop { iK fn a.tmps (.region i2 opsA false) (.block 1 (.region i3 opsB false)) D with state := .exhausted })) := hs.set _
      generalize W2.putObj (D + 1) (.loop { iK fn a.tmps (.region i2 opsA false) (.block 1 (.region i3 opsB false)) D with state := .exhausted }) = W3 at hs2 ⊢
      show Exit.inBlock 0 _ Exit.normal _ W3
      simp only [Exit.inBlock, Exit.then]
      have hrD : RelD 13 [{ target := .collected D, args := #[] }] e { a with defers := [{ target := .collected D, args := #[] }] ++ a.defers } := ⟨hr.sz, by simp [hr.df], hr.v⟩
      have hs3 : Sat w0 (Cl Bs #[sv] tS :: Blk D (.deferred (some [])) :: LsH cSt 1 tV sv xs :: X :: L) W3 := hs2.get (.pick (.there (.there .here)) (.pick (.there .here) (.skip .done)))
      refine wpIn_seq (dP Wid.wide (k := fun e w => e 4 = sv ∧ Sat w0 (Cl Bs #[sv] tS :: Blk D (.deferred (some [])) :: LsH cSt 1 tV sv xs :: X :: L) w) hrD ?_ ?_)
      · rw [f4, he2]
        have e1 : ld1 (ptr Bs) W3 = some sv := by
          have := cell_of hs3.cl (i := 0)
          simp only [ld1, ptr]; rw [this]; rfl
        exact ax e1 ⟨rfl, hs3⟩
      · rintro e3 w3 a3 hr3 ⟨he4, h3⟩
        refine wpIn_ret ?_
        show LeavesInM _ _ _ _ _ _ a3.defers .returning w3
        rw [hr3.df]
        have hb3 := h3.f1.blk
        refine ⟨by simp, .inl ⟨_, _, rfl, run_takeDeferred hb3, ?_⟩⟩
        have h4 : Sat w0 (Blk D (.deferred none) :: Cl Bs #[sv] tS :: LsH cSt 1 tV sv xs :: X :: L) (w3.putObj D (.deferred none)) := h3.f1.set _
        have e4 : a3.tmps.getD 4 undef = sv := (hr3.v 4).trans he4
        exact ⟨_, results_tmp hres _ _ _, _, rfl, xs, hp, by rw [e4]; exact h4.drop.drop⟩
theorem Jz {fn : Func} {f l bx : Nat} {tV mt : TypeId} {sv : Value} {m : List (List UInt8)} {i0 i1 i2 i3 i4 : Nat} {ops0 ops1 ops2 ops4 : Array Oper} {q1 q2 q3 q4 : Oper} {ats : Array TypeId} (hf : P.funcs[f]? = some fn) (hres : fn.results = #[]) (hnt : fn.ntmps = 16)
    (hb : fn.body = some (.seq (.region i0 ops0 false) (.block 0 (.loop (.seq (.region i1 ops1 false) (.seq (.cond (.tmp 8) .skip (.exit 0)) (.seq (.block 1 (.seq (.region i2 ops2 false) (.seq (.region i3 #[q1, q2, q3, q4] false) (.cond (.tmp 14) .ret .skip)))) (.region i4 ops4 false))))))))
    (f0 : ∀ e w k, fP P nc ops0 16 ops0.toList e w k = (aa (ld1 (e 1) w) fun v => aa (bI v) fun n => k (put 16 (put 16 (put 16 e (some 5) v) (some 6) n) (some 7) (.int .i64 0)) w))
    (f1 : ∀ e w k, fP P nc ops1 16 ops1.toList e w k = (aa (bLt (e 7) (e 6)) fun b => k (put 16 e (some 8) b) w))
    (f2 : ∀ e w k, fP P nc ops2 16 ops2.toList e w k = (aa (bq 1 (e 5) (e 7)) fun a => aa (ld1 a w) fun v => k (put 16 (put 16 (put 16 e (some 9) a) (some 10) v) (some 4) v) w))
    (f3 : ∀ e w k, fP P nc #[q1, q2, q3, q4] 16 [q1, q2] e w k = k (put 16 (put 16 e (some 11) (e 0)) (some 12) (e 4)) w)
    (f4 : ∀ e w k, fP P nc #[q1, q2, q3, q4] 16 [q4] e w k = (aa (dN (e 13)) fun v => k (put 16 e (some 14) v) w))
    (f5 : ∀ e w k, fP P nc ops4 16 ops4.toList e w k = (aa (bH (e 7) (.int .i64 1)) fun v => k (put 16 (put 16 e (some 15) v) (some 7) v) w))
    (hq : q3.op = .call { callee := .value (.tmp 11), args := #[.tmp 12], argTypes := ats }) (hg : q3.guard = none) (hds : q3.dst = some 13)
    (hml : m.length ≤ 1000000000)
    (J : List (List UInt8) → HP) (hY : ∀ xs x (L' : List HP) W, xs.length < m.length → Sat w0 (J xs :: L') W → YieldAt Fence.wide 0 P l #[kSt x] W fun e W' => e = .returned (.bool true) ∧ Sat w0 (J (xs ++ [x]) :: L') W')
    (h : Sat w0 (J [] :: Cl bx #[sv] mt :: LsH cSt 1 tV sv m :: L) w) :
    Calls P f #[.func (.yield l) #[] #[], ptr bx] w fun e W' => (∃ v, e = .returned v) ∧ ∃ xs, xs = m ∧ Sat w0 (J xs :: Cl bx #[sv] mt :: LsH cSt 1 tV sv m :: L) W' := by
  refine calls_of_wp hf hb (wpIn_wide (n := 1).1 ?_)
  have hr0 := rW (args := #[.func (.yield l) #[] #[], ptr bx]) (nt := fn.ntmps) (by rw [hnt]; simp)
  generalize ({ tmps := #[.func (.yield l) #[] #[], ptr bx] ++ Array.replicate (fn.ntmps - (#[.func (.yield l) #[] #[], ptr bx] : Array Value).size) undef, defers := [] } : Act) = a0 at hr0 ⊢
  rw [hnt] at hr0
  refine wpIn_seq (dP Wid.wide (k := fun e w => e 0 = .func (.yield l) #[] #[] ∧ e 5 = sv ∧ e 6 = .int .i64 m.length ∧ e 7 = .int .i64 ((0 : Nat) : Int) ∧ Sat w0 (J [] :: Cl bx #[sv] mt :: LsH cSt 1 tV sv m :: L) w) hr0 ?_ ?_)
  · rw [f0]
    have h1 : ld1 (dD (#[.func (.yield l) #[] #[], ptr bx] : Array Value).toList 1) w = some sv := by
      show ld1 (ptr bx) w = some sv
      simp [ld1, ptr, cell_of h.f1.cl]
    have h2 : bI sv = some (.int .i64 m.length) := (dw h.f2).len
    refine ax h1 (ax h2 ?_)
    exact ⟨rfl, rfl, rfl, rfl, h⟩
  rintro e w a hr ⟨he0, he5, he6, he7, h⟩
  refine wpIn_block (wpIn_loop_rounds (m.length + 1) ?_)
  have loop : ∀ (d i : Nat) (e : Env) (w : World) (a : Act), m.length < d + i → i ≤ m.length → RelD 16 [] e a → e 0 = .func (.yield l) #[] #[] → e 5 = sv → e 6 = .int .i64 m.length → e 7 = .int .i64 (i : Nat) → Sat w0 (J (m.take i) :: Cl bx #[sv] mt :: LsH cSt 1 tV sv m :: L) w →
      Code.roundsIn Fence.wide 1 P (.seq (.region i1 ops1 false) (.seq (.cond (.tmp 8) .skip (.exit 0)) (.seq (.block 1 (.seq (.region i2 ops2 false) (.seq (.region i3 #[q1, q2, q3, q4] false) (.cond (.tmp 14) .ret .skip)))) (.region i4 ops4 false)))) (Exit.inBlock 0 (bodyPost P fn fun e W' => (∃ v, e = .returned v) ∧ ∃ xs, xs = m ∧ Sat w0 (J xs :: Cl bx #[sv] mt :: LsH cSt 1 tV sv m :: L) W')) d a w := by
    intro d
    induction d with
    | zero => intro i e w a hd hi; omega
    | succ d ih =>
      intro i e w a hd hi hr he0 he5 he6 he7 h
      rw [roundsIn_succ]
      refine wpIn_seq (dP Wid.wide (k := fun e w => e 0 = .func (.yield l) #[] #[] ∧ e 5 = sv ∧ e 6 = .int .i64 m.length ∧ e 7 = .int .i64 (i : Nat) ∧ e 8 = .bool (decide (i < m.length)) ∧ Sat w0 (J (m.take i) :: Cl bx #[sv] mt :: LsH cSt 1 tV sv m :: L) w) hr ?_ ?_)
      · rw [f1, he6, he7]
        have : bLt (.int .i64 (i : Nat)) (.int .i64 m.length) = some (.bool (decide (i < m.length))) := by
          rw [bG]; simp
        refine ax this ?_
        exact ⟨he0, he5, he6, he7, rfl, h⟩
      rintro e w a hr ⟨he0, he5, he6, he7, he8, h⟩
      by_cases hil : i < m.length
      · rw [decide_eq_true hil] at he8
        refine wpIn_seq (wpIn_cond_true ((gG fun t _ => hr.v t).trans he8) (wpIn_skip ?_))
        refine wpIn_seq (wpIn_block ?_)
        have hrd := dw h.f2
        have x1 := fV hrd hil
        have x2 : ld1 (elP 1 sv i) w = some (kSt m[i]) := fG (g := kSt) hrd hil
        refine wpIn_seq (dP Wid.wide (k := fun e w => e 0 = .func (.yield l) #[] #[] ∧ e 5 = sv ∧ e 6 = .int .i64 m.length ∧ e 7 = .int .i64 (i : Nat) ∧ e 4 = kSt m[i] ∧ Sat w0 (J (m.take i) :: Cl bx #[sv] mt :: LsH cSt 1 tV sv m :: L) w) hr ?_ ?_)
        · rw [f2, he5, he7]
          refine ax x1 (ax x2 ?_)
          exact ⟨he0, he5, he6, he7, rfl, h⟩
        rintro e w a hr ⟨he0, he5, he6, he7, he4, h⟩
        refine wpIn_seq (wpIn_region_list ?_)
        show wpListIn _ _ _ _ _ ([q1, q2] ++ [q3, q4]) _ _
        refine mg (F := Fence.wide) (P := P) Wid.wide GK (n := 1) (ops := #[q1, q2, q3, q4]) (nt := 16) (k := fun e w => e 0 = .func (.yield l) #[] #[] ∧ e 5 = sv ∧ e 6 = .int .i64 m.length ∧ e 7 = .int .i64 (i : Nat) ∧ e 11 = .func (.yield l) #[] #[] ∧ e 12 = kSt m[i] ∧ Sat w0 (J (m.take i) :: Cl bx #[sv] mt :: LsH cSt 1 tV sv m :: L) w) [q3, q4] ?_ [q1, q2] e w a hr ?_
        · rintro e w a hr ⟨he0, he5, he6, he7, h11, h12, h⟩
          refine wpListIn_plain hg fun K hK => xX Wid.wide hq ((gG fun t _ => hr.v t).trans h11) (R := fun e W' => e = .returned (.bool true) ∧ Sat w0 (J (m.take i ++ [m[i]]) :: Cl bx #[sv] mt :: LsH cSt 1 tV sv m :: L) W') ?_ ?_
          · rw [show a.eval (.tmp 12) = kSt m[i] from (gG fun t _ => hr.v t).trans h12]
            exact hY (m.take i) m[i] _ w (by rw [List.length_take]; omega) h
          · rintro e' w' ⟨rfl, h'⟩
            refine ⟨_, rfl, hK _ _ ?_⟩
            have hr2 := hr.put q3.dst (.bool true)
            show wpListIn _ _ _ _ _ ([q4] ++ []) _ _
            refine mg (F := Fence.wide) (P := P) Wid.wide GK (n := 1) (ops := #[q1, q2, q3, q4]) (nt := 16) (k := fun e w => e 0 = .func (.yield l) #[] #[] ∧ e 5 = sv ∧ e 6 = .int .i64 m.length ∧ e 7 = .int .i64 (i : Nat) ∧ e 14 = .bool false ∧ Sat w0 (J (m.take i ++ [m[i]]) :: Cl bx #[sv] mt :: LsH cSt 1 tV sv m :: L) w) [] (fun e w a hr hk => ?_) [q4] _ w' _ hr2 ?_
            · obtain ⟨he0, he5, he6, he7, h14, h⟩ := hk
              refine wpIn_cond_false ((gG fun t _ => hr.v t).trans h14) (wpIn_skip ?_)
              simp only [Exit.inBlock, Exit.then]
              refine dP Wid.wide (k := fun e w => e 0 = .func (.yield l) #[] #[] ∧ e 5 = sv ∧ e 6 = .int .i64 m.length ∧ e 7 = .int .i64 ((i + 1 : Nat) : Int) ∧ Sat w0 (J (m.take (i + 1)) :: Cl bx #[sv] mt :: LsH cSt 1 tV sv m :: L) w) hr ?_ ?_
              · rw [f5, he7]
                have : bH (.int .i64 (i : Nat)) (.int .i64 1) = some (.int .i64 ((i + 1 : Nat) : Int)) := by
                  rw [af (by omega)]
                  congr 2
                refine ax this ?_
                refine ⟨he0, he5, he6, rfl, ?_⟩
                rw [List.take_succ_eq_append_getElem hil]; exact h
              · rintro e w a hr ⟨he0, he5, he6, he7, h⟩
                simp only [Exit.inBlock, Exit.then]
                exact ih (i + 1) e w a (by omega) (by omega) hr he0 he5 he6 he7 h
            · rw [f4, hds]
              refine ax (show dN _ = some (.bool false) from rfl) ?_
              exact ⟨he0, he5, he6, he7, rfl, h'⟩
        · rw [f3]
          exact ⟨he0, he5, he6, he7, he0, he4, h⟩
      · rw [decide_eq_false hil] at he8
        refine wpIn_seq (wpIn_cond_false ((gG fun t _ => hr.v t).trans he8) (wpIn_exit ?_))
        simp only [Exit.then, Exit.inBlock, if_true]
        have him : m.take i = m := List.take_of_length_le (by omega)
        rw [him] at h
        obtain ⟨v, hv1, hv2⟩ := nU (P := P) (fn := fn) (K := fun _ w => Sat w0 (J m :: Cl bx #[sv] mt :: LsH cSt 1 tV sv m :: L) w) hr.v (by
          rw [hres]
          exact h)
        exact ⟨hr.df, v, hv1, ⟨v, rfl⟩, m, rfl, hv2⟩
  exact loop (m.length + 1) 0 e w a (by omega) (by omega) hr he0 he5 he6 he7 h
theorem Zr {A B C : HP} (h : Sat w0 (C :: HSt A B :: L) w) : Sat w0 (C :: A :: B :: L) w :=
  (Sat.star_iff.1 h.f1).get (.pick (.there (.there .here)) (.pick .here (.pick .here .done)))
theorem star3' {A B C : HP} (h : Sat w0 (C :: A :: B :: L) w) : Sat w0 (C :: HSt A B :: L) w := by
  have h2 : Sat w0 (A :: B :: C :: L) w := h.get (.pick (.there .here) (.pick (.there .here) (.pick .here .done)))
  exact (Sat.star_iff.2 h2).f1
end
def Z4 (tV g : Nat) : FnT := fun args w K => ∃ (sv : Value) (m : List (List UInt8)) (bx : Nat) (mt : TypeId) (w0 : World) (L : List HP), args = [.slice none 0 0, .func (.func g) #[] #[ptr bx]] ∧ m.length ≤ 1000000000 ∧
  Sat w0 (Cl bx #[sv] mt :: LsH cSt 1 tV sv m :: L) w ∧ ∀ v w', Sat w0 (LsH cSt 1 tV v m :: Cl bx #[sv] mt :: LsH cSt 1 tV sv m :: L) w' → K v w'
theorem SQ {tV g : Nat} {sv : Value} {m : List (List UInt8)} {bx : Nat} {mt : TypeId} {w0 w : World} {L : List HP} {K : Value → World → Prop} (hl : m.length ≤ 1000000000) (h : Sat w0 (Cl bx #[sv] mt :: LsH cSt 1 tV sv m :: L) w)
    (hK : ∀ v w', Sat w0 (LsH cSt 1 tV v m :: Cl bx #[sv] mt :: LsH cSt 1 tV sv m :: L) w' → K v w') : ai (Z4 tV g) [.slice none 0 0, .func (.func g) #[] #[ptr bx]] w K :=
  aj ⟨sv, m, bx, mt, w0, L, rfl, hl, h, hK⟩
end Go.Sx

/- Txs -/
namespace Go.Proofs.Gong
open Go Go.Sx Go.Proofs
set_option linter.all false
set_option maxRecDepth 100000
set_option maxHeartbeats 4000000
variable {kn kr : ET} {ke : JT}
noncomputable def Yg := ah Tryz.f49
noncomputable def aF49 := bi (sB (sA (sB Yg)))
noncomputable def vB28 := ah Tryz.f28
noncomputable def vL28 := aU (bi (sB vB28))
noncomputable def Qb := bi (sA (sB (sB vL28)))
def G49 : FnT := Z4 9 28
theorem ok49 : OkF Tryz.prog 49 G49 := by
  intro args w K ⟨sv, m, bx, mt, w0, L, ha, hl, hs, hk⟩
  subst ha
  refine .inl ⟨Tryz.call49 _ _, ?_⟩
  refine (Bg (X := HSt (Cl bx #[sv] mt) (LsH cSt 1 9 sv m)) (S := fun xs => xs = m) (N := m.length) (fnF := Tryz.f49) (f := 49) (g := 28) (bx := bx) (bytes := 16) (tS := 32) (tV := 9) (i0 := 0) (i1 := 1) (i2 := 2) (i3 := 3) (i4 := 4) (ops0 := opsOf (sA Yg)) (ops1 := opsOf (sA (sA (sB Yg)))) (opsA := opsOf (rfA aF49)) (opsB := opsOf (bi (rfB aF49))) (ops4 := opsOf (sA (sB (sB Yg)))) Tryz.func49 (by kernel_rfl) (by kernel_rfl) (by kernel_rfl) (fun e w k => by kernel_rfl) (fun e w k => by kernel_rfl) (fun e w k => by kernel_rfl) (fun e w k => by kernel_rfl) (fun e w k => by kernel_rfl) u32 Qn ss32 (by omega) (fun x => by kernel_rfl) Tryz.call28 ?_ (Sat.star_iff.2 hs)).mono ?_
  · intro l J W L' hY h
    refine (Jz (fn := Tryz.f28) (f := 28) (l := l) (bx := bx) (tV := 9) (mt := mt) (sv := sv) (m := m) (i0 := 0) (i1 := 1) (i2 := 2) (i3 := 3) (i4 := 4) (ops0 := opsOf (sA vB28)) (ops1 := opsOf (sA vL28)) (ops2 := opsOf (sA Qb)) (ops4 := opsOf (sB (sB (sB vL28)))) (q1 := opAt (opsOf (sA (sB Qb))) 0) (q2 := opAt (opsOf (sA (sB Qb))) 1) (q3 := opAt (opsOf (sA (sB Qb))) 2) (q4 := opAt (opsOf (sA (sB Qb))) 3) (ats := #[9]) Tryz.func28 (by kernel_rfl) (by kernel_rfl) (by kernel_rfl) (fun e w k => by kernel_rfl) (fun e w k => by kernel_rfl) (fun e w k => by kernel_rfl) (fun e w k => by kernel_rfl) (fun e w k => by kernel_rfl) (fun e w k => by kernel_rfl) (by kernel_rfl) (by kernel_rfl) (by kernel_rfl) hl J hY (Zr h)).mono ?_
    rintro e W' ⟨hv, xs, hx, h⟩
    exact ⟨hv, xs, hx, star3' h⟩
  · rintro e w' ⟨v, rfl, xs, hx, h⟩
    subst hx
    exact ⟨v, rfl, hk v w' (Zr h)⟩
def T26 : List (Nat × FnT) := [(49, G49)]
def F26 (x0 : Value) (w : World) (K : V1) : Prop :=
ai G49 [(.slice none 0 0), x0] w fun v2 w1 =>
K v2 w1
def G26 : FnT := fun args w K => on1 (fun x0 => F26 x0 w K) args
theorem c26 {x0 : Value} {w : World} {K : V1} (h : F26 x0 w K) : ai G26 [x0] w K := aj (bL (p := fun x0 => F26 x0 w K) h)
theorem ok26 : OkF Tryz.prog 26 G26 := by
  refine aO (aN (l := T26) ⟨ok49, trivial⟩) mixed (n := fuel) Tryz.func26 Tryz.call26 fun args w K h => ?_
  obtain ⟨x0, rfl, hh⟩ := bJ h
  exact az (c := ah Tryz.f26) (by kernel_rfl) (by kernel_rfl) (Eq.mp (by kernel_rfl) hh)
def Lm : Go.Shelf.Ren := ⟨fun | 6 => 27 | 8 => 51 | 9 => 50 | 19 => 99 | 20 => 100 | 21 => 90 | 22 => 91 | 23 => 92 | 24 => 93 | 25 => 94 | 26 => 95 | 27 => 96 | 28 => 97 | 29 => 98 | 36 => 140 | 31 => 141 | 32 => 142 | 37 => 143 | 38 => 144 | 39 => 145 | 41 => 187 | n => n, fun | 27 => 32 | 29 => 9 | 3 => 3 | 32 => 144 | 26 => 32 | 0 => 0 | 44 => 193 | 46 => 178 | 4 => 4 | 36 => 186 | 35 => 185 | 41 => 115 | 5 => 5 | 9 => 9 | 53 => 254 | 57 => 258 | 63 => 299 | 64 => 300 | n => n, fun | n => n⟩
theorem LayM27 : Go.Proofs.SlLaysM.n6 Tryz.prog Lm := {
  mixed := by kernel_rfl
  f6 := ⟨Tryz.f27.name, by decide, Tryz.func27.trans (congrArg some (by kernel_rfl))⟩
  f8 := Tryz.func51.trans (congrArg some (by kernel_rfl))
  f9 := ⟨Tryz.f50.name, by decide, Tryz.func50.trans (congrArg some (by kernel_rfl))⟩
  f19 := Tryz.func99.trans (congrArg some (by kernel_rfl))
  f20 := Tryz.func100.trans (congrArg some (by kernel_rfl))
  f21 := ⟨Tryz.f90.name, by decide, Tryz.func90.trans (congrArg some (by kernel_rfl))⟩
  f22 := ⟨Tryz.f91.name, by decide, Tryz.func91.trans (congrArg some (by kernel_rfl))⟩
  f23 := ⟨Tryz.f92.name, by decide, Tryz.func92.trans (congrArg some (by kernel_rfl))⟩
  f24 := ⟨Tryz.f93.name, by decide, Tryz.func93.trans (congrArg some (by kernel_rfl))⟩
  f25 := ⟨Tryz.f94.name, by decide, Tryz.func94.trans (congrArg some (by kernel_rfl))⟩
  f26 := ⟨Tryz.f95.name, by decide, Tryz.func95.trans (congrArg some (by kernel_rfl))⟩
  f27 := ⟨Tryz.f96.name, by decide, Tryz.func96.trans (congrArg some (by kernel_rfl))⟩
  f28 := ⟨Tryz.f97.name, by decide, Tryz.func97.trans (congrArg some (by kernel_rfl))⟩
  f29 := ⟨Tryz.f98.name, by decide, Tryz.func98.trans (congrArg some (by kernel_rfl))⟩
  f31 := Tryz.func141.trans (congrArg some (by kernel_rfl))
  f32 := Tryz.func142.trans (congrArg some (by kernel_rfl))
  f36 := ⟨Tryz.f140.name, by decide, Tryz.func140.trans (congrArg some (by kernel_rfl))⟩
  f37 := ⟨Tryz.f143.name, by decide, Tryz.func143.trans (congrArg some (by kernel_rfl))⟩
  f38 := ⟨Tryz.f144.name, by decide, Tryz.func144.trans (congrArg some (by kernel_rfl))⟩
  f39 := ⟨Tryz.f145.name, by decide, Tryz.func145.trans (congrArg some (by kernel_rfl))⟩
  f41 := ⟨Tryz.f187.name, by decide, Tryz.func187.trans (congrArg some (by kernel_rfl))⟩
  t0 := Tryz.underlying0
  a0 := Tryz.isAgg0
  z0 := Tryz.sizeOf0
  v0 := Tryz.zeroValue0
  t3 := Tryz.underlying3
  a3 := Tryz.isAgg3
  z3 := Tryz.sizeOf3
  v3 := Tryz.zeroValue3
  t4 := Tryz.underlying4
  a4 := Tryz.isAgg4
  z4 := Tryz.sizeOf4
  v4 := Tryz.zeroValue4
  t5 := Tryz.underlying5
  a5 := Tryz.isAgg5
  z5 := Tryz.sizeOf5
  v5 := Tryz.zeroValue5
  t9 := Tryz.underlying9
  a9 := Tryz.isAgg9
  z9 := Tryz.sizeOf9
  v9 := Tryz.zeroValue9
  t26 := Tryz.underlying32
  a26 := Tryz.isAgg32
  z26 := Tryz.sizeOf32
  v26 := Tryz.zeroValue32
  t27 := Tryz.underlying32
  a27 := Tryz.isAgg32
  z27 := Tryz.sizeOf32
  v27 := Tryz.zeroValue32
  t29 := Tryz.underlying9
  a29 := Tryz.isAgg9
  z29 := Tryz.sizeOf9
  v29 := Tryz.zeroValue9
  t32 := Tryz.underlying144
  a32 := Tryz.isAgg144
  z32 := Tryz.sizeOf144
  v32 := Tryz.zeroValue144
  t35 := Tryz.underlying185
  a35 := Tryz.isAgg185
  z35 := Tryz.sizeOf185
  v35 := Tryz.zeroValue185
  t36 := Tryz.underlying186
  a36 := Tryz.isAgg186
  z36 := Tryz.sizeOf186
  v36 := Tryz.zeroValue186
  t41 := Tryz.underlying115
  a41 := Tryz.isAgg115
  z41 := Tryz.sizeOf115
  v41 := Tryz.zeroValue115
  t44 := Tryz.underlying193
  a44 := Tryz.isAgg193
  z44 := Tryz.sizeOf193
  v44 := Tryz.zeroValue193
  t46 := Tryz.underlying178
  a46 := Tryz.isAgg178
  z46 := Tryz.sizeOf178
  v46 := Tryz.zeroValue178
  t53 := Tryz.underlying254
  a53 := Tryz.isAgg254
  z53 := Tryz.sizeOf254
  v53 := Tryz.zeroValue254
  t57 := Tryz.underlying258
  a57 := Tryz.isAgg258
  z57 := Tryz.sizeOf258
  v57 := Tryz.zeroValue258
  t63 := Tryz.underlying299
  a63 := Tryz.isAgg299
  z63 := Tryz.sizeOf299
  v63 := Tryz.zeroValue299
  t64 := Tryz.underlying300
  a64 := Tryz.isAgg300
  z64 := Tryz.sizeOf300
  v64 := Tryz.zeroValue300 }
def G27 : FnT := KC 9
theorem ok27 : OkF Tryz.prog 27 G27 := Vu LayM27 rfl Tryz.call27
def T13 : List (Nat × FnT) := [(26, G26), (27, G27)]
def F13 (x0 : Value) (w : World) (K : V1) : Prop :=
ai G26 [x0] w fun v2 w1 =>
ai G27 [v2] w1 fun _ w3 =>
K v2 w3
def G13 : FnT := fun args w K => on1 (fun x0 => F13 x0 w K) args
theorem c13 {x0 : Value} {w : World} {K : V1} (h : F13 x0 w K) : ai G13 [x0] w K := aj (bL (p := fun x0 => F13 x0 w K) h)
theorem ok13 : OkF Tryz.prog 13 G13 := by
  refine aO (aN (l := T13) ⟨ok26, ok27, trivial⟩) mixed (n := fuel) Tryz.func13 Tryz.call13 fun args w K h => ?_
  obtain ⟨x0, rfl, hh⟩ := bJ h
  exact az (c := ah Tryz.f13) (by kernel_rfl) (by kernel_rfl) (Eq.mp (by kernel_rfl) hh)
def T14 : List (Nat × FnT) := []
def F14 (x0 : Value) (w : World) (K : V1) : Prop :=
bT 32 x0 w fun v2 w1 =>
aa (some (.func (.func 28) #[] #[v2])) fun v3 =>
K v3 w1
def G14 : FnT := fun args w K => on1 (fun x0 => F14 x0 w K) args
theorem c14 {x0 : Value} {w : World} {K : V1} (h : F14 x0 w K) : ai G14 [x0] w K := aj (bL (p := fun x0 => F14 x0 w K) h)
theorem ok14 : OkF Tryz.prog 14 G14 := by
  refine aO (aN (l := T14) trivial) mixed (n := fuel) Tryz.func14 Tryz.call14 fun args w K h => ?_
  obtain ⟨x0, rfl, hh⟩ := bJ h
  exact az (c := ah Tryz.f14) (by kernel_rfl) (by kernel_rfl) (Eq.mp (by kernel_rfl) hh)
end Go.Proofs.Gong

/- Qcnt -/
namespace Go.Proofs.Gong
open Go Go.Sx Go.Proofs
set_option linter.all false
set_option maxRecDepth 100000
set_option maxHeartbeats 4000000
variable {kn kr : ET} {ke : JT}
def T12 : List (Nat × FnT) := [(24, G24)]
def F12 (x0 : Value) (w : World) (K : V1) : Prop :=
ai G24 [x0] w fun v2 w1 =>
aa (aK v2 0) fun v3 =>
aa (aK v2 1) fun v4 =>
aY Tryz.prog 87 w1 fun v6 w5 =>
bF (st 1 v6 v3 w5) fun w7 =>
K v4 w7
def G12 : FnT := fun args w K => on1 (fun x0 => F12 x0 w K) args
theorem c12 {x0 : Value} {w : World} {K : V1} (h : F12 x0 w K) : ai G12 [x0] w K := aj (bL (p := fun x0 => F12 x0 w K) h)
theorem ok12 : OkF Tryz.prog 12 G12 := by
  refine aO (aN (l := T12) ⟨ok24, trivial⟩) mixed (n := fuel) Tryz.func12 Tryz.call12 fun args w K h => ?_
  obtain ⟨x0, rfl, hh⟩ := bJ h
  exact az (c := ah Tryz.f12) (by kernel_rfl) (by kernel_rfl) (Eq.mp (by kernel_rfl) hh)
def T7 : List (Nat × FnT) := [(8, G8)]
def I5 (s3 : Value) (w : World) (K : V1) : Prop :=
K s3 w
def I6 (s3 : Value) (w : World) (K : V1) : Prop := I5 s3 w K
theorem ok7_3 {K : V1}
    (hn : HN (fun e w => K (e 2) w) kn) (hr : HR Tryz.prog [.tmp 2] K kr) (he : HE noE ke) :
    ∀ e w, I6 (e 3) w K → aA Tryz.prog (au T7) 31 fuel ((flat (ah Tryz.f7)).drop 5) e w kn kr ke := by
  intro e w h
  unfold I6 at h
  have e1 : ∀ (_ : Unit), I5 (e 3) w K = aA Tryz.prog (au T7) 31 fuel ((flat (ah Tryz.f7)).drop 5) e w (fun e w => K (e 2) w) (aW Tryz.prog [.tmp 2] K) noE := by intro _; kernel_rfl
  exact bQ (Eq.mp (e1 ()) h) hn hr he
def Nw (s0 s3 s4 s5 : Value) (w : World) (_K : V1) (Y0 : V4) (Y1 : V1) : Prop :=
aa (bI s0) fun v1 =>
aa (bLt s5 v1) fun v2 =>
aS (gd true v2) s5 fun v3 =>
Sx.stepG (gd true v2) (bLt v3 (.int .i64 6)) fun v4 =>
aa (aG v2 v4 (.bool false)) fun v5 =>
ifB v5 (
aa (bq 1 s0 s5) fun v6 =>
aa (ld1 v6 w) fun v7 =>
aa (bI s4) fun v8 =>
ai G8 [v7, v8] w fun v10 w9 =>
aa (bq 1 s4 v10) fun v11 =>
aa (ld1 v11 w9) fun v12 =>
aa (bH (.string ⟨#[32]⟩) v12) fun v13 =>
aa (bH s3 v13) fun v14 =>
aa (bH s5 (.int .i64 1)) fun v15 =>
Y0 s0 v14 s4 v15 w9) (
Y1 s3 w)
def tQ : Nat → Value → Value → Value → Value → World → (V1) → Prop
  | 0, _, _, _, _, _, _ => False
  | n + 1, s0, s3, s4, s5, w, K => Nw s0 s3 s4 s5 w K (fun a0 a3 a4 a5 w => tQ n a0 a3 a4 a5 w K) (fun a3 w => I6 a3 w K)
def Ul (s0 s3 s4 s5 : Value) (w : World) (K : V1) : Prop := tQ fuel s0 s3 s4 s5 w K
theorem ok7_2 {K : V1}
    (hn : HN (fun e w => K (e 2) w) kn) (hr : HR Tryz.prog [.tmp 2] K kr) (he : HE noE ke) :
    ∀ e w, Ul (e 0) (e 3) (e 4) (e 5) w K → aA Tryz.prog (au T7) 31 fuel ((flat (ah Tryz.f7)).drop 4) e w kn kr ke := by
  intro e w h
  unfold Ul at h
  refine bM (id := 0) (body := (aU (bi (aV (flat (ah Tryz.f7)) 4)))) (l2 := (flat (ah Tryz.f7)).drop 5) (by kernel_rfl) ?_
  refine bV (FL := fun m e w => tQ m (e 0) (e 3) (e 4) (e 5) w K) (fr := aW Tryz.prog [.tmp 2] K) (fe := (bB 0 (fun e w => I6 (e 3) w K) noE)) (fun _ _ h => h) ?_ hr (bD (fun e w h => ok7_3 hn hr he e w h) he) fuel e w h
  intro m e w h
  have h : tQ (m + 1) (e 0) (e 3) (e 4) (e 5) w K := h
  rw [tQ] at h
  have e1 : ∀ (Y0 : V4) (Y1 : V1), Nw (e 0) (e 3) (e 4) (e 5) w K Y0 Y1 = aA Tryz.prog (au T7) 31 fuel (flat (aU (bi (aV (flat (ah Tryz.f7)) 4)))) e w (fun e w => Y0 (e 0) (e 3) (e 4) (e 5) w) (aW Tryz.prog [.tmp 2] K) (bB 0 (fun e w => Y1 (e 3) w) noE) := by intro Y0 Y1; kernel_rfl
  exact Eq.mp (e1 (fun a0 a3 a4 a5 w => tQ m a0 a3 a4 a5 w K) (fun a3 w => I6 a3 w K)) h
def Um (s0 : Value) (w : World) (_K : V1) (Y0 : V4) : Prop :=
aB Tryz.prog 32 11 [(0, (.string ⟨#[108, 101, 118, 101, 108, 32, 51]⟩)), (1, (.string ⟨#[108, 101, 118, 101, 108, 32, 53]⟩)), (2, (.string ⟨#[97, 99, 107, 101, 100, 32, 121, 101, 115]⟩)), (3, (.string ⟨#[97, 99, 107, 101, 100, 32, 110, 111]⟩)), (4, (.string ⟨#[110, 111, 100, 101, 32, 97, 42]⟩)), (5, (.string ⟨#[110, 111, 100, 101, 32, 42]⟩)), (6, (.string ⟨#[99, 108, 97, 115, 115, 32, 108, 42]⟩)), (7, (.string ⟨#[116, 101, 120, 116, 32, 42, 120, 42]⟩)), (8, (.string ⟨#[107, 101, 121, 32, 63]⟩)), (9, (.string ⟨#[98, 101, 102, 111, 114, 101, 32, 49, 57, 55, 48, 45, 48, 49, 45, 48, 49, 84, 48, 48, 58, 48, 48, 58, 50, 48, 90]⟩)), (10, (.string ⟨#[115, 105, 110, 99, 101, 32, 49, 57, 55, 48, 45, 48, 49, 45, 48, 49, 84, 48, 48, 58, 48, 48, 58, 49, 48, 90]⟩))] w fun v17 w16 =>
Y0 s0 (.string ⟨#[]⟩) v17 (.int .i64 0) w16
def Yr (s0 : Value) (w : World) (K : V1) : Prop := Um s0 w K (fun a0 a3 a4 a5 w => Ul a0 a3 a4 a5 w K)
theorem ok7_1 {K : V1}
    (hn : HN (fun e w => K (e 2) w) kn) (hr : HR Tryz.prog [.tmp 2] K kr) (he : HE noE ke) :
    ∀ e w, Yr (e 0) w K → aA Tryz.prog (au T7) 31 fuel ((flat (ah Tryz.f7)).drop 0) e w kn kr ke := by
  intro e w h
  unfold Yr at h
  have e1 : ∀ (Y0 : V4), Um (e 0) w K Y0 = aA Tryz.prog (au T7) 31 fuel (((flat (ah Tryz.f7)).drop 0).take 4) e w (fun e w => Y0 (e 0) (e 3) (e 4) (e 5) w) (aW Tryz.prog [.tmp 2] K) noE := by intro Y0; kernel_rfl
  exact seg 4 (Eq.mp (e1 (fun a0 a3 a4 a5 w => Ul a0 a3 a4 a5 w K)) h) (fun e w h => ok7_2 hn hr he e w h) hr he
def F7 (x0 : Value) (w : World) (K : V1) : Prop := Yr x0 w K
def G7 : FnT := fun args w K => on1 (fun x0 => F7 x0 w K) args
theorem c7 {x0 : Value} {w : World} {K : V1} (h : F7 x0 w K) : ai G7 [x0] w K := aj (bL (p := fun x0 => F7 x0 w K) h)
theorem ok7 : OkF Tryz.prog 7 G7 := by
  refine aO (aN (l := T7) ⟨ok8, trivial⟩) mixed (n := fuel) Tryz.func7 Tryz.call7 fun args w K h => ?_
  obtain ⟨x0, rfl, hh⟩ := bJ h
  unfold F7 at hh
  exact az (c := ah Tryz.f7) (by kernel_rfl) (by kernel_rfl) (ok7_1 (fun _ _ h => h) (fun _ _ h => h) (fun _ _ _ h => h) (dD [x0]) w hh)
def T3 : List (Nat × FnT) := [(4, G4), (5, G5), (6, G6), (7, G7), (8, G8), (9, G9), (10, G10), (11, G11), (12, G12), (13, G13), (14, G14), (15, G15)]
def Uw (s10 s11 s21 : Value) (w : World) (K : V1) : Prop :=
aa (bEq Tryz.prog 33 (.tmp 151) (.const (.int .i64 0)) s11 (.int .i64 0)) fun v1 =>
aS (gd true v1) s21 fun v2 =>
Sx.stepG (gd true v1) (bI v2) fun v3 =>
aS (gd true v1) s10 fun v4 =>
Sx.stepG (gd true v1) (bI v4) fun v5 =>
Sx.stepG (gd true v1) (bLe v3 v5) fun v6 =>
aa (aG v1 v6 (.bool false)) fun v7 =>
K v7 w
def P9 (s10 s11 s21 : Value) (w : World) (K : V1) : Prop := Uw s10 s11 s21 w K
theorem ok3_5 {K : V1}
    (hn : HN (fun e w => K (e 6) w) kn) (hr : HR Tryz.prog [.tmp 6] K kr) (he : HE noE ke) :
    ∀ e w, P9 (e 10) (e 11) (e 21) w K → aA Tryz.prog (au T3) 160 fuel ((flat (ah Tryz.f3)).drop 20) e w kn kr ke := by
  intro e w h
  unfold P9 at h
  have e1 : ∀ (_ : Unit), Uw (e 10) (e 11) (e 21) w K = aA Tryz.prog (au T3) 160 fuel ((flat (ah Tryz.f3)).drop 20) e w (fun e w => K (e 6) w) (aW Tryz.prog [.tmp 6] K) noE := by intro _; kernel_rfl
  exact bQ (Eq.mp (e1 ()) h) hn hr he
def NM (s10 s11 s21 s140 s141 s142 : Value) (w : World) (K : V1) (Y0 : V6) (Y1 : V3) : Prop :=
aa (bLt s142 s141) fun v8 =>
ifB v8 (
aa (bq 1 s140 s142) fun v9 =>
aa (ld1 v9 w) fun v10 =>
ai G15 [s10, v10] w fun v12 w11 =>
aa (dN v12) fun v13 =>
ifB v13 (
K (.bool false) w11) (
aa (bH s142 (.int .i64 1)) fun v14 =>
Y0 s10 s11 s21 s140 s141 v14 w11)) (
Y1 s10 s11 s21 w)
def uh : Nat → Value → Value → Value → Value → Value → Value → World → (V1) → Prop
  | 0, _, _, _, _, _, _, _, _ => False
  | n + 1, s10, s11, s21, s140, s141, s142, w, K => NM s10 s11 s21 s140 s141 s142 w K (fun a10 a11 a21 a140 a141 a142 w => uh n a10 a11 a21 a140 a141 a142 w K) (fun a10 a11 a21 w => P9 a10 a11 a21 w K)
def Ux (s10 s11 s21 s140 s141 s142 : Value) (w : World) (K : V1) : Prop := uh fuel s10 s11 s21 s140 s141 s142 w K
theorem ok3_4 {K : V1}
    (hn : HN (fun e w => K (e 6) w) kn) (hr : HR Tryz.prog [.tmp 6] K kr) (he : HE noE ke) :
    ∀ e w, Ux (e 10) (e 11) (e 21) (e 140) (e 141) (e 142) w K → aA Tryz.prog (au T3) 160 fuel ((flat (ah Tryz.f3)).drop 19) e w kn kr ke := by
  intro e w h
  unfold Ux at h
  refine bM (id := 2) (body := (aU (bi (aV (flat (ah Tryz.f3)) 19)))) (l2 := (flat (ah Tryz.f3)).drop 20) (by kernel_rfl) ?_
  refine bV (FL := fun m e w => uh m (e 10) (e 11) (e 21) (e 140) (e 141) (e 142) w K) (fr := aW Tryz.prog [.tmp 6] K) (fe := (bB 2 (fun e w => P9 (e 10) (e 11) (e 21) w K) noE)) (fun _ _ h => h) ?_ hr (bD (fun e w h => ok3_5 hn hr he e w h) he) fuel e w h
  intro m e w h
  have h : uh (m + 1) (e 10) (e 11) (e 21) (e 140) (e 141) (e 142) w K := h
  rw [uh] at h
  have e1 : ∀ (Y0 : V6) (Y1 : V3), NM (e 10) (e 11) (e 21) (e 140) (e 141) (e 142) w K Y0 Y1 = aA Tryz.prog (au T3) 160 fuel (flat (aU (bi (aV (flat (ah Tryz.f3)) 19)))) e w (fun e w => Y0 (e 10) (e 11) (e 21) (e 140) (e 141) (e 142) w) (aW Tryz.prog [.tmp 6] K) (bB 2 (fun e w => Y1 (e 10) (e 11) (e 21) w) noE) := by intro Y0 Y1; kernel_rfl
  exact Eq.mp (e1 (fun a10 a11 a21 a140 a141 a142 w => uh m a10 a11 a21 a140 a141 a142 w K) (fun a10 a11 a21 w => P9 a10 a11 a21 w K)) h
def Uy (s7 s9 s10 : Value) (w : World) (_K : V1) (Y0 : V6) : Prop :=
aa (bH (.string ⟨#[108, 105, 115, 116, 32, 108, 101, 118, 101, 108, 32, 52]⟩) s9) fun v15 =>
ai G9 [s7, v15] w fun v17 w16 =>
aa (aK v17 0) fun v18 =>
aa (aK v17 1) fun v19 =>
aa (bI v18) fun v20 =>
Y0 s10 v19 v18 v18 v20 (.int .i64 0) w16
def Mo (s7 s9 s10 : Value) (w : World) (K : V1) : Prop := Uy s7 s9 s10 w K (fun a10 a11 a21 a140 a141 a142 w => Ux a10 a11 a21 a140 a141 a142 w K)
theorem ok3_3 {K : V1}
    (hn : HN (fun e w => K (e 6) w) kn) (hr : HR Tryz.prog [.tmp 6] K kr) (he : HE noE ke) :
    ∀ e w, Mo (e 7) (e 9) (e 10) w K → aA Tryz.prog (au T3) 160 fuel ((flat (ah Tryz.f3)).drop 17) e w kn kr ke := by
  intro e w h
  unfold Mo at h
  have e1 : ∀ (Y0 : V6), Uy (e 7) (e 9) (e 10) w K Y0 = aA Tryz.prog (au T3) 160 fuel (((flat (ah Tryz.f3)).drop 17).take 2) e w (fun e w => Y0 (e 10) (e 11) (e 21) (e 140) (e 141) (e 142) w) (aW Tryz.prog [.tmp 6] K) noE := by intro Y0; kernel_rfl
  exact seg 2 (Eq.mp (e1 (fun a10 a11 a21 a140 a141 a142 w => Ux a10 a11 a21 a140 a141 a142 w K)) h) (fun e w h => ok3_4 hn hr he e w h) hr he
def NN (s2 s7 s9 s10 s14 s78 s79 s80 : Value) (w : World) (K : V1) (Y0 : V8) (Y1 : V3) : Prop :=
aa (bLt s80 s79) fun v21 =>
ifB v21 (
aa (bq 1 s78 s80) fun v22 =>
aa (ld1 v22 w) fun v23 =>
aa (bH (.string ⟨#[108, 105, 115, 116, 32, 111, 114, 100, 101, 114, 32]⟩) v23) fun v24 =>
aa (bH v24 s9) fun v25 =>
ai G9 [s7, v25] w fun v27 w26 =>
aa (aK v27 0) fun v28 =>
aa (aK v27 1) fun v29 =>
aa (bH (.string ⟨#[108, 105, 115, 116]⟩) s9) fun v30 =>
aa (bH v30 (.string ⟨#[32, 108, 105, 109, 105, 116, 32]⟩)) fun v31 =>
ai G11 [s2] w26 fun v33 w32 =>
aa (bH v31 v33) fun v34 =>
aa (bH v34 (.string ⟨#[32, 111, 114, 100, 101, 114, 32]⟩)) fun v35 =>
aa (bH v35 v23) fun v36 =>
ai G9 [s7, v36] w32 fun v38 w37 =>
aa (aK v38 0) fun v39 =>
aa (aK v38 1) fun v40 =>
aa (bNe Tryz.prog 33 (.tmp 107) (.const (.int .i64 0)) v29 (.int .i64 0)) fun v41 =>
aS (gd false v41) v40 fun v42 =>
Sx.stepG (gd false v41) (bNe Tryz.prog 33 (.tmp 110) (.const (.int .i64 0)) v42 (.int .i64 0)) fun v43 =>
aa (aG v41 (.bool true) v43) fun v44 =>
aS (gd false v44) v28 fun v45 =>
dz (gd false v44) (fun k => ai G14 [v45] w37 k) w37 fun v47 w46 =>
dz (gd false v44) (fun k => ai G13 [v47] w46 k) w46 fun v49 w48 =>
aS (gd false v44) s14 fun v50 =>
dz (gd false v44) (fun k => ai G10 [v49, v50] w48 k) w48 fun v52 w51 =>
Sx.stepG (gd false v44) (dN v52) fun v53 =>
aa (aG v44 (.bool true) v53) fun v54 =>
aS (gd false v54) v39 fun v55 =>
aS (gd false v54) v28 fun v56 =>
aS (gd false v54) s2 fun v57 =>
aS (gd false v54) v28 fun v58 =>
Sx.stepG (gd false v54) (bI v58) fun v59 =>
Sx.stepG (gd false v54) (OD v57 v59) fun v60 =>
Sx.stepG (gd false v54) (dZ 1 v56 none (some v60) none) fun v61 =>
dz (gd false v54) (fun k => ai G10 [v55, v61] w51 k) w51 fun v63 w62 =>
Sx.stepG (gd false v54) (dN v63) fun v64 =>
aa (aG v54 (.bool true) v64) fun v65 =>
ifB v65 (
K (.bool false) w62) (
aa (bH s80 (.int .i64 1)) fun v66 =>
Y0 s2 s7 s9 s10 s14 s78 s79 v66 w62)) (
Y1 s7 s9 s10 w)
def ui : Nat → Value → Value → Value → Value → Value → Value → Value → Value → World → (V1) → Prop
  | 0, _, _, _, _, _, _, _, _, _, _ => False
  | n + 1, s2, s7, s9, s10, s14, s78, s79, s80, w, K => NN s2 s7 s9 s10 s14 s78 s79 s80 w K (fun a2 a7 a9 a10 a14 a78 a79 a80 w => ui n a2 a7 a9 a10 a14 a78 a79 a80 w K) (fun a7 a9 a10 w => Mo a7 a9 a10 w K)
def Uz (s2 s7 s9 s10 s14 s78 s79 s80 : Value) (w : World) (K : V1) : Prop := ui fuel s2 s7 s9 s10 s14 s78 s79 s80 w K
theorem ok3_2 {K : V1}
    (hn : HN (fun e w => K (e 6) w) kn) (hr : HR Tryz.prog [.tmp 6] K kr) (he : HE noE ke) :
    ∀ e w, Uz (e 2) (e 7) (e 9) (e 10) (e 14) (e 78) (e 79) (e 80) w K → aA Tryz.prog (au T3) 160 fuel ((flat (ah Tryz.f3)).drop 16) e w kn kr ke := by
  intro e w h
  unfold Uz at h
  refine bM (id := 0) (body := (aU (bi (aV (flat (ah Tryz.f3)) 16)))) (l2 := (flat (ah Tryz.f3)).drop 17) (by kernel_rfl) ?_
  refine bV (FL := fun m e w => ui m (e 2) (e 7) (e 9) (e 10) (e 14) (e 78) (e 79) (e 80) w K) (fr := aW Tryz.prog [.tmp 6] K) (fe := (bB 0 (fun e w => Mo (e 7) (e 9) (e 10) w K) noE)) (fun _ _ h => h) ?_ hr (bD (fun e w h => ok3_3 hn hr he e w h) he) fuel e w h
  intro m e w h
  have h : ui (m + 1) (e 2) (e 7) (e 9) (e 10) (e 14) (e 78) (e 79) (e 80) w K := h
  rw [ui] at h
  have e1 : ∀ (Y0 : V8) (Y1 : V3), NN (e 2) (e 7) (e 9) (e 10) (e 14) (e 78) (e 79) (e 80) w K Y0 Y1 = aA Tryz.prog (au T3) 160 fuel (flat (aU (bi (aV (flat (ah Tryz.f3)) 16)))) e w (fun e w => Y0 (e 2) (e 7) (e 9) (e 10) (e 14) (e 78) (e 79) (e 80) w) (aW Tryz.prog [.tmp 6] K) (bB 0 (fun e w => Y1 (e 7) (e 9) (e 10) w) noE) := by intro Y0 Y1; kernel_rfl
  exact Eq.mp (e1 (fun a2 a7 a9 a10 a14 a78 a79 a80 w => ui m a2 a7 a9 a10 a14 a78 a79 a80 w K) (fun a7 a9 a10 w => Mo a7 a9 a10 w K)) h
def UA (s0 s1 s2 : Value) (w : World) (K : V1) (Y0 : V8) : Prop :=
ai G4 [] w fun v68 w67 =>
aa (dN v68) fun v69 =>
ifB v69 (
K (.bool false) w67) (
ai G5 [s0] w67 fun v71 w70 =>
aa (dN v71) fun v72 =>
ifB v72 (
K (.bool true) w70) (
ai G6 [s0] w70 fun v74 w73 =>
aa (aK v74 0) fun v75 =>
aa (aK v74 1) fun _ =>
aa (bEq Tryz.prog 26 (.tmp 34) (.const (.pointer none)) v75 (.pointer none)) fun v77 =>
ifB v77 (
K (.bool false) w73) (
ai G7 [s1] w73 fun v79 w78 =>
ai G8 [s2, (.int .i64 12)] w78 fun v81 w80 =>
aa (bH (.string ⟨#[108, 105, 115, 116]⟩) v79) fun v82 =>
ai G9 [v75, v82] w80 fun v84 w83 =>
aa (aK v84 0) fun v85 =>
aa (aK v84 1) fun v86 =>
aa (bH (.string ⟨#[99, 111, 117, 110, 116]⟩) v79) fun v87 =>
ai G9 [v75, v87] w83 fun v89 w88 =>
aa (aK v89 0) fun v90 =>
aa (aK v89 1) fun v91 =>
aa (bNe Tryz.prog 33 (.tmp 54) (.const (.int .i64 0)) v86 (.int .i64 0)) fun v92 =>
aS (gd false v92) v91 fun v93 =>
Sx.stepG (gd false v92) (bNe Tryz.prog 33 (.tmp 57) (.const (.int .i64 0)) v93 (.int .i64 0)) fun v94 =>
aa (aG v92 (.bool true) v94) fun v95 =>
aS (gd false v95) v90 fun v96 =>
aS (gd false v95) v85 fun v97 =>
Sx.stepG (gd false v95) (bI v97) fun v98 =>
dz (gd false v95) (fun k => ai G11 [v98] w88 k) w88 fun v100 w99 =>
dz (gd false v95) (fun k => aB Tryz.prog 32 1 [(0, v100)] w99 k) w99 fun v102 w101 =>
dz (gd false v95) (fun k => ai G10 [v96, v102] w101 k) w101 fun v104 w103 =>
Sx.stepG (gd false v95) (dN v104) fun v105 =>
aa (aG v95 (.bool true) v105) fun v106 =>
aS (gd false v106) v79 fun v107 =>
Sx.stepG (gd false v106) (bH (.string ⟨#[108, 105, 115, 116]⟩) v107) fun v108 =>
dz (gd false v106) (fun k => ai G12 [v108] w103 k) w103 fun v110 w109 =>
Sx.stepG (gd false v106) (dN v110) fun v111 =>
aa (aG v106 (.bool true) v111) fun v112 =>
ifB v112 (
K (.bool false) w109) (
ai G14 [v85] w109 fun v114 w113 =>
ai G13 [v114] w113 fun v116 w115 =>
aB Tryz.prog 32 4 [(0, (.string ⟨#[105, 100]⟩)), (1, (.string ⟨#[108, 97, 115, 116]⟩)), (2, (.string ⟨#[108, 101, 118, 101, 108]⟩)), (3, (.string ⟨#[116, 97, 108, 108, 121]⟩))] w115 fun v118 w117 =>
aa (bI v118) fun v119 =>
Y0 v81 v75 v79 v85 v116 v118 v119 (.int .i64 0) w117))))
def Yv (s0 s1 s2 : Value) (w : World) (K : V1) : Prop := UA s0 s1 s2 w K (fun a2 a7 a9 a10 a14 a78 a79 a80 w => Uz a2 a7 a9 a10 a14 a78 a79 a80 w K)
theorem ok3_1 {K : V1}
    (hn : HN (fun e w => K (e 6) w) kn) (hr : HR Tryz.prog [.tmp 6] K kr) (he : HE noE ke) :
    ∀ e w, Yv (e 0) (e 1) (e 2) w K → aA Tryz.prog (au T3) 160 fuel ((flat (ah Tryz.f3)).drop 0) e w kn kr ke := by
  intro e w h
  unfold Yv at h
  have e1 : ∀ (Y0 : V8), UA (e 0) (e 1) (e 2) w K Y0 = aA Tryz.prog (au T3) 160 fuel (((flat (ah Tryz.f3)).drop 0).take 16) e w (fun e w => Y0 (e 2) (e 7) (e 9) (e 10) (e 14) (e 78) (e 79) (e 80) w) (aW Tryz.prog [.tmp 6] K) noE := by intro Y0; kernel_rfl
  exact seg 16 (Eq.mp (e1 (fun a2 a7 a9 a10 a14 a78 a79 a80 w => Uz a2 a7 a9 a10 a14 a78 a79 a80 w K)) h) (fun e w h => ok3_2 hn hr he e w h) hr he
def F3 (x0 x1 x2 : Value) (w : World) (K : V1) : Prop := Yv x0 x1 x2 w K
def G3 : FnT := fun args w K => on3 (fun x0 x1 x2 => F3 x0 x1 x2 w K) args
theorem c3 {x0 x1 x2 : Value} {w : World} {K : V1} (h : F3 x0 x1 x2 w K) : ai G3 [x0, x1, x2] w K := aj (kT (p := fun x0 x1 x2 => F3 x0 x1 x2 w K) h)
theorem ok3 : OkF Tryz.prog 3 G3 := by
  refine aO (aN (l := T3) ⟨ok4, ok5, ok6, ok7, ok8, ok9, ok10, Q5, ok12, ok13, ok14, ok15, trivial⟩) mixed (n := fuel) Tryz.func3 Tryz.call3 fun args w K h => ?_
  obtain ⟨x0, x1, x2, rfl, hh⟩ := kV h
  unfold F3 at hh
  exact az (c := ah Tryz.f3) (by kernel_rfl) (by kernel_rfl) (ok3_1 (fun _ _ h => h) (fun _ _ h => h) (fun _ _ _ h => h) (dD [x0, x1, x2]) w hh)
end Go.Proofs.Gong

/- Al0 -/
namespace Go.Proofs.Gong
open Go Go.Sx Go.Proofs
set_option maxRecDepth 100000
section
variable {κ ν : Type} [DecidableEq κ] {k : κ} {x : ν} {m : List (κ × ν)}
theorem iZ {k : κ} {m : List (κ × ν)} (h : ∀ y, (k, y) ∉ m) : dM k m = none := by
  cases hg : dM k m with
  | none => rfl
  | some y => exact absurd (tJ hg) (h y)
theorem mH {k : κ} {x : ν} : ∀ {m : List (κ × ν)}, dM k m = none → iN k x m = m ++ [(k, x)]
  | [], _ => rfl
  | z :: r, h => by
    unfold dM at h
    by_cases hk : k = z.1
    · simp [hk] at h
    · simp only [hk, if_false] at h
      simp [iN, hk, mH h]
theorem kF {k : κ} {x : ν} : ∀ {m : List (κ × ν)}, dM k m = some x → ((k, x) :: mI k m).Perm m
  | [], h => by simp [dM] at h
  | z :: r, h => by
    unfold dM at h
    by_cases hk : k = z.1
    · simp only [hk, if_true, Option.some.injEq] at h
      subst h
      simp [mI, hk]
    · simp only [hk, if_false] at h
      simp only [mI, hk, if_false]
      exact (List.Perm.swap _ _ _).trans ((kF h).cons z)
theorem Cn {k : κ} {x y : ν} : ∀ {m : List (κ × ν)}, dM k m = some y → (iN k x m).Perm ((k, x) :: mI k m)
  | [], h => by simp [dM] at h
  | z :: r, h => by
    unfold dM at h
    by_cases hk : k = z.1
    · simp [iN, mI, hk]
    · simp only [hk, if_false] at h
      simp only [mI, iN, hk, if_false]
      exact ((Cn h).cons z).trans (List.Perm.swap _ _ _)
end
end Go.Proofs.Gong

/- Ks0 -/
namespace Go.Proofs.Gong
open Go Go.Sx Go.Proofs
theorem DL {κ ν : Type} [DecidableEq κ] {k : κ} : ∀ {m : List (κ × ν)}, dM k m = none → mI k m = m
  | [], _ => rfl
  | z :: r, h => by
    unfold dM at h
    by_cases hk : k = z.1
    · simp [hk] at h
    · simp only [hk, if_false] at h
      simp [mI, hk, DL h]
structure STO {κ : Type} (lt : κ → κ → Bool) : Prop where
  irr : ∀ a, lt a a = false
  trans : ∀ {a b c}, lt a b = true → lt b c = true → lt a c = true
  tot : ∀ {a b}, lt a b = false → lt b a = false → a = b
section
variable {α κ ν : Type} [DecidableEq κ] (lt : κ → κ → Bool) (key : α → κ) (val : α → ν)
def Hd (k : κ) (l : List α) : Option α := l.find? fun x => decide (key x = k)
def Hf (k : κ) (l : List α) : List α := l.filter fun x => decide (key x ≠ k)
def uR (x : α) (l : List α) : List α := l.takeWhile (fun d => lt (key d) (key x)) ++ x :: l.dropWhile (fun d => lt (key d) (key x))
def Rv (x : α) (l : List α) : List α := uR lt key x (Hf key (key x) l)
def tO (l : List α) : Prop := l.Pairwise fun a b => lt (key a) (key b) = true
structure KInv (M : List (κ × ν)) (l : List α) : Prop where
  pm : M.Perm (l.map fun x => (key x, val x))
  asc : tO lt key l
variable {lt key val}
theorem tO.ne (S : STO lt) {l : List α} (h : tO lt key l) : l.Pairwise fun a b => key a ≠ key b :=
  h.imp fun h e => by rw [e, S.irr] at h; cases h
theorem XL (S : STO lt) {l : List α} (h : tO lt key l) : (l.map key).Nodup := List.pairwise_map.2 (h.ne S)
theorem Kr (S : STO lt) {l : List α} {x : α} (h : tO lt key l) (hx : x ∈ l) : ∃ a b, l = a ++ x :: b ∧ (∀ d ∈ a, key d ≠ key x) ∧ (∀ d ∈ b, key d ≠ key x) := by
  obtain ⟨a, b, rfl⟩ := List.append_of_mem hx
  have h2 := h.ne S
  rw [List.pairwise_append] at h2
  exact ⟨a, b, rfl, fun d hd => h2.2.2 d hd x (by simp), fun d hd e => (List.pairwise_cons.1 h2.2.1).1 d hd e.symm⟩
theorem yY {l : List α} {k : κ} {x : α} (h : Hd key k l = some x) : x ∈ l ∧ key x = k := by
  unfold Hd at h
  exact ⟨List.mem_of_find?_eq_some h, by simpa using List.find?_some h⟩
theorem BP {l : List α} {k : κ} : Hd key k l = none ↔ ∀ x ∈ l, key x ≠ k := by
  unfold Hd
  rw [List.find?_eq_none]
  simp
theorem BO (x : α) (l : List α) : (uR lt key x l).Perm (x :: l) := by
  unfold uR
  exact List.perm_middle.trans (by rw [List.takeWhile_append_dropWhile])
theorem Ha (S : STO lt) {x : α} : ∀ {l : List α}, tO lt key l → (∀ d ∈ l, key d ≠ key x) → tO lt key (uR lt key x l)
  | [], _, _ => by simp [uR, tO]
  | d :: r, h, hn => by
    obtain ⟨h1, h2⟩ := List.pairwise_cons.1 h
    by_cases g : lt (key d) (key x) = true
    · have e : uR lt key x (d :: r) = d :: uR lt key x r := by simp [uR, g]
      rw [e]
      refine List.pairwise_cons.2 ⟨fun y hy => ?_, Ha S h2 fun y hy => hn y (List.mem_cons_of_mem _ hy)⟩
      rcases List.mem_cons.1 ((BO x r).mem_iff.1 hy) with rfl | hy
      · exact g
      · exact h1 y hy
    · have g2 : lt (key d) (key x) = false := by simpa using g
      have e : uR lt key x (d :: r) = x :: d :: r := by simp [uR, g2]
      rw [e]
      have hxd : lt (key x) (key d) = true := by
        cases hh : lt (key x) (key d) with
        | true => rfl
        | false => exact absurd (S.tot g2 hh) (hn d (by simp))
      refine List.pairwise_cons.2 ⟨fun y hy => ?_, h⟩
      rcases List.mem_cons.1 hy with rfl | hy
      · exact hxd
      · exact S.trans hxd (h1 y hy)
theorem He {l : List α} {k : κ} (h : tO lt key l) : tO lt key (Hf key k l) := h.filter _
theorem XM {l : List α} {k : κ} : ∀ d ∈ Hf key k l, key d ≠ k := fun d hd => by simpa using (List.mem_filter.1 hd).2
theorem M6 {l : List α} {k : κ} (h : ∀ d ∈ l, key d ≠ k) : Hf key k l = l := List.filter_eq_self.2 fun d hd => by simpa using h d hd
theorem Ku {l r : List α} {x : α} (h1 : ∀ d ∈ l, key d ≠ key x) (h2 : ∀ d ∈ r, key d ≠ key x) : Hf key (key x) (l ++ x :: r) = l ++ r := by
  unfold Hf
  rw [List.filter_append, List.filter_cons, List.filter_eq_self.2 (fun d hd => by simpa using h1 d hd), List.filter_eq_self.2 (fun d hd => by simpa using h2 d hd)]
  simp
theorem Ru (S : STO lt) {l : List α} {x : α} (h : tO lt key l) : tO lt key (Rv lt key x l) := Ha S (He h) XM
theorem O3 (l : List α) (x : α) : (Rv lt key x l).Perm (x :: Hf key (key x) l) := BO _ _
theorem O4 {l : List α} {x : α} (S : STO lt) (h : ∀ d ∈ l, lt (key d) (key x) = true) : Rv lt key x l = l ++ [x] := by
  unfold Rv
  rw [M6 fun d hd e => by have := h d hd; rw [e, S.irr] at this; cases this]
  clear S
  induction l with
  | nil => rfl
  | cons d l ih =>
    have hd := h d (by simp)
    have e : uR lt key x (d :: l) = d :: uR lt key x l := by simp [uR, hd]
    rw [e, ih fun x hx => h x (List.mem_cons_of_mem _ hx)]
    rfl
section
variable {M : List (κ × ν)} {l : List α}
theorem KInv.nil : KInv lt key val ([] : List (κ × ν)) [] := ⟨.nil, .nil⟩
variable (H : KInv lt key val M l) (S : STO lt)
include H
theorem KInv.len : M.length = l.length := by have := H.pm.length_eq; simpa using this
include S
theorem KInv.keys : (M.map Prod.fst).Nodup := by
  refine ((H.pm.map Prod.fst).nodup_iff).2 ?_
  rw [List.map_map]
  exact XL S H.asc
theorem KInv.get (k : κ) : dM k M = (Hd key k l).map val := by
  cases hg : Hd key k l with
  | none =>
    refine iZ fun y hy => ?_
    obtain ⟨x, hx, e⟩ := List.mem_map.1 (H.pm.mem_iff.1 hy)
    simp only [Prod.mk.injEq] at e
    exact BP.1 hg x hx e.1
  | some x =>
    obtain ⟨h1, rfl⟩ := yY hg
    exact mh (H.keys S) (H.pm.mem_iff.2 (List.mem_map.2 ⟨x, h1, rfl⟩))
theorem KInv.del (k : κ) : KInv lt key val (mI k M) (Hf key k l) := by
  refine ⟨?_, He H.asc⟩
  cases hg : Hd key k l with
  | none =>
    rw [M6 (BP.1 hg)]
    have : dM k M = none := by rw [H.get S, hg]; rfl
    rw [DL this]
    exact H.pm
  | some x =>
    obtain ⟨h1, rfl⟩ := yY hg
    have hv : dM (key x) M = some (val x) := by rw [H.get S, hg]; rfl
    obtain ⟨a, b, rfl, h2, h3⟩ := Kr S H.asc h1
    rw [Ku h2 h3]
    have := ((kF hv).trans H.pm)
    rw [List.map_append, List.map_cons] at this
    rw [List.map_append]
    exact List.Perm.cons_inv (this.trans List.perm_middle)
theorem KInv.put (x : α) : KInv lt key val (iN (key x) (val x) M) (Rv lt key x l) := by
  refine ⟨?_, Ru S H.asc⟩
  have hp := ((O3 (lt := lt) (key := key) l x).map fun x => (key x, val x))
  rw [List.map_cons] at hp
  refine .trans ?_ hp.symm
  have hd := (H.del S (key x)).pm
  cases hg : Hd key (key x) l with
  | none =>
    have h0 : dM (key x) M = none := by rw [H.get S, hg]; rfl
    rw [mH h0]
    rw [DL h0] at hd
    exact List.perm_append_comm.trans (hd.cons _)
  | some y =>
    obtain ⟨h1, e⟩ := yY hg
    have hv : dM (key x) M = some (val y) := by rw [H.get S, hg]; rfl
    exact (Cn hv).trans (hd.cons _)
end
end
def ltI (a b : Int) : Bool := decide (a < b)
theorem STO.int : STO ltI := ⟨fun a => by simp [ltI], fun h1 h2 => by simp [ltI] at *; omega, fun h1 h2 => by simp [ltI] at *; omega⟩
end Go.Proofs.Gong

/- Hp0 -/
namespace Go.Proofs.Gong
open Go.Sx
abbrev It := Int × Int
def ng (x y : It) : Bool := decide (x.2 < y.2) || (decide (x.2 = y.2) && decide (x.1 < y.1))
theorem y7 : SWO ng := by
  constructor
  · rintro ⟨a, b⟩ ⟨c, d⟩ h; simp [ng] at *; omega
  · rintro ⟨a, b⟩ ⟨c, d⟩ ⟨e, f⟩ h1 h2; simp [ng] at *; omega
theorem Ry (a b : It) (h1 : ng a b = false) (h2 : ng b a = false) : a = b := by
  rcases a with ⟨a1, a2⟩; rcases b with ⟨b1, b2⟩
  simp only [ng, Bool.or_eq_false_iff, decide_eq_false_iff_not, Bool.and_eq_false_iff] at h1 h2
  have e1 : a2 = b2 := by omega
  have e2 : a1 = b1 := by omega
  rw [e1, e2]
abbrev Pl := List (Int × Int)
structure Idx (l : List It) (m : Pl) : Prop where
  a : ∀ id j, dM id m = some j → ∃ (k : Nat) (t : Int), j = k ∧ l[k]? = some (id, t)
  b : ∀ (k : Nat) (x : It), l[k]? = some x → dM x.1 m = some (k : Int)
theorem Idx.inj {l : List It} {m : Pl} (h : Idx l m) {i j : Nat} {x y : It} (hi : l[i]? = some x) (hj : l[j]? = some y) (e : x.1 = y.1) : i = j := by
  have h1 := h.b i x hi
  have h2 := h.b j y hj
  rw [e, h2] at h1
  simp at h1; omega
theorem Idx.ext {l : List It} {m m' : Pl} (h : Idx l m) (e : ∀ k, dM k m' = dM k m) : Idx l m' :=
  ⟨fun id j hj => h.a id j (by rw [← e]; exact hj), fun k x hx => by rw [e]; exact h.b k x hx⟩
def okAt (l : List It) (k : Nat) : Prop := ∀ x y, l[k]? = some x → l[(k - 1) / 2]? = some y → ng x y = false
structure Up (l : List It) (i : Nat) (x : It) : Prop where
  o : ∀ k, 0 < k → k ≠ i → (k - 1) / 2 ≠ i → okAt l k
  c : ∀ k y z, 0 < k → 0 < i → (k - 1) / 2 = i → l[k]? = some y → l[(i - 1) / 2]? = some z → ng y z = false
structure Dn (l : List It) (i : Nat) (x : It) : Prop where
  o : ∀ k, 0 < k → k ≠ i → (k - 1) / 2 ≠ i → okAt l k
  p : ∀ y, 0 < i → l[(i - 1) / 2]? = some y → ng x y = false
  c : ∀ k y z, 0 < k → 0 < i → (k - 1) / 2 = i → l[k]? = some y → l[(i - 1) / 2]? = some z → ng y z = false
theorem pR (l : List It) (i k : Nat) (x : It) (hi : i < l.length) : (l.set i x)[k]? = if k = i then some x else l[k]? := by
  rw [List.getElem?_set]
  by_cases h : i = k
  · subst h; simp [hi]
  · simp [h, Ne.symm h]
def Hp (l : List It) : Prop := ∀ k, 0 < k → okAt l k
end Go.Proofs.Gong

/- Hp1 -/
namespace Go.Proofs.Gong
open Go.Sx
def Asc (M : List It) : Prop := M.Pairwise fun x y => ng y x = false
def mG (id : Int) (M : List It) : List It := M.filter fun x => decide (x.1 ≠ id)
def A8 (x : It) (M : List It) : List It := M.takeWhile (fun y => ng y x) ++ x :: M.dropWhile (fun y => ng y x)
def H9 (id : Int) (M : List It) : Option Int := (M.find? fun x => decide (x.1 = id)).map (·.2)
theorem pK (x : It) (M : List It) : (A8 x M).Perm (x :: M) := by
  unfold A8
  refine List.perm_middle.trans ?_
  rw [List.takeWhile_append_dropWhile]
theorem Asc.ins {M : List It} (h : Asc M) (x : It) : Asc (A8 x M) := by
  induction M with
  | nil => simp [A8, Asc]
  | cons y M ih =>
    unfold Asc at h
    rw [List.pairwise_cons] at h
    obtain ⟨h1, h2⟩ := h
    by_cases hlt : ng y x = true
    · have e : A8 x (y :: M) = y :: A8 x M := by simp [A8, hlt]
      rw [e]
      unfold Asc
      rw [List.pairwise_cons]
      refine ⟨fun z hz => ?_, ih h2⟩
      rcases List.mem_cons.1 ((pK x M).subset hz) with rfl | hz
      · exact y7.asym _ _ hlt
      · exact h1 z hz
    · have e : A8 x (y :: M) = x :: y :: M := by simp [A8, hlt]
      rw [e]
      unfold Asc
      rw [List.pairwise_cons]
      refine ⟨fun z hz => ?_, List.pairwise_cons.2 ⟨h1, h2⟩⟩
      rcases List.mem_cons.1 hz with rfl | hz
      · simpa using hlt
      · exact y7.tr _ _ _ (by simpa using hlt) (h1 z hz)
theorem Asc.drop {M : List It} (h : Asc M) (id : Int) : Asc (mG id M) := List.Pairwise.sublist List.filter_sublist h
theorem Asc.eq {M N : List It} (h : Asc M) (h' : Asc N) (p : M.Perm N) : M = N := AO (lt := ng) (fun a b h1 h2 => Ry a b h1 h2) p h h'
structure HRep (l : List It) (m : Pl) (M : List It) : Prop where
  i : Idx l m
  h : Hp l
  p : l.Perm M
  s : Asc M
theorem Hp.first {l : List It} (h : Hp l) {x : It} (hx : l[0]? = some x) : ∀ y ∈ l, ng y x = false := by
  have key : ∀ (k : Nat) (y : It), l[k]? = some y → ng y x = false := by
    intro k
    induction k using Nat.strongRecOn with
    | ind k ih =>
      intro y hy
      by_cases h0 : 0 < k
      · have hk : k < l.length := (List.getElem?_eq_some_iff.1 hy).1
        have hz : l[(k - 1) / 2]? = some l[(k - 1) / 2] := List.getElem?_eq_getElem (by omega)
        exact y7.tr _ _ _ (ih _ (by omega) _ hz) (h k h0 y _ hy hz)
      · have : k = 0 := by omega
        subst this; rw [hx] at hy; cases hy; exact y7.irr _
  intro y hy
  obtain ⟨k, hk⟩ := List.getElem?_of_mem hy
  exact key k y hk
theorem HRep.first {l : List It} {m : Pl} {M : List It} (R : HRep l m M) : l.head? = M.head? := by
  cases l with
  | nil => have := R.p.length_eq; simp at this; rw [List.eq_nil_of_length_eq_zero this.symm]
  | cons x l =>
    cases M with
    | nil => have := R.p.length_eq; simp at this
    | cons y M =>
      have h1 := R.h.first (x := x) rfl y (R.p.symm.subset (by simp))
      have h2 : ng x y = false := by
        rcases List.mem_cons.1 (R.p.subset (show x ∈ x :: l by simp)) with e | e
        · rw [e]; exact y7.irr _
        · exact (List.pairwise_cons.1 R.s).1 x e
      have := Ry x y h2 h1
      simp [this]
theorem HRep.ids {l : List It} {m : Pl} {M : List It} (R : HRep l m M) : (M.map (·.1)).Nodup := by
  have : (l.map (·.1)).Nodup := by
    rw [List.nodup_iff_pairwise_ne, List.pairwise_iff_getElem]
    intro i j hi hj hij e
    simp at hi hj e
    have := R.i.inj (List.getElem?_eq_getElem hi) (List.getElem?_eq_getElem hj) e
    omega
  exact (R.p.map _).nodup this
theorem XX {M : List It} {id t : Int} (hn : (M.map (·.1)).Nodup) (hm : (id, t) ∈ M) : H9 id M = some t := by
  induction M with
  | nil => simp at hm
  | cons x M ih =>
    simp only [List.map_cons, List.nodup_cons] at hn
    rcases List.mem_cons.1 hm with rfl | hm
    · simp [H9]
    · have : x.1 ≠ id := fun e => hn.1 (by rw [e]; exact List.mem_map_of_mem (f := (·.1)) hm)
      have := ih hn.2 hm
      unfold H9 at *
      rw [List.find?_cons, decide_eq_false ‹x.1 ≠ id›]
      exact this
theorem Pq {M : List It} {id : Int} (h : ∀ t, (id, t) ∉ M) : H9 id M = none := by
  unfold H9
  rw [Option.map_eq_none_iff, List.find?_eq_none]
  intro x hx
  simp
  intro e
  exact h x.2 (by rw [← e]; exact hx)
theorem HRep.get {l : List It} {m : Pl} {M : List It} (R : HRep l m M) (id : Int) :
    (∃ (k : Nat) (t : Int), dM id m = some (k : Int) ∧ l[k]? = some (id, t) ∧ H9 id M = some t) ∨ (dM id m = none ∧ H9 id M = none ∧ ∀ t, (id, t) ∉ M) := by
  cases h : dM id m with
  | some j =>
    obtain ⟨k, t, rfl, hl⟩ := R.i.a id j h
    exact .inl ⟨k, t, rfl, hl, XX R.ids (R.p.subset (List.mem_of_getElem? hl))⟩
  | none =>
    have hn : ∀ t, (id, t) ∉ M := by
      intro t ht
      obtain ⟨k, hk⟩ := List.getElem?_of_mem (R.p.symm.subset ht)
      have := R.i.b k _ hk
      simp [h] at this
    exact .inr ⟨rfl, Pq hn, hn⟩
theorem oF {M : List It} {id : Int} (h : ∀ t, (id, t) ∉ M) : mG id M = M := by
  unfold mG
  rw [List.filter_eq_self]
  intro x hx
  simp
  intro e
  exact h x.2 (by rw [← e]; exact hx)
theorem Cf {M : List It} {id t : Int} (hn : (M.map (·.1)).Nodup) (hm : (id, t) ∈ M) : ((id, t) :: mG id M).Perm M := by
  induction M with
  | nil => simp at hm
  | cons x M ih =>
    simp only [List.map_cons, List.nodup_cons] at hn
    rcases List.mem_cons.1 hm with rfl | hm'
    · have : mG id ((id, t) :: M) = mG id M := by simp [mG]
      rw [this, oF fun t' h => hn.1 (List.mem_map_of_mem (f := (·.1)) h)]
    · have hne : x.1 ≠ id := fun e => hn.1 (by rw [e]; exact List.mem_map_of_mem (f := (·.1)) hm')
      have : mG id (x :: M) = x :: mG id M := by simp [mG, hne]
      rw [this]
      exact (List.Perm.swap _ _ _).trans ((ih hn.2 hm').cons x)
end Go.Proofs.Gong

/- Hp2 -/
namespace Go.Proofs.Gong
open Go.Sx
def Qr (id t : Int) (M : List It) : List It := A8 (id, t) (mG id M)
theorem set_perm {l : List It} {k : Nat} {x y : It} (hk : l[k]? = some y) : (y :: l.set k x).Perm (x :: l) := by
  obtain ⟨h1, h2⟩ := List.getElem?_eq_some_iff.1 hk
  have e1 : l = l.take k ++ y :: l.drop (k + 1) := by rw [← h2, List.getElem_cons_drop, List.take_append_drop]
  have e2 : l.set k x = l.take k ++ x :: l.drop (k + 1) := by rw [List.set_eq_take_append_cons_drop, if_pos h1]
  rw [e2]
  refine (List.perm_middle.cons y).trans ?_
  refine (List.Perm.swap _ _ _).trans ?_
  refine List.Perm.cons x ?_
  refine List.perm_middle.symm.trans ?_
  rw [← e1]
theorem Hp.up_set {l : List It} (h : Hp l) {k : Nat} {x : It} (hk : k < l.length) : Up (l.set k x) k x := by
  have hy : l[k]? = some l[k] := List.getElem?_eq_getElem hk
  constructor
  · intro j h0 h1 h2 a b ha hb
    rw [pR _ _ _ _ hk, if_neg h1] at ha
    rw [pR _ _ _ _ hk, if_neg h2] at hb
    exact h j h0 a b ha hb
  · intro j y z h0 h1 h2 hy' hz
    rw [pR _ _ _ _ hk, if_neg (by omega)] at hy'
    rw [pR _ _ _ _ hk, if_neg (by omega)] at hz
    have a1 := h j h0 y l[k] hy' (by rw [h2]; exact hy)
    have a2 := h k h1 l[k] z hy hz
    exact y7.tr _ _ _ a2 a1
theorem Cm {m : Pl} {id : Int} {j : Int} (h : dM id m = some j) (k : Int) : dM k (iN id j m) = dM k m := by
  rw [tH]; split
  · rename_i e; rw [e, h]
  · rfl
theorem HRep.put {l : List It} {m : Pl} {M : List It} (R : HRep l m M) {k : Nat} {id t t' : Int} (hl : l[k]? = some (id, t)) :
    Up (l.set k (id, t')) k (id, t') ∧ Idx (l.set k (id, t')) (iN id k m) ∧ (l.set k (id, t')).Perm (Qr id t' M) := by
  have hk : k < l.length := (List.getElem?_eq_some_iff.1 hl).1
  refine ⟨R.h.up_set hk, ?_, ?_⟩
  · have h0 := R.i
    have hg := R.i.b k _ hl
    constructor
    · intro id' j hj
      rw [Cm hg] at hj
      obtain ⟨k', t'', rfl, h2⟩ := h0.a id' j hj
      by_cases e : k' = k
      · subst e; rw [hl] at h2; cases h2
        exact ⟨k', t', rfl, by simp [hk]⟩
      · exact ⟨k', t'', rfl, by rw [pR _ _ _ _ hk, if_neg e]; exact h2⟩
    · intro j y hy
      rw [Cm hg]
      rw [pR _ _ _ _ hk] at hy
      by_cases e : j = k
      · rw [if_pos e] at hy; cases hy; subst e; exact hg
      · rw [if_neg e] at hy; exact h0.b j y hy
  · have h1 := set_perm (x := (id, t')) hl
    have hm : (id, t) ∈ M := R.p.subset (List.mem_of_getElem? hl)
    have h2 : ((id, t') :: l).Perm ((id, t) :: (id, t') :: mG id M) := ((R.p.trans (Cf R.ids hm).symm).cons _).trans (List.Perm.swap _ _ _)
    have h3 := (h1.trans h2).cons_inv
    exact h3.trans (pK _ _).symm
theorem HRep.add {l : List It} {m : Pl} {M : List It} (R : HRep l m M) {id t' : Int} (hn : dM id m = none) :
    Up (l ++ [(id, t')]) l.length (id, t') ∧ Idx (l ++ [(id, t')]) (iN id l.length m) ∧ (l ++ [(id, t')]).Perm (Qr id t' M) := by
  have hnm : ∀ t, (id, t) ∉ M := by
    rcases R.get id with ⟨k, t, h, _⟩ | ⟨_, _, h⟩
    · rw [hn] at h; cases h
    · exact h
  have get : ∀ k, (l ++ [(id, t')])[k]? = if k = l.length then some (id, t') else l[k]? := by
    intro k
    rw [List.getElem?_append]
    by_cases h1 : k < l.length
    · rw [if_pos h1, if_neg (by omega)]
    · rw [if_neg h1]
      by_cases h2 : k = l.length
      · simp [h2]
      · rw [if_neg h2, List.getElem?_eq_none (by simp; omega), List.getElem?_eq_none (by omega)]
  refine ⟨⟨?_, ?_⟩, ⟨?_, ?_⟩, ?_⟩
  · intro k h0 h1 h2 a b ha hb
    rw [get, if_neg h1] at ha
    rw [get, if_neg h2] at hb
    exact R.h k h0 a b ha hb
  · intro k y z h0 h1 h2 hy hz
    rw [get, if_neg (by omega)] at hy
    have := (List.getElem?_eq_some_iff.1 hy).1
    omega
  · intro id' j hj
    rw [tH] at hj
    by_cases e : id' = id
    · simp [e] at hj; subst hj
      exact ⟨l.length, t', rfl, by rw [get]; simp [e]⟩
    · simp only [e, if_false] at hj
      obtain ⟨k, t, rfl, hk⟩ := R.i.a id' j hj
      have := (List.getElem?_eq_some_iff.1 hk).1
      exact ⟨k, t, rfl, by rw [get, if_neg (by omega)]; exact hk⟩
  · intro k x hx
    rw [get] at hx
    rw [tH]
    by_cases e : k = l.length
    · rw [if_pos e] at hx; cases hx; simp [e]
    · rw [if_neg e] at hx
      have h1 := R.i.b k x hx
      have : x.1 ≠ id := fun e => by rw [e, hn] at h1; cases h1
      rw [if_neg this]; exact h1
  · refine List.Perm.trans ?_ (pK _ _).symm
    rw [oF hnm]
    exact List.perm_append_comm.trans (R.p.cons _)
end Go.Proofs.Gong
