/- A part of the proofs: what stands below it, told in lemmas. No condition. -/
import Derived.Test.YtkbflbmgilgolaaProg
import Derived.Test.YtkbflbmgilgolaaSz8
namespace Go.Proofs.Gong
open Go Go.Sx Go.Proofs
set_option maxRecDepth 100000
theorem mixed : Try.prog.follows .mixedOrders = true := by kernel_rfl

-- facts on types
theorem z2 : fZero Try.prog 2 = some (.int .i64 0) := by kernel_rfl
theorem z3 : fZero Try.prog 3 = some (.int .i64 0) := by kernel_rfl
theorem ub4 : Try.prog.underlying 4 = some .bool := by kernel_rfl
theorem z4 : fZero Try.prog 4 = some (.bool false) := by kernel_rfl
theorem z5 : fZero Try.prog 5 = some (.int .u8 0) := by kernel_rfl
theorem ss9 : isSS Try.prog 9 = true := by kernel_rfl
theorem z9 : fZero Try.prog 9 = some (.string ⟨#[]⟩) := by kernel_rfl
theorem ss10 : isSS Try.prog 10 = true := by kernel_rfl
theorem z10 : fZero Try.prog 10 = some (.string ⟨#[]⟩) := by kernel_rfl
theorem z12 : fZero Try.prog 12 = some (.int .u64 0) := by kernel_rfl
theorem u22 : Try.prog.underlying 22 = some (.slice 3) := by kernel_rfl
theorem ss22 : isSS Try.prog 22 = true := by kernel_rfl
theorem sl22 : SlT Try.prog 22 3 1 8 := .of (by kernel_rfl) (by kernel_rfl) (by kernel_rfl) (by omega) (by omega)
theorem z22 : fZero Try.prog 22 = some (.slice none 0 0) := by kernel_rfl
theorem up23 : Try.prog.underlying 23 = some (.pointer 162) := by kernel_rfl
theorem z23 : fZero Try.prog 23 = some (.pointer none) := by kernel_rfl
theorem z24 : fZero Try.prog 24 = some (.int .i64 0) := by kernel_rfl
theorem u29 : Try.prog.underlying 29 = some (.slice 5) := by kernel_rfl
theorem ss29 : isSS Try.prog 29 = true := by kernel_rfl
theorem sl29 : SlT Try.prog 29 5 1 1 := .of (by kernel_rfl) (by kernel_rfl) (by kernel_rfl) (by omega) (by omega)
theorem z29 : fZero Try.prog 29 = some (.slice none 0 0) := by kernel_rfl
theorem z30 : fZero Try.prog 30 = some (.agg #[(.string ⟨#[]⟩), (.string ⟨#[]⟩), (.string ⟨#[]⟩), (.int .i64 0), (.string ⟨#[]⟩)]) := by kernel_rfl
theorem z31 : fZero Try.prog 31 = some (.agg #[(.string ⟨#[]⟩), (.string ⟨#[]⟩), (.string ⟨#[]⟩), (.int .i64 0), (.string ⟨#[]⟩)]) := by kernel_rfl
theorem z33 : fZero Try.prog 33 = some (.agg #[(.int .i64 0), (.string ⟨#[]⟩), (.string ⟨#[]⟩), (.string ⟨#[]⟩), (.int .i64 0), (.string ⟨#[]⟩), (.int .i64 0), (.int .i64 0), (.int .i64 0), (.bool false), (.string ⟨#[]⟩)]) := by kernel_rfl
theorem up39 : Try.prog.underlying 39 = some (.pointer 171) := by kernel_rfl
theorem z39 : fZero Try.prog 39 = some (.pointer none) := by kernel_rfl
theorem um42 : Try.prog.underlying 42 = some (.map 3 3) := by kernel_rfl
theorem z42 : fZero Try.prog 42 = some (.map none) := by kernel_rfl
theorem z43 : fZero Try.prog 43 = some (.agg #[(.int .i64 0), (.int .i64 0)]) := by kernel_rfl
theorem u46 : Try.prog.underlying 46 = some (.slice 49) := by kernel_rfl
theorem ss46 : isSS Try.prog 46 = true := by kernel_rfl
theorem sl46 : SlT Try.prog 46 49 2 16 := .of (by kernel_rfl) (by kernel_rfl) (by kernel_rfl) (by omega) (by omega)
theorem z46 : fZero Try.prog 46 = some (.slice none 0 0) := by kernel_rfl
theorem z49 : fZero Try.prog 49 = some (.agg #[(.int .i64 0), (.int .i64 0)]) := by kernel_rfl
theorem z63 : fZero Try.prog 63 = some (.agg #[(.int .i64 0), (.int .i64 0), (.string ⟨#[]⟩), (.string ⟨#[]⟩), (.int .i64 0), (.string ⟨#[]⟩), (.string ⟨#[]⟩), (.string ⟨#[]⟩), (.int .i64 0), (.string ⟨#[]⟩), (.slice none 0 0)]) := by kernel_rfl
theorem up67 : Try.prog.underlying 67 = some (.pointer 198) := by kernel_rfl
theorem z67 : fZero Try.prog 67 = some (.pointer none) := by kernel_rfl
theorem up89 : Try.prog.underlying 89 = some (.pointer 211) := by kernel_rfl
theorem z89 : fZero Try.prog 89 = some (.pointer none) := by kernel_rfl
theorem z93 : fZero Try.prog 93 = some (.agg #[(.int .i64 0), (.int .i64 0), (.int .i64 0)]) := by kernel_rfl
theorem u95 : Try.prog.underlying 95 = some (.slice 213) := by kernel_rfl
theorem ss95 : isSS Try.prog 95 = true := by kernel_rfl
theorem sl95 : SlT Try.prog 95 213 2 16 := .of (by kernel_rfl) (by kernel_rfl) (by kernel_rfl) (by omega) (by omega)
theorem z95 : fZero Try.prog 95 = some (.slice none 0 0) := by kernel_rfl
theorem z109 : fZero Try.prog 109 = some (.agg #[(.int .i64 0), (.int .i64 0), (.int .i64 0), (.string ⟨#[]⟩), (.string ⟨#[]⟩), (.string ⟨#[]⟩), (.int .i64 0), (.string ⟨#[]⟩), (.int .i64 0), (.int .i64 0), (.int .i64 0), (.bool false), (.string ⟨#[]⟩)]) := by kernel_rfl
theorem z115 : fZero Try.prog 115 = some (.agg #[(.int .i64 0), (.string ⟨#[]⟩), (.string ⟨#[]⟩), (.string ⟨#[]⟩), (.int .i64 0), (.slice none 0 0)]) := by kernel_rfl
theorem z116 : fZero Try.prog 116 = some (.agg #[(.int .i64 0), (.string ⟨#[]⟩), (.string ⟨#[]⟩), (.string ⟨#[]⟩), (.int .i64 0), (.slice none 0 0)]) := by kernel_rfl
theorem um120 : Try.prog.underlying 120 = some (.map 3 109) := by kernel_rfl
theorem z120 : fZero Try.prog 120 = some (.map none) := by kernel_rfl
theorem u153 : Try.prog.underlying 153 = some (.slice 63) := by kernel_rfl
theorem ss153 : isSS Try.prog 153 = true := by kernel_rfl
theorem sl153 : SlT Try.prog 153 63 11 152 := .of (by kernel_rfl) (by kernel_rfl) (by kernel_rfl) (by omega) (by omega)
theorem z153 : fZero Try.prog 153 = some (.slice none 0 0) := by kernel_rfl
theorem um159 : Try.prog.underlying 159 = some (.map 3 33) := by kernel_rfl
theorem z159 : fZero Try.prog 159 = some (.map none) := by kernel_rfl
theorem um160 : Try.prog.underlying 160 = some (.map 165 3) := by kernel_rfl
theorem z160 : fZero Try.prog 160 = some (.map none) := by kernel_rfl
theorem z162 : fZero Try.prog 162 = some (.agg #[(.int .i64 0), (.int .i64 0), (.map none), (.map none)]) := by kernel_rfl
theorem z165 : fZero Try.prog 165 = some (.agg #[(.string ⟨#[]⟩), (.string ⟨#[]⟩), (.string ⟨#[]⟩)]) := by kernel_rfl
theorem z171 : fZero Try.prog 171 = some (.agg #[(.int .i64 0), (.slice none 0 0), (.map none)]) := by kernel_rfl
theorem z194 : fZero Try.prog 194 = some (.agg #[(.int .i64 0), (.string ⟨#[]⟩), (.string ⟨#[]⟩)]) := by kernel_rfl
theorem um196 : Try.prog.underlying 196 = some (.map 9 204) := by kernel_rfl
theorem z196 : fZero Try.prog 196 = some (.map none) := by kernel_rfl
theorem z198 : fZero Try.prog 198 = some (.agg #[(.int .i64 0), (.map none), (.bool false), (.int .i64 0)]) := by kernel_rfl
theorem z204 : fZero Try.prog 204 = some (.agg #[(.string ⟨#[]⟩), (.int .i64 0)]) := by kernel_rfl
theorem z211 : fZero Try.prog 211 = some (.agg #[(.int .i64 0), (.slice none 0 0)]) := by kernel_rfl
theorem z213 : fZero Try.prog 213 = some (.agg #[(.int .i64 0), (.int .i64 0)]) := by kernel_rfl
theorem um216 : Try.prog.underlying 216 = some (.map 3 222) := by kernel_rfl
theorem z216 : fZero Try.prog 216 = some (.map none) := by kernel_rfl
theorem z217 : fZero Try.prog 217 = some (.agg #[(.int .i64 0), (.int .i64 0), (.int .i64 0), (.int .i64 0), (.int .i64 0), (.int .i64 0), (.map none)]) := by kernel_rfl
theorem z222 : fZero Try.prog 222 = some (.agg #[(.int .i64 0), (.int .i64 0), (.int .i64 0), (.string ⟨#[]⟩), (.string ⟨#[]⟩), (.string ⟨#[]⟩), (.int .i64 0), (.string ⟨#[]⟩), (.int .i64 0), (.int .i64 0), (.int .i64 0), (.bool false), (.string ⟨#[]⟩), (.int .i64 0), (.int .i64 0)]) := by kernel_rfl
theorem z244 : fZero Try.prog 244 = some (.agg #[(.pointer none)]) := by kernel_rfl
theorem z245 : fZero Try.prog 245 = some (.agg #[(.pointer none)]) := by kernel_rfl
theorem um246 : Try.prog.underlying 246 = some (.map 3 63) := by kernel_rfl
theorem z246 : fZero Try.prog 246 = some (.map none) := by kernel_rfl
theorem um247 : Try.prog.underlying 247 = some (.map 194 3) := by kernel_rfl
theorem z247 : fZero Try.prog 247 = some (.map none) := by kernel_rfl
theorem z248 : fZero Try.prog 248 = some (.agg #[(.pointer none), (.int .i64 0), (.int .i64 0), (.map none), (.map none)]) := by kernel_rfl
theorem z249 : fZero Try.prog 249 = some (.agg #[(.pointer none), (.int .i64 0), (.int .i64 0), (.map none), (.map none)]) := by kernel_rfl
theorem z291 : fZero Try.prog 291 = some (.int .i64 0) := by kernel_rfl
theorem z315 : fZero Try.prog 315 = some (.int .u64 0) := by kernel_rfl

theorem eqv49 (x y : Operand) (a0 b0 : Int) (a1 b1 : Int) : bEqv Try.prog 49 x y (.agg #[.int .i64 a0, .int .i64 a1]) (.agg #[.int .i64 b0, .int .i64 b1]) = andO (some (a0 == b0)) (andO (some (a1 == b1)) (some true)) := by kernel_rfl
theorem eq49 (x y : Operand) (a0 b0 : Int) (a1 b1 : Int) : bEq Try.prog 49 x y (.agg #[.int .i64 a0, .int .i64 a1]) (.agg #[.int .i64 b0, .int .i64 b1]) = some (.bool ((a0 == b0) && ((a1 == b1) && true))) := by simp only [bEq, eqv49, andO_some, Option.map_some]
theorem ne49 (x y : Operand) (a0 b0 : Int) (a1 b1 : Int) : bNe Try.prog 49 x y (.agg #[.int .i64 a0, .int .i64 a1]) (.agg #[.int .i64 b0, .int .i64 b1]) = some (.bool (!((a0 == b0) && ((a1 == b1) && true)))) := by simp only [bNe, eqv49, andO_some, Option.map_some]
-- 23 gong/gongbook.Below
def T23 : List (Nat × FnT) := []
def F23 (x0 : Value) (x1 : Value) (w : World) (K : Value → World → Prop) : Prop :=
bindP (bRem x0 x1) fun v1 =>
bindP (bAdd v1 x1) fun v2 =>
bindP (bRem v2 x1) fun v3 =>
K v3 w

def G23 : FnT := fun args w K => on2 (fun x0 x1 => F23 x0 x1 w K) args
theorem c23 {x0 x1 : Value} {w : World} {K : Value → World → Prop} (h : F23 x0 x1 w K) : callP G23 [x0, x1] w K := callP_intro h
theorem ok23 : OkF Try.prog 23 G23 := by
  refine okF_of (tab_ok (l := T23) trivial) mixed (n := fuel) Try.func23 Try.call23 fun args w K h => ?_
  obtain ⟨x0, x1, rfl, hh⟩ := of_on2 h
  exact fnD_list (c := bodyOf Try.f23) (by kernel_rfl) (by kernel_rfl) (Eq.mp (by kernel_rfl) hh)

-- 26 gong/heap.New
def T26 : List (Nat × FnT) := []
def F26 (x0 : Value) (w : World) (K : Value → World → Prop) : Prop :=
bindP (bLt x0 (.int .i64 1)) fun v1 =>
stepM (gd false v1) x0 fun v2 =>
Sx.stepG (gd false v1) (bGt v2 (.int .i64 65536)) fun v3 =>
bindP (pPick v1 (.bool true) v3) fun v4 =>
ifB v4 (
K (.tuple #[(.pointer none), (.int .i64 1)]) w) (
eMakeMap none w fun v6 w5 =>
bindP (fBuild Try.prog 171 [(0, x0), (2, v6)]) fun v7 =>
eBox 171 v7 w5 fun v9 w8 =>
K (.tuple #[v9, (.int .i64 0)]) w8)

def G26 : FnT := fun args w K => on1 (fun x0 => F26 x0 w K) args
theorem c26 {x0 : Value} {w : World} {K : Value → World → Prop} (h : F26 x0 w K) : callP G26 [x0] w K := callP_intro h
theorem ok26 : OkF Try.prog 26 G26 := by
  refine okF_of (tab_ok (l := T26) trivial) mixed (n := fuel) Try.func26 Try.call26 fun args w K h => ?_
  obtain ⟨x0, rfl, hh⟩ := of_on1 h
  exact fnD_list (c := bodyOf Try.f26) (by kernel_rfl) (by kernel_rfl) (Eq.mp (by kernel_rfl) hh)

-- 115 (*gong/heap.Heap).put
def T115 : List (Nat × FnT) := []
def F115 (x0 : Value) (x1 : Value) (x2 : Value) (w : World) (K : Value → World → Prop) : Prop :=
eBox 49 x2 w fun v2 w1 =>
bindP (pNil x0) fun v3 =>
bindP (pFieldAddr 1 v3) fun v4 =>
bindP (ld1 v4 w1.drew) fun v5 =>
bindP (ldN 2 v2 w1.drew) fun v6 =>
bindP (pIndexL 2 v5 x1) fun v7 =>
bindW (st 2 v7 v6 w1.drew) fun w8 =>
bindP (pNil x0) fun v10 =>
bindP (pFieldAddr 2 v10) fun v11 =>
bindP (ld1 v11 w8.drew) fun v12 =>
bindP (pFieldAddr 0 v2) fun v13 =>
bindP (ld1 v13 w8.drew) fun v14 =>
eMapSet Try.prog 42 v12 v14 x1 w8.drew fun _ w15 =>
K (.tuple #[]) w15

def G115 : FnT := fun args w K => on3 (fun x0 x1 x2 => F115 x0 x1 x2 w K) args
theorem c115 {x0 x1 x2 : Value} {w : World} {K : Value → World → Prop} (h : F115 x0 x1 x2 w K) : callP G115 [x0, x1, x2] w K := callP_intro h
theorem ok115 : OkF Try.prog 115 G115 := by
  refine okF_of (tab_ok (l := T115) trivial) mixed (n := fuel) Try.func115 Try.call115 fun args w K h => ?_
  obtain ⟨x0, x1, x2, rfl, hh⟩ := of_on3 h
  exact fnD_list (c := bodyOf Try.f115) (by kernel_rfl) (by kernel_rfl) (Eq.mp (by kernel_rfl) hh)

-- 216 cmp.Or[int]
def T216 : List (Nat × FnT) := []
def F216_3b (s3 : Value) (w : World) (K : Value → World → Prop) : Prop :=
K s3 w

def F216_3 (s3 : Value) (w : World) (K : Value → World → Prop) : Prop := F216_3b s3 w K

theorem ok216_3 {K : Value → World → Prop} {kn kr : Env → World → Prop} {ke : Nat → Env → World → Prop}
    (hn : ∀ e w, (fun e w => K (e 2) w) e w → kn e w) (hr : ∀ e w, endD Try.prog [.tmp 2] K e w → kr e w) (he : ∀ i e w, noE i e w → ke i e w) :
    ∀ e w, F216_3 (e 3) w K → denL Try.prog (tabOf T216) 18 fuel ((flat (bodyOf Try.f216)).drop 4) e w kn kr ke := by
  intro e w h
  unfold F216_3 at h
  have e1 : ∀ (_ : Unit), F216_3b (e 3) w K = denL Try.prog (tabOf T216) 18 fuel ((flat (bodyOf Try.f216)).drop 4) e w (fun e w => K (e 2) w) (endD Try.prog [.tmp 2] K) noE := by intro _; kernel_rfl
  exact seg_end (Eq.mp (e1 ()) h) hn hr he

def F216_2b (s3 : Value) (s6 : Value) (s7 : Value) (s8 : Value) (w : World) (K : Value → World → Prop) (Y0 : Value → Value → Value → Value → World → Prop) (Y1 : Value → World → Prop) : Prop :=
bindP (bLt s8 s7) fun v1 =>
ifB v1 (
bindP (pIndexL 1 s6 s8) fun v2 =>
bindP (ld1 v2 w) fun v3 =>
bindP (bNe Try.prog 3 (.tmp 12) (.tmp 13) v3 s3) fun v4 =>
ifB v4 (
K v3 w) (
bindP (bAdd s8 (.int .i64 1)) fun v5 =>
Y0 s3 s6 s7 v5 w)) (
Y1 s3 w)

def F216_2L : Nat → Value → Value → Value → Value → World → (Value → World → Prop) → Prop
  | 0, _, _, _, _, _, _ => False
  | n + 1, s3, s6, s7, s8, w, K => F216_2b s3 s6 s7 s8 w K (fun a3 a6 a7 a8 w => F216_2L n a3 a6 a7 a8 w K) (fun a3 w => F216_3 a3 w K)

def F216_2 (s3 : Value) (s6 : Value) (s7 : Value) (s8 : Value) (w : World) (K : Value → World → Prop) : Prop := F216_2L fuel s3 s6 s7 s8 w K

theorem ok216_2 {K : Value → World → Prop} {kn kr : Env → World → Prop} {ke : Nat → Env → World → Prop}
    (hn : ∀ e w, (fun e w => K (e 2) w) e w → kn e w) (hr : ∀ e w, endD Try.prog [.tmp 2] K e w → kr e w) (he : ∀ i e w, noE i e w → ke i e w) :
    ∀ e w, F216_2 (e 3) (e 6) (e 7) (e 8) w K → denL Try.prog (tabOf T216) 18 fuel ((flat (bodyOf Try.f216)).drop 3) e w kn kr ke := by
  intro e w h
  unfold F216_2 at h
  refine seg_loop (id := 0) (body := (loopB (blkB (nthC (flat (bodyOf Try.f216)) 3)))) (l2 := (flat (bodyOf Try.f216)).drop 4) (by kernel_rfl) ?_
  refine loop_ok (FL := fun m e w => F216_2L m (e 3) (e 6) (e 7) (e 8) w K) (fr := endD Try.prog [.tmp 2] K) (fe := (blkK 0 (fun e w => F216_3 (e 3) w K) noE)) (fun _ _ h => h) ?_ hr (blkK_mono (fun e w h => ok216_3 hn hr he e w h) he) fuel e w h
  intro m e w h
  have h : F216_2L (m + 1) (e 3) (e 6) (e 7) (e 8) w K := h
  rw [F216_2L] at h
  have e1 : ∀ (Y0 : Value → Value → Value → Value → World → Prop) (Y1 : Value → World → Prop), F216_2b (e 3) (e 6) (e 7) (e 8) w K Y0 Y1 = denL Try.prog (tabOf T216) 18 fuel (flat (loopB (blkB (nthC (flat (bodyOf Try.f216)) 3)))) e w (fun e w => Y0 (e 3) (e 6) (e 7) (e 8) w) (endD Try.prog [.tmp 2] K) (blkK 0 (fun e w => Y1 (e 3) w) noE) := by intro Y0 Y1; kernel_rfl
  exact Eq.mp (e1 (fun a3 a6 a7 a8 w => F216_2L m a3 a6 a7 a8 w K) (fun a3 w => F216_3 a3 w K)) h

def F216_1b (s0 : Value) (w : World) (_K : Value → World → Prop) (Y0 : Value → Value → Value → Value → World → Prop) : Prop :=
bindP (lenL s0) fun v6 =>
Y0 (.int .i64 0) s0 v6 (.int .i64 0) w

def F216_1 (s0 : Value) (w : World) (K : Value → World → Prop) : Prop := F216_1b s0 w K (fun a3 a6 a7 a8 w => F216_2 a3 a6 a7 a8 w K)

theorem ok216_1 {K : Value → World → Prop} {kn kr : Env → World → Prop} {ke : Nat → Env → World → Prop}
    (hn : ∀ e w, (fun e w => K (e 2) w) e w → kn e w) (hr : ∀ e w, endD Try.prog [.tmp 2] K e w → kr e w) (he : ∀ i e w, noE i e w → ke i e w) :
    ∀ e w, F216_1 (e 0) w K → denL Try.prog (tabOf T216) 18 fuel ((flat (bodyOf Try.f216)).drop 0) e w kn kr ke := by
  intro e w h
  unfold F216_1 at h
  have e1 : ∀ (Y0 : Value → Value → Value → Value → World → Prop), F216_1b (e 0) w K Y0 = denL Try.prog (tabOf T216) 18 fuel (((flat (bodyOf Try.f216)).drop 0).take 3) e w (fun e w => Y0 (e 3) (e 6) (e 7) (e 8) w) (endD Try.prog [.tmp 2] K) noE := by intro Y0; kernel_rfl
  exact seg 3 (Eq.mp (e1 (fun a3 a6 a7 a8 w => F216_2 a3 a6 a7 a8 w K)) h) (fun e w h => ok216_2 hn hr he e w h) hr he

def F216 (x0 : Value) (w : World) (K : Value → World → Prop) : Prop := F216_1 x0 w K

def G216 : FnT := fun args w K => on1 (fun x0 => F216 x0 w K) args
theorem c216 {x0 : Value} {w : World} {K : Value → World → Prop} (h : F216 x0 w K) : callP G216 [x0] w K := callP_intro h
theorem ok216 : OkF Try.prog 216 G216 := by
  refine okF_of (tab_ok (l := T216) trivial) mixed (n := fuel) Try.func216 Try.call216 fun args w K h => ?_
  obtain ⟨x0, rfl, hh⟩ := of_on1 h
  unfold F216 at hh
  exact fnD_list (c := bodyOf Try.f216) (by kernel_rfl) (by kernel_rfl) (ok216_1 (fun _ _ h => h) (fun _ _ h => h) (fun _ _ _ h => h) (initE [x0]) w hh)

-- 244 cmp.isNaN[int]
def T244 : List (Nat × FnT) := []
def F244 (x0 : Value) (w : World) (K : Value → World → Prop) : Prop :=
bindP (bNe Try.prog 3 (.tmp 3) (.tmp 4) x0 x0) fun v1 =>
K v1 w

def G244 : FnT := fun args w K => on1 (fun x0 => F244 x0 w K) args
theorem c244 {x0 : Value} {w : World} {K : Value → World → Prop} (h : F244 x0 w K) : callP G244 [x0] w K := callP_intro h
theorem ok244 : OkF Try.prog 244 G244 := by
  refine okF_of (tab_ok (l := T244) trivial) mixed (n := fuel) Try.func244 Try.call244 fun args w K h => ?_
  obtain ⟨x0, rfl, hh⟩ := of_on1 h
  exact fnD_list (c := bodyOf Try.f244) (by kernel_rfl) (by kernel_rfl) (Eq.mp (by kernel_rfl) hh)

-- 217 cmp.Compare[int]
def T217 : List (Nat × FnT) := [(244, G244)]
def F217 (x0 : Value) (x1 : Value) (w : World) (K : Value → World → Prop) : Prop :=
callP G244 [x0] w fun v2 w1 =>
callP G244 [x1] w1 fun v4 w3 =>
ifB v2 (
ifB v4 (
K (.int .i64 0) w3) (
K (.int .i64 (-1)) w3)) (
ifB v4 (
K (.int .i64 1) w3) (
bindP (bLt x0 x1) fun v5 =>
ifB v5 (
K (.int .i64 (-1)) w3) (
bindP (bGt x0 x1) fun v6 =>
ifB v6 (
K (.int .i64 1) w3) (
K (.int .i64 0) w3))))

def G217 : FnT := fun args w K => on2 (fun x0 x1 => F217 x0 x1 w K) args
theorem c217 {x0 x1 : Value} {w : World} {K : Value → World → Prop} (h : F217 x0 x1 w K) : callP G217 [x0, x1] w K := callP_intro h
theorem ok217 : OkF Try.prog 217 G217 := by
  refine okF_of (tab_ok (l := T217) ⟨ok244, trivial⟩) mixed (n := fuel) Try.func217 Try.call217 fun args w K h => ?_
  obtain ⟨x0, x1, rfl, hh⟩ := of_on2 h
  exact fnD_list (c := bodyOf Try.f217) (by kernel_rfl) (by kernel_rfl) (Eq.mp (by kernel_rfl) hh)

-- 150 gong/heap.order
def T150 : List (Nat × FnT) := [(216, G216), (217, G217)]
def F150 (x0 : Value) (x1 : Value) (w : World) (K : Value → World → Prop) : Prop :=
eBox 49 x0 w fun v2 w1 =>
eBox 49 x1 w1 fun v4 w3 =>
bindP (pFieldAddr 1 v2) fun v5 =>
bindP (ld1 v5 w3.drew) fun v6 =>
bindP (pFieldAddr 1 v4) fun v7 =>
bindP (ld1 v7 w3.drew) fun v8 =>
bindP (pFieldAddr 0 v2) fun v9 =>
bindP (ld1 v9 w3.drew) fun v10 =>
bindP (pFieldAddr 0 v4) fun v11 =>
bindP (ld1 v11 w3.drew) fun v12 =>
callP G217 [v6, v8] w3.drew fun v14 w13 =>
(fok true (ld1 v9 w13) v10 ∧ fok true (ld1 v11 w13) v12) ∧ (callP G217 [v10, v12] w13 fun v16 w15 =>
eBuildSl Try.prog 22 2 [(0, v14), (1, v16)] w15 fun v18 w17 =>
callP G216 [v18] w17 fun v20 w19 =>
K v20 w19)

def G150 : FnT := fun args w K => on2 (fun x0 x1 => F150 x0 x1 w K) args
theorem c150 {x0 x1 : Value} {w : World} {K : Value → World → Prop} (h : F150 x0 x1 w K) : callP G150 [x0, x1] w K := callP_intro h
theorem ok150 : OkF Try.prog 150 G150 := by
  refine okF_of (tab_ok (l := T150) ⟨ok216, ok217, trivial⟩) mixed (n := fuel) Try.func150 Try.call150 fun args w K h => ?_
  obtain ⟨x0, x1, rfl, hh⟩ := of_on2 h
  exact fnD_list (c := bodyOf Try.f150) (by kernel_rfl) (by kernel_rfl) (Eq.mp (by kernel_rfl) hh)

-- 116 (*gong/heap.Heap).up
def T116 : List (Nat × FnT) := [(115, G115), (150, G150)]
def F116_3b (s0 : Value) (s1 : Value) (s4 : Value) (w : World) (K : Value → World → Prop) : Prop :=
bindP (ldN 2 s4 w) fun v1 =>
callP G115 [s0, s1, v1] w fun _ w2 =>
K (.tuple #[]) w2

def F116_3 (s0 : Value) (s1 : Value) (s4 : Value) (w : World) (K : Value → World → Prop) : Prop := F116_3b s0 s1 s4 w K

theorem ok116_3 {K : Value → World → Prop} {kn kr : Env → World → Prop} {ke : Nat → Env → World → Prop}
    (hn : ∀ e w, (fun e w => K (.tuple #[]) w) e w → kn e w) (hr : ∀ e w, endD Try.prog [] K e w → kr e w) (he : ∀ i e w, noE i e w → ke i e w) :
    ∀ e w, F116_3 (e 0) (e 1) (e 4) w K → denL Try.prog (tabOf T116) 43 fuel ((flat (bodyOf Try.f116)).drop 2) e w kn kr ke := by
  intro e w h
  unfold F116_3 at h
  have e1 : ∀ (_ : Unit), F116_3b (e 0) (e 1) (e 4) w K = denL Try.prog (tabOf T116) 43 fuel ((flat (bodyOf Try.f116)).drop 2) e w (fun e w => K (.tuple #[]) w) (endD Try.prog [] K) noE := by intro _; kernel_rfl
  exact seg_end (Eq.mp (e1 ()) h) hn hr he

def F116_2b (s0 : Value) (s1 : Value) (s4 : Value) (w : World) (_K : Value → World → Prop) (Y0 : Value → Value → Value → World → Prop) (Y1 : Value → Value → Value → World → Prop) : Prop :=
bindP (bGt s1 (.int .i64 0)) fun v4 =>
ifB v4 (
bindP (bSub s1 (.int .i64 1)) fun v5 =>
bindP (bQuo v5 (.int .i64 2)) fun v6 =>
bindP (pNil s0) fun v7 =>
bindP (pFieldAddr 1 v7) fun v8 =>
bindP (ld1 v8 w.drew) fun v9 =>
bindP (pIndexL 2 v9 v6) fun v10 =>
bindP (ldN 2 v10 w.drew) fun v11 =>
bindP (ldN 2 s4 w.drew) fun v12 =>
callP G150 [v11, v12] w.drew fun v14 w13 =>
bindP (bLe v14 (.int .i64 0)) fun v15 =>
ifB v15 (
Y0 s0 s1 s4 w13) (
bindP (pNil s0) fun v16 =>
bindP (pFieldAddr 1 v16) fun v17 =>
bindP (ld1 v17 w13) fun v18 =>
bindP (pIndexL 2 v18 v6) fun v19 =>
bindP (ldN 2 v19 w13) fun v20 =>
callP G115 [s0, s1, v20] w13 fun _ w21 =>
Y1 s0 v6 s4 w21)) (
Y0 s0 s1 s4 w)

def F116_2L : Nat → Value → Value → Value → World → (Value → World → Prop) → Prop
  | 0, _, _, _, _, _ => False
  | n + 1, s0, s1, s4, w, K => F116_2b s0 s1 s4 w K (fun a0 a1 a4 w => F116_3 a0 a1 a4 w K) (fun a0 a1 a4 w => F116_2L n a0 a1 a4 w K)

def F116_2 (s0 : Value) (s1 : Value) (s4 : Value) (w : World) (K : Value → World → Prop) : Prop := F116_2L fuel s0 s1 s4 w K

theorem ok116_2 {K : Value → World → Prop} {kn kr : Env → World → Prop} {ke : Nat → Env → World → Prop}
    (hn : ∀ e w, (fun e w => K (.tuple #[]) w) e w → kn e w) (hr : ∀ e w, endD Try.prog [] K e w → kr e w) (he : ∀ i e w, noE i e w → ke i e w) :
    ∀ e w, F116_2 (e 0) (e 1) (e 4) w K → denL Try.prog (tabOf T116) 43 fuel ((flat (bodyOf Try.f116)).drop 1) e w kn kr ke := by
  intro e w h
  unfold F116_2 at h
  refine seg_loop (id := 0) (body := (loopB (blkB (nthC (flat (bodyOf Try.f116)) 1)))) (l2 := (flat (bodyOf Try.f116)).drop 2) (by kernel_rfl) ?_
  refine loop_ok (FL := fun m e w => F116_2L m (e 0) (e 1) (e 4) w K) (fr := endD Try.prog [] K) (fe := (blkK 0 (fun e w => F116_3 (e 0) (e 1) (e 4) w K) noE)) (fun _ _ h => h) ?_ hr (blkK_mono (fun e w h => ok116_3 hn hr he e w h) he) fuel e w h
  intro m e w h
  have h : F116_2L (m + 1) (e 0) (e 1) (e 4) w K := h
  rw [F116_2L] at h
  have e1 : ∀ (Y0 : Value → Value → Value → World → Prop) (Y1 : Value → Value → Value → World → Prop), F116_2b (e 0) (e 1) (e 4) w K Y0 Y1 = denL Try.prog (tabOf T116) 43 fuel (flat (loopB (blkB (nthC (flat (bodyOf Try.f116)) 1)))) e w (fun e w => Y1 (e 0) (e 1) (e 4) w) (endD Try.prog [] K) (blkK 0 (fun e w => Y0 (e 0) (e 1) (e 4) w) noE) := by intro Y0 Y1; kernel_rfl
  exact Eq.mp (e1 (fun a0 a1 a4 w => F116_3 a0 a1 a4 w K) (fun a0 a1 a4 w => F116_2L m a0 a1 a4 w K)) h

def F116_1b (s0 : Value) (s1 : Value) (w : World) (_K : Value → World → Prop) (Y0 : Value → Value → Value → World → Prop) : Prop :=
bindP (pNil s0) fun v23 =>
bindP (pFieldAddr 1 v23) fun v24 =>
bindP (ld1 v24 w) fun v25 =>
bindP (pIndexL 2 v25 s1) fun v26 =>
bindP (ldN 2 v26 w) fun v27 =>
eAlloc Try.prog 49 w fun v29 w28 =>
bindW (st 2 v29 v27 w28) fun w30 =>
Y0 s0 s1 v29 w30

def F116_1 (s0 : Value) (s1 : Value) (w : World) (K : Value → World → Prop) : Prop := F116_1b s0 s1 w K (fun a0 a1 a4 w => F116_2 a0 a1 a4 w K)

theorem ok116_1 {K : Value → World → Prop} {kn kr : Env → World → Prop} {ke : Nat → Env → World → Prop}
    (hn : ∀ e w, (fun e w => K (.tuple #[]) w) e w → kn e w) (hr : ∀ e w, endD Try.prog [] K e w → kr e w) (he : ∀ i e w, noE i e w → ke i e w) :
    ∀ e w, F116_1 (e 0) (e 1) w K → denL Try.prog (tabOf T116) 43 fuel ((flat (bodyOf Try.f116)).drop 0) e w kn kr ke := by
  intro e w h
  unfold F116_1 at h
  have e1 : ∀ (Y0 : Value → Value → Value → World → Prop), F116_1b (e 0) (e 1) w K Y0 = denL Try.prog (tabOf T116) 43 fuel (((flat (bodyOf Try.f116)).drop 0).take 1) e w (fun e w => Y0 (e 0) (e 1) (e 4) w) (endD Try.prog [] K) noE := by intro Y0; kernel_rfl
  exact seg 1 (Eq.mp (e1 (fun a0 a1 a4 w => F116_2 a0 a1 a4 w K)) h) (fun e w h => ok116_2 hn hr he e w h) hr he

def F116 (x0 : Value) (x1 : Value) (w : World) (K : Value → World → Prop) : Prop := F116_1 x0 x1 w K

def G116 : FnT := fun args w K => on2 (fun x0 x1 => F116 x0 x1 w K) args
theorem c116 {x0 x1 : Value} {w : World} {K : Value → World → Prop} (h : F116 x0 x1 w K) : callP G116 [x0, x1] w K := callP_intro h
theorem ok116 : OkF Try.prog 116 G116 := by
  refine okF_of (tab_ok (l := T116) ⟨ok115, ok150, trivial⟩) mixed (n := fuel) Try.func116 Try.call116 fun args w K h => ?_
  obtain ⟨x0, x1, rfl, hh⟩ := of_on2 h
  unfold F116 at hh
  exact fnD_list (c := bodyOf Try.f116) (by kernel_rfl) (by kernel_rfl) (ok116_1 (fun _ _ h => h) (fun _ _ h => h) (fun _ _ _ h => h) (initE [x0, x1]) w hh)

-- 117 (*gong/heap.Heap).down
def T117 : List (Nat × FnT) := [(115, G115), (150, G150)]
def F117_3b (s0 : Value) (s1 : Value) (s4 : Value) (w : World) (K : Value → World → Prop) : Prop :=
bindP (ldN 2 s4 w) fun v1 =>
callP G115 [s0, s1, v1] w fun _ w2 =>
K (.tuple #[]) w2

def F117_3 (s0 : Value) (s1 : Value) (s4 : Value) (w : World) (K : Value → World → Prop) : Prop := F117_3b s0 s1 s4 w K

theorem ok117_3 {K : Value → World → Prop} {kn kr : Env → World → Prop} {ke : Nat → Env → World → Prop}
    (hn : ∀ e w, (fun e w => K (.tuple #[]) w) e w → kn e w) (hr : ∀ e w, endD Try.prog [] K e w → kr e w) (he : ∀ i e w, noE i e w → ke i e w) :
    ∀ e w, F117_3 (e 0) (e 1) (e 4) w K → denL Try.prog (tabOf T117) 77 fuel ((flat (bodyOf Try.f117)).drop 2) e w kn kr ke := by
  intro e w h
  unfold F117_3 at h
  have e1 : ∀ (_ : Unit), F117_3b (e 0) (e 1) (e 4) w K = denL Try.prog (tabOf T117) 77 fuel ((flat (bodyOf Try.f117)).drop 2) e w (fun e w => K (.tuple #[]) w) (endD Try.prog [] K) noE := by intro _; kernel_rfl
  exact seg_end (Eq.mp (e1 ()) h) hn hr he

def F117_6b (s0 : Value) (s1 : Value) (s4 : Value) (s5 : Value) (w : World) (_K : Value → World → Prop) (R3 : Value → Value → Value → World → Prop) (Y0 : Value → Value → Value → World → Prop) : Prop :=
bindP (ldN 2 s4 w.drew) fun v4 =>
bindP (pNil s0) fun v5 =>
bindP (pFieldAddr 1 v5) fun v6 =>
bindP (ld1 v6 w.drew) fun v7 =>
bindP (pIndexL 2 v7 s5) fun v8 =>
bindP (ldN 2 v8 w.drew) fun v9 =>
callP G150 [v4, v9] w.drew fun v11 w10 =>
bindP (bLe v11 (.int .i64 0)) fun v12 =>
ifB v12 (
Y0 s0 s1 s4 w10) (
bindP (pNil s0) fun v13 =>
bindP (pFieldAddr 1 v13) fun v14 =>
bindP (ld1 v14 w10) fun v15 =>
bindP (pIndexL 2 v15 s5) fun v16 =>
bindP (ldN 2 v16 w10) fun v17 =>
callP G115 [s0, s1, v17] w10 fun _ w18 =>
R3 s0 s5 s4 w18)

def F117_6 (s0 : Value) (s1 : Value) (s4 : Value) (s5 : Value) (w : World) (K : Value → World → Prop) (R3 : Value → Value → Value → World → Prop) : Prop := F117_6b s0 s1 s4 s5 w K R3 (fun a0 a1 a4 w => F117_3 a0 a1 a4 w K)

theorem ok117_6 (R3 : Value → Value → Value → World → Prop) {K : Value → World → Prop} {kn kr : Env → World → Prop} {ke : Nat → Env → World → Prop}
    (hn : ∀ e w, (fun e w => R3 (e 0) (e 1) (e 4) w) e w → kn e w) (hr : ∀ e w, endD Try.prog [] K e w → kr e w) (he : ∀ i e w, (blkK 1 (fun e w => R3 (e 0) (e 1) (e 4) w) (blkK 0 (fun e w => F117_3 (e 0) (e 1) (e 4) w K) noE)) i e w → ke i e w) :
    ∀ e w, F117_6 (e 0) (e 1) (e 4) (e 5) w K R3 → denL Try.prog (tabOf T117) 77 fuel ((flat (blkB (nthC (flat (loopB (blkB (nthC (flat (bodyOf Try.f117)) 1)))) 0))).drop 5) e w kn kr ke := by
  intro e w h
  unfold F117_6 at h
  have e1 : ∀ (Y0 : Value → Value → Value → World → Prop), F117_6b (e 0) (e 1) (e 4) (e 5) w K R3 Y0 = denL Try.prog (tabOf T117) 77 fuel ((flat (blkB (nthC (flat (loopB (blkB (nthC (flat (bodyOf Try.f117)) 1)))) 0))).drop 5) e w (fun e w => R3 (e 0) (e 1) (e 4) w) (endD Try.prog [] K) (blkK 1 (fun e w => R3 (e 0) (e 1) (e 4) w) (blkK 0 (fun e w => Y0 (e 0) (e 1) (e 4) w) noE)) := by intro Y0; kernel_rfl
  exact seg_end (Eq.mp (e1 (fun a0 a1 a4 w => F117_3 a0 a1 a4 w K)) h) hn hr he

def F117_5b (s0 : Value) (s1 : Value) (s4 : Value) (w : World) (_K : Value → World → Prop) (R3 : Value → Value → Value → World → Prop) (Y0 : Value → Value → Value → World → Prop) (Y1 : Value → Value → Value → Value → World → Prop) : Prop :=
bindP (bMul (.int .i64 2) s1) fun v20 =>
bindP (bAdd v20 (.int .i64 1)) fun v21 =>
bindP (pNil s0) fun v22 =>
bindP (pFieldAddr 1 v22) fun v23 =>
bindP (ld1 v23 w) fun v24 =>
bindP (lenL v24) fun v25 =>
bindP (bGe v21 v25) fun v26 =>
ifB v26 (
Y0 s0 s1 s4 w) (
bindP (bAdd v21 (.int .i64 1)) fun v27 =>
bindP (pNil s0) fun v28 =>
bindP (pFieldAddr 1 v28) fun v29 =>
bindP (ld1 v29 w.drew) fun v30 =>
bindP (lenL v30) fun v31 =>
bindP (bLt v27 v31) fun v32 =>
stepM (gd true v32) s0 fun v33 =>
Sx.stepG (gd true v32) (pNil v33) fun v34 =>
Sx.stepG (gd true v32) (pFieldAddr 1 v34) fun v35 =>
Sx.stepG (gd true v32) (ld1 v35 w.drew) fun v36 =>
stepM (gd true v32) v21 fun v37 =>
Sx.stepG (gd true v32) (bAdd v37 (.int .i64 1)) fun v38 =>
Sx.stepG (gd true v32) (pIndexL 2 v36 v38) fun v39 =>
Sx.stepG (gd true v32) (ldN 2 v39 w.drew) fun v40 =>
stepM (gd true v32) s0 fun v41 =>
Sx.stepG (gd true v32) (pNil v41) fun v42 =>
Sx.stepG (gd true v32) (pFieldAddr 1 v42) fun v43 =>
Sx.stepG (gd true v32) (ld1 v43 w.drew) fun v44 =>
stepM (gd true v32) v21 fun v45 =>
Sx.stepG (gd true v32) (pIndexL 2 v44 v45) fun v46 =>
Sx.stepG (gd true v32) (ldN 2 v46 w.drew) fun v47 =>
stepE (gd true v32) (fun k => callP G150 [v40, v47] w.drew k) w.drew fun v49 w48 =>
Sx.stepG (gd true v32) (bLt v49 (.int .i64 0)) fun v50 =>
bindP (pPick v32 v50 (.bool false)) fun v51 =>
ifB v51 (
bindP (bAdd v21 (.int .i64 1)) fun v52 =>
Y1 s0 s1 s4 v52 w48) (
Y1 s0 s1 s4 v21 w48))

def F117_5 (s0 : Value) (s1 : Value) (s4 : Value) (w : World) (K : Value → World → Prop) (R3 : Value → Value → Value → World → Prop) : Prop := F117_5b s0 s1 s4 w K R3 (fun a0 a1 a4 w => F117_3 a0 a1 a4 w K) (fun a0 a1 a4 a5 w => F117_6 a0 a1 a4 a5 w K R3)

theorem ok117_5 (R3 : Value → Value → Value → World → Prop) {K : Value → World → Prop} {kn kr : Env → World → Prop} {ke : Nat → Env → World → Prop}
    (hn : ∀ e w, (fun e w => R3 (e 0) (e 1) (e 4) w) e w → kn e w) (hr : ∀ e w, endD Try.prog [] K e w → kr e w) (he : ∀ i e w, (blkK 1 (fun e w => R3 (e 0) (e 1) (e 4) w) (blkK 0 (fun e w => F117_3 (e 0) (e 1) (e 4) w K) noE)) i e w → ke i e w) :
    ∀ e w, F117_5 (e 0) (e 1) (e 4) w K R3 → denL Try.prog (tabOf T117) 77 fuel ((flat (blkB (nthC (flat (loopB (blkB (nthC (flat (bodyOf Try.f117)) 1)))) 0))).drop 0) e w kn kr ke := by
  intro e w h
  unfold F117_5 at h
  have e1 : ∀ (Y0 : Value → Value → Value → World → Prop) (Y1 : Value → Value → Value → Value → World → Prop), F117_5b (e 0) (e 1) (e 4) w K R3 Y0 Y1 = denL Try.prog (tabOf T117) 77 fuel (((flat (blkB (nthC (flat (loopB (blkB (nthC (flat (bodyOf Try.f117)) 1)))) 0))).drop 0).take 5) e w (fun e w => Y1 (e 0) (e 1) (e 4) (e 5) w) (endD Try.prog [] K) (blkK 1 (fun e w => R3 (e 0) (e 1) (e 4) w) (blkK 0 (fun e w => Y0 (e 0) (e 1) (e 4) w) noE)) := by intro Y0 Y1; kernel_rfl
  exact seg 5 (Eq.mp (e1 (fun a0 a1 a4 w => F117_3 a0 a1 a4 w K) (fun a0 a1 a4 a5 w => F117_6 a0 a1 a4 a5 w K R3)) h) (fun e w h => ok117_6 R3 hn hr he e w h) hr he

def F117_4 (s0 : Value) (s1 : Value) (s4 : Value) (w : World) (K : Value → World → Prop) (R3 : Value → Value → Value → World → Prop) : Prop := F117_5 s0 s1 s4 w K R3

theorem ok117_4 (R3 : Value → Value → Value → World → Prop) {K : Value → World → Prop} {kn kr : Env → World → Prop} {ke : Nat → Env → World → Prop}
    (hn : ∀ e w, (fun e w => R3 (e 0) (e 1) (e 4) w) e w → kn e w) (hr : ∀ e w, endD Try.prog [] K e w → kr e w) (he : ∀ i e w, (blkK 0 (fun e w => F117_3 (e 0) (e 1) (e 4) w K) noE) i e w → ke i e w) :
    ∀ e w, F117_4 (e 0) (e 1) (e 4) w K R3 → denL Try.prog (tabOf T117) 77 fuel ((flat (loopB (blkB (nthC (flat (bodyOf Try.f117)) 1)))).drop 0) e w kn kr ke := by
  intro e w h
  unfold F117_4 at h
  refine seg_block (id := 1) (body := (blkB (nthC (flat (loopB (blkB (nthC (flat (bodyOf Try.f117)) 1)))) 0))) (l2 := (flat (loopB (blkB (nthC (flat (bodyOf Try.f117)) 1)))).drop 1) (by kernel_rfl) ?_
  exact ok117_5 R3 hn hr (blkK_mono hn he) e w h

def F117_2L : Nat → Value → Value → Value → World → (Value → World → Prop) → Prop
  | 0, _, _, _, _, _ => False
  | n + 1, s0, s1, s4, w, K => F117_4 s0 s1 s4 w K (fun a0 a1 a4 w => F117_2L n a0 a1 a4 w K)

def F117_2 (s0 : Value) (s1 : Value) (s4 : Value) (w : World) (K : Value → World → Prop) : Prop := F117_2L fuel s0 s1 s4 w K

theorem ok117_2 {K : Value → World → Prop} {kn kr : Env → World → Prop} {ke : Nat → Env → World → Prop}
    (hn : ∀ e w, (fun e w => K (.tuple #[]) w) e w → kn e w) (hr : ∀ e w, endD Try.prog [] K e w → kr e w) (he : ∀ i e w, noE i e w → ke i e w) :
    ∀ e w, F117_2 (e 0) (e 1) (e 4) w K → denL Try.prog (tabOf T117) 77 fuel ((flat (bodyOf Try.f117)).drop 1) e w kn kr ke := by
  intro e w h
  unfold F117_2 at h
  refine seg_loop (id := 0) (body := (loopB (blkB (nthC (flat (bodyOf Try.f117)) 1)))) (l2 := (flat (bodyOf Try.f117)).drop 2) (by kernel_rfl) ?_
  refine loop_ok (FL := fun m e w => F117_2L m (e 0) (e 1) (e 4) w K) (fr := endD Try.prog [] K) (fe := (blkK 0 (fun e w => F117_3 (e 0) (e 1) (e 4) w K) noE)) (fun _ _ h => h) ?_ hr (blkK_mono (fun e w h => ok117_3 hn hr he e w h) he) fuel e w h
  intro m e w h
  have h : F117_2L (m + 1) (e 0) (e 1) (e 4) w K := h
  rw [F117_2L] at h
  exact ok117_4 (fun a0 a1 a4 w => F117_2L m a0 a1 a4 w K) (fun _ _ h => h) (fun _ _ h => h) (fun _ _ _ h => h) e w h

def F117_1b (s0 : Value) (s1 : Value) (w : World) (_K : Value → World → Prop) (Y0 : Value → Value → Value → World → Prop) : Prop :=
bindP (pNil s0) fun v53 =>
bindP (pFieldAddr 1 v53) fun v54 =>
bindP (ld1 v54 w) fun v55 =>
bindP (pIndexL 2 v55 s1) fun v56 =>
bindP (ldN 2 v56 w) fun v57 =>
eAlloc Try.prog 49 w fun v59 w58 =>
bindW (st 2 v59 v57 w58) fun w60 =>
Y0 s0 s1 v59 w60

def F117_1 (s0 : Value) (s1 : Value) (w : World) (K : Value → World → Prop) : Prop := F117_1b s0 s1 w K (fun a0 a1 a4 w => F117_2 a0 a1 a4 w K)

theorem ok117_1 {K : Value → World → Prop} {kn kr : Env → World → Prop} {ke : Nat → Env → World → Prop}
    (hn : ∀ e w, (fun e w => K (.tuple #[]) w) e w → kn e w) (hr : ∀ e w, endD Try.prog [] K e w → kr e w) (he : ∀ i e w, noE i e w → ke i e w) :
    ∀ e w, F117_1 (e 0) (e 1) w K → denL Try.prog (tabOf T117) 77 fuel ((flat (bodyOf Try.f117)).drop 0) e w kn kr ke := by
  intro e w h
  unfold F117_1 at h
  have e1 : ∀ (Y0 : Value → Value → Value → World → Prop), F117_1b (e 0) (e 1) w K Y0 = denL Try.prog (tabOf T117) 77 fuel (((flat (bodyOf Try.f117)).drop 0).take 1) e w (fun e w => Y0 (e 0) (e 1) (e 4) w) (endD Try.prog [] K) noE := by intro Y0; kernel_rfl
  exact seg 1 (Eq.mp (e1 (fun a0 a1 a4 w => F117_2 a0 a1 a4 w K)) h) (fun e w h => ok117_2 hn hr he e w h) hr he

def F117 (x0 : Value) (x1 : Value) (w : World) (K : Value → World → Prop) : Prop := F117_1 x0 x1 w K

def G117 : FnT := fun args w K => on2 (fun x0 x1 => F117 x0 x1 w K) args
theorem c117 {x0 x1 : Value} {w : World} {K : Value → World → Prop} (h : F117 x0 x1 w K) : callP G117 [x0, x1] w K := callP_intro h
theorem ok117 : OkF Try.prog 117 G117 := by
  refine okF_of (tab_ok (l := T117) ⟨ok115, ok150, trivial⟩) mixed (n := fuel) Try.func117 Try.call117 fun args w K h => ?_
  obtain ⟨x0, x1, rfl, hh⟩ := of_on2 h
  unfold F117 at hh
  exact fnD_list (c := bodyOf Try.f117) (by kernel_rfl) (by kernel_rfl) (ok117_1 (fun _ _ h => h) (fun _ _ h => h) (fun _ _ _ h => h) (initE [x0, x1]) w hh)

-- 28 (*gong/heap.Heap).Set
def T28 : List (Nat × FnT) := [(115, G115), (116, G116), (117, G117)]
def F28_2b (s0 : Value) (s1 : Value) (s2 : Value) (s7 : Value) (w : World) (K : Value → World → Prop) : Prop :=
bindP (fBuild Try.prog 49 [(0, s1), (1, s2)]) fun v1 =>
callP G115 [s0, s7, v1] w fun _ w2 =>
callP G116 [s0, s7] w2 fun _ w4 =>
bindP (pNil s0) fun v6 =>
bindP (pFieldAddr 2 v6) fun v7 =>
bindP (ld1 v7 w4) fun v8 =>
bindP (fLook Try.prog 42 v8 s1 false w4) fun v9 =>
callP G117 [s0, v9] w4 fun _ w10 =>
K (.int .i64 0) w10

def F28_2 (s0 : Value) (s1 : Value) (s2 : Value) (s7 : Value) (w : World) (K : Value → World → Prop) : Prop := F28_2b s0 s1 s2 s7 w K

theorem ok28_2 {K : Value → World → Prop} {kn kr : Env → World → Prop} {ke : Nat → Env → World → Prop}
    (hn : ∀ e w, (fun e w => K (e 6) w) e w → kn e w) (hr : ∀ e w, endD Try.prog [.tmp 6] K e w → kr e w) (he : ∀ i e w, noE i e w → ke i e w) :
    ∀ e w, F28_2 (e 0) (e 1) (e 2) (e 7) w K → denL Try.prog (tabOf T28) 68 fuel ((flat (bodyOf Try.f28)).drop 6) e w kn kr ke := by
  intro e w h
  unfold F28_2 at h
  have e1 : ∀ (_ : Unit), F28_2b (e 0) (e 1) (e 2) (e 7) w K = denL Try.prog (tabOf T28) 68 fuel ((flat (bodyOf Try.f28)).drop 6) e w (fun e w => K (e 6) w) (endD Try.prog [.tmp 6] K) noE := by intro _; kernel_rfl
  exact seg_end (Eq.mp (e1 ()) h) hn hr he

def F28_1b (s0 : Value) (s1 : Value) (s2 : Value) (w : World) (K : Value → World → Prop) (Y0 : Value → Value → Value → Value → World → Prop) : Prop :=
bindP (bLt s2 (.int .i64 0)) fun v12 =>
stepM (gd false v12) s2 fun v13 =>
Sx.stepG (gd false v12) (bGt v13 (.int .i64 2305843009213693952)) fun v14 =>
bindP (pPick v12 (.bool true) v14) fun v15 =>
ifB v15 (
K (.int .i64 1) w) (
bindP (pNil s0) fun v16 =>
bindP (pFieldAddr 2 v16) fun v17 =>
bindP (ld1 v17 w) fun v18 =>
bindP (fLook Try.prog 42 v18 s1 true w) fun v19 =>
bindP (pTuple v19 0) fun v20 =>
bindP (pTuple v19 1) fun v21 =>
bindP (uNot v21) fun v22 =>
ifB v22 (
bindP (pNil s0) fun v23 =>
bindP (pFieldAddr 1 v23) fun v24 =>
bindP (ld1 v24 w.drew) fun v25 =>
bindP (lenL v25) fun v26 =>
bindP (pNil s0) fun v27 =>
bindP (pFieldAddr 0 v27) fun v28 =>
bindP (ld1 v28 w.drew) fun v29 =>
bindP (bGe v26 v29) fun v30 =>
ifB v30 (
K (.int .i64 200) w.drew) (
bindP (pNil s0) fun v31 =>
bindP (pFieldAddr 1 v31) fun v32 =>
bindP (ld1 v32 w.drew) fun v33 =>
bindP (lenL v33) fun v34 =>
bindP (pNil s0) fun v35 =>
bindP (pFieldAddr 1 v35) fun v36 =>
bindP (ld1 v36 w.drew) fun v37 =>
bindP (fBuild Try.prog 49 []) fun v38 =>
eBuildSl Try.prog 46 1 [(0, v38)] w.drew fun v40 w39 =>
eAppend Try.prog 46 46 v37 v40 w39 fun v42 w41 =>
bindP (pNil s0) fun v43 =>
bindP (pFieldAddr 1 v43) fun v44 =>
bindW (st 1 v44 v42 w41) fun w45 =>
Y0 s0 s1 s2 v34 w45)) (
Y0 s0 s1 s2 v20 w))

def F28_1 (s0 : Value) (s1 : Value) (s2 : Value) (w : World) (K : Value → World → Prop) : Prop := F28_1b s0 s1 s2 w K (fun a0 a1 a2 a7 w => F28_2 a0 a1 a2 a7 w K)

theorem ok28_1 {K : Value → World → Prop} {kn kr : Env → World → Prop} {ke : Nat → Env → World → Prop}
    (hn : ∀ e w, (fun e w => K (e 6) w) e w → kn e w) (hr : ∀ e w, endD Try.prog [.tmp 6] K e w → kr e w) (he : ∀ i e w, noE i e w → ke i e w) :
    ∀ e w, F28_1 (e 0) (e 1) (e 2) w K → denL Try.prog (tabOf T28) 68 fuel ((flat (bodyOf Try.f28)).drop 0) e w kn kr ke := by
  intro e w h
  unfold F28_1 at h
  have e1 : ∀ (Y0 : Value → Value → Value → Value → World → Prop), F28_1b (e 0) (e 1) (e 2) w K Y0 = denL Try.prog (tabOf T28) 68 fuel (((flat (bodyOf Try.f28)).drop 0).take 6) e w (fun e w => Y0 (e 0) (e 1) (e 2) (e 7) w) (endD Try.prog [.tmp 6] K) noE := by intro Y0; kernel_rfl
  exact seg 6 (Eq.mp (e1 (fun a0 a1 a2 a7 w => F28_2 a0 a1 a2 a7 w K)) h) (fun e w h => ok28_2 hn hr he e w h) hr he

def F28 (x0 : Value) (x1 : Value) (x2 : Value) (w : World) (K : Value → World → Prop) : Prop := F28_1 x0 x1 x2 w K

def G28 : FnT := fun args w K => on3 (fun x0 x1 x2 => F28 x0 x1 x2 w K) args
theorem c28 {x0 x1 x2 : Value} {w : World} {K : Value → World → Prop} (h : F28 x0 x1 x2 w K) : callP G28 [x0, x1, x2] w K := callP_intro h
theorem ok28 : OkF Try.prog 28 G28 := by
  refine okF_of (tab_ok (l := T28) ⟨ok115, ok116, ok117, trivial⟩) mixed (n := fuel) Try.func28 Try.call28 fun args w K h => ?_
  obtain ⟨x0, x1, x2, rfl, hh⟩ := of_on3 h
  unfold F28 at hh
  exact fnD_list (c := bodyOf Try.f28) (by kernel_rfl) (by kernel_rfl) (ok28_1 (fun _ _ h => h) (fun _ _ h => h) (fun _ _ _ h => h) (initE [x0, x1, x2]) w hh)

-- 30 (*gong/heap.Heap).Len
def T30 : List (Nat × FnT) := []
def F30 (x0 : Value) (w : World) (K : Value → World → Prop) : Prop :=
bindP (pNil x0) fun v1 =>
bindP (pFieldAddr 1 v1) fun v2 =>
bindP (ld1 v2 w) fun v3 =>
bindP (lenL v3) fun v4 =>
K v4 w

def G30 : FnT := fun args w K => on1 (fun x0 => F30 x0 w K) args
theorem c30 {x0 : Value} {w : World} {K : Value → World → Prop} (h : F30 x0 w K) : callP G30 [x0] w K := callP_intro h
theorem ok30 : OkF Try.prog 30 G30 := by
  refine okF_of (tab_ok (l := T30) trivial) mixed (n := fuel) Try.func30 Try.call30 fun args w K h => ?_
  obtain ⟨x0, rfl, hh⟩ := of_on1 h
  exact fnD_list (c := bodyOf Try.f30) (by kernel_rfl) (by kernel_rfl) (Eq.mp (by kernel_rfl) hh)

-- 58 (*gong/heap.Heap).Drop
def T58 : List (Nat × FnT) := [(115, G115), (116, G116), (117, G117)]
def F58_2b (w : World) (K : Value → World → Prop) : Prop :=
K (.bool true) w

def F58_2 (w : World) (K : Value → World → Prop) : Prop := F58_2b w K

theorem ok58_2 {K : Value → World → Prop} {kn kr : Env → World → Prop} {ke : Nat → Env → World → Prop}
    (hn : ∀ e w, (fun e w => K (e 4) w) e w → kn e w) (hr : ∀ e w, endD Try.prog [.tmp 4] K e w → kr e w) (he : ∀ i e w, noE i e w → ke i e w) :
    ∀ e w, F58_2 w K → denL Try.prog (tabOf T58) 66 fuel ((flat (bodyOf Try.f58)).drop 10) e w kn kr ke := by
  intro e w h
  unfold F58_2 at h
  have e1 : ∀ (_ : Unit), F58_2b w K = denL Try.prog (tabOf T58) 66 fuel ((flat (bodyOf Try.f58)).drop 10) e w (fun e w => K (e 4) w) (endD Try.prog [.tmp 4] K) noE := by intro _; kernel_rfl
  exact seg_end (Eq.mp (e1 ()) h) hn hr he

def F58_1b (s0 : Value) (s1 : Value) (w : World) (K : Value → World → Prop) (Y0 : World → Prop) : Prop :=
bindP (pNil s0) fun v1 =>
bindP (pFieldAddr 2 v1) fun v2 =>
bindP (ld1 v2 w) fun v3 =>
bindP (fLook Try.prog 42 v3 s1 true w) fun v4 =>
bindP (pTuple v4 0) fun v5 =>
bindP (pTuple v4 1) fun v6 =>
bindP (uNot v6) fun v7 =>
ifB v7 (
K (.bool false) w) (
bindP (pNil s0) fun v8 =>
bindP (pFieldAddr 1 v8) fun v9 =>
bindP (ld1 v9 w) fun v10 =>
bindP (lenL v10) fun v11 =>
bindP (bSub v11 (.int .i64 1)) fun v12 =>
bindP (pNil s0) fun v13 =>
bindP (pFieldAddr 1 v13) fun v14 =>
bindP (ld1 v14 w) fun v15 =>
bindP (pIndexL 2 v15 v12) fun v16 =>
bindP (ldN 2 v16 w) fun v17 =>
eAlloc Try.prog 49 w fun v19 w18 =>
bindW (st 2 v19 v17 w18) fun w20 =>
bindP (pNil s0) fun v22 =>
bindP (pFieldAddr 1 v22) fun v23 =>
bindP (ld1 v23 w20) fun v24 =>
bindP (pSliceL 2 v24 none (some v12) none) fun v25 =>
bindP (pNil s0) fun v26 =>
bindP (pFieldAddr 1 v26) fun v27 =>
bindW (st 1 v27 v25 w20) fun w28 =>
bindP (pNil s0) fun v30 =>
bindP (pFieldAddr 2 v30) fun v31 =>
bindP (ld1 v31 w28) fun v32 =>
eDelete Try.prog 42 v32 s1 w28 fun _ w33 =>
bindP (bLt v5 v12) fun v35 =>
ifB v35 (
bindP (ldN 2 v19 w33) fun v36 =>
callP G115 [s0, v5, v36] w33 fun _ w37 =>
callP G116 [s0, v5] w37 fun _ w39 =>
bindP (pNil s0) fun v41 =>
bindP (pFieldAddr 2 v41) fun v42 =>
bindP (ld1 v42 w39.drew) fun v43 =>
bindP (pFieldAddr 0 v19) fun v44 =>
bindP (ld1 v44 w39.drew) fun v45 =>
bindP (fLook Try.prog 42 v43 v45 false w39.drew) fun v46 =>
callP G117 [s0, v46] w39.drew fun _ w47 =>
Y0 w47) (
Y0 w33))

def F58_1 (s0 : Value) (s1 : Value) (w : World) (K : Value → World → Prop) : Prop := F58_1b s0 s1 w K (fun w => F58_2 w K)

theorem ok58_1 {K : Value → World → Prop} {kn kr : Env → World → Prop} {ke : Nat → Env → World → Prop}
    (hn : ∀ e w, (fun e w => K (e 4) w) e w → kn e w) (hr : ∀ e w, endD Try.prog [.tmp 4] K e w → kr e w) (he : ∀ i e w, noE i e w → ke i e w) :
    ∀ e w, F58_1 (e 0) (e 1) w K → denL Try.prog (tabOf T58) 66 fuel ((flat (bodyOf Try.f58)).drop 0) e w kn kr ke := by
  intro e w h
  unfold F58_1 at h
  have e1 : ∀ (Y0 : World → Prop), F58_1b (e 0) (e 1) w K Y0 = denL Try.prog (tabOf T58) 66 fuel (((flat (bodyOf Try.f58)).drop 0).take 10) e w (fun e w => Y0 w) (endD Try.prog [.tmp 4] K) noE := by intro Y0; kernel_rfl
  exact seg 10 (Eq.mp (e1 (fun w => F58_2 w K)) h) (fun e w h => ok58_2 hn hr he e w h) hr he

def F58 (x0 : Value) (x1 : Value) (w : World) (K : Value → World → Prop) : Prop := F58_1 x0 x1 w K

def G58 : FnT := fun args w K => on2 (fun x0 x1 => F58 x0 x1 w K) args
theorem c58 {x0 x1 : Value} {w : World} {K : Value → World → Prop} (h : F58 x0 x1 w K) : callP G58 [x0, x1] w K := callP_intro h
theorem ok58 : OkF Try.prog 58 G58 := by
  refine okF_of (tab_ok (l := T58) ⟨ok115, ok116, ok117, trivial⟩) mixed (n := fuel) Try.func58 Try.call58 fun args w K h => ?_
  obtain ⟨x0, x1, rfl, hh⟩ := of_on2 h
  unfold F58 at hh
  exact fnD_list (c := bodyOf Try.f58) (by kernel_rfl) (by kernel_rfl) (ok58_1 (fun _ _ h => h) (fun _ _ h => h) (fun _ _ _ h => h) (initE [x0, x1]) w hh)

-- 120 (*gong/heap.Heap).First
def T120 : List (Nat × FnT) := []
def F120 (x0 : Value) (w : World) (K : Value → World → Prop) : Prop :=
eAlloc Try.prog 49 w fun v2 w1 =>
bindP (pNil x0) fun v3 =>
bindP (pFieldAddr 1 v3) fun v4 =>
bindP (ld1 v4 w1) fun v5 =>
bindP (lenL v5) fun v6 =>
bindP (bEq Try.prog 3 (.tmp 8) (.const (.int .i64 0)) v6 (.int .i64 0)) fun v7 =>
ifB v7 (
bindP (fBuild Try.prog 49 []) fun v8 =>
bindW (st 2 v2 v8 w1) fun w9 =>
bindP (ldN 2 v2 w9) fun v11 =>
K (.tuple #[v11, (.bool false)]) w9) (
bindP (pNil x0) fun v12 =>
bindP (pFieldAddr 1 v12) fun v13 =>
bindP (ld1 v13 w1) fun v14 =>
bindP (pIndexL 2 v14 (.int .i64 0)) fun v15 =>
bindP (ldN 2 v15 w1) fun v16 =>
bindW (st 2 v2 v16 w1) fun w17 =>
bindP (ldN 2 v2 w17) fun v19 =>
K (.tuple #[v19, (.bool true)]) w17)

def G120 : FnT := fun args w K => on1 (fun x0 => F120 x0 w K) args
theorem c120 {x0 : Value} {w : World} {K : Value → World → Prop} (h : F120 x0 w K) : callP G120 [x0] w K := callP_intro h
theorem ok120 : OkF Try.prog 120 G120 := by
  refine okF_of (tab_ok (l := T120) trivial) mixed (n := fuel) Try.func120 Try.call120 fun args w K h => ?_
  obtain ⟨x0, rfl, hh⟩ := of_on1 h
  exact fnD_list (c := bodyOf Try.f120) (by kernel_rfl) (by kernel_rfl) (Eq.mp (by kernel_rfl) hh)

-- 31 (*gong/heap.Heap).Due
def T31 : List (Nat × FnT) := [(58, G58), (120, G120)]
def F31_3b (s5 : Value) (w : World) (K : Value → World → Prop) : Prop :=
K s5 w

def F31_3 (s5 : Value) (w : World) (K : Value → World → Prop) : Prop := F31_3b s5 w K

theorem ok31_3 {K : Value → World → Prop} {kn kr : Env → World → Prop} {ke : Nat → Env → World → Prop}
    (hn : ∀ e w, (fun e w => K (e 4) w) e w → kn e w) (hr : ∀ e w, endD Try.prog [.tmp 4] K e w → kr e w) (he : ∀ i e w, noE i e w → ke i e w) :
    ∀ e w, F31_3 (e 5) w K → denL Try.prog (tabOf T31) 35 fuel ((flat (bodyOf Try.f31)).drop 4) e w kn kr ke := by
  intro e w h
  unfold F31_3 at h
  have e1 : ∀ (_ : Unit), F31_3b (e 5) w K = denL Try.prog (tabOf T31) 35 fuel ((flat (bodyOf Try.f31)).drop 4) e w (fun e w => K (e 4) w) (endD Try.prog [.tmp 4] K) noE := by intro _; kernel_rfl
  exact seg_end (Eq.mp (e1 ()) h) hn hr he

def F31_2b (s0 : Value) (s1 : Value) (s5 : Value) (s6 : Value) (s7 : Value) (w : World) (_K : Value → World → Prop) (Y0 : Value → Value → Value → Value → Value → World → Prop) (Y1 : Value → World → Prop) : Prop :=
Sx.stepG (gd true s7) (pFieldAddr 1 s6) fun v1 =>
Sx.stepG (gd true s7) (ld1 v1 w) fun v2 =>
stepM (gd true s7) s1 fun v3 =>
Sx.stepG (gd true s7) (bLe v2 v3) fun v4 =>
bindP (pPick s7 v4 (.bool false)) fun v5 =>
ifB v5 (
bindP (pFieldAddr 0 s6) fun v6 =>
bindP (ld1 v6 w) fun v7 =>
callP G58 [s0, v7] w fun _ w8 =>
bindP (ldN 2 s6 w8) fun v10 =>
eBuildSl Try.prog 46 1 [(0, v10)] w8 fun v12 w11 =>
eAppend Try.prog 46 46 s5 v12 w11 fun v14 w13 =>
bindP (ldN 2 s6 w13) fun v15 =>
eAlloc Try.prog 49 w13 fun v17 w16 =>
bindW (st 2 v17 v15 w16) fun w18 =>
callP G120 [s0] w18 fun v21 w20 =>
bindP (pTuple v21 0) fun v22 =>
bindP (pTuple v21 1) fun v23 =>
bindW (st 2 v17 v22 w20) fun w24 =>
Y0 s0 s1 v14 v17 v23 w24) (
Y1 s5 w)

def F31_2L : Nat → Value → Value → Value → Value → Value → World → (Value → World → Prop) → Prop
  | 0, _, _, _, _, _, _, _ => False
  | n + 1, s0, s1, s5, s6, s7, w, K => F31_2b s0 s1 s5 s6 s7 w K (fun a0 a1 a5 a6 a7 w => F31_2L n a0 a1 a5 a6 a7 w K) (fun a5 w => F31_3 a5 w K)

def F31_2 (s0 : Value) (s1 : Value) (s5 : Value) (s6 : Value) (s7 : Value) (w : World) (K : Value → World → Prop) : Prop := F31_2L fuel s0 s1 s5 s6 s7 w K

theorem ok31_2 {K : Value → World → Prop} {kn kr : Env → World → Prop} {ke : Nat → Env → World → Prop}
    (hn : ∀ e w, (fun e w => K (e 4) w) e w → kn e w) (hr : ∀ e w, endD Try.prog [.tmp 4] K e w → kr e w) (he : ∀ i e w, noE i e w → ke i e w) :
    ∀ e w, F31_2 (e 0) (e 1) (e 5) (e 6) (e 7) w K → denL Try.prog (tabOf T31) 35 fuel ((flat (bodyOf Try.f31)).drop 3) e w kn kr ke := by
  intro e w h
  unfold F31_2 at h
  refine seg_loop (id := 0) (body := (loopB (blkB (nthC (flat (bodyOf Try.f31)) 3)))) (l2 := (flat (bodyOf Try.f31)).drop 4) (by kernel_rfl) ?_
  refine loop_ok (FL := fun m e w => F31_2L m (e 0) (e 1) (e 5) (e 6) (e 7) w K) (fr := endD Try.prog [.tmp 4] K) (fe := (blkK 0 (fun e w => F31_3 (e 5) w K) noE)) (fun _ _ h => h) ?_ hr (blkK_mono (fun e w h => ok31_3 hn hr he e w h) he) fuel e w h
  intro m e w h
  have h : F31_2L (m + 1) (e 0) (e 1) (e 5) (e 6) (e 7) w K := h
  rw [F31_2L] at h
  have e1 : ∀ (Y0 : Value → Value → Value → Value → Value → World → Prop) (Y1 : Value → World → Prop), F31_2b (e 0) (e 1) (e 5) (e 6) (e 7) w K Y0 Y1 = denL Try.prog (tabOf T31) 35 fuel (flat (loopB (blkB (nthC (flat (bodyOf Try.f31)) 3)))) e w (fun e w => Y0 (e 0) (e 1) (e 5) (e 6) (e 7) w) (endD Try.prog [.tmp 4] K) (blkK 0 (fun e w => Y1 (e 5) w) noE) := by intro Y0 Y1; kernel_rfl
  exact Eq.mp (e1 (fun a0 a1 a5 a6 a7 w => F31_2L m a0 a1 a5 a6 a7 w K) (fun a5 w => F31_3 a5 w K)) h

def F31_1b (s0 : Value) (s1 : Value) (w : World) (_K : Value → World → Prop) (Y0 : Value → Value → Value → Value → Value → World → Prop) : Prop :=
callP G120 [s0] w fun v27 w26 =>
bindP (pTuple v27 0) fun v28 =>
bindP (pTuple v27 1) fun v29 =>
eAlloc Try.prog 49 w26 fun v31 w30 =>
bindW (st 2 v31 v28 w30) fun w32 =>
Y0 s0 s1 (.slice none 0 0) v31 v29 w32

def F31_1 (s0 : Value) (s1 : Value) (w : World) (K : Value → World → Prop) : Prop := F31_1b s0 s1 w K (fun a0 a1 a5 a6 a7 w => F31_2 a0 a1 a5 a6 a7 w K)

theorem ok31_1 {K : Value → World → Prop} {kn kr : Env → World → Prop} {ke : Nat → Env → World → Prop}
    (hn : ∀ e w, (fun e w => K (e 4) w) e w → kn e w) (hr : ∀ e w, endD Try.prog [.tmp 4] K e w → kr e w) (he : ∀ i e w, noE i e w → ke i e w) :
    ∀ e w, F31_1 (e 0) (e 1) w K → denL Try.prog (tabOf T31) 35 fuel ((flat (bodyOf Try.f31)).drop 0) e w kn kr ke := by
  intro e w h
  unfold F31_1 at h
  have e1 : ∀ (Y0 : Value → Value → Value → Value → Value → World → Prop), F31_1b (e 0) (e 1) w K Y0 = denL Try.prog (tabOf T31) 35 fuel (((flat (bodyOf Try.f31)).drop 0).take 3) e w (fun e w => Y0 (e 0) (e 1) (e 5) (e 6) (e 7) w) (endD Try.prog [.tmp 4] K) noE := by intro Y0; kernel_rfl
  exact seg 3 (Eq.mp (e1 (fun a0 a1 a5 a6 a7 w => F31_2 a0 a1 a5 a6 a7 w K)) h) (fun e w h => ok31_2 hn hr he e w h) hr he

def F31 (x0 : Value) (x1 : Value) (w : World) (K : Value → World → Prop) : Prop := F31_1 x0 x1 w K

def G31 : FnT := fun args w K => on2 (fun x0 x1 => F31 x0 x1 w K) args
theorem c31 {x0 x1 : Value} {w : World} {K : Value → World → Prop} (h : F31 x0 x1 w K) : callP G31 [x0, x1] w K := callP_intro h
theorem ok31 : OkF Try.prog 31 G31 := by
  refine okF_of (tab_ok (l := T31) ⟨ok58, ok120, trivial⟩) mixed (n := fuel) Try.func31 Try.call31 fun args w K h => ?_
  obtain ⟨x0, x1, rfl, hh⟩ := of_on2 h
  unfold F31 at hh
  exact fnD_list (c := bodyOf Try.f31) (by kernel_rfl) (by kernel_rfl) (ok31_1 (fun _ _ h => h) (fun _ _ h => h) (fun _ _ _ h => h) (initE [x0, x1]) w hh)

-- 27 gong/gonglaw19.works
def T27 : List (Nat × FnT) := [(26, G26), (28, G28), (30, G30), (31, G31)]
def F27 (w : World) (K : Value → World → Prop) : Prop :=
callP G26 [(.int .i64 9)] w fun v2 w1 =>
bindP (pTuple v2 0) fun v3 =>
bindP (pTuple v2 1) fun v4 =>
bindP (bEq Try.prog 39 (.tmp 8) (.const (.pointer none)) v3 (.pointer none)) fun v5 =>
stepM (gd false v5) v4 fun v6 =>
Sx.stepG (gd false v5) (bNe Try.prog 24 (.tmp 11) (.const (.int .i64 0)) v6 (.int .i64 0)) fun v7 =>
bindP (pPick v5 (.bool true) v7) fun v8 =>
stepM (gd false v8) v3 fun v9 =>
stepE (gd false v8) (fun k => callP G28 [v9, (.int .i64 7), (.int .i64 20)] w1 k) w1 fun v11 w10 =>
Sx.stepG (gd false v8) (bNe Try.prog 24 (.tmp 16) (.const (.int .i64 0)) v11 (.int .i64 0)) fun v12 =>
bindP (pPick v8 (.bool true) v12) fun v13 =>
stepM (gd false v13) v3 fun v14 =>
stepE (gd false v13) (fun k => callP G28 [v14, (.int .i64 3), (.int .i64 10)] w10 k) w10 fun v16 w15 =>
Sx.stepG (gd false v13) (bNe Try.prog 24 (.tmp 21) (.const (.int .i64 0)) v16 (.int .i64 0)) fun v17 =>
bindP (pPick v13 (.bool true) v17) fun v18 =>
stepM (gd false v18) v3 fun v19 =>
stepE (gd false v18) (fun k => callP G28 [v19, (.int .i64 9), (.int .i64 20)] w15 k) w15 fun v21 w20 =>
Sx.stepG (gd false v18) (bNe Try.prog 24 (.tmp 26) (.const (.int .i64 0)) v21 (.int .i64 0)) fun v22 =>
bindP (pPick v18 (.bool true) v22) fun v23 =>
ifB v23 (
K (.bool false) w20) (
callP G31 [v3, (.int .i64 20)] w20 fun v25 w24 =>
bindP (lenL v25) fun v26 =>
bindP (bEq Try.prog 3 (.tmp 32) (.const (.int .i64 3)) v26 (.int .i64 3)) fun v27 =>
stepM (gd true v27) v25 fun v28 =>
Sx.stepG (gd true v27) (pIndexL 2 v28 (.int .i64 0)) fun v29 =>
Sx.stepG (gd true v27) (pFieldAddr 0 v29) fun v30 =>
Sx.stepG (gd true v27) (ld1 v30 w24) fun v31 =>
Sx.stepG (gd true v27) (bEq Try.prog 3 (.tmp 38) (.const (.int .i64 3)) v31 (.int .i64 3)) fun v32 =>
bindP (pPick v27 v32 (.bool false)) fun v33 =>
stepM (gd true v33) v25 fun v34 =>
Sx.stepG (gd true v33) (pIndexL 2 v34 (.int .i64 1)) fun v35 =>
Sx.stepG (gd true v33) (pFieldAddr 0 v35) fun v36 =>
Sx.stepG (gd true v33) (ld1 v36 w24) fun v37 =>
Sx.stepG (gd true v33) (bEq Try.prog 3 (.tmp 45) (.const (.int .i64 7)) v37 (.int .i64 7)) fun v38 =>
bindP (pPick v33 v38 (.bool false)) fun v39 =>
stepM (gd true v39) v25 fun v40 =>
Sx.stepG (gd true v39) (pIndexL 2 v40 (.int .i64 2)) fun v41 =>
Sx.stepG (gd true v39) (pFieldAddr 0 v41) fun v42 =>
Sx.stepG (gd true v39) (ld1 v42 w24) fun v43 =>
Sx.stepG (gd true v39) (bEq Try.prog 3 (.tmp 52) (.const (.int .i64 9)) v43 (.int .i64 9)) fun v44 =>
bindP (pPick v39 v44 (.bool false)) fun v45 =>
stepM (gd true v45) v3 fun v46 =>
stepE (gd true v45) (fun k => callP G30 [v46] w24 k) w24 fun v48 w47 =>
Sx.stepG (gd true v45) (bEq Try.prog 3 (.tmp 57) (.const (.int .i64 0)) v48 (.int .i64 0)) fun v49 =>
bindP (pPick v45 v49 (.bool false)) fun v50 =>
K v50 w47)

def G27 : FnT := fun args w K => on0 (F27 w K) args
theorem c27 {w : World} {K : Value → World → Prop} (h : F27 w K) : callP G27 [] w K := callP_intro h
theorem ok27 : OkF Try.prog 27 G27 := by
  refine okF_of (tab_ok (l := T27) ⟨ok26, ok28, ok30, ok31, trivial⟩) mixed (n := fuel) Try.func27 Try.call27 fun args w K h => ?_
  obtain ⟨rfl, hh⟩ := of_on0 h
  exact fnD_list (c := bodyOf Try.f27) (by kernel_rfl) (by kernel_rfl) (Eq.mp (by kernel_rfl) hh)

-- 118 slices.Clone[[]gong/heap.Item,gong/heap.Item]
def T118 : List (Nat × FnT) := []
def F118 (x0 : Value) (w : World) (K : Value → World → Prop) : Prop :=
bindP (bEq Try.prog 46 (.tmp 3) (.const (.slice none 0 0)) x0 (.slice none 0 0)) fun v1 =>
ifB v1 (
K (.slice none 0 0) w) (
eBuildSl Try.prog 46 0 [] w fun v3 w2 =>
eAppend Try.prog 46 46 v3 x0 w2 fun v5 w4 =>
K v5 w4)

def G118 : FnT := fun args w K => on1 (fun x0 => F118 x0 w K) args
theorem c118 {x0 : Value} {w : World} {K : Value → World → Prop} (h : F118 x0 w K) : callP G118 [x0] w K := callP_intro h
theorem ok118 : OkF Try.prog 118 G118 := by
  refine okF_of (tab_ok (l := T118) trivial) mixed (n := fuel) Try.func118 Try.call118 fun args w K h => ?_
  obtain ⟨x0, rfl, hh⟩ := of_on1 h
  exact fnD_list (c := bodyOf Try.f118) (by kernel_rfl) (by kernel_rfl) (Eq.mp (by kernel_rfl) hh)

-- 199 maps.clone
def G199 : FnT := gClone
theorem ok199 : OkF Try.prog 199 G199 := okClone Try.func199 (by kernel_rfl) (by kernel_rfl) (by kernel_rfl) (by kernel_rfl)

-- 119 maps.Clone[map[int]int,int,int]
def T119 : List (Nat × FnT) := [(199, G199)]
def F119 (x0 : Value) (w : World) (K : Value → World → Prop) : Prop :=
bindP (bEq Try.prog 42 (.tmp 3) (.const (.map none)) x0 (.map none)) fun v1 =>
ifB v1 (
K (.map none) w) (
bindP (fMkI Try.prog 42 x0) fun v2 =>
callP G199 [v2] w fun v4 w3 =>
bindP (fAssert Try.prog v4 42 false) fun v5 =>
K v5 w3)

def G119 : FnT := fun args w K => on1 (fun x0 => F119 x0 w K) args
theorem c119 {x0 : Value} {w : World} {K : Value → World → Prop} (h : F119 x0 w K) : callP G119 [x0] w K := callP_intro h
theorem ok119 : OkF Try.prog 119 G119 := by
  refine okF_of (tab_ok (l := T119) ⟨ok199, trivial⟩) mixed (n := fuel) Try.func119 Try.call119 fun args w K h => ?_
  obtain ⟨x0, rfl, hh⟩ := of_on1 h
  exact fnD_list (c := bodyOf Try.f119) (by kernel_rfl) (by kernel_rfl) (Eq.mp (by kernel_rfl) hh)

-- 29 (*gong/heap.Heap).Fork
def T29 : List (Nat × FnT) := [(118, G118), (119, G119)]
def F29 (x0 : Value) (w : World) (K : Value → World → Prop) : Prop :=
bindP (pNil x0) fun v1 =>
bindP (pFieldAddr 0 v1) fun v2 =>
bindP (ld1 v2 w.drew) fun v3 =>
bindP (pNil x0) fun v4 =>
bindP (pFieldAddr 1 v4) fun v5 =>
bindP (ld1 v5 w.drew) fun v6 =>
bindP (pNil x0) fun v7 =>
bindP (pFieldAddr 2 v7) fun v8 =>
bindP (ld1 v8 w.drew) fun v9 =>
callP G118 [v6] w.drew fun v11 w10 =>
(fok true (ld1 v2 w10) v3 ∧ fok true (ld1 v8 w10) v9) ∧ (callP G119 [v9] w10 fun v13 w12 =>
fok true (ld1 v2 w12) v3 ∧ (bindP (fBuild Try.prog 171 [(0, v3), (1, v11), (2, v13)]) fun v14 =>
eBox 171 v14 w12 fun v16 w15 =>
K v16 w15))

def G29 : FnT := fun args w K => on1 (fun x0 => F29 x0 w K) args
theorem c29 {x0 : Value} {w : World} {K : Value → World → Prop} (h : F29 x0 w K) : callP G29 [x0] w K := callP_intro h
theorem ok29 : OkF Try.prog 29 G29 := by
  refine okF_of (tab_ok (l := T29) ⟨ok118, ok119, trivial⟩) mixed (n := fuel) Try.func29 Try.call29 fun args w K h => ?_
  obtain ⟨x0, rfl, hh⟩ := of_on1 h
  exact fnD_list (c := bodyOf Try.f29) (by kernel_rfl) (by kernel_rfl) (Eq.mp (by kernel_rfl) hh)

-- 4 gong/gonglaw19.HeapOnce
def T4 : List (Nat × FnT) := [(23, G23), (26, G26), (27, G27), (28, G28), (29, G29), (30, G30), (31, G31)]
def F4_7b (w : World) (K : Value → World → Prop) : Prop :=
K (.bool true) w

def F4_7 (w : World) (K : Value → World → Prop) : Prop := F4_7b w K

theorem ok4_7 {K : Value → World → Prop} {kn kr : Env → World → Prop} {ke : Nat → Env → World → Prop}
    (hn : ∀ e w, (fun e w => K (e 4) w) e w → kn e w) (hr : ∀ e w, endD Try.prog [.tmp 4] K e w → kr e w) (he : ∀ i e w, noE i e w → ke i e w) :
    ∀ e w, F4_7 w K → denL Try.prog (tabOf T4) 192 fuel ((flat (bodyOf Try.f4)).drop 20) e w kn kr ke := by
  intro e w h
  unfold F4_7 at h
  have e1 : ∀ (_ : Unit), F4_7b w K = denL Try.prog (tabOf T4) 192 fuel ((flat (bodyOf Try.f4)).drop 20) e w (fun e w => K (e 4) w) (endD Try.prog [.tmp 4] K) noE := by intro _; kernel_rfl
  exact seg_end (Eq.mp (e1 ()) h) hn hr he

def F4_6b (s7 : Value) (s12 : Value) (s15 : Value) (s126 : Value) (s127 : Value) (s128 : Value) (w : World) (K : Value → World → Prop) (Y0 : Value → Value → Value → Value → Value → Value → World → Prop) (Y1 : World → Prop) : Prop :=
bindP (bLt s128 s127) fun v1 =>
ifB v1 (
bindP (pIndexL 2 s126 s128) fun v2 =>
bindP (ldN 2 v2 w) fun v3 =>
eAlloc Try.prog 49 w fun v5 w4 =>
bindW (st 2 v5 v3 w4) fun w6 =>
bindP (pFieldAddr 0 v5) fun v8 =>
bindP (ld1 v8 w6) fun v9 =>
bindP (fLook Try.prog 42 s7 v9 true w6) fun v10 =>
bindP (pTuple v10 0) fun v11 =>
bindP (pTuple v10 1) fun v12 =>
bindP (uNot v12) fun v13 =>
stepM (gd false v13) v11 fun v14 =>
Sx.stepG (gd false v13) (pFieldAddr 1 v5) fun v15 =>
Sx.stepG (gd false v13) (ld1 v15 w6.drew) fun v16 =>
Sx.stepG (gd false v13) (bNe Try.prog 3 (.tmp 143) (.tmp 145) v14 v16) fun v17 =>
bindP (pPick v13 (.bool true) v17) fun v18 =>
Sx.stepG (gd false v18) (ldN 2 v5 w6.drew) fun v19 =>
stepM (gd false v18) s12 fun v20 =>
stepM (gd false v18) s128 fun v21 =>
Sx.stepG (gd false v18) (pIndexL 2 v20 v21) fun v22 =>
Sx.stepG (gd false v18) (ldN 2 v22 w6.drew) fun v23 =>
Sx.stepG (gd false v18) (bNe Try.prog 49 (.tmp 149) (.tmp 153) v19 v23) fun v24 =>
bindP (pPick v18 (.bool true) v24) fun v25 =>
ifB v25 (
K (.bool false) w6.drew) (
bindP (bGt s128 (.int .i64 0)) fun v26 =>
stepM (gd true v26) s15 fun v27 =>
stepM (gd true v26) s128 fun v28 =>
Sx.stepG (gd true v26) (bSub v28 (.int .i64 1)) fun v29 =>
Sx.stepG (gd true v26) (pIndexL 2 v27 v29) fun v30 =>
Sx.stepG (gd true v26) (pFieldAddr 1 v30) fun v31 =>
Sx.stepG (gd true v26) (ld1 v31 (w6.drew).drew) fun v32 =>
Sx.stepG (gd true v26) (pFieldAddr 1 v5) fun v33 =>
Sx.stepG (gd true v26) (ld1 v33 (w6.drew).drew) fun v34 =>
Sx.stepG (gd true v26) (bGt v32 v34) fun v35 =>
stepM (gd true v26) v35 fun v36 =>
stepM (gd false v36) s15 fun v37 =>
stepM (gd false v36) s128 fun v38 =>
Sx.stepG (gd false v36) (bSub v38 (.int .i64 1)) fun v39 =>
Sx.stepG (gd false v36) (pIndexL 2 v37 v39) fun v40 =>
Sx.stepG (gd false v36) (pFieldAddr 1 v40) fun v41 =>
Sx.stepG (gd false v36) (ld1 v41 (w6.drew).drew) fun v42 =>
Sx.stepG (gd false v36) (pFieldAddr 1 v5) fun v43 =>
Sx.stepG (gd false v36) (ld1 v43 (w6.drew).drew) fun v44 =>
Sx.stepG (gd false v36) (bEq Try.prog 3 (.tmp 174) (.tmp 176) v42 v44) fun v45 =>
stepM (gd false v36) v45 fun v46 =>
stepM (gd true v46) s15 fun v47 =>
stepM (gd true v46) s128 fun v48 =>
Sx.stepG (gd true v46) (bSub v48 (.int .i64 1)) fun v49 =>
Sx.stepG (gd true v46) (pIndexL 2 v47 v49) fun v50 =>
Sx.stepG (gd true v46) (pFieldAddr 0 v50) fun v51 =>
Sx.stepG (gd true v46) (ld1 v51 (w6.drew).drew) fun v52 =>
Sx.stepG (gd true v46) (pFieldAddr 0 v5) fun v53 =>
Sx.stepG (gd true v46) (ld1 v53 (w6.drew).drew) fun v54 =>
Sx.stepG (gd true v46) (bGe v52 v54) fun v55 =>
Sx.stepG (gd false v36) (pPick v46 v55 (.bool false)) fun v56 =>
Sx.stepG (gd true v26) (pPick v36 (.bool true) v56) fun v57 =>
bindP (pPick v26 v57 (.bool false)) fun v58 =>
ifB v58 (
K (.bool false) (w6.drew).drew) (
bindP (bAdd s128 (.int .i64 1)) fun v59 =>
Y0 s7 s12 s15 s126 s127 v59 (w6.drew).drew))) (
Y1 w)

def F4_6L : Nat → Value → Value → Value → Value → Value → Value → World → (Value → World → Prop) → Prop
  | 0, _, _, _, _, _, _, _, _ => False
  | n + 1, s7, s12, s15, s126, s127, s128, w, K => F4_6b s7 s12 s15 s126 s127 s128 w K (fun a7 a12 a15 a126 a127 a128 w => F4_6L n a7 a12 a15 a126 a127 a128 w K) (fun w => F4_7 w K)

def F4_6 (s7 : Value) (s12 : Value) (s15 : Value) (s126 : Value) (s127 : Value) (s128 : Value) (w : World) (K : Value → World → Prop) : Prop := F4_6L fuel s7 s12 s15 s126 s127 s128 w K

theorem ok4_6 {K : Value → World → Prop} {kn kr : Env → World → Prop} {ke : Nat → Env → World → Prop}
    (hn : ∀ e w, (fun e w => K (e 4) w) e w → kn e w) (hr : ∀ e w, endD Try.prog [.tmp 4] K e w → kr e w) (he : ∀ i e w, noE i e w → ke i e w) :
    ∀ e w, F4_6 (e 7) (e 12) (e 15) (e 126) (e 127) (e 128) w K → denL Try.prog (tabOf T4) 192 fuel ((flat (bodyOf Try.f4)).drop 19) e w kn kr ke := by
  intro e w h
  unfold F4_6 at h
  refine seg_loop (id := 4) (body := (loopB (blkB (nthC (flat (bodyOf Try.f4)) 19)))) (l2 := (flat (bodyOf Try.f4)).drop 20) (by kernel_rfl) ?_
  refine loop_ok (FL := fun m e w => F4_6L m (e 7) (e 12) (e 15) (e 126) (e 127) (e 128) w K) (fr := endD Try.prog [.tmp 4] K) (fe := (blkK 4 (fun e w => F4_7 w K) noE)) (fun _ _ h => h) ?_ hr (blkK_mono (fun e w h => ok4_7 hn hr he e w h) he) fuel e w h
  intro m e w h
  have h : F4_6L (m + 1) (e 7) (e 12) (e 15) (e 126) (e 127) (e 128) w K := h
  rw [F4_6L] at h
  have e1 : ∀ (Y0 : Value → Value → Value → Value → Value → Value → World → Prop) (Y1 : World → Prop), F4_6b (e 7) (e 12) (e 15) (e 126) (e 127) (e 128) w K Y0 Y1 = denL Try.prog (tabOf T4) 192 fuel (flat (loopB (blkB (nthC (flat (bodyOf Try.f4)) 19)))) e w (fun e w => Y0 (e 7) (e 12) (e 15) (e 126) (e 127) (e 128) w) (endD Try.prog [.tmp 4] K) (blkK 4 (fun e w => Y1 w) noE) := by intro Y0 Y1; kernel_rfl
  exact Eq.mp (e1 (fun a7 a12 a15 a126 a127 a128 w => F4_6L m a7 a12 a15 a126 a127 a128 w K) (fun w => F4_7 w K)) h

def F4_5b (s5 : Value) (s7 : Value) (s11 : Value) (s12 : Value) (w : World) (K : Value → World → Prop) (Y0 : Value → Value → Value → Value → Value → Value → World → Prop) : Prop :=
callP G31 [s5, (.int .i64 1000)] w fun v61 w60 =>
eAppend Try.prog 46 46 s12 v61 w60 fun v63 w62 =>
callP G31 [s11, (.int .i64 1000)] w62 fun v65 w64 =>
bindP (lenL v65) fun v66 =>
bindP (lenM s7 w64) fun v67 =>
bindP (bNe Try.prog 3 (.tmp 105) (.tmp 107) v66 v67) fun v68 =>
stepM (gd false v68) v63 fun v69 =>
Sx.stepG (gd false v68) (lenL v69) fun v70 =>
stepM (gd false v68) v65 fun v71 =>
Sx.stepG (gd false v68) (lenL v71) fun v72 =>
Sx.stepG (gd false v68) (bNe Try.prog 3 (.tmp 111) (.tmp 113) v70 v72) fun v73 =>
bindP (pPick v68 (.bool true) v73) fun v74 =>
stepM (gd false v74) s5 fun v75 =>
stepE (gd false v74) (fun k => callP G30 [v75] w64 k) w64 fun v77 w76 =>
Sx.stepG (gd false v74) (bNe Try.prog 3 (.tmp 118) (.const (.int .i64 0)) v77 (.int .i64 0)) fun v78 =>
bindP (pPick v74 (.bool true) v78) fun v79 =>
stepM (gd false v79) s11 fun v80 =>
stepE (gd false v79) (fun k => callP G30 [v80] w76 k) w76 fun v82 w81 =>
Sx.stepG (gd false v79) (bNe Try.prog 3 (.tmp 123) (.const (.int .i64 0)) v82 (.int .i64 0)) fun v83 =>
bindP (pPick v79 (.bool true) v83) fun v84 =>
ifB v84 (
K (.bool false) w81) (
bindP (lenL v65) fun v85 =>
Y0 s7 v63 v65 v65 v85 (.int .i64 0) w81)

def F4_5 (s5 : Value) (s7 : Value) (s11 : Value) (s12 : Value) (w : World) (K : Value → World → Prop) : Prop := F4_5b s5 s7 s11 s12 w K (fun a7 a12 a15 a126 a127 a128 w => F4_6 a7 a12 a15 a126 a127 a128 w K)

theorem ok4_5 {K : Value → World → Prop} {kn kr : Env → World → Prop} {ke : Nat → Env → World → Prop}
    (hn : ∀ e w, (fun e w => K (e 4) w) e w → kn e w) (hr : ∀ e w, endD Try.prog [.tmp 4] K e w → kr e w) (he : ∀ i e w, noE i e w → ke i e w) :
    ∀ e w, F4_5 (e 5) (e 7) (e 11) (e 12) w K → denL Try.prog (tabOf T4) 192 fuel ((flat (bodyOf Try.f4)).drop 14) e w kn kr ke := by
  intro e w h
  unfold F4_5 at h
  have e1 : ∀ (Y0 : Value → Value → Value → Value → Value → Value → World → Prop), F4_5b (e 5) (e 7) (e 11) (e 12) w K Y0 = denL Try.prog (tabOf T4) 192 fuel (((flat (bodyOf Try.f4)).drop 14).take 5) e w (fun e w => Y0 (e 7) (e 12) (e 15) (e 126) (e 127) (e 128) w) (endD Try.prog [.tmp 4] K) noE := by intro Y0; kernel_rfl
  exact seg 5 (Eq.mp (e1 (fun a7 a12 a15 a126 a127 a128 w => F4_6 a7 a12 a15 a126 a127 a128 w K)) h) (fun e w h => ok4_6 hn hr he e w h) hr he

def F4_4b (s1 : Value) (s5 : Value) (s7 : Value) (s11 : Value) (s12 : Value) (s13 : Value) (s14 : Value) (w : World) (_K : Value → World → Prop) (Y0 : Value → Value → Value → Value → Value → Value → Value → World → Prop) (Y1 : Value → Value → Value → Value → World → Prop) : Prop :=
bindP (lenL s1) fun v86 =>
bindP (bLt s14 v86) fun v87 =>
stepM (gd true v87) s14 fun v88 =>
Sx.stepG (gd true v87) (bLt v88 (.int .i64 50)) fun v89 =>
bindP (pPick v87 v89 (.bool false)) fun v90 =>
ifB v90 (
bindP (pIndexL 1 s1 s14) fun v91 =>
bindP (ld1 v91 w) fun v92 =>
callP G23 [v92, (.int .i64 100)] w fun v94 w93 =>
bindP (bAdd s13 v94) fun v95 =>
callP G31 [s5, v95] w93 fun v97 w96 =>
eAppend Try.prog 46 46 s12 v97 w96 fun v99 w98 =>
bindP (bAdd s14 (.int .i64 1)) fun v100 =>
Y0 s1 s5 s7 s11 v99 v95 v100 w98) (
Y1 s5 s7 s11 s12 w)

def F4_4L : Nat → Value → Value → Value → Value → Value → Value → Value → World → (Value → World → Prop) → Prop
  | 0, _, _, _, _, _, _, _, _, _ => False
  | n + 1, s1, s5, s7, s11, s12, s13, s14, w, K => F4_4b s1 s5 s7 s11 s12 s13 s14 w K (fun a1 a5 a7 a11 a12 a13 a14 w => F4_4L n a1 a5 a7 a11 a12 a13 a14 w K) (fun a5 a7 a11 a12 w => F4_5 a5 a7 a11 a12 w K)

def F4_4 (s1 : Value) (s5 : Value) (s7 : Value) (s11 : Value) (s12 : Value) (s13 : Value) (s14 : Value) (w : World) (K : Value → World → Prop) : Prop := F4_4L fuel s1 s5 s7 s11 s12 s13 s14 w K

theorem ok4_4 {K : Value → World → Prop} {kn kr : Env → World → Prop} {ke : Nat → Env → World → Prop}
    (hn : ∀ e w, (fun e w => K (e 4) w) e w → kn e w) (hr : ∀ e w, endD Try.prog [.tmp 4] K e w → kr e w) (he : ∀ i e w, noE i e w → ke i e w) :
    ∀ e w, F4_4 (e 1) (e 5) (e 7) (e 11) (e 12) (e 13) (e 14) w K → denL Try.prog (tabOf T4) 192 fuel ((flat (bodyOf Try.f4)).drop 13) e w kn kr ke := by
  intro e w h
  unfold F4_4 at h
  refine seg_loop (id := 2) (body := (loopB (blkB (nthC (flat (bodyOf Try.f4)) 13)))) (l2 := (flat (bodyOf Try.f4)).drop 14) (by kernel_rfl) ?_
  refine loop_ok (FL := fun m e w => F4_4L m (e 1) (e 5) (e 7) (e 11) (e 12) (e 13) (e 14) w K) (fr := endD Try.prog [.tmp 4] K) (fe := (blkK 2 (fun e w => F4_5 (e 5) (e 7) (e 11) (e 12) w K) noE)) (fun _ _ h => h) ?_ hr (blkK_mono (fun e w h => ok4_5 hn hr he e w h) he) fuel e w h
  intro m e w h
  have h : F4_4L (m + 1) (e 1) (e 5) (e 7) (e 11) (e 12) (e 13) (e 14) w K := h
  rw [F4_4L] at h
  have e1 : ∀ (Y0 : Value → Value → Value → Value → Value → Value → Value → World → Prop) (Y1 : Value → Value → Value → Value → World → Prop), F4_4b (e 1) (e 5) (e 7) (e 11) (e 12) (e 13) (e 14) w K Y0 Y1 = denL Try.prog (tabOf T4) 192 fuel (flat (loopB (blkB (nthC (flat (bodyOf Try.f4)) 13)))) e w (fun e w => Y0 (e 1) (e 5) (e 7) (e 11) (e 12) (e 13) (e 14) w) (endD Try.prog [.tmp 4] K) (blkK 2 (fun e w => Y1 (e 5) (e 7) (e 11) (e 12) w) noE) := by intro Y0 Y1; kernel_rfl
  exact Eq.mp (e1 (fun a1 a5 a7 a11 a12 a13 a14 w => F4_4L m a1 a5 a7 a11 a12 a13 a14 w K) (fun a5 a7 a11 a12 w => F4_5 a5 a7 a11 a12 w K)) h

def F4_3b (s1 : Value) (s5 : Value) (s7 : Value) (w : World) (K : Value → World → Prop) (Y0 : Value → Value → Value → Value → Value → Value → Value → World → Prop) : Prop :=
callP G29 [s5] w fun v102 w101 =>
bindP (bEq Try.prog 39 (.tmp 67) (.const (.pointer none)) v102 (.pointer none)) fun v103 =>
stepM (gd false v103) s5 fun v104 =>
stepE (gd false v103) (fun k => callP G30 [v104] w101 k) w101 fun v106 w105 =>
stepM (gd false v103) s7 fun v107 =>
Sx.stepG (gd false v103) (lenM v107 w105) fun v108 =>
Sx.stepG (gd false v103) (bNe Try.prog 3 (.tmp 71) (.tmp 73) v106 v108) fun v109 =>
bindP (pPick v103 (.bool true) v109) fun v110 =>
ifB v110 (
K (.bool false) w105) (
Y0 s1 s5 s7 v102 (.slice none 0 0) (.int .i64 0) (.int .i64 0) w105)

def F4_3 (s1 : Value) (s5 : Value) (s7 : Value) (w : World) (K : Value → World → Prop) : Prop := F4_3b s1 s5 s7 w K (fun a1 a5 a7 a11 a12 a13 a14 w => F4_4 a1 a5 a7 a11 a12 a13 a14 w K)

theorem ok4_3 {K : Value → World → Prop} {kn kr : Env → World → Prop} {ke : Nat → Env → World → Prop}
    (hn : ∀ e w, (fun e w => K (e 4) w) e w → kn e w) (hr : ∀ e w, endD Try.prog [.tmp 4] K e w → kr e w) (he : ∀ i e w, noE i e w → ke i e w) :
    ∀ e w, F4_3 (e 1) (e 5) (e 7) w K → denL Try.prog (tabOf T4) 192 fuel ((flat (bodyOf Try.f4)).drop 7) e w kn kr ke := by
  intro e w h
  unfold F4_3 at h
  have e1 : ∀ (Y0 : Value → Value → Value → Value → Value → Value → Value → World → Prop), F4_3b (e 1) (e 5) (e 7) w K Y0 = denL Try.prog (tabOf T4) 192 fuel (((flat (bodyOf Try.f4)).drop 7).take 6) e w (fun e w => Y0 (e 1) (e 5) (e 7) (e 11) (e 12) (e 13) (e 14) w) (endD Try.prog [.tmp 4] K) noE := by intro Y0; kernel_rfl
  exact seg 6 (Eq.mp (e1 (fun a1 a5 a7 a11 a12 a13 a14 w => F4_4 a1 a5 a7 a11 a12 a13 a14 w K)) h) (fun e w h => ok4_4 hn hr he e w h) hr he

def F4_2b (s0 : Value) (s1 : Value) (s5 : Value) (s7 : Value) (s8 : Value) (w : World) (K : Value → World → Prop) (Y0 : Value → Value → Value → Value → Value → World → Prop) (Y1 : Value → Value → Value → World → Prop) : Prop :=
bindP (lenL s0) fun v111 =>
bindP (bLt s8 v111) fun v112 =>
stepM (gd true v112) s8 fun v113 =>
Sx.stepG (gd true v112) (bLt v113 (.int .i64 100)) fun v114 =>
bindP (pPick v112 v114 (.bool false)) fun v115 =>
ifB v115 (
bindP (pIndexL 2 s0 s8) fun v116 =>
bindP (pIndexP 2 1 v116 (.int .i64 0)) fun v117 =>
bindP (ld1 v117 w.drew) fun v118 =>
bindP (pIndexL 2 s0 s8) fun v119 =>
bindP (pIndexP 2 1 v119 (.int .i64 1)) fun v120 =>
bindP (ld1 v120 w.drew) fun v121 =>
callP G23 [v118, (.int .i64 60)] w.drew fun v123 w122 =>
fok true (ld1 v120 w122) v121 ∧ (callP G23 [v121, (.int .i64 1000)] w122 fun v125 w124 =>
callP G28 [s5, v123, v125] w124 fun v127 w126 =>
bindP (bNe Try.prog 24 (.tmp 60) (.const (.int .i64 0)) v127 (.int .i64 0)) fun v128 =>
ifB v128 (
K (.bool false) w126) (
eMapSet Try.prog 42 s7 v123 v125 w126 fun _ w129 =>
bindP (bAdd s8 (.int .i64 1)) fun v131 =>
Y0 s0 s1 s5 s7 v131 w129))) (
Y1 s1 s5 s7 w)

def F4_2L : Nat → Value → Value → Value → Value → Value → World → (Value → World → Prop) → Prop
  | 0, _, _, _, _, _, _, _ => False
  | n + 1, s0, s1, s5, s7, s8, w, K => F4_2b s0 s1 s5 s7 s8 w K (fun a0 a1 a5 a7 a8 w => F4_2L n a0 a1 a5 a7 a8 w K) (fun a1 a5 a7 w => F4_3 a1 a5 a7 w K)

def F4_2 (s0 : Value) (s1 : Value) (s5 : Value) (s7 : Value) (s8 : Value) (w : World) (K : Value → World → Prop) : Prop := F4_2L fuel s0 s1 s5 s7 s8 w K

theorem ok4_2 {K : Value → World → Prop} {kn kr : Env → World → Prop} {ke : Nat → Env → World → Prop}
    (hn : ∀ e w, (fun e w => K (e 4) w) e w → kn e w) (hr : ∀ e w, endD Try.prog [.tmp 4] K e w → kr e w) (he : ∀ i e w, noE i e w → ke i e w) :
    ∀ e w, F4_2 (e 0) (e 1) (e 5) (e 7) (e 8) w K → denL Try.prog (tabOf T4) 192 fuel ((flat (bodyOf Try.f4)).drop 6) e w kn kr ke := by
  intro e w h
  unfold F4_2 at h
  refine seg_loop (id := 0) (body := (loopB (blkB (nthC (flat (bodyOf Try.f4)) 6)))) (l2 := (flat (bodyOf Try.f4)).drop 7) (by kernel_rfl) ?_
  refine loop_ok (FL := fun m e w => F4_2L m (e 0) (e 1) (e 5) (e 7) (e 8) w K) (fr := endD Try.prog [.tmp 4] K) (fe := (blkK 0 (fun e w => F4_3 (e 1) (e 5) (e 7) w K) noE)) (fun _ _ h => h) ?_ hr (blkK_mono (fun e w h => ok4_3 hn hr he e w h) he) fuel e w h
  intro m e w h
  have h : F4_2L (m + 1) (e 0) (e 1) (e 5) (e 7) (e 8) w K := h
  rw [F4_2L] at h
  have e1 : ∀ (Y0 : Value → Value → Value → Value → Value → World → Prop) (Y1 : Value → Value → Value → World → Prop), F4_2b (e 0) (e 1) (e 5) (e 7) (e 8) w K Y0 Y1 = denL Try.prog (tabOf T4) 192 fuel (flat (loopB (blkB (nthC (flat (bodyOf Try.f4)) 6)))) e w (fun e w => Y0 (e 0) (e 1) (e 5) (e 7) (e 8) w) (endD Try.prog [.tmp 4] K) (blkK 0 (fun e w => Y1 (e 1) (e 5) (e 7) w) noE) := by intro Y0 Y1; kernel_rfl
  exact Eq.mp (e1 (fun a0 a1 a5 a7 a8 w => F4_2L m a0 a1 a5 a7 a8 w K) (fun a1 a5 a7 w => F4_3 a1 a5 a7 w K)) h

def F4_1b (s0 : Value) (s1 : Value) (w : World) (K : Value → World → Prop) (Y0 : Value → Value → Value → Value → Value → World → Prop) : Prop :=
callP G26 [(.int .i64 1000)] w fun v133 w132 =>
bindP (pTuple v133 0) fun v134 =>
bindP (pTuple v133 1) fun v135 =>
bindP (bEq Try.prog 39 (.tmp 24) (.const (.pointer none)) v134 (.pointer none)) fun v136 =>
stepM (gd false v136) v135 fun v137 =>
Sx.stepG (gd false v136) (bNe Try.prog 24 (.tmp 27) (.const (.int .i64 0)) v137 (.int .i64 0)) fun v138 =>
bindP (pPick v136 (.bool true) v138) fun v139 =>
stepE (gd false v139) (fun k => callP G27 [] w132 k) w132 fun v141 w140 =>
Sx.stepG (gd false v139) (uNot v141) fun v142 =>
bindP (pPick v139 (.bool true) v142) fun v143 =>
ifB v143 (
K (.bool false) w140) (
eMakeMap none w140 fun v145 w144 =>
Y0 s0 s1 v134 v145 (.int .i64 0) w144)

def F4_1 (s0 : Value) (s1 : Value) (w : World) (K : Value → World → Prop) : Prop := F4_1b s0 s1 w K (fun a0 a1 a5 a7 a8 w => F4_2 a0 a1 a5 a7 a8 w K)

theorem ok4_1 {K : Value → World → Prop} {kn kr : Env → World → Prop} {ke : Nat → Env → World → Prop}
    (hn : ∀ e w, (fun e w => K (e 4) w) e w → kn e w) (hr : ∀ e w, endD Try.prog [.tmp 4] K e w → kr e w) (he : ∀ i e w, noE i e w → ke i e w) :
    ∀ e w, F4_1 (e 0) (e 1) w K → denL Try.prog (tabOf T4) 192 fuel ((flat (bodyOf Try.f4)).drop 0) e w kn kr ke := by
  intro e w h
  unfold F4_1 at h
  have e1 : ∀ (Y0 : Value → Value → Value → Value → Value → World → Prop), F4_1b (e 0) (e 1) w K Y0 = denL Try.prog (tabOf T4) 192 fuel (((flat (bodyOf Try.f4)).drop 0).take 6) e w (fun e w => Y0 (e 0) (e 1) (e 5) (e 7) (e 8) w) (endD Try.prog [.tmp 4] K) noE := by intro Y0; kernel_rfl
  exact seg 6 (Eq.mp (e1 (fun a0 a1 a5 a7 a8 w => F4_2 a0 a1 a5 a7 a8 w K)) h) (fun e w h => ok4_2 hn hr he e w h) hr he

def F4 (x0 : Value) (x1 : Value) (w : World) (K : Value → World → Prop) : Prop := F4_1 x0 x1 w K

def G4 : FnT := fun args w K => on2 (fun x0 x1 => F4 x0 x1 w K) args
theorem c4 {x0 x1 : Value} {w : World} {K : Value → World → Prop} (h : F4 x0 x1 w K) : callP G4 [x0, x1] w K := callP_intro h
theorem ok4 : OkF Try.prog 4 G4 := by
  refine okF_of (tab_ok (l := T4) ⟨ok23, ok26, ok27, ok28, ok29, ok30, ok31, trivial⟩) mixed (n := fuel) Try.func4 Try.call4 fun args w K h => ?_
  obtain ⟨x0, x1, rfl, hh⟩ := of_on2 h
  unfold F4 at hh
  exact fnD_list (c := bodyOf Try.f4) (by kernel_rfl) (by kernel_rfl) (ok4_1 (fun _ _ h => h) (fun _ _ h => h) (fun _ _ _ h => h) (initE [x0, x1]) w hh)

-- 247 slices.insertionSortCmpFunc[gong/heap.Item]
def T247 : List (Nat × FnT) := [(150, G150)]
def F247_5b (s0 : Value) (s1 : Value) (s2 : Value) (s3 : Value) (s8 : Value) (w : World) (_K : Value → World → Prop) (R2 : Value → Value → Value → Value → Value → World → Prop) : Prop :=
bindP (bAdd s8 (.int .i64 1)) fun v1 =>
R2 s0 s1 s2 s3 v1 w

def F247_5 (s0 : Value) (s1 : Value) (s2 : Value) (s3 : Value) (s8 : Value) (w : World) (K : Value → World → Prop) (R2 : Value → Value → Value → Value → Value → World → Prop) : Prop := F247_5b s0 s1 s2 s3 s8 w K R2

theorem ok247_5 (R2 : Value → Value → Value → Value → Value → World → Prop) {K : Value → World → Prop} {kn kr : Env → World → Prop} {ke : Nat → Env → World → Prop}
    (hn : ∀ e w, (fun e w => R2 (e 0) (e 1) (e 2) (e 3) (e 8) w) e w → kn e w) (hr : ∀ e w, endD Try.prog [] K e w → kr e w) (he : ∀ i e w, (blkK 0 (fun e w => K (.tuple #[]) w) noE) i e w → ke i e w) :
    ∀ e w, F247_5 (e 0) (e 1) (e 2) (e 3) (e 8) w K R2 → denL Try.prog (tabOf T247) 53 fuel ((flat (loopB (blkB (nthC (flat (bodyOf Try.f247)) 1)))).drop 3) e w kn kr ke := by
  intro e w h
  unfold F247_5 at h
  have e1 : ∀ (_ : Unit), F247_5b (e 0) (e 1) (e 2) (e 3) (e 8) w K R2 = denL Try.prog (tabOf T247) 53 fuel ((flat (loopB (blkB (nthC (flat (bodyOf Try.f247)) 1)))).drop 3) e w (fun e w => R2 (e 0) (e 1) (e 2) (e 3) (e 8) w) (endD Try.prog [] K) (blkK 0 (fun e w => K (.tuple #[]) w) noE) := by intro _; kernel_rfl
  exact seg_end (Eq.mp (e1 ()) h) hn hr he

def F247_7b (s0 : Value) (s1 : Value) (s2 : Value) (s3 : Value) (s8 : Value) (s9 : Value) (w : World) (_K : Value → World → Prop) (R2 : Value → Value → Value → Value → Value → World → Prop) (Y0 : Value → Value → Value → Value → Value → Value → World → Prop) (Y1 : Value → Value → Value → Value → Value → World → Prop) : Prop :=
bindP (bGt s9 s1) fun v2 =>
stepM (gd true v2) s3 fun v3 =>
stepM (gd true v2) s0 fun v4 =>
stepM (gd true v2) s9 fun v5 =>
Sx.stepG (gd true v2) (pIndexL 2 v4 v5) fun v6 =>
Sx.stepG (gd true v2) (ldN 2 v6 w.drew) fun v7 =>
stepM (gd true v2) s0 fun v8 =>
stepM (gd true v2) s9 fun v9 =>
Sx.stepG (gd true v2) (bSub v9 (.int .i64 1)) fun v10 =>
Sx.stepG (gd true v2) (pIndexL 2 v8 v10) fun v11 =>
Sx.stepG (gd true v2) (ldN 2 v11 w.drew) fun v12 =>
stepE (gd true v2) (fun k => eCallV (tabOf T247) v3 [v7, v12] w.drew k) w.drew fun v14 w13 =>
Sx.stepG (gd true v2) (bLt v14 (.int .i64 0)) fun v15 =>
bindP (pPick v2 v15 (.bool false)) fun v16 =>
ifB v16 (
bindP (bSub s9 (.int .i64 1)) fun v17 =>
bindP (bSub s9 (.int .i64 1)) fun v18 =>
bindP (pIndexL 2 s0 v18) fun v19 =>
bindP (ldN 2 v19 w13.drew) fun v20 =>
bindP (pIndexL 2 s0 s9) fun v21 =>
bindP (ldN 2 v21 w13.drew) fun v22 =>
bindP (pIndexL 2 s0 s9) fun v23 =>
bindW (st 2 v23 v20 w13.drew) fun w24 =>
bindP (pIndexL 2 s0 v17) fun v26 =>
bindW (st 2 v26 v22 w24) fun w27 =>
bindP (bSub s9 (.int .i64 1)) fun v29 =>
Y0 s0 s1 s2 s3 s8 v29 w27) (
Y1 s0 s1 s2 s3 s8 w13)

def F247_7L : Nat → Value → Value → Value → Value → Value → Value → World → (Value → World → Prop) → (Value → Value → Value → Value → Value → World → Prop) → Prop
  | 0, _, _, _, _, _, _, _, _, _ => False
  | n + 1, s0, s1, s2, s3, s8, s9, w, K, R2 => F247_7b s0 s1 s2 s3 s8 s9 w K R2 (fun a0 a1 a2 a3 a8 a9 w => F247_7L n a0 a1 a2 a3 a8 a9 w K R2) (fun a0 a1 a2 a3 a8 w => F247_5 a0 a1 a2 a3 a8 w K R2)

def F247_7 (s0 : Value) (s1 : Value) (s2 : Value) (s3 : Value) (s8 : Value) (s9 : Value) (w : World) (K : Value → World → Prop) (R2 : Value → Value → Value → Value → Value → World → Prop) : Prop := F247_7L fuel s0 s1 s2 s3 s8 s9 w K R2

theorem ok247_7 (R2 : Value → Value → Value → Value → Value → World → Prop) {K : Value → World → Prop} {kn kr : Env → World → Prop} {ke : Nat → Env → World → Prop}
    (hn : ∀ e w, (fun e w => F247_5 (e 0) (e 1) (e 2) (e 3) (e 8) w K R2) e w → kn e w) (hr : ∀ e w, endD Try.prog [] K e w → kr e w) (he : ∀ i e w, (blkK 1 (fun e w => F247_5 (e 0) (e 1) (e 2) (e 3) (e 8) w K R2) (blkK 0 (fun e w => K (.tuple #[]) w) noE)) i e w → ke i e w) :
    ∀ e w, F247_7 (e 0) (e 1) (e 2) (e 3) (e 8) (e 9) w K R2 → denL Try.prog (tabOf T247) 53 fuel ((flat (blkB (nthC (flat (loopB (blkB (nthC (flat (bodyOf Try.f247)) 1)))) 2))).drop 1) e w kn kr ke := by
  intro e w h
  unfold F247_7 at h
  refine seg_loop (id := 2) (body := (loopB (blkB (nthC (flat (blkB (nthC (flat (loopB (blkB (nthC (flat (bodyOf Try.f247)) 1)))) 2))) 1)))) (l2 := (flat (blkB (nthC (flat (loopB (blkB (nthC (flat (bodyOf Try.f247)) 1)))) 2))).drop 2) (by kernel_rfl) ?_
  refine loop_ok (FL := fun m e w => F247_7L m (e 0) (e 1) (e 2) (e 3) (e 8) (e 9) w K R2) (fr := endD Try.prog [] K) (fe := (blkK 2 (fun e w => F247_5 (e 0) (e 1) (e 2) (e 3) (e 8) w K R2) (blkK 1 (fun e w => F247_5 (e 0) (e 1) (e 2) (e 3) (e 8) w K R2) (blkK 0 (fun e w => K (.tuple #[]) w) noE)))) (fun _ _ h => h) ?_ hr (blkK_mono hn he) fuel e w h
  intro m e w h
  have h : F247_7L (m + 1) (e 0) (e 1) (e 2) (e 3) (e 8) (e 9) w K R2 := h
  rw [F247_7L] at h
  have e1 : ∀ (Y0 : Value → Value → Value → Value → Value → Value → World → Prop) (Y1 : Value → Value → Value → Value → Value → World → Prop), F247_7b (e 0) (e 1) (e 2) (e 3) (e 8) (e 9) w K R2 Y0 Y1 = denL Try.prog (tabOf T247) 53 fuel (flat (loopB (blkB (nthC (flat (blkB (nthC (flat (loopB (blkB (nthC (flat (bodyOf Try.f247)) 1)))) 2))) 1)))) e w (fun e w => Y0 (e 0) (e 1) (e 2) (e 3) (e 8) (e 9) w) (endD Try.prog [] K) (blkK 2 (fun e w => Y1 (e 0) (e 1) (e 2) (e 3) (e 8) w) (blkK 1 (fun e w => Y1 (e 0) (e 1) (e 2) (e 3) (e 8) w) (blkK 0 (fun e w => K (.tuple #[]) w) noE))) := by intro Y0 Y1; kernel_rfl
  exact Eq.mp (e1 (fun a0 a1 a2 a3 a8 a9 w => F247_7L m a0 a1 a2 a3 a8 a9 w K R2) (fun a0 a1 a2 a3 a8 w => F247_5 a0 a1 a2 a3 a8 w K R2)) h

def F247_6b (s0 : Value) (s1 : Value) (s2 : Value) (s3 : Value) (s8 : Value) (w : World) (_K : Value → World → Prop) (R2 : Value → Value → Value → Value → Value → World → Prop) (Y0 : Value → Value → Value → Value → Value → Value → World → Prop) : Prop :=
Y0 s0 s1 s2 s3 s8 s8 w

def F247_6 (s0 : Value) (s1 : Value) (s2 : Value) (s3 : Value) (s8 : Value) (w : World) (K : Value → World → Prop) (R2 : Value → Value → Value → Value → Value → World → Prop) : Prop := F247_6b s0 s1 s2 s3 s8 w K R2 (fun a0 a1 a2 a3 a8 a9 w => F247_7 a0 a1 a2 a3 a8 a9 w K R2)

theorem ok247_6 (R2 : Value → Value → Value → Value → Value → World → Prop) {K : Value → World → Prop} {kn kr : Env → World → Prop} {ke : Nat → Env → World → Prop}
    (hn : ∀ e w, (fun e w => F247_5 (e 0) (e 1) (e 2) (e 3) (e 8) w K R2) e w → kn e w) (hr : ∀ e w, endD Try.prog [] K e w → kr e w) (he : ∀ i e w, (blkK 1 (fun e w => F247_5 (e 0) (e 1) (e 2) (e 3) (e 8) w K R2) (blkK 0 (fun e w => K (.tuple #[]) w) noE)) i e w → ke i e w) :
    ∀ e w, F247_6 (e 0) (e 1) (e 2) (e 3) (e 8) w K R2 → denL Try.prog (tabOf T247) 53 fuel ((flat (blkB (nthC (flat (loopB (blkB (nthC (flat (bodyOf Try.f247)) 1)))) 2))).drop 0) e w kn kr ke := by
  intro e w h
  unfold F247_6 at h
  have e1 : ∀ (Y0 : Value → Value → Value → Value → Value → Value → World → Prop), F247_6b (e 0) (e 1) (e 2) (e 3) (e 8) w K R2 Y0 = denL Try.prog (tabOf T247) 53 fuel (((flat (blkB (nthC (flat (loopB (blkB (nthC (flat (bodyOf Try.f247)) 1)))) 2))).drop 0).take 1) e w (fun e w => Y0 (e 0) (e 1) (e 2) (e 3) (e 8) (e 9) w) (endD Try.prog [] K) (blkK 1 (fun e w => F247_5 (e 0) (e 1) (e 2) (e 3) (e 8) w K R2) (blkK 0 (fun e w => K (.tuple #[]) w) noE)) := by intro Y0; kernel_rfl
  exact seg 1 (Eq.mp (e1 (fun a0 a1 a2 a3 a8 a9 w => F247_7 a0 a1 a2 a3 a8 a9 w K R2)) h) (fun e w h => ok247_7 R2 hn hr he e w h) hr he

def F247_4 (s0 : Value) (s1 : Value) (s2 : Value) (s3 : Value) (s8 : Value) (w : World) (K : Value → World → Prop) (R2 : Value → Value → Value → Value → Value → World → Prop) : Prop := F247_6 s0 s1 s2 s3 s8 w K R2

theorem ok247_4 (R2 : Value → Value → Value → Value → Value → World → Prop) {K : Value → World → Prop} {kn kr : Env → World → Prop} {ke : Nat → Env → World → Prop}
    (hn : ∀ e w, (fun e w => R2 (e 0) (e 1) (e 2) (e 3) (e 8) w) e w → kn e w) (hr : ∀ e w, endD Try.prog [] K e w → kr e w) (he : ∀ i e w, (blkK 0 (fun e w => K (.tuple #[]) w) noE) i e w → ke i e w) :
    ∀ e w, F247_4 (e 0) (e 1) (e 2) (e 3) (e 8) w K R2 → denL Try.prog (tabOf T247) 53 fuel ((flat (loopB (blkB (nthC (flat (bodyOf Try.f247)) 1)))).drop 2) e w kn kr ke := by
  intro e w h
  unfold F247_4 at h
  refine seg_block (id := 1) (body := (blkB (nthC (flat (loopB (blkB (nthC (flat (bodyOf Try.f247)) 1)))) 2))) (l2 := (flat (loopB (blkB (nthC (flat (bodyOf Try.f247)) 1)))).drop 3) (by kernel_rfl) ?_
  exact ok247_6 R2 (fun e w h => ok247_5 R2 hn hr he e w h) hr (blkK_mono (fun e w h => ok247_5 R2 hn hr he e w h) he) e w h

def F247_3b (s0 : Value) (s1 : Value) (s2 : Value) (s3 : Value) (s8 : Value) (w : World) (K : Value → World → Prop) (R2 : Value → Value → Value → Value → Value → World → Prop) (Y0 : Value → Value → Value → Value → Value → World → Prop) : Prop :=
bindP (bLt s8 s2) fun v30 =>
ifB v30 (
Y0 s0 s1 s2 s3 s8 w) (
K (.tuple #[]) w)

def F247_3 (s0 : Value) (s1 : Value) (s2 : Value) (s3 : Value) (s8 : Value) (w : World) (K : Value → World → Prop) (R2 : Value → Value → Value → Value → Value → World → Prop) : Prop := F247_3b s0 s1 s2 s3 s8 w K R2 (fun a0 a1 a2 a3 a8 w => F247_4 a0 a1 a2 a3 a8 w K R2)

theorem ok247_3 (R2 : Value → Value → Value → Value → Value → World → Prop) {K : Value → World → Prop} {kn kr : Env → World → Prop} {ke : Nat → Env → World → Prop}
    (hn : ∀ e w, (fun e w => R2 (e 0) (e 1) (e 2) (e 3) (e 8) w) e w → kn e w) (hr : ∀ e w, endD Try.prog [] K e w → kr e w) (he : ∀ i e w, (blkK 0 (fun e w => K (.tuple #[]) w) noE) i e w → ke i e w) :
    ∀ e w, F247_3 (e 0) (e 1) (e 2) (e 3) (e 8) w K R2 → denL Try.prog (tabOf T247) 53 fuel ((flat (loopB (blkB (nthC (flat (bodyOf Try.f247)) 1)))).drop 0) e w kn kr ke := by
  intro e w h
  unfold F247_3 at h
  have e1 : ∀ (Y0 : Value → Value → Value → Value → Value → World → Prop), F247_3b (e 0) (e 1) (e 2) (e 3) (e 8) w K R2 Y0 = denL Try.prog (tabOf T247) 53 fuel (((flat (loopB (blkB (nthC (flat (bodyOf Try.f247)) 1)))).drop 0).take 2) e w (fun e w => Y0 (e 0) (e 1) (e 2) (e 3) (e 8) w) (endD Try.prog [] K) (blkK 0 (fun e w => K (.tuple #[]) w) noE) := by intro Y0; kernel_rfl
  exact seg 2 (Eq.mp (e1 (fun a0 a1 a2 a3 a8 w => F247_4 a0 a1 a2 a3 a8 w K R2)) h) (fun e w h => ok247_4 R2 hn hr he e w h) hr he

def F247_2L : Nat → Value → Value → Value → Value → Value → World → (Value → World → Prop) → Prop
  | 0, _, _, _, _, _, _, _ => False
  | n + 1, s0, s1, s2, s3, s8, w, K => F247_3 s0 s1 s2 s3 s8 w K (fun a0 a1 a2 a3 a8 w => F247_2L n a0 a1 a2 a3 a8 w K)

def F247_2 (s0 : Value) (s1 : Value) (s2 : Value) (s3 : Value) (s8 : Value) (w : World) (K : Value → World → Prop) : Prop := F247_2L fuel s0 s1 s2 s3 s8 w K

theorem ok247_2 {K : Value → World → Prop} {kn kr : Env → World → Prop} {ke : Nat → Env → World → Prop}
    (hn : ∀ e w, (fun e w => K (.tuple #[]) w) e w → kn e w) (hr : ∀ e w, endD Try.prog [] K e w → kr e w) (he : ∀ i e w, noE i e w → ke i e w) :
    ∀ e w, F247_2 (e 0) (e 1) (e 2) (e 3) (e 8) w K → denL Try.prog (tabOf T247) 53 fuel ((flat (bodyOf Try.f247)).drop 1) e w kn kr ke := by
  intro e w h
  unfold F247_2 at h
  refine seg_loop (id := 0) (body := (loopB (blkB (nthC (flat (bodyOf Try.f247)) 1)))) (l2 := (flat (bodyOf Try.f247)).drop 2) (by kernel_rfl) ?_
  refine loop_ok (FL := fun m e w => F247_2L m (e 0) (e 1) (e 2) (e 3) (e 8) w K) (fr := endD Try.prog [] K) (fe := (blkK 0 (fun e w => K (.tuple #[]) w) noE)) (fun _ _ h => h) ?_ hr (blkK_mono hn he) fuel e w h
  intro m e w h
  have h : F247_2L (m + 1) (e 0) (e 1) (e 2) (e 3) (e 8) w K := h
  rw [F247_2L] at h
  exact ok247_3 (fun a0 a1 a2 a3 a8 w => F247_2L m a0 a1 a2 a3 a8 w K) (fun _ _ h => h) (fun _ _ h => h) (fun _ _ _ h => h) e w h

def F247_1b (s0 : Value) (s1 : Value) (s2 : Value) (s3 : Value) (w : World) (_K : Value → World → Prop) (Y0 : Value → Value → Value → Value → Value → World → Prop) : Prop :=
bindP (bAdd s1 (.int .i64 1)) fun v31 =>
Y0 s0 s1 s2 s3 v31 w

def F247_1 (s0 : Value) (s1 : Value) (s2 : Value) (s3 : Value) (w : World) (K : Value → World → Prop) : Prop := F247_1b s0 s1 s2 s3 w K (fun a0 a1 a2 a3 a8 w => F247_2 a0 a1 a2 a3 a8 w K)

theorem ok247_1 {K : Value → World → Prop} {kn kr : Env → World → Prop} {ke : Nat → Env → World → Prop}
    (hn : ∀ e w, (fun e w => K (.tuple #[]) w) e w → kn e w) (hr : ∀ e w, endD Try.prog [] K e w → kr e w) (he : ∀ i e w, noE i e w → ke i e w) :
    ∀ e w, F247_1 (e 0) (e 1) (e 2) (e 3) w K → denL Try.prog (tabOf T247) 53 fuel ((flat (bodyOf Try.f247)).drop 0) e w kn kr ke := by
  intro e w h
  unfold F247_1 at h
  have e1 : ∀ (Y0 : Value → Value → Value → Value → Value → World → Prop), F247_1b (e 0) (e 1) (e 2) (e 3) w K Y0 = denL Try.prog (tabOf T247) 53 fuel (((flat (bodyOf Try.f247)).drop 0).take 1) e w (fun e w => Y0 (e 0) (e 1) (e 2) (e 3) (e 8) w) (endD Try.prog [] K) noE := by intro Y0; kernel_rfl
  exact seg 1 (Eq.mp (e1 (fun a0 a1 a2 a3 a8 w => F247_2 a0 a1 a2 a3 a8 w K)) h) (fun e w h => ok247_2 hn hr he e w h) hr he

def F247 (x0 : Value) (x1 : Value) (x2 : Value) (x3 : Value) (w : World) (K : Value → World → Prop) : Prop := F247_1 x0 x1 x2 x3 w K

def G247 : FnT := fun args w K => on4 (fun x0 x1 x2 x3 => F247 x0 x1 x2 x3 w K) args
theorem c247 {x0 x1 x2 x3 : Value} {w : World} {K : Value → World → Prop} (h : F247 x0 x1 x2 x3 w K) : callP G247 [x0, x1, x2, x3] w K := callP_intro h
theorem ok247 : OkF Try.prog 247 G247 := by
  refine okF_of (tab_ok (l := T247) ⟨ok150, trivial⟩) mixed (n := fuel) Try.func247 Try.call247 fun args w K h => ?_
  obtain ⟨x0, x1, x2, x3, rfl, hh⟩ := of_on4 h
  unfold F247 at hh
  exact fnD_list (c := bodyOf Try.f247) (by kernel_rfl) (by kernel_rfl) (ok247_1 (fun _ _ h => h) (fun _ _ h => h) (fun _ _ _ h => h) (initE [x0, x1, x2, x3]) w hh)

-- 281 slices.siftDownCmpFunc[gong/heap.Item]
def T281 : List (Nat × FnT) := [(150, G150)]
def F281_5b (s0 : Value) (s2 : Value) (s3 : Value) (s4 : Value) (s10 : Value) (s11 : Value) (w : World) (K : Value → World → Prop) (R2 : Value → Value → Value → Value → Value → World → Prop) : Prop :=
bindP (bAdd s3 s10) fun v1 =>
bindP (pIndexL 2 s0 v1) fun v2 =>
bindP (ldN 2 v2 w.drew) fun v3 =>
bindP (bAdd s3 s11) fun v4 =>
bindP (pIndexL 2 s0 v4) fun v5 =>
bindP (ldN 2 v5 w.drew) fun v6 =>
eCallV (tabOf T281) s4 [v3, v6] w.drew fun v8 w7 =>
bindP (bLt v8 (.int .i64 0)) fun v9 =>
bindP (uNot v9) fun v10 =>
ifB v10 (
K (.tuple #[]) w7) (
bindP (bAdd s3 s10) fun v11 =>
bindP (bAdd s3 s11) fun v12 =>
bindP (bAdd s3 s11) fun v13 =>
bindP (pIndexL 2 s0 v13) fun v14 =>
bindP (ldN 2 v14 w7.drew) fun v15 =>
bindP (bAdd s3 s10) fun v16 =>
bindP (pIndexL 2 s0 v16) fun v17 =>
bindP (ldN 2 v17 w7.drew) fun v18 =>
bindP (pIndexL 2 s0 v11) fun v19 =>
bindW (st 2 v19 v15 w7.drew) fun w20 =>
bindP (pIndexL 2 s0 v12) fun v22 =>
bindW (st 2 v22 v18 w20) fun w23 =>
R2 s0 s2 s3 s4 s11 w23)

def F281_5 (s0 : Value) (s2 : Value) (s3 : Value) (s4 : Value) (s10 : Value) (s11 : Value) (w : World) (K : Value → World → Prop) (R2 : Value → Value → Value → Value → Value → World → Prop) : Prop := F281_5b s0 s2 s3 s4 s10 s11 w K R2

theorem ok281_5 (R2 : Value → Value → Value → Value → Value → World → Prop) {K : Value → World → Prop} {kn kr : Env → World → Prop} {ke : Nat → Env → World → Prop}
    (hn : ∀ e w, (fun e w => R2 (e 0) (e 2) (e 3) (e 4) (e 10) w) e w → kn e w) (hr : ∀ e w, endD Try.prog [] K e w → kr e w) (he : ∀ i e w, (blkK 1 (fun e w => R2 (e 0) (e 2) (e 3) (e 4) (e 10) w) (blkK 0 (fun e w => K (.tuple #[]) w) noE)) i e w → ke i e w) :
    ∀ e w, F281_5 (e 0) (e 2) (e 3) (e 4) (e 10) (e 11) w K R2 → denL Try.prog (tabOf T281) 82 fuel ((flat (blkB (nthC (flat (loopB (blkB (nthC (flat (bodyOf Try.f281)) 1)))) 0))).drop 5) e w kn kr ke := by
  intro e w h
  unfold F281_5 at h
  have e1 : ∀ (_ : Unit), F281_5b (e 0) (e 2) (e 3) (e 4) (e 10) (e 11) w K R2 = denL Try.prog (tabOf T281) 82 fuel ((flat (blkB (nthC (flat (loopB (blkB (nthC (flat (bodyOf Try.f281)) 1)))) 0))).drop 5) e w (fun e w => R2 (e 0) (e 2) (e 3) (e 4) (e 10) w) (endD Try.prog [] K) (blkK 1 (fun e w => R2 (e 0) (e 2) (e 3) (e 4) (e 10) w) (blkK 0 (fun e w => K (.tuple #[]) w) noE)) := by intro _; kernel_rfl
  exact seg_end (Eq.mp (e1 ()) h) hn hr he

def F281_4b (s0 : Value) (s2 : Value) (s3 : Value) (s4 : Value) (s10 : Value) (w : World) (K : Value → World → Prop) (R2 : Value → Value → Value → Value → Value → World → Prop) (Y0 : Value → Value → Value → Value → Value → Value → World → Prop) : Prop :=
bindP (bMul (.int .i64 2) s10) fun v25 =>
bindP (bAdd v25 (.int .i64 1)) fun v26 =>
bindP (bGe v26 s2) fun v27 =>
ifB v27 (
K (.tuple #[]) w) (
bindP (bAdd v26 (.int .i64 1)) fun v28 =>
bindP (bLt v28 s2) fun v29 =>
stepM (gd true v29) s4 fun v30 =>
stepM (gd true v29) s0 fun v31 =>
stepM (gd true v29) s3 fun v32 =>
stepM (gd true v29) v26 fun v33 =>
Sx.stepG (gd true v29) (bAdd v32 v33) fun v34 =>
Sx.stepG (gd true v29) (pIndexL 2 v31 v34) fun v35 =>
Sx.stepG (gd true v29) (ldN 2 v35 w.drew) fun v36 =>
stepM (gd true v29) s0 fun v37 =>
stepM (gd true v29) s3 fun v38 =>
stepM (gd true v29) v26 fun v39 =>
Sx.stepG (gd true v29) (bAdd v38 v39) fun v40 =>
Sx.stepG (gd true v29) (bAdd v40 (.int .i64 1)) fun v41 =>
Sx.stepG (gd true v29) (pIndexL 2 v37 v41) fun v42 =>
Sx.stepG (gd true v29) (ldN 2 v42 w.drew) fun v43 =>
stepE (gd true v29) (fun k => eCallV (tabOf T281) v30 [v36, v43] w.drew k) w.drew fun v45 w44 =>
Sx.stepG (gd true v29) (bLt v45 (.int .i64 0)) fun v46 =>
bindP (pPick v29 v46 (.bool false)) fun v47 =>
ifB v47 (
bindP (bAdd v26 (.int .i64 1)) fun v48 =>
Y0 s0 s2 s3 s4 s10 v48 w44) (
Y0 s0 s2 s3 s4 s10 v26 w44))

def F281_4 (s0 : Value) (s2 : Value) (s3 : Value) (s4 : Value) (s10 : Value) (w : World) (K : Value → World → Prop) (R2 : Value → Value → Value → Value → Value → World → Prop) : Prop := F281_4b s0 s2 s3 s4 s10 w K R2 (fun a0 a2 a3 a4 a10 a11 w => F281_5 a0 a2 a3 a4 a10 a11 w K R2)

theorem ok281_4 (R2 : Value → Value → Value → Value → Value → World → Prop) {K : Value → World → Prop} {kn kr : Env → World → Prop} {ke : Nat → Env → World → Prop}
    (hn : ∀ e w, (fun e w => R2 (e 0) (e 2) (e 3) (e 4) (e 10) w) e w → kn e w) (hr : ∀ e w, endD Try.prog [] K e w → kr e w) (he : ∀ i e w, (blkK 1 (fun e w => R2 (e 0) (e 2) (e 3) (e 4) (e 10) w) (blkK 0 (fun e w => K (.tuple #[]) w) noE)) i e w → ke i e w) :
    ∀ e w, F281_4 (e 0) (e 2) (e 3) (e 4) (e 10) w K R2 → denL Try.prog (tabOf T281) 82 fuel ((flat (blkB (nthC (flat (loopB (blkB (nthC (flat (bodyOf Try.f281)) 1)))) 0))).drop 0) e w kn kr ke := by
  intro e w h
  unfold F281_4 at h
  have e1 : ∀ (Y0 : Value → Value → Value → Value → Value → Value → World → Prop), F281_4b (e 0) (e 2) (e 3) (e 4) (e 10) w K R2 Y0 = denL Try.prog (tabOf T281) 82 fuel (((flat (blkB (nthC (flat (loopB (blkB (nthC (flat (bodyOf Try.f281)) 1)))) 0))).drop 0).take 5) e w (fun e w => Y0 (e 0) (e 2) (e 3) (e 4) (e 10) (e 11) w) (endD Try.prog [] K) (blkK 1 (fun e w => R2 (e 0) (e 2) (e 3) (e 4) (e 10) w) (blkK 0 (fun e w => K (.tuple #[]) w) noE)) := by intro Y0; kernel_rfl
  exact seg 5 (Eq.mp (e1 (fun a0 a2 a3 a4 a10 a11 w => F281_5 a0 a2 a3 a4 a10 a11 w K R2)) h) (fun e w h => ok281_5 R2 hn hr he e w h) hr he

def F281_3 (s0 : Value) (s2 : Value) (s3 : Value) (s4 : Value) (s10 : Value) (w : World) (K : Value → World → Prop) (R2 : Value → Value → Value → Value → Value → World → Prop) : Prop := F281_4 s0 s2 s3 s4 s10 w K R2

theorem ok281_3 (R2 : Value → Value → Value → Value → Value → World → Prop) {K : Value → World → Prop} {kn kr : Env → World → Prop} {ke : Nat → Env → World → Prop}
    (hn : ∀ e w, (fun e w => R2 (e 0) (e 2) (e 3) (e 4) (e 10) w) e w → kn e w) (hr : ∀ e w, endD Try.prog [] K e w → kr e w) (he : ∀ i e w, (blkK 0 (fun e w => K (.tuple #[]) w) noE) i e w → ke i e w) :
    ∀ e w, F281_3 (e 0) (e 2) (e 3) (e 4) (e 10) w K R2 → denL Try.prog (tabOf T281) 82 fuel ((flat (loopB (blkB (nthC (flat (bodyOf Try.f281)) 1)))).drop 0) e w kn kr ke := by
  intro e w h
  unfold F281_3 at h
  refine seg_block (id := 1) (body := (blkB (nthC (flat (loopB (blkB (nthC (flat (bodyOf Try.f281)) 1)))) 0))) (l2 := (flat (loopB (blkB (nthC (flat (bodyOf Try.f281)) 1)))).drop 1) (by kernel_rfl) ?_
  exact ok281_4 R2 hn hr (blkK_mono hn he) e w h

def F281_2L : Nat → Value → Value → Value → Value → Value → World → (Value → World → Prop) → Prop
  | 0, _, _, _, _, _, _, _ => False
  | n + 1, s0, s2, s3, s4, s10, w, K => F281_3 s0 s2 s3 s4 s10 w K (fun a0 a2 a3 a4 a10 w => F281_2L n a0 a2 a3 a4 a10 w K)

def F281_2 (s0 : Value) (s2 : Value) (s3 : Value) (s4 : Value) (s10 : Value) (w : World) (K : Value → World → Prop) : Prop := F281_2L fuel s0 s2 s3 s4 s10 w K

theorem ok281_2 {K : Value → World → Prop} {kn kr : Env → World → Prop} {ke : Nat → Env → World → Prop}
    (hn : ∀ e w, (fun e w => K (.tuple #[]) w) e w → kn e w) (hr : ∀ e w, endD Try.prog [] K e w → kr e w) (he : ∀ i e w, noE i e w → ke i e w) :
    ∀ e w, F281_2 (e 0) (e 2) (e 3) (e 4) (e 10) w K → denL Try.prog (tabOf T281) 82 fuel ((flat (bodyOf Try.f281)).drop 1) e w kn kr ke := by
  intro e w h
  unfold F281_2 at h
  refine seg_loop (id := 0) (body := (loopB (blkB (nthC (flat (bodyOf Try.f281)) 1)))) (l2 := (flat (bodyOf Try.f281)).drop 2) (by kernel_rfl) ?_
  refine loop_ok (FL := fun m e w => F281_2L m (e 0) (e 2) (e 3) (e 4) (e 10) w K) (fr := endD Try.prog [] K) (fe := (blkK 0 (fun e w => K (.tuple #[]) w) noE)) (fun _ _ h => h) ?_ hr (blkK_mono hn he) fuel e w h
  intro m e w h
  have h : F281_2L (m + 1) (e 0) (e 2) (e 3) (e 4) (e 10) w K := h
  rw [F281_2L] at h
  exact ok281_3 (fun a0 a2 a3 a4 a10 w => F281_2L m a0 a2 a3 a4 a10 w K) (fun _ _ h => h) (fun _ _ h => h) (fun _ _ _ h => h) e w h

def F281_1b (s0 : Value) (s1 : Value) (s2 : Value) (s3 : Value) (s4 : Value) (w : World) (_K : Value → World → Prop) (Y0 : Value → Value → Value → Value → Value → World → Prop) : Prop :=
Y0 s0 s2 s3 s4 s1 w

def F281_1 (s0 : Value) (s1 : Value) (s2 : Value) (s3 : Value) (s4 : Value) (w : World) (K : Value → World → Prop) : Prop := F281_1b s0 s1 s2 s3 s4 w K (fun a0 a2 a3 a4 a10 w => F281_2 a0 a2 a3 a4 a10 w K)

theorem ok281_1 {K : Value → World → Prop} {kn kr : Env → World → Prop} {ke : Nat → Env → World → Prop}
    (hn : ∀ e w, (fun e w => K (.tuple #[]) w) e w → kn e w) (hr : ∀ e w, endD Try.prog [] K e w → kr e w) (he : ∀ i e w, noE i e w → ke i e w) :
    ∀ e w, F281_1 (e 0) (e 1) (e 2) (e 3) (e 4) w K → denL Try.prog (tabOf T281) 82 fuel ((flat (bodyOf Try.f281)).drop 0) e w kn kr ke := by
  intro e w h
  unfold F281_1 at h
  have e1 : ∀ (Y0 : Value → Value → Value → Value → Value → World → Prop), F281_1b (e 0) (e 1) (e 2) (e 3) (e 4) w K Y0 = denL Try.prog (tabOf T281) 82 fuel (((flat (bodyOf Try.f281)).drop 0).take 1) e w (fun e w => Y0 (e 0) (e 2) (e 3) (e 4) (e 10) w) (endD Try.prog [] K) noE := by intro Y0; kernel_rfl
  exact seg 1 (Eq.mp (e1 (fun a0 a2 a3 a4 a10 w => F281_2 a0 a2 a3 a4 a10 w K)) h) (fun e w h => ok281_2 hn hr he e w h) hr he

def F281 (x0 : Value) (x1 : Value) (x2 : Value) (x3 : Value) (x4 : Value) (w : World) (K : Value → World → Prop) : Prop := F281_1 x0 x1 x2 x3 x4 w K

def G281 : FnT := fun args w K => on5 (fun x0 x1 x2 x3 x4 => F281 x0 x1 x2 x3 x4 w K) args
theorem c281 {x0 x1 x2 x3 x4 : Value} {w : World} {K : Value → World → Prop} (h : F281 x0 x1 x2 x3 x4 w K) : callP G281 [x0, x1, x2, x3, x4] w K := callP_intro h
theorem ok281 : OkF Try.prog 281 G281 := by
  refine okF_of (tab_ok (l := T281) ⟨ok150, trivial⟩) mixed (n := fuel) Try.func281 Try.call281 fun args w K h => ?_
  obtain ⟨x0, x1, x2, x3, x4, rfl, hh⟩ := of_on5 h
  unfold F281 at hh
  exact fnD_list (c := bodyOf Try.f281) (by kernel_rfl) (by kernel_rfl) (ok281_1 (fun _ _ h => h) (fun _ _ h => h) (fun _ _ _ h => h) (initE [x0, x1, x2, x3, x4]) w hh)

-- 248 slices.heapSortCmpFunc[gong/heap.Item]
def T248 : List (Nat × FnT) := [(281, G281)]
def F248_4b (s0 : Value) (s3 : Value) (s8 : Value) (s9 : Value) (s12 : Value) (w : World) (K : Value → World → Prop) (Y0 : Value → Value → Value → Value → Value → World → Prop) : Prop :=
bindP (bGe s12 (.int .i64 0)) fun v1 =>
ifB v1 (
bindP (bAdd s8 s12) fun v2 =>
bindP (bAdd s8 s12) fun v3 =>
bindP (pIndexL 2 s0 v3) fun v4 =>
bindP (ldN 2 v4 w.drew) fun v5 =>
bindP (pIndexL 2 s0 s8) fun v6 =>
bindP (ldN 2 v6 w.drew) fun v7 =>
bindP (pIndexL 2 s0 s8) fun v8 =>
bindW (st 2 v8 v5 w.drew) fun w9 =>
bindP (pIndexL 2 s0 v2) fun v11 =>
bindW (st 2 v11 v7 w9) fun w12 =>
callP G281 [s0, s9, s12, s8, s3] w12 fun _ w14 =>
bindP (bSub s12 (.int .i64 1)) fun v16 =>
Y0 s0 s3 s8 s9 v16 w14) (
K (.tuple #[]) w)

def F248_4L : Nat → Value → Value → Value → Value → Value → World → (Value → World → Prop) → Prop
  | 0, _, _, _, _, _, _, _ => False
  | n + 1, s0, s3, s8, s9, s12, w, K => F248_4b s0 s3 s8 s9 s12 w K (fun a0 a3 a8 a9 a12 w => F248_4L n a0 a3 a8 a9 a12 w K)

def F248_4 (s0 : Value) (s3 : Value) (s8 : Value) (s9 : Value) (s12 : Value) (w : World) (K : Value → World → Prop) : Prop := F248_4L fuel s0 s3 s8 s9 s12 w K

theorem ok248_4 {K : Value → World → Prop} {kn kr : Env → World → Prop} {ke : Nat → Env → World → Prop}
    (hn : ∀ e w, (fun e w => K (.tuple #[]) w) e w → kn e w) (hr : ∀ e w, endD Try.prog [] K e w → kr e w) (he : ∀ i e w, noE i e w → ke i e w) :
    ∀ e w, F248_4 (e 0) (e 3) (e 8) (e 9) (e 12) w K → denL Try.prog (tabOf T248) 60 fuel ((flat (bodyOf Try.f248)).drop 6) e w kn kr ke := by
  intro e w h
  unfold F248_4 at h
  refine seg_loop (id := 2) (body := (loopB (blkB (nthC (flat (bodyOf Try.f248)) 6)))) (l2 := (flat (bodyOf Try.f248)).drop 7) (by kernel_rfl) ?_
  refine loop_ok (FL := fun m e w => F248_4L m (e 0) (e 3) (e 8) (e 9) (e 12) w K) (fr := endD Try.prog [] K) (fe := (blkK 2 (fun e w => K (.tuple #[]) w) noE)) (fun _ _ h => h) ?_ hr (blkK_mono hn he) fuel e w h
  intro m e w h
  have h : F248_4L (m + 1) (e 0) (e 3) (e 8) (e 9) (e 12) w K := h
  rw [F248_4L] at h
  have e1 : ∀ (Y0 : Value → Value → Value → Value → Value → World → Prop), F248_4b (e 0) (e 3) (e 8) (e 9) (e 12) w K Y0 = denL Try.prog (tabOf T248) 60 fuel (flat (loopB (blkB (nthC (flat (bodyOf Try.f248)) 6)))) e w (fun e w => Y0 (e 0) (e 3) (e 8) (e 9) (e 12) w) (endD Try.prog [] K) (blkK 2 (fun e w => K (.tuple #[]) w) noE) := by intro Y0; kernel_rfl
  exact Eq.mp (e1 (fun a0 a3 a8 a9 a12 w => F248_4L m a0 a3 a8 a9 a12 w K)) h

def F248_3b (s0 : Value) (s3 : Value) (s8 : Value) (s9 : Value) (s10 : Value) (w : World) (_K : Value → World → Prop) (Y0 : Value → Value → Value → Value → Value → World → Prop) : Prop :=
bindP (bSub s10 (.int .i64 1)) fun v17 =>
Y0 s0 s3 s8 s9 v17 w

def F248_3 (s0 : Value) (s3 : Value) (s8 : Value) (s9 : Value) (s10 : Value) (w : World) (K : Value → World → Prop) : Prop := F248_3b s0 s3 s8 s9 s10 w K (fun a0 a3 a8 a9 a12 w => F248_4 a0 a3 a8 a9 a12 w K)

theorem ok248_3 {K : Value → World → Prop} {kn kr : Env → World → Prop} {ke : Nat → Env → World → Prop}
    (hn : ∀ e w, (fun e w => K (.tuple #[]) w) e w → kn e w) (hr : ∀ e w, endD Try.prog [] K e w → kr e w) (he : ∀ i e w, noE i e w → ke i e w) :
    ∀ e w, F248_3 (e 0) (e 3) (e 8) (e 9) (e 10) w K → denL Try.prog (tabOf T248) 60 fuel ((flat (bodyOf Try.f248)).drop 5) e w kn kr ke := by
  intro e w h
  unfold F248_3 at h
  have e1 : ∀ (Y0 : Value → Value → Value → Value → Value → World → Prop), F248_3b (e 0) (e 3) (e 8) (e 9) (e 10) w K Y0 = denL Try.prog (tabOf T248) 60 fuel (((flat (bodyOf Try.f248)).drop 5).take 1) e w (fun e w => Y0 (e 0) (e 3) (e 8) (e 9) (e 12) w) (endD Try.prog [] K) noE := by intro Y0; kernel_rfl
  exact seg 1 (Eq.mp (e1 (fun a0 a3 a8 a9 a12 w => F248_4 a0 a3 a8 a9 a12 w K)) h) (fun e w h => ok248_4 hn hr he e w h) hr he

def F248_2b (s0 : Value) (s3 : Value) (s8 : Value) (s9 : Value) (s10 : Value) (s11 : Value) (w : World) (_K : Value → World → Prop) (Y0 : Value → Value → Value → Value → Value → Value → World → Prop) (Y1 : Value → Value → Value → Value → Value → World → Prop) : Prop :=
bindP (bGe s11 (.int .i64 0)) fun v18 =>
ifB v18 (
callP G281 [s0, s11, s10, s8, s3] w fun _ w19 =>
bindP (bSub s11 (.int .i64 1)) fun v21 =>
Y0 s0 s3 s8 s9 s10 v21 w19) (
Y1 s0 s3 s8 s9 s10 w)

def F248_2L : Nat → Value → Value → Value → Value → Value → Value → World → (Value → World → Prop) → Prop
  | 0, _, _, _, _, _, _, _, _ => False
  | n + 1, s0, s3, s8, s9, s10, s11, w, K => F248_2b s0 s3 s8 s9 s10 s11 w K (fun a0 a3 a8 a9 a10 a11 w => F248_2L n a0 a3 a8 a9 a10 a11 w K) (fun a0 a3 a8 a9 a10 w => F248_3 a0 a3 a8 a9 a10 w K)

def F248_2 (s0 : Value) (s3 : Value) (s8 : Value) (s9 : Value) (s10 : Value) (s11 : Value) (w : World) (K : Value → World → Prop) : Prop := F248_2L fuel s0 s3 s8 s9 s10 s11 w K

theorem ok248_2 {K : Value → World → Prop} {kn kr : Env → World → Prop} {ke : Nat → Env → World → Prop}
    (hn : ∀ e w, (fun e w => K (.tuple #[]) w) e w → kn e w) (hr : ∀ e w, endD Try.prog [] K e w → kr e w) (he : ∀ i e w, noE i e w → ke i e w) :
    ∀ e w, F248_2 (e 0) (e 3) (e 8) (e 9) (e 10) (e 11) w K → denL Try.prog (tabOf T248) 60 fuel ((flat (bodyOf Try.f248)).drop 4) e w kn kr ke := by
  intro e w h
  unfold F248_2 at h
  refine seg_loop (id := 0) (body := (loopB (blkB (nthC (flat (bodyOf Try.f248)) 4)))) (l2 := (flat (bodyOf Try.f248)).drop 5) (by kernel_rfl) ?_
  refine loop_ok (FL := fun m e w => F248_2L m (e 0) (e 3) (e 8) (e 9) (e 10) (e 11) w K) (fr := endD Try.prog [] K) (fe := (blkK 0 (fun e w => F248_3 (e 0) (e 3) (e 8) (e 9) (e 10) w K) noE)) (fun _ _ h => h) ?_ hr (blkK_mono (fun e w h => ok248_3 hn hr he e w h) he) fuel e w h
  intro m e w h
  have h : F248_2L (m + 1) (e 0) (e 3) (e 8) (e 9) (e 10) (e 11) w K := h
  rw [F248_2L] at h
  have e1 : ∀ (Y0 : Value → Value → Value → Value → Value → Value → World → Prop) (Y1 : Value → Value → Value → Value → Value → World → Prop), F248_2b (e 0) (e 3) (e 8) (e 9) (e 10) (e 11) w K Y0 Y1 = denL Try.prog (tabOf T248) 60 fuel (flat (loopB (blkB (nthC (flat (bodyOf Try.f248)) 4)))) e w (fun e w => Y0 (e 0) (e 3) (e 8) (e 9) (e 10) (e 11) w) (endD Try.prog [] K) (blkK 0 (fun e w => Y1 (e 0) (e 3) (e 8) (e 9) (e 10) w) noE) := by intro Y0 Y1; kernel_rfl
  exact Eq.mp (e1 (fun a0 a3 a8 a9 a10 a11 w => F248_2L m a0 a3 a8 a9 a10 a11 w K) (fun a0 a3 a8 a9 a10 w => F248_3 a0 a3 a8 a9 a10 w K)) h

def F248_1b (s0 : Value) (s1 : Value) (s2 : Value) (s3 : Value) (w : World) (_K : Value → World → Prop) (Y0 : Value → Value → Value → Value → Value → Value → World → Prop) : Prop :=
bindP (bSub s2 s1) fun v22 =>
bindP (bSub v22 (.int .i64 1)) fun v23 =>
bindP (bQuo v23 (.int .i64 2)) fun v24 =>
Y0 s0 s3 s1 (.int .i64 0) v22 v24 w

def F248_1 (s0 : Value) (s1 : Value) (s2 : Value) (s3 : Value) (w : World) (K : Value → World → Prop) : Prop := F248_1b s0 s1 s2 s3 w K (fun a0 a3 a8 a9 a10 a11 w => F248_2 a0 a3 a8 a9 a10 a11 w K)

theorem ok248_1 {K : Value → World → Prop} {kn kr : Env → World → Prop} {ke : Nat → Env → World → Prop}
    (hn : ∀ e w, (fun e w => K (.tuple #[]) w) e w → kn e w) (hr : ∀ e w, endD Try.prog [] K e w → kr e w) (he : ∀ i e w, noE i e w → ke i e w) :
    ∀ e w, F248_1 (e 0) (e 1) (e 2) (e 3) w K → denL Try.prog (tabOf T248) 60 fuel ((flat (bodyOf Try.f248)).drop 0) e w kn kr ke := by
  intro e w h
  unfold F248_1 at h
  have e1 : ∀ (Y0 : Value → Value → Value → Value → Value → Value → World → Prop), F248_1b (e 0) (e 1) (e 2) (e 3) w K Y0 = denL Try.prog (tabOf T248) 60 fuel (((flat (bodyOf Try.f248)).drop 0).take 4) e w (fun e w => Y0 (e 0) (e 3) (e 8) (e 9) (e 10) (e 11) w) (endD Try.prog [] K) noE := by intro Y0; kernel_rfl
  exact seg 4 (Eq.mp (e1 (fun a0 a3 a8 a9 a10 a11 w => F248_2 a0 a3 a8 a9 a10 a11 w K)) h) (fun e w h => ok248_2 hn hr he e w h) hr he

def F248 (x0 : Value) (x1 : Value) (x2 : Value) (x3 : Value) (w : World) (K : Value → World → Prop) : Prop := F248_1 x0 x1 x2 x3 w K

def G248 : FnT := fun args w K => on4 (fun x0 x1 x2 x3 => F248 x0 x1 x2 x3 w K) args
theorem c248 {x0 x1 x2 x3 : Value} {w : World} {K : Value → World → Prop} (h : F248 x0 x1 x2 x3 w K) : callP G248 [x0, x1, x2, x3] w K := callP_intro h
theorem ok248 : OkF Try.prog 248 G248 := by
  refine okF_of (tab_ok (l := T248) ⟨ok281, trivial⟩) mixed (n := fuel) Try.func248 Try.call248 fun args w K h => ?_
  obtain ⟨x0, x1, x2, x3, rfl, hh⟩ := of_on4 h
  unfold F248 at hh
  exact fnD_list (c := bodyOf Try.f248) (by kernel_rfl) (by kernel_rfl) (ok248_1 (fun _ _ h => h) (fun _ _ h => h) (fun _ _ _ h => h) (initE [x0, x1, x2, x3]) w hh)

-- 255 math/bits.Len32
def T255 : List (Nat × FnT) := []
def F255_3b (s0 : Value) (s2 : Value) (w : World) (K : Value → World → Prop) : Prop :=
bindP (cInt .u8 s0) fun v1 =>
bindP (pIndexS (.string ⟨#[0, 1, 2, 2, 3, 3, 3, 3, 4, 4, 4, 4, 4, 4, 4, 4, 5, 5, 5, 5, 5, 5, 5, 5, 5, 5, 5, 5, 5, 5, 5, 5, 6, 6, 6, 6, 6, 6, 6, 6, 6, 6, 6, 6, 6, 6, 6, 6, 6, 6, 6, 6, 6, 6, 6, 6, 6, 6, 6, 6, 6, 6, 6, 6, 7, 7, 7, 7, 7, 7, 7, 7, 7, 7, 7, 7, 7, 7, 7, 7, 7, 7, 7, 7, 7, 7, 7, 7, 7, 7, 7, 7, 7, 7, 7, 7, 7, 7, 7, 7, 7, 7, 7, 7, 7, 7, 7, 7, 7, 7, 7, 7, 7, 7, 7, 7, 7, 7, 7, 7, 7, 7, 7, 7, 7, 7, 7, 7, 8, 8, 8, 8, 8, 8, 8, 8, 8, 8, 8, 8, 8, 8, 8, 8, 8, 8, 8, 8, 8, 8, 8, 8, 8, 8, 8, 8, 8, 8, 8, 8, 8, 8, 8, 8, 8, 8, 8, 8, 8, 8, 8, 8, 8, 8, 8, 8, 8, 8, 8, 8, 8, 8, 8, 8, 8, 8, 8, 8, 8, 8, 8, 8, 8, 8, 8, 8, 8, 8, 8, 8, 8, 8, 8, 8, 8, 8, 8, 8, 8, 8, 8, 8, 8, 8, 8, 8, 8, 8, 8, 8, 8, 8, 8, 8, 8, 8, 8, 8, 8, 8, 8, 8, 8, 8, 8, 8, 8, 8, 8, 8, 8, 8, 8, 8, 8, 8, 8, 8, 8, 8, 8, 8, 8, 8, 8, 8]⟩) v1) fun v2 =>
bindP (cInt .i64 v2) fun v3 =>
bindP (bAdd s2 v3) fun v4 =>
K v4 w

def F255_3 (s0 : Value) (s2 : Value) (w : World) (K : Value → World → Prop) : Prop := F255_3b s0 s2 w K

theorem ok255_3 {K : Value → World → Prop} {kn kr : Env → World → Prop} {ke : Nat → Env → World → Prop}
    (hn : ∀ e w, (fun e w => K (e 2) w) e w → kn e w) (hr : ∀ e w, endD Try.prog [.tmp 2] K e w → kr e w) (he : ∀ i e w, noE i e w → ke i e w) :
    ∀ e w, F255_3 (e 0) (e 2) w K → denL Try.prog (tabOf T255) 19 fuel ((flat (bodyOf Try.f255)).drop 5) e w kn kr ke := by
  intro e w h
  unfold F255_3 at h
  have e1 : ∀ (_ : Unit), F255_3b (e 0) (e 2) w K = denL Try.prog (tabOf T255) 19 fuel ((flat (bodyOf Try.f255)).drop 5) e w (fun e w => K (e 2) w) (endD Try.prog [.tmp 2] K) noE := by intro _; kernel_rfl
  exact seg_end (Eq.mp (e1 ()) h) hn hr he

def F255_2b (s0 : Value) (s2 : Value) (w : World) (_K : Value → World → Prop) (Y0 : Value → Value → World → Prop) : Prop :=
bindP (bGe s0 (.int .u32 256)) fun v5 =>
ifB v5 (
bindP (bShr s0 (.int .u64 8)) fun v6 =>
bindP (bAdd s2 (.int .i64 8)) fun v7 =>
Y0 v6 v7 w) (
Y0 s0 s2 w)

def F255_2 (s0 : Value) (s2 : Value) (w : World) (K : Value → World → Prop) : Prop := F255_2b s0 s2 w K (fun a0 a2 w => F255_3 a0 a2 w K)

theorem ok255_2 {K : Value → World → Prop} {kn kr : Env → World → Prop} {ke : Nat → Env → World → Prop}
    (hn : ∀ e w, (fun e w => K (e 2) w) e w → kn e w) (hr : ∀ e w, endD Try.prog [.tmp 2] K e w → kr e w) (he : ∀ i e w, noE i e w → ke i e w) :
    ∀ e w, F255_2 (e 0) (e 2) w K → denL Try.prog (tabOf T255) 19 fuel ((flat (bodyOf Try.f255)).drop 3) e w kn kr ke := by
  intro e w h
  unfold F255_2 at h
  have e1 : ∀ (Y0 : Value → Value → World → Prop), F255_2b (e 0) (e 2) w K Y0 = denL Try.prog (tabOf T255) 19 fuel (((flat (bodyOf Try.f255)).drop 3).take 2) e w (fun e w => Y0 (e 0) (e 2) w) (endD Try.prog [.tmp 2] K) noE := by intro Y0; kernel_rfl
  exact seg 2 (Eq.mp (e1 (fun a0 a2 w => F255_3 a0 a2 w K)) h) (fun e w h => ok255_3 hn hr he e w h) hr he

def F255_1b (s0 : Value) (w : World) (_K : Value → World → Prop) (Y0 : Value → Value → World → Prop) : Prop :=
bindP (bGe s0 (.int .u32 65536)) fun v8 =>
ifB v8 (
bindP (bShr s0 (.int .u64 16)) fun v9 =>
Y0 v9 (.int .i64 16) w) (
Y0 s0 (.int .i64 0) w)

def F255_1 (s0 : Value) (w : World) (K : Value → World → Prop) : Prop := F255_1b s0 w K (fun a0 a2 w => F255_2 a0 a2 w K)

theorem ok255_1 {K : Value → World → Prop} {kn kr : Env → World → Prop} {ke : Nat → Env → World → Prop}
    (hn : ∀ e w, (fun e w => K (e 2) w) e w → kn e w) (hr : ∀ e w, endD Try.prog [.tmp 2] K e w → kr e w) (he : ∀ i e w, noE i e w → ke i e w) :
    ∀ e w, F255_1 (e 0) w K → denL Try.prog (tabOf T255) 19 fuel ((flat (bodyOf Try.f255)).drop 0) e w kn kr ke := by
  intro e w h
  unfold F255_1 at h
  have e1 : ∀ (Y0 : Value → Value → World → Prop), F255_1b (e 0) w K Y0 = denL Try.prog (tabOf T255) 19 fuel (((flat (bodyOf Try.f255)).drop 0).take 3) e w (fun e w => Y0 (e 0) (e 2) w) (endD Try.prog [.tmp 2] K) noE := by intro Y0; kernel_rfl
  exact seg 3 (Eq.mp (e1 (fun a0 a2 w => F255_2 a0 a2 w K)) h) (fun e w h => ok255_2 hn hr he e w h) hr he

def F255 (x0 : Value) (w : World) (K : Value → World → Prop) : Prop := F255_1 x0 w K

def G255 : FnT := fun args w K => on1 (fun x0 => F255 x0 w K) args
theorem c255 {x0 : Value} {w : World} {K : Value → World → Prop} (h : F255 x0 w K) : callP G255 [x0] w K := callP_intro h
theorem ok255 : OkF Try.prog 255 G255 := by
  refine okF_of (tab_ok (l := T255) trivial) mixed (n := fuel) Try.func255 Try.call255 fun args w K h => ?_
  obtain ⟨x0, rfl, hh⟩ := of_on1 h
  unfold F255 at hh
  exact fnD_list (c := bodyOf Try.f255) (by kernel_rfl) (by kernel_rfl) (ok255_1 (fun _ _ h => h) (fun _ _ h => h) (fun _ _ _ h => h) (initE [x0]) w hh)

-- 256 math/bits.Len64
def T256 : List (Nat × FnT) := []
def F256_4b (s0 : Value) (s2 : Value) (w : World) (K : Value → World → Prop) : Prop :=
bindP (cInt .u8 s0) fun v1 =>
bindP (pIndexS (.string ⟨#[0, 1, 2, 2, 3, 3, 3, 3, 4, 4, 4, 4, 4, 4, 4, 4, 5, 5, 5, 5, 5, 5, 5, 5, 5, 5, 5, 5, 5, 5, 5, 5, 6, 6, 6, 6, 6, 6, 6, 6, 6, 6, 6, 6, 6, 6, 6, 6, 6, 6, 6, 6, 6, 6, 6, 6, 6, 6, 6, 6, 6, 6, 6, 6, 7, 7, 7, 7, 7, 7, 7, 7, 7, 7, 7, 7, 7, 7, 7, 7, 7, 7, 7, 7, 7, 7, 7, 7, 7, 7, 7, 7, 7, 7, 7, 7, 7, 7, 7, 7, 7, 7, 7, 7, 7, 7, 7, 7, 7, 7, 7, 7, 7, 7, 7, 7, 7, 7, 7, 7, 7, 7, 7, 7, 7, 7, 7, 7, 8, 8, 8, 8, 8, 8, 8, 8, 8, 8, 8, 8, 8, 8, 8, 8, 8, 8, 8, 8, 8, 8, 8, 8, 8, 8, 8, 8, 8, 8, 8, 8, 8, 8, 8, 8, 8, 8, 8, 8, 8, 8, 8, 8, 8, 8, 8, 8, 8, 8, 8, 8, 8, 8, 8, 8, 8, 8, 8, 8, 8, 8, 8, 8, 8, 8, 8, 8, 8, 8, 8, 8, 8, 8, 8, 8, 8, 8, 8, 8, 8, 8, 8, 8, 8, 8, 8, 8, 8, 8, 8, 8, 8, 8, 8, 8, 8, 8, 8, 8, 8, 8, 8, 8, 8, 8, 8, 8, 8, 8, 8, 8, 8, 8, 8, 8, 8, 8, 8, 8, 8, 8, 8, 8, 8, 8, 8, 8]⟩) v1) fun v2 =>
bindP (cInt .i64 v2) fun v3 =>
bindP (bAdd s2 v3) fun v4 =>
K v4 w

def F256_4 (s0 : Value) (s2 : Value) (w : World) (K : Value → World → Prop) : Prop := F256_4b s0 s2 w K

theorem ok256_4 {K : Value → World → Prop} {kn kr : Env → World → Prop} {ke : Nat → Env → World → Prop}
    (hn : ∀ e w, (fun e w => K (e 2) w) e w → kn e w) (hr : ∀ e w, endD Try.prog [.tmp 2] K e w → kr e w) (he : ∀ i e w, noE i e w → ke i e w) :
    ∀ e w, F256_4 (e 0) (e 2) w K → denL Try.prog (tabOf T256) 25 fuel ((flat (bodyOf Try.f256)).drop 7) e w kn kr ke := by
  intro e w h
  unfold F256_4 at h
  have e1 : ∀ (_ : Unit), F256_4b (e 0) (e 2) w K = denL Try.prog (tabOf T256) 25 fuel ((flat (bodyOf Try.f256)).drop 7) e w (fun e w => K (e 2) w) (endD Try.prog [.tmp 2] K) noE := by intro _; kernel_rfl
  exact seg_end (Eq.mp (e1 ()) h) hn hr he

def F256_3b (s0 : Value) (s2 : Value) (w : World) (_K : Value → World → Prop) (Y0 : Value → Value → World → Prop) : Prop :=
bindP (bGe s0 (.int .u64 256)) fun v5 =>
ifB v5 (
bindP (bShr s0 (.int .u64 8)) fun v6 =>
bindP (bAdd s2 (.int .i64 8)) fun v7 =>
Y0 v6 v7 w) (
Y0 s0 s2 w)

def F256_3 (s0 : Value) (s2 : Value) (w : World) (K : Value → World → Prop) : Prop := F256_3b s0 s2 w K (fun a0 a2 w => F256_4 a0 a2 w K)

theorem ok256_3 {K : Value → World → Prop} {kn kr : Env → World → Prop} {ke : Nat → Env → World → Prop}
    (hn : ∀ e w, (fun e w => K (e 2) w) e w → kn e w) (hr : ∀ e w, endD Try.prog [.tmp 2] K e w → kr e w) (he : ∀ i e w, noE i e w → ke i e w) :
    ∀ e w, F256_3 (e 0) (e 2) w K → denL Try.prog (tabOf T256) 25 fuel ((flat (bodyOf Try.f256)).drop 5) e w kn kr ke := by
  intro e w h
  unfold F256_3 at h
  have e1 : ∀ (Y0 : Value → Value → World → Prop), F256_3b (e 0) (e 2) w K Y0 = denL Try.prog (tabOf T256) 25 fuel (((flat (bodyOf Try.f256)).drop 5).take 2) e w (fun e w => Y0 (e 0) (e 2) w) (endD Try.prog [.tmp 2] K) noE := by intro Y0; kernel_rfl
  exact seg 2 (Eq.mp (e1 (fun a0 a2 w => F256_4 a0 a2 w K)) h) (fun e w h => ok256_4 hn hr he e w h) hr he

def F256_2b (s0 : Value) (s2 : Value) (w : World) (_K : Value → World → Prop) (Y0 : Value → Value → World → Prop) : Prop :=
bindP (bGe s0 (.int .u64 65536)) fun v8 =>
ifB v8 (
bindP (bShr s0 (.int .u64 16)) fun v9 =>
bindP (bAdd s2 (.int .i64 16)) fun v10 =>
Y0 v9 v10 w) (
Y0 s0 s2 w)

def F256_2 (s0 : Value) (s2 : Value) (w : World) (K : Value → World → Prop) : Prop := F256_2b s0 s2 w K (fun a0 a2 w => F256_3 a0 a2 w K)

theorem ok256_2 {K : Value → World → Prop} {kn kr : Env → World → Prop} {ke : Nat → Env → World → Prop}
    (hn : ∀ e w, (fun e w => K (e 2) w) e w → kn e w) (hr : ∀ e w, endD Try.prog [.tmp 2] K e w → kr e w) (he : ∀ i e w, noE i e w → ke i e w) :
    ∀ e w, F256_2 (e 0) (e 2) w K → denL Try.prog (tabOf T256) 25 fuel ((flat (bodyOf Try.f256)).drop 3) e w kn kr ke := by
  intro e w h
  unfold F256_2 at h
  have e1 : ∀ (Y0 : Value → Value → World → Prop), F256_2b (e 0) (e 2) w K Y0 = denL Try.prog (tabOf T256) 25 fuel (((flat (bodyOf Try.f256)).drop 3).take 2) e w (fun e w => Y0 (e 0) (e 2) w) (endD Try.prog [.tmp 2] K) noE := by intro Y0; kernel_rfl
  exact seg 2 (Eq.mp (e1 (fun a0 a2 w => F256_3 a0 a2 w K)) h) (fun e w h => ok256_3 hn hr he e w h) hr he

def F256_1b (s0 : Value) (w : World) (_K : Value → World → Prop) (Y0 : Value → Value → World → Prop) : Prop :=
bindP (bGe s0 (.int .u64 4294967296)) fun v11 =>
ifB v11 (
bindP (bShr s0 (.int .u64 32)) fun v12 =>
Y0 v12 (.int .i64 32) w) (
Y0 s0 (.int .i64 0) w)

def F256_1 (s0 : Value) (w : World) (K : Value → World → Prop) : Prop := F256_1b s0 w K (fun a0 a2 w => F256_2 a0 a2 w K)

theorem ok256_1 {K : Value → World → Prop} {kn kr : Env → World → Prop} {ke : Nat → Env → World → Prop}
    (hn : ∀ e w, (fun e w => K (e 2) w) e w → kn e w) (hr : ∀ e w, endD Try.prog [.tmp 2] K e w → kr e w) (he : ∀ i e w, noE i e w → ke i e w) :
    ∀ e w, F256_1 (e 0) w K → denL Try.prog (tabOf T256) 25 fuel ((flat (bodyOf Try.f256)).drop 0) e w kn kr ke := by
  intro e w h
  unfold F256_1 at h
  have e1 : ∀ (Y0 : Value → Value → World → Prop), F256_1b (e 0) w K Y0 = denL Try.prog (tabOf T256) 25 fuel (((flat (bodyOf Try.f256)).drop 0).take 3) e w (fun e w => Y0 (e 0) (e 2) w) (endD Try.prog [.tmp 2] K) noE := by intro Y0; kernel_rfl
  exact seg 3 (Eq.mp (e1 (fun a0 a2 w => F256_2 a0 a2 w K)) h) (fun e w h => ok256_2 hn hr he e w h) hr he

def F256 (x0 : Value) (w : World) (K : Value → World → Prop) : Prop := F256_1 x0 w K

def G256 : FnT := fun args w K => on1 (fun x0 => F256 x0 w K) args
theorem c256 {x0 : Value} {w : World} {K : Value → World → Prop} (h : F256 x0 w K) : callP G256 [x0] w K := callP_intro h
theorem ok256 : OkF Try.prog 256 G256 := by
  refine okF_of (tab_ok (l := T256) trivial) mixed (n := fuel) Try.func256 Try.call256 fun args w K h => ?_
  obtain ⟨x0, rfl, hh⟩ := of_on1 h
  unfold F256 at hh
  exact fnD_list (c := bodyOf Try.f256) (by kernel_rfl) (by kernel_rfl) (ok256_1 (fun _ _ h => h) (fun _ _ h => h) (fun _ _ _ h => h) (initE [x0]) w hh)

-- 215 math/bits.Len
def T215 : List (Nat × FnT) := [(255, G255), (256, G256)]
def F215 (x0 : Value) (w : World) (K : Value → World → Prop) : Prop :=
ifB (.bool false) (
bindP (cInt .u32 x0) fun v1 =>
callP G255 [v1] w fun v3 w2 =>
K v3 w2) (
callP G256 [x0] w fun v5 w4 =>
K v5 w4)

def G215 : FnT := fun args w K => on1 (fun x0 => F215 x0 w K) args
theorem c215 {x0 : Value} {w : World} {K : Value → World → Prop} (h : F215 x0 w K) : callP G215 [x0] w K := callP_intro h
theorem ok215 : OkF Try.prog 215 G215 := by
  refine okF_of (tab_ok (l := T215) ⟨ok255, ok256, trivial⟩) mixed (n := fuel) Try.func215 Try.call215 fun args w K h => ?_
  obtain ⟨x0, rfl, hh⟩ := of_on1 h
  exact fnD_list (c := bodyOf Try.f215) (by kernel_rfl) (by kernel_rfl) (Eq.mp (by kernel_rfl) hh)

-- 282 slices.nextPowerOfTwo
def T282 : List (Nat × FnT) := [(215, G215)]
def F282 (x0 : Value) (w : World) (K : Value → World → Prop) : Prop :=
bindP (cInt .u64 x0) fun v1 =>
callP G215 [v1] w fun v3 w2 =>
bindP (bShl (.int .u64 1) v3) fun v4 =>
K v4 w2

def G282 : FnT := fun args w K => on1 (fun x0 => F282 x0 w K) args
theorem c282 {x0 : Value} {w : World} {K : Value → World → Prop} (h : F282 x0 w K) : callP G282 [x0] w K := callP_intro h
theorem ok282 : OkF Try.prog 282 G282 := by
  refine okF_of (tab_ok (l := T282) ⟨ok215, trivial⟩) mixed (n := fuel) Try.func282 Try.call282 fun args w K h => ?_
  obtain ⟨x0, rfl, hh⟩ := of_on1 h
  exact fnD_list (c := bodyOf Try.f282) (by kernel_rfl) (by kernel_rfl) (Eq.mp (by kernel_rfl) hh)

-- 283 (*slices.xorshift).Next
def T283 : List (Nat × FnT) := []
def F283 (x0 : Value) (w : World) (K : Value → World → Prop) : Prop :=
bindP (pNil x0) fun v1 =>
bindP (ld1 v1 w.drew) fun v2 =>
bindP (pNil x0) fun v3 =>
bindP (ld1 v3 w.drew) fun v4 =>
bindP (bShl v4 (.int .u64 13)) fun v5 =>
bindP (bBit .xor v2 v5) fun v6 =>
bindP (pNil x0) fun v7 =>
bindW (st 1 v7 v6 w.drew) fun w8 =>
bindP (pNil x0) fun v10 =>
bindP (ld1 v10 w8.drew) fun v11 =>
bindP (pNil x0) fun v12 =>
bindP (ld1 v12 w8.drew) fun v13 =>
bindP (bShr v13 (.int .u64 7)) fun v14 =>
bindP (bBit .xor v11 v14) fun v15 =>
bindP (pNil x0) fun v16 =>
bindW (st 1 v16 v15 w8.drew) fun w17 =>
bindP (pNil x0) fun v19 =>
bindP (ld1 v19 w17.drew) fun v20 =>
bindP (pNil x0) fun v21 =>
bindP (ld1 v21 w17.drew) fun v22 =>
bindP (bShl v22 (.int .u64 17)) fun v23 =>
bindP (bBit .xor v20 v23) fun v24 =>
bindP (pNil x0) fun v25 =>
bindW (st 1 v25 v24 w17.drew) fun w26 =>
bindP (pNil x0) fun v28 =>
bindP (ld1 v28 w26) fun v29 =>
K v29 w26

def G283 : FnT := fun args w K => on1 (fun x0 => F283 x0 w K) args
theorem c283 {x0 : Value} {w : World} {K : Value → World → Prop} (h : F283 x0 w K) : callP G283 [x0] w K := callP_intro h
theorem ok283 : OkF Try.prog 283 G283 := by
  refine okF_of (tab_ok (l := T283) trivial) mixed (n := fuel) Try.func283 Try.call283 fun args w K h => ?_
  obtain ⟨x0, rfl, hh⟩ := of_on1 h
  exact fnD_list (c := bodyOf Try.f283) (by kernel_rfl) (by kernel_rfl) (Eq.mp (by kernel_rfl) hh)

-- 249 slices.breakPatternsCmpFunc[gong/heap.Item]
def T249 : List (Nat × FnT) := [(282, G282), (283, G283)]
def F249_7b (s0 : Value) (s1 : Value) (s8 : Value) (s9 : Value) (s10 : Value) (s11 : Value) (w : World) (_K : Value → World → Prop) (R4 : Value → Value → Value → Value → Value → Value → World → Prop) : Prop :=
bindP (bAdd s11 (.int .i64 1)) fun v1 =>
R4 s0 s1 s8 s9 s10 v1 w

def F249_7 (s0 : Value) (s1 : Value) (s8 : Value) (s9 : Value) (s10 : Value) (s11 : Value) (w : World) (K : Value → World → Prop) (R4 : Value → Value → Value → Value → Value → Value → World → Prop) : Prop := F249_7b s0 s1 s8 s9 s10 s11 w K R4

theorem ok249_7 (R4 : Value → Value → Value → Value → Value → Value → World → Prop) {K : Value → World → Prop} {kn kr : Env → World → Prop} {ke : Nat → Env → World → Prop}
    (hn : ∀ e w, (fun e w => R4 (e 0) (e 1) (e 8) (e 9) (e 10) (e 11) w) e w → kn e w) (hr : ∀ e w, endD Try.prog [] K e w → kr e w) (he : ∀ i e w, (blkK 0 (fun e w => K (.tuple #[]) w) noE) i e w → ke i e w) :
    ∀ e w, F249_7 (e 0) (e 1) (e 8) (e 9) (e 10) (e 11) w K R4 → denL Try.prog (tabOf T249) 67 fuel ((flat (loopB (blkB (nthC (flat (thenC (nthC (flat (bodyOf Try.f249)) 2))) 3)))).drop 3) e w kn kr ke := by
  intro e w h
  unfold F249_7 at h
  have e1 : ∀ (_ : Unit), F249_7b (e 0) (e 1) (e 8) (e 9) (e 10) (e 11) w K R4 = denL Try.prog (tabOf T249) 67 fuel ((flat (loopB (blkB (nthC (flat (thenC (nthC (flat (bodyOf Try.f249)) 2))) 3)))).drop 3) e w (fun e w => R4 (e 0) (e 1) (e 8) (e 9) (e 10) (e 11) w) (endD Try.prog [] K) (blkK 0 (fun e w => K (.tuple #[]) w) noE) := by intro _; kernel_rfl
  exact seg_end (Eq.mp (e1 ()) h) hn hr he

def F249_9b (s0 : Value) (s1 : Value) (s8 : Value) (s9 : Value) (s10 : Value) (s11 : Value) (s12 : Value) (w : World) (_K : Value → World → Prop) (R4 : Value → Value → Value → Value → Value → Value → World → Prop) (Y0 : Value → Value → Value → Value → Value → Value → World → Prop) : Prop :=
bindP (bAdd s1 s12) fun v2 =>
bindP (bAdd s1 s12) fun v3 =>
bindP (pIndexL 2 s0 v3) fun v4 =>
bindP (ldN 2 v4 w.drew) fun v5 =>
bindP (pIndexL 2 s0 s11) fun v6 =>
bindP (ldN 2 v6 w.drew) fun v7 =>
bindP (pIndexL 2 s0 s11) fun v8 =>
bindW (st 2 v8 v5 w.drew) fun w9 =>
bindP (pIndexL 2 s0 v2) fun v11 =>
bindW (st 2 v11 v7 w9) fun w12 =>
Y0 s0 s1 s8 s9 s10 s11 w12

def F249_9 (s0 : Value) (s1 : Value) (s8 : Value) (s9 : Value) (s10 : Value) (s11 : Value) (s12 : Value) (w : World) (K : Value → World → Prop) (R4 : Value → Value → Value → Value → Value → Value → World → Prop) : Prop := F249_9b s0 s1 s8 s9 s10 s11 s12 w K R4 (fun a0 a1 a8 a9 a10 a11 w => F249_7 a0 a1 a8 a9 a10 a11 w K R4)

theorem ok249_9 (R4 : Value → Value → Value → Value → Value → Value → World → Prop) {K : Value → World → Prop} {kn kr : Env → World → Prop} {ke : Nat → Env → World → Prop}
    (hn : ∀ e w, (fun e w => F249_7 (e 0) (e 1) (e 8) (e 9) (e 10) (e 11) w K R4) e w → kn e w) (hr : ∀ e w, endD Try.prog [] K e w → kr e w) (he : ∀ i e w, (blkK 1 (fun e w => F249_7 (e 0) (e 1) (e 8) (e 9) (e 10) (e 11) w K R4) (blkK 0 (fun e w => K (.tuple #[]) w) noE)) i e w → ke i e w) :
    ∀ e w, F249_9 (e 0) (e 1) (e 8) (e 9) (e 10) (e 11) (e 12) w K R4 → denL Try.prog (tabOf T249) 67 fuel ((flat (blkB (nthC (flat (loopB (blkB (nthC (flat (thenC (nthC (flat (bodyOf Try.f249)) 2))) 3)))) 2))).drop 3) e w kn kr ke := by
  intro e w h
  unfold F249_9 at h
  have e1 : ∀ (Y0 : Value → Value → Value → Value → Value → Value → World → Prop), F249_9b (e 0) (e 1) (e 8) (e 9) (e 10) (e 11) (e 12) w K R4 Y0 = denL Try.prog (tabOf T249) 67 fuel ((flat (blkB (nthC (flat (loopB (blkB (nthC (flat (thenC (nthC (flat (bodyOf Try.f249)) 2))) 3)))) 2))).drop 3) e w (fun e w => Y0 (e 0) (e 1) (e 8) (e 9) (e 10) (e 11) w) (endD Try.prog [] K) (blkK 1 (fun e w => Y0 (e 0) (e 1) (e 8) (e 9) (e 10) (e 11) w) (blkK 0 (fun e w => K (.tuple #[]) w) noE)) := by intro Y0; kernel_rfl
  exact seg_end (Eq.mp (e1 (fun a0 a1 a8 a9 a10 a11 w => F249_7 a0 a1 a8 a9 a10 a11 w K R4)) h) hn hr he

def F249_8b (s0 : Value) (s1 : Value) (s8 : Value) (s9 : Value) (s10 : Value) (s11 : Value) (w : World) (_K : Value → World → Prop) (R4 : Value → Value → Value → Value → Value → Value → World → Prop) (Y0 : Value → Value → Value → Value → Value → Value → Value → World → Prop) : Prop :=
callP G283 [s9] w fun v15 w14 =>
bindP (bSub s10 (.int .u64 1)) fun v16 =>
bindP (bBit .and v15 v16) fun v17 =>
bindP (cInt .i64 v17) fun v18 =>
bindP (bGe v18 s8) fun v19 =>
ifB v19 (
bindP (bSub v18 s8) fun v20 =>
Y0 s0 s1 s8 s9 s10 s11 v20 w14) (
Y0 s0 s1 s8 s9 s10 s11 v18 w14)

def F249_8 (s0 : Value) (s1 : Value) (s8 : Value) (s9 : Value) (s10 : Value) (s11 : Value) (w : World) (K : Value → World → Prop) (R4 : Value → Value → Value → Value → Value → Value → World → Prop) : Prop := F249_8b s0 s1 s8 s9 s10 s11 w K R4 (fun a0 a1 a8 a9 a10 a11 a12 w => F249_9 a0 a1 a8 a9 a10 a11 a12 w K R4)

theorem ok249_8 (R4 : Value → Value → Value → Value → Value → Value → World → Prop) {K : Value → World → Prop} {kn kr : Env → World → Prop} {ke : Nat → Env → World → Prop}
    (hn : ∀ e w, (fun e w => F249_7 (e 0) (e 1) (e 8) (e 9) (e 10) (e 11) w K R4) e w → kn e w) (hr : ∀ e w, endD Try.prog [] K e w → kr e w) (he : ∀ i e w, (blkK 1 (fun e w => F249_7 (e 0) (e 1) (e 8) (e 9) (e 10) (e 11) w K R4) (blkK 0 (fun e w => K (.tuple #[]) w) noE)) i e w → ke i e w) :
    ∀ e w, F249_8 (e 0) (e 1) (e 8) (e 9) (e 10) (e 11) w K R4 → denL Try.prog (tabOf T249) 67 fuel ((flat (blkB (nthC (flat (loopB (blkB (nthC (flat (thenC (nthC (flat (bodyOf Try.f249)) 2))) 3)))) 2))).drop 0) e w kn kr ke := by
  intro e w h
  unfold F249_8 at h
  have e1 : ∀ (Y0 : Value → Value → Value → Value → Value → Value → Value → World → Prop), F249_8b (e 0) (e 1) (e 8) (e 9) (e 10) (e 11) w K R4 Y0 = denL Try.prog (tabOf T249) 67 fuel (((flat (blkB (nthC (flat (loopB (blkB (nthC (flat (thenC (nthC (flat (bodyOf Try.f249)) 2))) 3)))) 2))).drop 0).take 3) e w (fun e w => Y0 (e 0) (e 1) (e 8) (e 9) (e 10) (e 11) (e 12) w) (endD Try.prog [] K) (blkK 1 (fun e w => F249_7 (e 0) (e 1) (e 8) (e 9) (e 10) (e 11) w K R4) (blkK 0 (fun e w => K (.tuple #[]) w) noE)) := by intro Y0; kernel_rfl
  exact seg 3 (Eq.mp (e1 (fun a0 a1 a8 a9 a10 a11 a12 w => F249_9 a0 a1 a8 a9 a10 a11 a12 w K R4)) h) (fun e w h => ok249_9 R4 hn hr he e w h) hr he

def F249_6 (s0 : Value) (s1 : Value) (s8 : Value) (s9 : Value) (s10 : Value) (s11 : Value) (w : World) (K : Value → World → Prop) (R4 : Value → Value → Value → Value → Value → Value → World → Prop) : Prop := F249_8 s0 s1 s8 s9 s10 s11 w K R4

theorem ok249_6 (R4 : Value → Value → Value → Value → Value → Value → World → Prop) {K : Value → World → Prop} {kn kr : Env → World → Prop} {ke : Nat → Env → World → Prop}
    (hn : ∀ e w, (fun e w => R4 (e 0) (e 1) (e 8) (e 9) (e 10) (e 11) w) e w → kn e w) (hr : ∀ e w, endD Try.prog [] K e w → kr e w) (he : ∀ i e w, (blkK 0 (fun e w => K (.tuple #[]) w) noE) i e w → ke i e w) :
    ∀ e w, F249_6 (e 0) (e 1) (e 8) (e 9) (e 10) (e 11) w K R4 → denL Try.prog (tabOf T249) 67 fuel ((flat (loopB (blkB (nthC (flat (thenC (nthC (flat (bodyOf Try.f249)) 2))) 3)))).drop 2) e w kn kr ke := by
  intro e w h
  unfold F249_6 at h
  refine seg_block (id := 1) (body := (blkB (nthC (flat (loopB (blkB (nthC (flat (thenC (nthC (flat (bodyOf Try.f249)) 2))) 3)))) 2))) (l2 := (flat (loopB (blkB (nthC (flat (thenC (nthC (flat (bodyOf Try.f249)) 2))) 3)))).drop 3) (by kernel_rfl) ?_
  exact ok249_8 R4 (fun e w h => ok249_7 R4 hn hr he e w h) hr (blkK_mono (fun e w h => ok249_7 R4 hn hr he e w h) he) e w h

def F249_5b (s0 : Value) (s1 : Value) (s8 : Value) (s9 : Value) (s10 : Value) (s11 : Value) (w : World) (K : Value → World → Prop) (R4 : Value → Value → Value → Value → Value → Value → World → Prop) (Y0 : Value → Value → Value → Value → Value → Value → World → Prop) : Prop :=
bindP (bQuo s8 (.int .i64 4)) fun v21 =>
bindP (bMul v21 (.int .i64 2)) fun v22 =>
bindP (bAdd s1 v22) fun v23 =>
bindP (bAdd v23 (.int .i64 1)) fun v24 =>
bindP (bLe s11 v24) fun v25 =>
ifB v25 (
Y0 s0 s1 s8 s9 s10 s11 w) (
K (.tuple #[]) w)

def F249_5 (s0 : Value) (s1 : Value) (s8 : Value) (s9 : Value) (s10 : Value) (s11 : Value) (w : World) (K : Value → World → Prop) (R4 : Value → Value → Value → Value → Value → Value → World → Prop) : Prop := F249_5b s0 s1 s8 s9 s10 s11 w K R4 (fun a0 a1 a8 a9 a10 a11 w => F249_6 a0 a1 a8 a9 a10 a11 w K R4)

theorem ok249_5 (R4 : Value → Value → Value → Value → Value → Value → World → Prop) {K : Value → World → Prop} {kn kr : Env → World → Prop} {ke : Nat → Env → World → Prop}
    (hn : ∀ e w, (fun e w => R4 (e 0) (e 1) (e 8) (e 9) (e 10) (e 11) w) e w → kn e w) (hr : ∀ e w, endD Try.prog [] K e w → kr e w) (he : ∀ i e w, (blkK 0 (fun e w => K (.tuple #[]) w) noE) i e w → ke i e w) :
    ∀ e w, F249_5 (e 0) (e 1) (e 8) (e 9) (e 10) (e 11) w K R4 → denL Try.prog (tabOf T249) 67 fuel ((flat (loopB (blkB (nthC (flat (thenC (nthC (flat (bodyOf Try.f249)) 2))) 3)))).drop 0) e w kn kr ke := by
  intro e w h
  unfold F249_5 at h
  have e1 : ∀ (Y0 : Value → Value → Value → Value → Value → Value → World → Prop), F249_5b (e 0) (e 1) (e 8) (e 9) (e 10) (e 11) w K R4 Y0 = denL Try.prog (tabOf T249) 67 fuel (((flat (loopB (blkB (nthC (flat (thenC (nthC (flat (bodyOf Try.f249)) 2))) 3)))).drop 0).take 2) e w (fun e w => Y0 (e 0) (e 1) (e 8) (e 9) (e 10) (e 11) w) (endD Try.prog [] K) (blkK 0 (fun e w => K (.tuple #[]) w) noE) := by intro Y0; kernel_rfl
  exact seg 2 (Eq.mp (e1 (fun a0 a1 a8 a9 a10 a11 w => F249_6 a0 a1 a8 a9 a10 a11 w K R4)) h) (fun e w h => ok249_6 R4 hn hr he e w h) hr he

def F249_4L : Nat → Value → Value → Value → Value → Value → Value → World → (Value → World → Prop) → Prop
  | 0, _, _, _, _, _, _, _, _ => False
  | n + 1, s0, s1, s8, s9, s10, s11, w, K => F249_5 s0 s1 s8 s9 s10 s11 w K (fun a0 a1 a8 a9 a10 a11 w => F249_4L n a0 a1 a8 a9 a10 a11 w K)

def F249_4 (s0 : Value) (s1 : Value) (s8 : Value) (s9 : Value) (s10 : Value) (s11 : Value) (w : World) (K : Value → World → Prop) : Prop := F249_4L fuel s0 s1 s8 s9 s10 s11 w K

theorem ok249_4 {K : Value → World → Prop} {kn kr : Env → World → Prop} {ke : Nat → Env → World → Prop}
    (hn : ∀ e w, (fun e w => K (.tuple #[]) w) e w → kn e w) (hr : ∀ e w, endD Try.prog [] K e w → kr e w) (he : ∀ i e w, noE i e w → ke i e w) :
    ∀ e w, F249_4 (e 0) (e 1) (e 8) (e 9) (e 10) (e 11) w K → denL Try.prog (tabOf T249) 67 fuel ((flat (thenC (nthC (flat (bodyOf Try.f249)) 2))).drop 3) e w kn kr ke := by
  intro e w h
  unfold F249_4 at h
  refine seg_loop (id := 0) (body := (loopB (blkB (nthC (flat (thenC (nthC (flat (bodyOf Try.f249)) 2))) 3)))) (l2 := (flat (thenC (nthC (flat (bodyOf Try.f249)) 2))).drop 4) (by kernel_rfl) ?_
  refine loop_ok (FL := fun m e w => F249_4L m (e 0) (e 1) (e 8) (e 9) (e 10) (e 11) w K) (fr := endD Try.prog [] K) (fe := (blkK 0 (fun e w => K (.tuple #[]) w) noE)) (fun _ _ h => h) ?_ hr (blkK_mono hn he) fuel e w h
  intro m e w h
  have h : F249_4L (m + 1) (e 0) (e 1) (e 8) (e 9) (e 10) (e 11) w K := h
  rw [F249_4L] at h
  exact ok249_5 (fun a0 a1 a8 a9 a10 a11 w => F249_4L m a0 a1 a8 a9 a10 a11 w K) (fun _ _ h => h) (fun _ _ h => h) (fun _ _ _ h => h) e w h

def F249_3b (s0 : Value) (s1 : Value) (s8 : Value) (w : World) (_K : Value → World → Prop) (Y0 : Value → Value → Value → Value → Value → Value → World → Prop) : Prop :=
bindP (cInt .u64 s8) fun v26 =>
eAlloc Try.prog 315 w fun v28 w27 =>
bindW (st 1 v28 v26 w27) fun w29 =>
callP G282 [s8] w29 fun v32 w31 =>
bindP (bQuo s8 (.int .i64 4)) fun v33 =>
bindP (bMul v33 (.int .i64 2)) fun v34 =>
bindP (bAdd s1 v34) fun v35 =>
bindP (bSub v35 (.int .i64 1)) fun v36 =>
Y0 s0 s1 s8 v28 v32 v36 w31

def F249_3 (s0 : Value) (s1 : Value) (s8 : Value) (w : World) (K : Value → World → Prop) : Prop := F249_3b s0 s1 s8 w K (fun a0 a1 a8 a9 a10 a11 w => F249_4 a0 a1 a8 a9 a10 a11 w K)

theorem ok249_3 {K : Value → World → Prop} {kn kr : Env → World → Prop} {ke : Nat → Env → World → Prop}
    (hn : ∀ e w, (fun e w => K (.tuple #[]) w) e w → kn e w) (hr : ∀ e w, endD Try.prog [] K e w → kr e w) (he : ∀ i e w, noE i e w → ke i e w) :
    ∀ e w, F249_3 (e 0) (e 1) (e 8) w K → denL Try.prog (tabOf T249) 67 fuel ((flat (thenC (nthC (flat (bodyOf Try.f249)) 2))).drop 0) e w kn kr ke := by
  intro e w h
  unfold F249_3 at h
  have e1 : ∀ (Y0 : Value → Value → Value → Value → Value → Value → World → Prop), F249_3b (e 0) (e 1) (e 8) w K Y0 = denL Try.prog (tabOf T249) 67 fuel (((flat (thenC (nthC (flat (bodyOf Try.f249)) 2))).drop 0).take 3) e w (fun e w => Y0 (e 0) (e 1) (e 8) (e 9) (e 10) (e 11) w) (endD Try.prog [] K) noE := by intro Y0; kernel_rfl
  exact seg 3 (Eq.mp (e1 (fun a0 a1 a8 a9 a10 a11 w => F249_4 a0 a1 a8 a9 a10 a11 w K)) h) (fun e w h => ok249_4 hn hr he e w h) hr he

def F249_10b (w : World) (K : Value → World → Prop) : Prop :=
K (.tuple #[]) w

def F249_10 (w : World) (K : Value → World → Prop) : Prop := F249_10b w K

theorem ok249_10 {K : Value → World → Prop} {kn kr : Env → World → Prop} {ke : Nat → Env → World → Prop}
    (hn : ∀ e w, (fun e w => K (.tuple #[]) w) e w → kn e w) (hr : ∀ e w, endD Try.prog [] K e w → kr e w) (he : ∀ i e w, noE i e w → ke i e w) :
    ∀ e w, F249_10 w K → denL Try.prog (tabOf T249) 67 fuel ((flat (elseC (nthC (flat (bodyOf Try.f249)) 2))).drop 0) e w kn kr ke := by
  intro e w h
  unfold F249_10 at h
  have e1 : ∀ (_ : Unit), F249_10b w K = denL Try.prog (tabOf T249) 67 fuel ((flat (elseC (nthC (flat (bodyOf Try.f249)) 2))).drop 0) e w (fun e w => K (.tuple #[]) w) (endD Try.prog [] K) noE := by intro _; kernel_rfl
  exact seg_end (Eq.mp (e1 ()) h) hn hr he

def F249_2 (s0 : Value) (s1 : Value) (s8 : Value) (s17 : Value) (w : World) (K : Value → World → Prop) : Prop := ifB s17 (F249_3 s0 s1 s8 w K) (F249_10 w K)

theorem ok249_2 {K : Value → World → Prop} {kn kr : Env → World → Prop} {ke : Nat → Env → World → Prop}
    (hn : ∀ e w, (fun e w => K (.tuple #[]) w) e w → kn e w) (hr : ∀ e w, endD Try.prog [] K e w → kr e w) (he : ∀ i e w, noE i e w → ke i e w) :
    ∀ e w, F249_2 (e 0) (e 1) (e 8) (e 17) w K → denL Try.prog (tabOf T249) 67 fuel ((flat (bodyOf Try.f249)).drop 2) e w kn kr ke := by
  intro e w h
  unfold F249_2 at h
  refine seg_cond (c := (.tmp 17)) (a := thenC (nthC (flat (bodyOf Try.f249)) 2)) (b := elseC (nthC (flat (bodyOf Try.f249)) 2)) (l2 := (flat (bodyOf Try.f249)).drop 3) (by kernel_rfl) h (fun h => ?_) (fun h => ?_)
  · exact ok249_3 hn hr he e w h
  · exact ok249_10 hn hr he e w h

def F249_1b (s0 : Value) (s1 : Value) (s2 : Value) (w : World) (_K : Value → World → Prop) (Y0 : Value → Value → Value → Value → World → Prop) : Prop :=
bindP (bSub s2 s1) fun v37 =>
bindP (bGe v37 (.int .i64 8)) fun v38 =>
Y0 s0 s1 v37 v38 w

def F249_1 (s0 : Value) (s1 : Value) (s2 : Value) (w : World) (K : Value → World → Prop) : Prop := F249_1b s0 s1 s2 w K (fun a0 a1 a8 a17 w => F249_2 a0 a1 a8 a17 w K)

theorem ok249_1 {K : Value → World → Prop} {kn kr : Env → World → Prop} {ke : Nat → Env → World → Prop}
    (hn : ∀ e w, (fun e w => K (.tuple #[]) w) e w → kn e w) (hr : ∀ e w, endD Try.prog [] K e w → kr e w) (he : ∀ i e w, noE i e w → ke i e w) :
    ∀ e w, F249_1 (e 0) (e 1) (e 2) w K → denL Try.prog (tabOf T249) 67 fuel ((flat (bodyOf Try.f249)).drop 0) e w kn kr ke := by
  intro e w h
  unfold F249_1 at h
  have e1 : ∀ (Y0 : Value → Value → Value → Value → World → Prop), F249_1b (e 0) (e 1) (e 2) w K Y0 = denL Try.prog (tabOf T249) 67 fuel (((flat (bodyOf Try.f249)).drop 0).take 2) e w (fun e w => Y0 (e 0) (e 1) (e 8) (e 17) w) (endD Try.prog [] K) noE := by intro Y0; kernel_rfl
  exact seg 2 (Eq.mp (e1 (fun a0 a1 a8 a17 w => F249_2 a0 a1 a8 a17 w K)) h) (fun e w h => ok249_2 hn hr he e w h) hr he

def F249 (x0 : Value) (x1 : Value) (x2 : Value) (_x3 : Value) (w : World) (K : Value → World → Prop) : Prop := F249_1 x0 x1 x2 w K

def G249 : FnT := fun args w K => on4 (fun x0 x1 x2 x3 => F249 x0 x1 x2 x3 w K) args
theorem c249 {x0 x1 x2 x3 : Value} {w : World} {K : Value → World → Prop} (h : F249 x0 x1 x2 x3 w K) : callP G249 [x0, x1, x2, x3] w K := callP_intro h
theorem ok249 : OkF Try.prog 249 G249 := by
  refine okF_of (tab_ok (l := T249) ⟨ok282, ok283, trivial⟩) mixed (n := fuel) Try.func249 Try.call249 fun args w K h => ?_
  obtain ⟨x0, x1, x2, x3, rfl, hh⟩ := of_on4 h
  unfold F249 at hh
  exact fnD_list (c := bodyOf Try.f249) (by kernel_rfl) (by kernel_rfl) (ok249_1 (fun _ _ h => h) (fun _ _ h => h) (fun _ _ _ h => h) (initE [x0, x1, x2, x3]) w hh)

-- 307 slices.order2CmpFunc[gong/heap.Item]
def T307 : List (Nat × FnT) := [(150, G150)]
def F307 (x0 : Value) (x1 : Value) (x2 : Value) (x3 : Value) (x4 : Value) (w : World) (K : Value → World → Prop) : Prop :=
bindP (pIndexL 2 x0 x2) fun v1 =>
bindP (ldN 2 v1 w.drew) fun v2 =>
bindP (pIndexL 2 x0 x1) fun v3 =>
bindP (ldN 2 v3 w.drew) fun v4 =>
eCallV (tabOf T307) x4 [v2, v4] w.drew fun v6 w5 =>
bindP (bLt v6 (.int .i64 0)) fun v7 =>
ifB v7 (
bindP (pNil x3) fun v8 =>
bindP (ld1 v8 w5) fun v9 =>
bindP (bAdd v9 (.int .i64 1)) fun v10 =>
bindP (pNil x3) fun v11 =>
bindW (st 1 v11 v10 w5) fun w12 =>
K (.tuple #[x2, x1]) w12) (
K (.tuple #[x1, x2]) w5)

def G307 : FnT := fun args w K => on5 (fun x0 x1 x2 x3 x4 => F307 x0 x1 x2 x3 x4 w K) args
theorem c307 {x0 x1 x2 x3 x4 : Value} {w : World} {K : Value → World → Prop} (h : F307 x0 x1 x2 x3 x4 w K) : callP G307 [x0, x1, x2, x3, x4] w K := callP_intro h
theorem ok307 : OkF Try.prog 307 G307 := by
  refine okF_of (tab_ok (l := T307) ⟨ok150, trivial⟩) mixed (n := fuel) Try.func307 Try.call307 fun args w K h => ?_
  obtain ⟨x0, x1, x2, x3, x4, rfl, hh⟩ := of_on5 h
  exact fnD_list (c := bodyOf Try.f307) (by kernel_rfl) (by kernel_rfl) (Eq.mp (by kernel_rfl) hh)

-- 285 slices.medianCmpFunc[gong/heap.Item]
def T285 : List (Nat × FnT) := [(307, G307)]
def F285 (x0 : Value) (x1 : Value) (x2 : Value) (x3 : Value) (x4 : Value) (x5 : Value) (w : World) (K : Value → World → Prop) : Prop :=
callP G307 [x0, x1, x2, x4, x5] w fun v2 w1 =>
bindP (pTuple v2 0) fun v3 =>
bindP (pTuple v2 1) fun v4 =>
callP G307 [x0, v4, x3, x4, x5] w1 fun v6 w5 =>
bindP (pTuple v6 0) fun v7 =>
bindP (pTuple v6 1) fun _ =>
callP G307 [x0, v3, v7, x4, x5] w5 fun v10 w9 =>
bindP (pTuple v10 0) fun _ =>
bindP (pTuple v10 1) fun v12 =>
K v12 w9

def G285 : FnT := fun args w K => on6 (fun x0 x1 x2 x3 x4 x5 => F285 x0 x1 x2 x3 x4 x5 w K) args
theorem c285 {x0 x1 x2 x3 x4 x5 : Value} {w : World} {K : Value → World → Prop} (h : F285 x0 x1 x2 x3 x4 x5 w K) : callP G285 [x0, x1, x2, x3, x4, x5] w K := callP_intro h
theorem ok285 : OkF Try.prog 285 G285 := by
  refine okF_of (tab_ok (l := T285) ⟨ok307, trivial⟩) mixed (n := fuel) Try.func285 Try.call285 fun args w K h => ?_
  obtain ⟨x0, x1, x2, x3, x4, x5, rfl, hh⟩ := of_on6 h
  exact fnD_list (c := bodyOf Try.f285) (by kernel_rfl) (by kernel_rfl) (Eq.mp (by kernel_rfl) hh)

-- 284 slices.medianAdjacentCmpFunc[gong/heap.Item]
def T284 : List (Nat × FnT) := [(285, G285)]
def F284 (x0 : Value) (x1 : Value) (x2 : Value) (x3 : Value) (w : World) (K : Value → World → Prop) : Prop :=
bindP (bSub x1 (.int .i64 1)) fun v1 =>
bindP (bAdd x1 (.int .i64 1)) fun v2 =>
callP G285 [x0, v1, x1, v2, x2, x3] w fun v4 w3 =>
K v4 w3

def G284 : FnT := fun args w K => on4 (fun x0 x1 x2 x3 => F284 x0 x1 x2 x3 w K) args
theorem c284 {x0 x1 x2 x3 : Value} {w : World} {K : Value → World → Prop} (h : F284 x0 x1 x2 x3 w K) : callP G284 [x0, x1, x2, x3] w K := callP_intro h
theorem ok284 : OkF Try.prog 284 G284 := by
  refine okF_of (tab_ok (l := T284) ⟨ok285, trivial⟩) mixed (n := fuel) Try.func284 Try.call284 fun args w K h => ?_
  obtain ⟨x0, x1, x2, x3, rfl, hh⟩ := of_on4 h
  exact fnD_list (c := bodyOf Try.f284) (by kernel_rfl) (by kernel_rfl) (Eq.mp (by kernel_rfl) hh)

-- 250 slices.choosePivotCmpFunc[gong/heap.Item]
def T250 : List (Nat × FnT) := [(284, G284), (285, G285)]
def F250_3b (s11 : Value) (s13 : Value) (w : World) (K : Value → World → Prop) : Prop :=
bindP (ld1 s11 w) fun v1 =>
bindP (bEq Try.prog 3 (.tmp 55) (.const (.int .i64 0)) v1 (.int .i64 0)) fun v2 =>
ifB v2 (
K (.tuple #[s13, (.int .i64 1)]) w) (
bindP (bEq Try.prog 3 (.tmp 55) (.const (.int .i64 12)) v1 (.int .i64 12)) fun v3 =>
ifB v3 (
K (.tuple #[s13, (.int .i64 2)]) w) (
K (.tuple #[s13, (.int .i64 0)]) w))

def F250_3 (s11 : Value) (s13 : Value) (w : World) (K : Value → World → Prop) : Prop := F250_3b s11 s13 w K

theorem ok250_3 {K : Value → World → Prop} {kn kr : Env → World → Prop} {ke : Nat → Env → World → Prop}
    (hn : ∀ e w, (fun e w => K (.tuple #[(e 8), (e 9)]) w) e w → kn e w) (hr : ∀ e w, endD Try.prog [.tmp 8, .tmp 9] K e w → kr e w) (he : ∀ i e w, noE i e w → ke i e w) :
    ∀ e w, F250_3 (e 11) (e 13) w K → denL Try.prog (tabOf T250) 63 fuel ((flat (bodyOf Try.f250)).drop 8) e w kn kr ke := by
  intro e w h
  unfold F250_3 at h
  have e1 : ∀ (_ : Unit), F250_3b (e 11) (e 13) w K = denL Try.prog (tabOf T250) 63 fuel ((flat (bodyOf Try.f250)).drop 8) e w (fun e w => K (.tuple #[(e 8), (e 9)]) w) (endD Try.prog [.tmp 8, .tmp 9] K) noE := by intro _; kernel_rfl
  exact seg_end (Eq.mp (e1 ()) h) hn hr he

def F250_5b (s0 : Value) (s3 : Value) (s11 : Value) (s12 : Value) (s13 : Value) (s14 : Value) (w : World) (_K : Value → World → Prop) (Y0 : Value → Value → World → Prop) : Prop :=
callP G285 [s0, s12, s13, s14, s11, s3] w fun v5 w4 =>
Y0 s11 v5 w4

def F250_5 (s0 : Value) (s3 : Value) (s11 : Value) (s12 : Value) (s13 : Value) (s14 : Value) (w : World) (K : Value → World → Prop) : Prop := F250_5b s0 s3 s11 s12 s13 s14 w K (fun a11 a13 w => F250_3 a11 a13 w K)

theorem ok250_5 {K : Value → World → Prop} {kn kr : Env → World → Prop} {ke : Nat → Env → World → Prop}
    (hn : ∀ e w, (fun e w => F250_3 (e 11) (e 13) w K) e w → kn e w) (hr : ∀ e w, endD Try.prog [.tmp 8, .tmp 9] K e w → kr e w) (he : ∀ i e w, noE i e w → ke i e w) :
    ∀ e w, F250_5 (e 0) (e 3) (e 11) (e 12) (e 13) (e 14) w K → denL Try.prog (tabOf T250) 63 fuel ((flat (thenC (nthC (flat (bodyOf Try.f250)) 7))).drop 2) e w kn kr ke := by
  intro e w h
  unfold F250_5 at h
  have e1 : ∀ (Y0 : Value → Value → World → Prop), F250_5b (e 0) (e 3) (e 11) (e 12) (e 13) (e 14) w K Y0 = denL Try.prog (tabOf T250) 63 fuel ((flat (thenC (nthC (flat (bodyOf Try.f250)) 7))).drop 2) e w (fun e w => Y0 (e 11) (e 13) w) (endD Try.prog [.tmp 8, .tmp 9] K) noE := by intro Y0; kernel_rfl
  exact seg_end (Eq.mp (e1 (fun a11 a13 w => F250_3 a11 a13 w K)) h) hn hr he

def F250_4b (s0 : Value) (s3 : Value) (s10 : Value) (s11 : Value) (s12 : Value) (s13 : Value) (s14 : Value) (w : World) (_K : Value → World → Prop) (Y0 : Value → Value → Value → Value → Value → Value → World → Prop) : Prop :=
bindP (bGe s10 (.int .i64 50)) fun v6 =>
ifB v6 (
callP G284 [s0, s12, s11, s3] w fun v8 w7 =>
callP G284 [s0, s13, s11, s3] w7 fun v10 w9 =>
callP G284 [s0, s14, s11, s3] w9 fun v12 w11 =>
Y0 s0 s3 s11 v8 v10 v12 w11) (
Y0 s0 s3 s11 s12 s13 s14 w)

def F250_4 (s0 : Value) (s3 : Value) (s10 : Value) (s11 : Value) (s12 : Value) (s13 : Value) (s14 : Value) (w : World) (K : Value → World → Prop) : Prop := F250_4b s0 s3 s10 s11 s12 s13 s14 w K (fun a0 a3 a11 a12 a13 a14 w => F250_5 a0 a3 a11 a12 a13 a14 w K)

theorem ok250_4 {K : Value → World → Prop} {kn kr : Env → World → Prop} {ke : Nat → Env → World → Prop}
    (hn : ∀ e w, (fun e w => F250_3 (e 11) (e 13) w K) e w → kn e w) (hr : ∀ e w, endD Try.prog [.tmp 8, .tmp 9] K e w → kr e w) (he : ∀ i e w, noE i e w → ke i e w) :
    ∀ e w, F250_4 (e 0) (e 3) (e 10) (e 11) (e 12) (e 13) (e 14) w K → denL Try.prog (tabOf T250) 63 fuel ((flat (thenC (nthC (flat (bodyOf Try.f250)) 7))).drop 0) e w kn kr ke := by
  intro e w h
  unfold F250_4 at h
  have e1 : ∀ (Y0 : Value → Value → Value → Value → Value → Value → World → Prop), F250_4b (e 0) (e 3) (e 10) (e 11) (e 12) (e 13) (e 14) w K Y0 = denL Try.prog (tabOf T250) 63 fuel (((flat (thenC (nthC (flat (bodyOf Try.f250)) 7))).drop 0).take 2) e w (fun e w => Y0 (e 0) (e 3) (e 11) (e 12) (e 13) (e 14) w) (endD Try.prog [.tmp 8, .tmp 9] K) noE := by intro Y0; kernel_rfl
  exact seg 2 (Eq.mp (e1 (fun a0 a3 a11 a12 a13 a14 w => F250_5 a0 a3 a11 a12 a13 a14 w K)) h) (fun e w h => ok250_5 hn hr he e w h) hr he

def F250_6b (s11 : Value) (s13 : Value) (w : World) (_K : Value → World → Prop) (Y0 : Value → Value → World → Prop) : Prop :=
Y0 s11 s13 w

def F250_6 (s11 : Value) (s13 : Value) (w : World) (K : Value → World → Prop) : Prop := F250_6b s11 s13 w K (fun a11 a13 w => F250_3 a11 a13 w K)

theorem ok250_6 {K : Value → World → Prop} {kn kr : Env → World → Prop} {ke : Nat → Env → World → Prop}
    (hn : ∀ e w, (fun e w => F250_3 (e 11) (e 13) w K) e w → kn e w) (hr : ∀ e w, endD Try.prog [.tmp 8, .tmp 9] K e w → kr e w) (he : ∀ i e w, noE i e w → ke i e w) :
    ∀ e w, F250_6 (e 11) (e 13) w K → denL Try.prog (tabOf T250) 63 fuel ((flat (elseC (nthC (flat (bodyOf Try.f250)) 7))).drop 0) e w kn kr ke := by
  intro e w h
  unfold F250_6 at h
  have e1 : ∀ (Y0 : Value → Value → World → Prop), F250_6b (e 11) (e 13) w K Y0 = denL Try.prog (tabOf T250) 63 fuel ((flat (elseC (nthC (flat (bodyOf Try.f250)) 7))).drop 0) e w (fun e w => Y0 (e 11) (e 13) w) (endD Try.prog [.tmp 8, .tmp 9] K) noE := by intro Y0; kernel_rfl
  exact seg_end (Eq.mp (e1 (fun a11 a13 w => F250_3 a11 a13 w K)) h) hn hr he

def F250_2 (s0 : Value) (s3 : Value) (s10 : Value) (s11 : Value) (s12 : Value) (s13 : Value) (s14 : Value) (s34 : Value) (w : World) (K : Value → World → Prop) : Prop := ifB s34 (F250_4 s0 s3 s10 s11 s12 s13 s14 w K) (F250_6 s11 s13 w K)

theorem ok250_2 {K : Value → World → Prop} {kn kr : Env → World → Prop} {ke : Nat → Env → World → Prop}
    (hn : ∀ e w, (fun e w => K (.tuple #[(e 8), (e 9)]) w) e w → kn e w) (hr : ∀ e w, endD Try.prog [.tmp 8, .tmp 9] K e w → kr e w) (he : ∀ i e w, noE i e w → ke i e w) :
    ∀ e w, F250_2 (e 0) (e 3) (e 10) (e 11) (e 12) (e 13) (e 14) (e 34) w K → denL Try.prog (tabOf T250) 63 fuel ((flat (bodyOf Try.f250)).drop 7) e w kn kr ke := by
  intro e w h
  unfold F250_2 at h
  refine seg_cond (c := (.tmp 34)) (a := thenC (nthC (flat (bodyOf Try.f250)) 7)) (b := elseC (nthC (flat (bodyOf Try.f250)) 7)) (l2 := (flat (bodyOf Try.f250)).drop 8) (by kernel_rfl) h (fun h => ?_) (fun h => ?_)
  · exact ok250_4 (fun e w h => ok250_3 hn hr he e w h) hr he e w h
  · exact ok250_6 (fun e w h => ok250_3 hn hr he e w h) hr he e w h

def F250_1b (s0 : Value) (s1 : Value) (s2 : Value) (s3 : Value) (w : World) (_K : Value → World → Prop) (Y0 : Value → Value → Value → Value → Value → Value → Value → Value → World → Prop) : Prop :=
bindP (bSub s2 s1) fun v13 =>
eAlloc Try.prog 3 w fun v15 w14 =>
bindP (bQuo v13 (.int .i64 4)) fun v16 =>
bindP (bMul v16 (.int .i64 1)) fun v17 =>
bindP (bAdd s1 v17) fun v18 =>
bindP (bQuo v13 (.int .i64 4)) fun v19 =>
bindP (bMul v19 (.int .i64 2)) fun v20 =>
bindP (bAdd s1 v20) fun v21 =>
bindP (bQuo v13 (.int .i64 4)) fun v22 =>
bindP (bMul v22 (.int .i64 3)) fun v23 =>
bindP (bAdd s1 v23) fun v24 =>
bindP (bGe v13 (.int .i64 8)) fun v25 =>
Y0 s0 s3 v13 v15 v18 v21 v24 v25 w14

def F250_1 (s0 : Value) (s1 : Value) (s2 : Value) (s3 : Value) (w : World) (K : Value → World → Prop) : Prop := F250_1b s0 s1 s2 s3 w K (fun a0 a3 a10 a11 a12 a13 a14 a34 w => F250_2 a0 a3 a10 a11 a12 a13 a14 a34 w K)

theorem ok250_1 {K : Value → World → Prop} {kn kr : Env → World → Prop} {ke : Nat → Env → World → Prop}
    (hn : ∀ e w, (fun e w => K (.tuple #[(e 8), (e 9)]) w) e w → kn e w) (hr : ∀ e w, endD Try.prog [.tmp 8, .tmp 9] K e w → kr e w) (he : ∀ i e w, noE i e w → ke i e w) :
    ∀ e w, F250_1 (e 0) (e 1) (e 2) (e 3) w K → denL Try.prog (tabOf T250) 63 fuel ((flat (bodyOf Try.f250)).drop 0) e w kn kr ke := by
  intro e w h
  unfold F250_1 at h
  have e1 : ∀ (Y0 : Value → Value → Value → Value → Value → Value → Value → Value → World → Prop), F250_1b (e 0) (e 1) (e 2) (e 3) w K Y0 = denL Try.prog (tabOf T250) 63 fuel (((flat (bodyOf Try.f250)).drop 0).take 7) e w (fun e w => Y0 (e 0) (e 3) (e 10) (e 11) (e 12) (e 13) (e 14) (e 34) w) (endD Try.prog [.tmp 8, .tmp 9] K) noE := by intro Y0; kernel_rfl
  exact seg 7 (Eq.mp (e1 (fun a0 a3 a10 a11 a12 a13 a14 a34 w => F250_2 a0 a3 a10 a11 a12 a13 a14 a34 w K)) h) (fun e w h => ok250_2 hn hr he e w h) hr he

def F250 (x0 : Value) (x1 : Value) (x2 : Value) (x3 : Value) (w : World) (K : Value → World → Prop) : Prop := F250_1 x0 x1 x2 x3 w K

def G250 : FnT := fun args w K => on4 (fun x0 x1 x2 x3 => F250 x0 x1 x2 x3 w K) args
theorem c250 {x0 x1 x2 x3 : Value} {w : World} {K : Value → World → Prop} (h : F250 x0 x1 x2 x3 w K) : callP G250 [x0, x1, x2, x3] w K := callP_intro h
theorem ok250 : OkF Try.prog 250 G250 := by
  refine okF_of (tab_ok (l := T250) ⟨ok284, ok285, trivial⟩) mixed (n := fuel) Try.func250 Try.call250 fun args w K h => ?_
  obtain ⟨x0, x1, x2, x3, rfl, hh⟩ := of_on4 h
  unfold F250 at hh
  exact fnD_list (c := bodyOf Try.f250) (by kernel_rfl) (by kernel_rfl) (ok250_1 (fun _ _ h => h) (fun _ _ h => h) (fun _ _ _ h => h) (initE [x0, x1, x2, x3]) w hh)

-- 251 slices.reverseRangeCmpFunc[gong/heap.Item]
def T251 : List (Nat × FnT) := []
def F251_2b (s0 : Value) (s8 : Value) (s9 : Value) (w : World) (K : Value → World → Prop) (Y0 : Value → Value → Value → World → Prop) : Prop :=
bindP (bLt s8 s9) fun v1 =>
ifB v1 (
bindP (pIndexL 2 s0 s9) fun v2 =>
bindP (ldN 2 v2 w.drew) fun v3 =>
bindP (pIndexL 2 s0 s8) fun v4 =>
bindP (ldN 2 v4 w.drew) fun v5 =>
bindP (pIndexL 2 s0 s8) fun v6 =>
bindW (st 2 v6 v3 w.drew) fun w7 =>
bindP (pIndexL 2 s0 s9) fun v9 =>
bindW (st 2 v9 v5 w7) fun w10 =>
bindP (bAdd s8 (.int .i64 1)) fun v12 =>
bindP (bSub s9 (.int .i64 1)) fun v13 =>
Y0 s0 v12 v13 w10) (
K (.tuple #[]) w)

def F251_2L : Nat → Value → Value → Value → World → (Value → World → Prop) → Prop
  | 0, _, _, _, _, _ => False
  | n + 1, s0, s8, s9, w, K => F251_2b s0 s8 s9 w K (fun a0 a8 a9 w => F251_2L n a0 a8 a9 w K)

def F251_2 (s0 : Value) (s8 : Value) (s9 : Value) (w : World) (K : Value → World → Prop) : Prop := F251_2L fuel s0 s8 s9 w K

theorem ok251_2 {K : Value → World → Prop} {kn kr : Env → World → Prop} {ke : Nat → Env → World → Prop}
    (hn : ∀ e w, (fun e w => K (.tuple #[]) w) e w → kn e w) (hr : ∀ e w, endD Try.prog [] K e w → kr e w) (he : ∀ i e w, noE i e w → ke i e w) :
    ∀ e w, F251_2 (e 0) (e 8) (e 9) w K → denL Try.prog (tabOf T251) 34 fuel ((flat (bodyOf Try.f251)).drop 2) e w kn kr ke := by
  intro e w h
  unfold F251_2 at h
  refine seg_loop (id := 0) (body := (loopB (blkB (nthC (flat (bodyOf Try.f251)) 2)))) (l2 := (flat (bodyOf Try.f251)).drop 3) (by kernel_rfl) ?_
  refine loop_ok (FL := fun m e w => F251_2L m (e 0) (e 8) (e 9) w K) (fr := endD Try.prog [] K) (fe := (blkK 0 (fun e w => K (.tuple #[]) w) noE)) (fun _ _ h => h) ?_ hr (blkK_mono hn he) fuel e w h
  intro m e w h
  have h : F251_2L (m + 1) (e 0) (e 8) (e 9) w K := h
  rw [F251_2L] at h
  have e1 : ∀ (Y0 : Value → Value → Value → World → Prop), F251_2b (e 0) (e 8) (e 9) w K Y0 = denL Try.prog (tabOf T251) 34 fuel (flat (loopB (blkB (nthC (flat (bodyOf Try.f251)) 2)))) e w (fun e w => Y0 (e 0) (e 8) (e 9) w) (endD Try.prog [] K) (blkK 0 (fun e w => K (.tuple #[]) w) noE) := by intro Y0; kernel_rfl
  exact Eq.mp (e1 (fun a0 a8 a9 w => F251_2L m a0 a8 a9 w K)) h

def F251_1b (s0 : Value) (s1 : Value) (s2 : Value) (w : World) (_K : Value → World → Prop) (Y0 : Value → Value → Value → World → Prop) : Prop :=
bindP (bSub s2 (.int .i64 1)) fun v14 =>
Y0 s0 s1 v14 w

def F251_1 (s0 : Value) (s1 : Value) (s2 : Value) (w : World) (K : Value → World → Prop) : Prop := F251_1b s0 s1 s2 w K (fun a0 a8 a9 w => F251_2 a0 a8 a9 w K)

theorem ok251_1 {K : Value → World → Prop} {kn kr : Env → World → Prop} {ke : Nat → Env → World → Prop}
    (hn : ∀ e w, (fun e w => K (.tuple #[]) w) e w → kn e w) (hr : ∀ e w, endD Try.prog [] K e w → kr e w) (he : ∀ i e w, noE i e w → ke i e w) :
    ∀ e w, F251_1 (e 0) (e 1) (e 2) w K → denL Try.prog (tabOf T251) 34 fuel ((flat (bodyOf Try.f251)).drop 0) e w kn kr ke := by
  intro e w h
  unfold F251_1 at h
  have e1 : ∀ (Y0 : Value → Value → Value → World → Prop), F251_1b (e 0) (e 1) (e 2) w K Y0 = denL Try.prog (tabOf T251) 34 fuel (((flat (bodyOf Try.f251)).drop 0).take 2) e w (fun e w => Y0 (e 0) (e 8) (e 9) w) (endD Try.prog [] K) noE := by intro Y0; kernel_rfl
  exact seg 2 (Eq.mp (e1 (fun a0 a8 a9 w => F251_2 a0 a8 a9 w K)) h) (fun e w h => ok251_2 hn hr he e w h) hr he

def F251 (x0 : Value) (x1 : Value) (x2 : Value) (_x3 : Value) (w : World) (K : Value → World → Prop) : Prop := F251_1 x0 x1 x2 w K

def G251 : FnT := fun args w K => on4 (fun x0 x1 x2 x3 => F251 x0 x1 x2 x3 w K) args
theorem c251 {x0 x1 x2 x3 : Value} {w : World} {K : Value → World → Prop} (h : F251 x0 x1 x2 x3 w K) : callP G251 [x0, x1, x2, x3] w K := callP_intro h
theorem ok251 : OkF Try.prog 251 G251 := by
  refine okF_of (tab_ok (l := T251) trivial) mixed (n := fuel) Try.func251 Try.call251 fun args w K h => ?_
  obtain ⟨x0, x1, x2, x3, rfl, hh⟩ := of_on4 h
  unfold F251 at hh
  exact fnD_list (c := bodyOf Try.f251) (by kernel_rfl) (by kernel_rfl) (ok251_1 (fun _ _ h => h) (fun _ _ h => h) (fun _ _ _ h => h) (initE [x0, x1, x2, x3]) w hh)

-- 252 slices.partialInsertionSortCmpFunc[gong/heap.Item]
def T252 : List (Nat × FnT) := [(150, G150)]
def F252_3b (w : World) (K : Value → World → Prop) : Prop :=
K (.bool false) w

def F252_3 (w : World) (K : Value → World → Prop) : Prop := F252_3b w K

theorem ok252_3 {K : Value → World → Prop} {kn kr : Env → World → Prop} {ke : Nat → Env → World → Prop}
    (hn : ∀ e w, (fun e w => K (e 8) w) e w → kn e w) (hr : ∀ e w, endD Try.prog [.tmp 8] K e w → kr e w) (he : ∀ i e w, noE i e w → ke i e w) :
    ∀ e w, F252_3 w K → denL Try.prog (tabOf T252) 141 fuel ((flat (bodyOf Try.f252)).drop 4) e w kn kr ke := by
  intro e w h
  unfold F252_3 at h
  have e1 : ∀ (_ : Unit), F252_3b w K = denL Try.prog (tabOf T252) 141 fuel ((flat (bodyOf Try.f252)).drop 4) e w (fun e w => K (e 8) w) (endD Try.prog [.tmp 8] K) noE := by intro _; kernel_rfl
  exact seg_end (Eq.mp (e1 ()) h) hn hr he

def F252_6b (s0 : Value) (s1 : Value) (s2 : Value) (s3 : Value) (s9 : Value) (s10 : Value) (w : World) (_K : Value → World → Prop) (R3 : Value → Value → Value → Value → Value → Value → World → Prop) : Prop :=
bindP (bAdd s10 (.int .i64 1)) fun v1 =>
R3 s0 s1 s2 s3 s9 v1 w

def F252_6 (s0 : Value) (s1 : Value) (s2 : Value) (s3 : Value) (s9 : Value) (s10 : Value) (w : World) (K : Value → World → Prop) (R3 : Value → Value → Value → Value → Value → Value → World → Prop) : Prop := F252_6b s0 s1 s2 s3 s9 s10 w K R3

theorem ok252_6 (R3 : Value → Value → Value → Value → Value → Value → World → Prop) {K : Value → World → Prop} {kn kr : Env → World → Prop} {ke : Nat → Env → World → Prop}
    (hn : ∀ e w, (fun e w => R3 (e 0) (e 1) (e 2) (e 3) (e 9) (e 10) w) e w → kn e w) (hr : ∀ e w, endD Try.prog [.tmp 8] K e w → kr e w) (he : ∀ i e w, (blkK 0 (fun e w => F252_3 w K) noE) i e w → ke i e w) :
    ∀ e w, F252_6 (e 0) (e 1) (e 2) (e 3) (e 9) (e 10) w K R3 → denL Try.prog (tabOf T252) 141 fuel ((flat (loopB (blkB (nthC (flat (bodyOf Try.f252)) 3)))).drop 3) e w kn kr ke := by
  intro e w h
  unfold F252_6 at h
  have e1 : ∀ (_ : Unit), F252_6b (e 0) (e 1) (e 2) (e 3) (e 9) (e 10) w K R3 = denL Try.prog (tabOf T252) 141 fuel ((flat (loopB (blkB (nthC (flat (bodyOf Try.f252)) 3)))).drop 3) e w (fun e w => R3 (e 0) (e 1) (e 2) (e 3) (e 9) (e 10) w) (endD Try.prog [.tmp 8] K) (blkK 0 (fun e w => F252_3 w K) noE) := by intro _; kernel_rfl
  exact seg_end (Eq.mp (e1 ()) h) hn hr he

def F252_13b (s0 : Value) (s1 : Value) (s2 : Value) (s3 : Value) (s9 : Value) (s10 : Value) (s12 : Value) (w : World) (_K : Value → World → Prop) (R3 : Value → Value → Value → Value → Value → Value → World → Prop) (Y0 : Value → Value → Value → Value → Value → Value → World → Prop) (Y1 : Value → Value → Value → Value → Value → Value → Value → World → Prop) : Prop :=
bindP (bLt s12 s2) fun v2 =>
ifB v2 (
bindP (pIndexL 2 s0 s12) fun v3 =>
bindP (ldN 2 v3 w.drew) fun v4 =>
bindP (bSub s12 (.int .i64 1)) fun v5 =>
bindP (pIndexL 2 s0 v5) fun v6 =>
bindP (ldN 2 v6 w.drew) fun v7 =>
eCallV (tabOf T252) s3 [v4, v7] w.drew fun v9 w8 =>
bindP (bLt v9 (.int .i64 0)) fun v10 =>
bindP (uNot v10) fun v11 =>
ifB v11 (
Y0 s0 s1 s2 s3 s9 s10 w8) (
bindP (bSub s12 (.int .i64 1)) fun v12 =>
bindP (bSub s12 (.int .i64 1)) fun v13 =>
bindP (pIndexL 2 s0 v13) fun v14 =>
bindP (ldN 2 v14 w8.drew) fun v15 =>
bindP (pIndexL 2 s0 s12) fun v16 =>
bindP (ldN 2 v16 w8.drew) fun v17 =>
bindP (pIndexL 2 s0 s12) fun v18 =>
bindW (st 2 v18 v15 w8.drew) fun w19 =>
bindP (pIndexL 2 s0 v12) fun v21 =>
bindW (st 2 v21 v17 w19) fun w22 =>
bindP (bAdd s12 (.int .i64 1)) fun v24 =>
Y1 s0 s1 s2 s3 s9 s10 v24 w22)) (
Y0 s0 s1 s2 s3 s9 s10 w)

def F252_13L : Nat → Value → Value → Value → Value → Value → Value → Value → World → (Value → World → Prop) → (Value → Value → Value → Value → Value → Value → World → Prop) → Prop
  | 0, _, _, _, _, _, _, _, _, _, _ => False
  | n + 1, s0, s1, s2, s3, s9, s10, s12, w, K, R3 => F252_13b s0 s1 s2 s3 s9 s10 s12 w K R3 (fun a0 a1 a2 a3 a9 a10 w => F252_6 a0 a1 a2 a3 a9 a10 w K R3) (fun a0 a1 a2 a3 a9 a10 a12 w => F252_13L n a0 a1 a2 a3 a9 a10 a12 w K R3)

def F252_13 (s0 : Value) (s1 : Value) (s2 : Value) (s3 : Value) (s9 : Value) (s10 : Value) (s12 : Value) (w : World) (K : Value → World → Prop) (R3 : Value → Value → Value → Value → Value → Value → World → Prop) : Prop := F252_13L fuel s0 s1 s2 s3 s9 s10 s12 w K R3

theorem ok252_13 (R3 : Value → Value → Value → Value → Value → Value → World → Prop) {K : Value → World → Prop} {kn kr : Env → World → Prop} {ke : Nat → Env → World → Prop}
    (hn : ∀ e w, (fun e w => F252_6 (e 0) (e 1) (e 2) (e 3) (e 9) (e 10) w K R3) e w → kn e w) (hr : ∀ e w, endD Try.prog [.tmp 8] K e w → kr e w) (he : ∀ i e w, (blkK 1 (fun e w => F252_6 (e 0) (e 1) (e 2) (e 3) (e 9) (e 10) w K R3) (blkK 0 (fun e w => F252_3 w K) noE)) i e w → ke i e w) :
    ∀ e w, F252_13 (e 0) (e 1) (e 2) (e 3) (e 9) (e 10) (e 12) w K R3 → denL Try.prog (tabOf T252) 141 fuel ((flat (thenC (nthC (flat (blkB (nthC (flat (loopB (blkB (nthC (flat (bodyOf Try.f252)) 3)))) 2))) 9))).drop 1) e w kn kr ke := by
  intro e w h
  unfold F252_13 at h
  refine seg_loop (id := 6) (body := (loopB (blkB (nthC (flat (thenC (nthC (flat (blkB (nthC (flat (loopB (blkB (nthC (flat (bodyOf Try.f252)) 3)))) 2))) 9))) 1)))) (l2 := (flat (thenC (nthC (flat (blkB (nthC (flat (loopB (blkB (nthC (flat (bodyOf Try.f252)) 3)))) 2))) 9))).drop 2) (by kernel_rfl) ?_
  refine loop_ok (FL := fun m e w => F252_13L m (e 0) (e 1) (e 2) (e 3) (e 9) (e 10) (e 12) w K R3) (fr := endD Try.prog [.tmp 8] K) (fe := (blkK 6 (fun e w => F252_6 (e 0) (e 1) (e 2) (e 3) (e 9) (e 10) w K R3) (blkK 1 (fun e w => F252_6 (e 0) (e 1) (e 2) (e 3) (e 9) (e 10) w K R3) (blkK 0 (fun e w => F252_3 w K) noE)))) (fun _ _ h => h) ?_ hr (blkK_mono hn he) fuel e w h
  intro m e w h
  have h : F252_13L (m + 1) (e 0) (e 1) (e 2) (e 3) (e 9) (e 10) (e 12) w K R3 := h
  rw [F252_13L] at h
  have e1 : ∀ (Y0 : Value → Value → Value → Value → Value → Value → World → Prop) (Y1 : Value → Value → Value → Value → Value → Value → Value → World → Prop), F252_13b (e 0) (e 1) (e 2) (e 3) (e 9) (e 10) (e 12) w K R3 Y0 Y1 = denL Try.prog (tabOf T252) 141 fuel (flat (loopB (blkB (nthC (flat (thenC (nthC (flat (blkB (nthC (flat (loopB (blkB (nthC (flat (bodyOf Try.f252)) 3)))) 2))) 9))) 1)))) e w (fun e w => Y1 (e 0) (e 1) (e 2) (e 3) (e 9) (e 10) (e 12) w) (endD Try.prog [.tmp 8] K) (blkK 6 (fun e w => Y0 (e 0) (e 1) (e 2) (e 3) (e 9) (e 10) w) (blkK 1 (fun e w => Y0 (e 0) (e 1) (e 2) (e 3) (e 9) (e 10) w) (blkK 0 (fun e w => F252_3 w K) noE))) := by intro Y0 Y1; kernel_rfl
  exact Eq.mp (e1 (fun a0 a1 a2 a3 a9 a10 w => F252_6 a0 a1 a2 a3 a9 a10 w K R3) (fun a0 a1 a2 a3 a9 a10 a12 w => F252_13L m a0 a1 a2 a3 a9 a10 a12 w K R3)) h

def F252_12b (s0 : Value) (s1 : Value) (s2 : Value) (s3 : Value) (s9 : Value) (s10 : Value) (w : World) (_K : Value → World → Prop) (R3 : Value → Value → Value → Value → Value → Value → World → Prop) (Y0 : Value → Value → Value → Value → Value → Value → Value → World → Prop) : Prop :=
bindP (bAdd s9 (.int .i64 1)) fun v25 =>
Y0 s0 s1 s2 s3 s9 s10 v25 w

def F252_12 (s0 : Value) (s1 : Value) (s2 : Value) (s3 : Value) (s9 : Value) (s10 : Value) (w : World) (K : Value → World → Prop) (R3 : Value → Value → Value → Value → Value → Value → World → Prop) : Prop := F252_12b s0 s1 s2 s3 s9 s10 w K R3 (fun a0 a1 a2 a3 a9 a10 a12 w => F252_13 a0 a1 a2 a3 a9 a10 a12 w K R3)

theorem ok252_12 (R3 : Value → Value → Value → Value → Value → Value → World → Prop) {K : Value → World → Prop} {kn kr : Env → World → Prop} {ke : Nat → Env → World → Prop}
    (hn : ∀ e w, (fun e w => F252_6 (e 0) (e 1) (e 2) (e 3) (e 9) (e 10) w K R3) e w → kn e w) (hr : ∀ e w, endD Try.prog [.tmp 8] K e w → kr e w) (he : ∀ i e w, (blkK 1 (fun e w => F252_6 (e 0) (e 1) (e 2) (e 3) (e 9) (e 10) w K R3) (blkK 0 (fun e w => F252_3 w K) noE)) i e w → ke i e w) :
    ∀ e w, F252_12 (e 0) (e 1) (e 2) (e 3) (e 9) (e 10) w K R3 → denL Try.prog (tabOf T252) 141 fuel ((flat (thenC (nthC (flat (blkB (nthC (flat (loopB (blkB (nthC (flat (bodyOf Try.f252)) 3)))) 2))) 9))).drop 0) e w kn kr ke := by
  intro e w h
  unfold F252_12 at h
  have e1 : ∀ (Y0 : Value → Value → Value → Value → Value → Value → Value → World → Prop), F252_12b (e 0) (e 1) (e 2) (e 3) (e 9) (e 10) w K R3 Y0 = denL Try.prog (tabOf T252) 141 fuel (((flat (thenC (nthC (flat (blkB (nthC (flat (loopB (blkB (nthC (flat (bodyOf Try.f252)) 3)))) 2))) 9))).drop 0).take 1) e w (fun e w => Y0 (e 0) (e 1) (e 2) (e 3) (e 9) (e 10) (e 12) w) (endD Try.prog [.tmp 8] K) (blkK 1 (fun e w => F252_6 (e 0) (e 1) (e 2) (e 3) (e 9) (e 10) w K R3) (blkK 0 (fun e w => F252_3 w K) noE)) := by intro Y0; kernel_rfl
  exact seg 1 (Eq.mp (e1 (fun a0 a1 a2 a3 a9 a10 a12 w => F252_13 a0 a1 a2 a3 a9 a10 a12 w K R3)) h) (fun e w h => ok252_13 R3 hn hr he e w h) hr he

def F252_14b (s0 : Value) (s1 : Value) (s2 : Value) (s3 : Value) (s9 : Value) (s10 : Value) (w : World) (_K : Value → World → Prop) (R3 : Value → Value → Value → Value → Value → Value → World → Prop) (Y0 : Value → Value → Value → Value → Value → Value → World → Prop) : Prop :=
Y0 s0 s1 s2 s3 s9 s10 w

def F252_14 (s0 : Value) (s1 : Value) (s2 : Value) (s3 : Value) (s9 : Value) (s10 : Value) (w : World) (K : Value → World → Prop) (R3 : Value → Value → Value → Value → Value → Value → World → Prop) : Prop := F252_14b s0 s1 s2 s3 s9 s10 w K R3 (fun a0 a1 a2 a3 a9 a10 w => F252_6 a0 a1 a2 a3 a9 a10 w K R3)

theorem ok252_14 (R3 : Value → Value → Value → Value → Value → Value → World → Prop) {K : Value → World → Prop} {kn kr : Env → World → Prop} {ke : Nat → Env → World → Prop}
    (hn : ∀ e w, (fun e w => F252_6 (e 0) (e 1) (e 2) (e 3) (e 9) (e 10) w K R3) e w → kn e w) (hr : ∀ e w, endD Try.prog [.tmp 8] K e w → kr e w) (he : ∀ i e w, (blkK 1 (fun e w => F252_6 (e 0) (e 1) (e 2) (e 3) (e 9) (e 10) w K R3) (blkK 0 (fun e w => F252_3 w K) noE)) i e w → ke i e w) :
    ∀ e w, F252_14 (e 0) (e 1) (e 2) (e 3) (e 9) (e 10) w K R3 → denL Try.prog (tabOf T252) 141 fuel ((flat (elseC (nthC (flat (blkB (nthC (flat (loopB (blkB (nthC (flat (bodyOf Try.f252)) 3)))) 2))) 9))).drop 0) e w kn kr ke := by
  intro e w h
  unfold F252_14 at h
  have e1 : ∀ (Y0 : Value → Value → Value → Value → Value → Value → World → Prop), F252_14b (e 0) (e 1) (e 2) (e 3) (e 9) (e 10) w K R3 Y0 = denL Try.prog (tabOf T252) 141 fuel ((flat (elseC (nthC (flat (blkB (nthC (flat (loopB (blkB (nthC (flat (bodyOf Try.f252)) 3)))) 2))) 9))).drop 0) e w (fun e w => Y0 (e 0) (e 1) (e 2) (e 3) (e 9) (e 10) w) (endD Try.prog [.tmp 8] K) (blkK 1 (fun e w => Y0 (e 0) (e 1) (e 2) (e 3) (e 9) (e 10) w) (blkK 0 (fun e w => F252_3 w K) noE)) := by intro Y0; kernel_rfl
  exact seg_end (Eq.mp (e1 (fun a0 a1 a2 a3 a9 a10 w => F252_6 a0 a1 a2 a3 a9 a10 w K R3)) h) hn hr he

def F252_11 (s0 : Value) (s1 : Value) (s2 : Value) (s3 : Value) (s9 : Value) (s10 : Value) (s104 : Value) (w : World) (K : Value → World → Prop) (R3 : Value → Value → Value → Value → Value → Value → World → Prop) : Prop := ifB s104 (F252_12 s0 s1 s2 s3 s9 s10 w K R3) (F252_14 s0 s1 s2 s3 s9 s10 w K R3)

theorem ok252_11 (R3 : Value → Value → Value → Value → Value → Value → World → Prop) {K : Value → World → Prop} {kn kr : Env → World → Prop} {ke : Nat → Env → World → Prop}
    (hn : ∀ e w, (fun e w => F252_6 (e 0) (e 1) (e 2) (e 3) (e 9) (e 10) w K R3) e w → kn e w) (hr : ∀ e w, endD Try.prog [.tmp 8] K e w → kr e w) (he : ∀ i e w, (blkK 1 (fun e w => F252_6 (e 0) (e 1) (e 2) (e 3) (e 9) (e 10) w K R3) (blkK 0 (fun e w => F252_3 w K) noE)) i e w → ke i e w) :
    ∀ e w, F252_11 (e 0) (e 1) (e 2) (e 3) (e 9) (e 10) (e 104) w K R3 → denL Try.prog (tabOf T252) 141 fuel ((flat (blkB (nthC (flat (loopB (blkB (nthC (flat (bodyOf Try.f252)) 3)))) 2))).drop 9) e w kn kr ke := by
  intro e w h
  unfold F252_11 at h
  refine seg_cond (c := (.tmp 104)) (a := thenC (nthC (flat (blkB (nthC (flat (loopB (blkB (nthC (flat (bodyOf Try.f252)) 3)))) 2))) 9)) (b := elseC (nthC (flat (blkB (nthC (flat (loopB (blkB (nthC (flat (bodyOf Try.f252)) 3)))) 2))) 9)) (l2 := (flat (blkB (nthC (flat (loopB (blkB (nthC (flat (bodyOf Try.f252)) 3)))) 2))).drop 10) (by kernel_rfl) h (fun h => ?_) (fun h => ?_)
  · exact ok252_12 R3 hn hr he e w h
  · exact ok252_14 R3 hn hr he e w h

def F252_10b (s0 : Value) (s1 : Value) (s2 : Value) (s3 : Value) (s9 : Value) (s10 : Value) (w : World) (_K : Value → World → Prop) (R3 : Value → Value → Value → Value → Value → Value → World → Prop) (Y0 : Value → Value → Value → Value → Value → Value → Value → World → Prop) : Prop :=
bindP (bSub s2 s9) fun v26 =>
bindP (bGe v26 (.int .i64 2)) fun v27 =>
Y0 s0 s1 s2 s3 s9 s10 v27 w

def F252_10 (s0 : Value) (s1 : Value) (s2 : Value) (s3 : Value) (s9 : Value) (s10 : Value) (w : World) (K : Value → World → Prop) (R3 : Value → Value → Value → Value → Value → Value → World → Prop) : Prop := F252_10b s0 s1 s2 s3 s9 s10 w K R3 (fun a0 a1 a2 a3 a9 a10 a104 w => F252_11 a0 a1 a2 a3 a9 a10 a104 w K R3)

theorem ok252_10 (R3 : Value → Value → Value → Value → Value → Value → World → Prop) {K : Value → World → Prop} {kn kr : Env → World → Prop} {ke : Nat → Env → World → Prop}
    (hn : ∀ e w, (fun e w => F252_6 (e 0) (e 1) (e 2) (e 3) (e 9) (e 10) w K R3) e w → kn e w) (hr : ∀ e w, endD Try.prog [.tmp 8] K e w → kr e w) (he : ∀ i e w, (blkK 1 (fun e w => F252_6 (e 0) (e 1) (e 2) (e 3) (e 9) (e 10) w K R3) (blkK 0 (fun e w => F252_3 w K) noE)) i e w → ke i e w) :
    ∀ e w, F252_10 (e 0) (e 1) (e 2) (e 3) (e 9) (e 10) w K R3 → denL Try.prog (tabOf T252) 141 fuel ((flat (blkB (nthC (flat (loopB (blkB (nthC (flat (bodyOf Try.f252)) 3)))) 2))).drop 8) e w kn kr ke := by
  intro e w h
  unfold F252_10 at h
  have e1 : ∀ (Y0 : Value → Value → Value → Value → Value → Value → Value → World → Prop), F252_10b (e 0) (e 1) (e 2) (e 3) (e 9) (e 10) w K R3 Y0 = denL Try.prog (tabOf T252) 141 fuel (((flat (blkB (nthC (flat (loopB (blkB (nthC (flat (bodyOf Try.f252)) 3)))) 2))).drop 8).take 1) e w (fun e w => Y0 (e 0) (e 1) (e 2) (e 3) (e 9) (e 10) (e 104) w) (endD Try.prog [.tmp 8] K) (blkK 1 (fun e w => F252_6 (e 0) (e 1) (e 2) (e 3) (e 9) (e 10) w K R3) (blkK 0 (fun e w => F252_3 w K) noE)) := by intro Y0; kernel_rfl
  exact seg 1 (Eq.mp (e1 (fun a0 a1 a2 a3 a9 a10 a104 w => F252_11 a0 a1 a2 a3 a9 a10 a104 w K R3)) h) (fun e w h => ok252_11 R3 hn hr he e w h) hr he

def F252_16b (s0 : Value) (s1 : Value) (s2 : Value) (s3 : Value) (s9 : Value) (s10 : Value) (s11 : Value) (w : World) (_K : Value → World → Prop) (R3 : Value → Value → Value → Value → Value → Value → World → Prop) (Y0 : Value → Value → Value → Value → Value → Value → World → Prop) (Y1 : Value → Value → Value → Value → Value → Value → Value → World → Prop) : Prop :=
bindP (bGe s11 (.int .i64 1)) fun v28 =>
ifB v28 (
bindP (pIndexL 2 s0 s11) fun v29 =>
bindP (ldN 2 v29 w.drew) fun v30 =>
bindP (bSub s11 (.int .i64 1)) fun v31 =>
bindP (pIndexL 2 s0 v31) fun v32 =>
bindP (ldN 2 v32 w.drew) fun v33 =>
eCallV (tabOf T252) s3 [v30, v33] w.drew fun v35 w34 =>
bindP (bLt v35 (.int .i64 0)) fun v36 =>
bindP (uNot v36) fun v37 =>
ifB v37 (
Y0 s0 s1 s2 s3 s9 s10 w34) (
bindP (bSub s11 (.int .i64 1)) fun v38 =>
bindP (bSub s11 (.int .i64 1)) fun v39 =>
bindP (pIndexL 2 s0 v39) fun v40 =>
bindP (ldN 2 v40 w34.drew) fun v41 =>
bindP (pIndexL 2 s0 s11) fun v42 =>
bindP (ldN 2 v42 w34.drew) fun v43 =>
bindP (pIndexL 2 s0 s11) fun v44 =>
bindW (st 2 v44 v41 w34.drew) fun w45 =>
bindP (pIndexL 2 s0 v38) fun v47 =>
bindW (st 2 v47 v43 w45) fun w48 =>
bindP (bSub s11 (.int .i64 1)) fun v50 =>
Y1 s0 s1 s2 s3 s9 s10 v50 w48)) (
Y0 s0 s1 s2 s3 s9 s10 w)

def F252_16L : Nat → Value → Value → Value → Value → Value → Value → Value → World → (Value → World → Prop) → (Value → Value → Value → Value → Value → Value → World → Prop) → Prop
  | 0, _, _, _, _, _, _, _, _, _, _ => False
  | n + 1, s0, s1, s2, s3, s9, s10, s11, w, K, R3 => F252_16b s0 s1 s2 s3 s9 s10 s11 w K R3 (fun a0 a1 a2 a3 a9 a10 w => F252_10 a0 a1 a2 a3 a9 a10 w K R3) (fun a0 a1 a2 a3 a9 a10 a11 w => F252_16L n a0 a1 a2 a3 a9 a10 a11 w K R3)

def F252_16 (s0 : Value) (s1 : Value) (s2 : Value) (s3 : Value) (s9 : Value) (s10 : Value) (s11 : Value) (w : World) (K : Value → World → Prop) (R3 : Value → Value → Value → Value → Value → Value → World → Prop) : Prop := F252_16L fuel s0 s1 s2 s3 s9 s10 s11 w K R3

theorem ok252_16 (R3 : Value → Value → Value → Value → Value → Value → World → Prop) {K : Value → World → Prop} {kn kr : Env → World → Prop} {ke : Nat → Env → World → Prop}
    (hn : ∀ e w, (fun e w => F252_10 (e 0) (e 1) (e 2) (e 3) (e 9) (e 10) w K R3) e w → kn e w) (hr : ∀ e w, endD Try.prog [.tmp 8] K e w → kr e w) (he : ∀ i e w, (blkK 1 (fun e w => F252_6 (e 0) (e 1) (e 2) (e 3) (e 9) (e 10) w K R3) (blkK 0 (fun e w => F252_3 w K) noE)) i e w → ke i e w) :
    ∀ e w, F252_16 (e 0) (e 1) (e 2) (e 3) (e 9) (e 10) (e 11) w K R3 → denL Try.prog (tabOf T252) 141 fuel ((flat (thenC (nthC (flat (blkB (nthC (flat (loopB (blkB (nthC (flat (bodyOf Try.f252)) 3)))) 2))) 7))).drop 1) e w kn kr ke := by
  intro e w h
  unfold F252_16 at h
  refine seg_loop (id := 4) (body := (loopB (blkB (nthC (flat (thenC (nthC (flat (blkB (nthC (flat (loopB (blkB (nthC (flat (bodyOf Try.f252)) 3)))) 2))) 7))) 1)))) (l2 := (flat (thenC (nthC (flat (blkB (nthC (flat (loopB (blkB (nthC (flat (bodyOf Try.f252)) 3)))) 2))) 7))).drop 2) (by kernel_rfl) ?_
  refine loop_ok (FL := fun m e w => F252_16L m (e 0) (e 1) (e 2) (e 3) (e 9) (e 10) (e 11) w K R3) (fr := endD Try.prog [.tmp 8] K) (fe := (blkK 4 (fun e w => F252_10 (e 0) (e 1) (e 2) (e 3) (e 9) (e 10) w K R3) (blkK 1 (fun e w => F252_6 (e 0) (e 1) (e 2) (e 3) (e 9) (e 10) w K R3) (blkK 0 (fun e w => F252_3 w K) noE)))) (fun _ _ h => h) ?_ hr (blkK_mono hn he) fuel e w h
  intro m e w h
  have h : F252_16L (m + 1) (e 0) (e 1) (e 2) (e 3) (e 9) (e 10) (e 11) w K R3 := h
  rw [F252_16L] at h
  have e1 : ∀ (Y0 : Value → Value → Value → Value → Value → Value → World → Prop) (Y1 : Value → Value → Value → Value → Value → Value → Value → World → Prop), F252_16b (e 0) (e 1) (e 2) (e 3) (e 9) (e 10) (e 11) w K R3 Y0 Y1 = denL Try.prog (tabOf T252) 141 fuel (flat (loopB (blkB (nthC (flat (thenC (nthC (flat (blkB (nthC (flat (loopB (blkB (nthC (flat (bodyOf Try.f252)) 3)))) 2))) 7))) 1)))) e w (fun e w => Y1 (e 0) (e 1) (e 2) (e 3) (e 9) (e 10) (e 11) w) (endD Try.prog [.tmp 8] K) (blkK 4 (fun e w => Y0 (e 0) (e 1) (e 2) (e 3) (e 9) (e 10) w) (blkK 1 (fun e w => F252_6 (e 0) (e 1) (e 2) (e 3) (e 9) (e 10) w K R3) (blkK 0 (fun e w => F252_3 w K) noE))) := by intro Y0 Y1; kernel_rfl
  exact Eq.mp (e1 (fun a0 a1 a2 a3 a9 a10 w => F252_10 a0 a1 a2 a3 a9 a10 w K R3) (fun a0 a1 a2 a3 a9 a10 a11 w => F252_16L m a0 a1 a2 a3 a9 a10 a11 w K R3)) h

def F252_15b (s0 : Value) (s1 : Value) (s2 : Value) (s3 : Value) (s9 : Value) (s10 : Value) (w : World) (_K : Value → World → Prop) (R3 : Value → Value → Value → Value → Value → Value → World → Prop) (Y0 : Value → Value → Value → Value → Value → Value → Value → World → Prop) : Prop :=
bindP (bSub s9 (.int .i64 1)) fun v51 =>
Y0 s0 s1 s2 s3 s9 s10 v51 w

def F252_15 (s0 : Value) (s1 : Value) (s2 : Value) (s3 : Value) (s9 : Value) (s10 : Value) (w : World) (K : Value → World → Prop) (R3 : Value → Value → Value → Value → Value → Value → World → Prop) : Prop := F252_15b s0 s1 s2 s3 s9 s10 w K R3 (fun a0 a1 a2 a3 a9 a10 a11 w => F252_16 a0 a1 a2 a3 a9 a10 a11 w K R3)

theorem ok252_15 (R3 : Value → Value → Value → Value → Value → Value → World → Prop) {K : Value → World → Prop} {kn kr : Env → World → Prop} {ke : Nat → Env → World → Prop}
    (hn : ∀ e w, (fun e w => F252_10 (e 0) (e 1) (e 2) (e 3) (e 9) (e 10) w K R3) e w → kn e w) (hr : ∀ e w, endD Try.prog [.tmp 8] K e w → kr e w) (he : ∀ i e w, (blkK 1 (fun e w => F252_6 (e 0) (e 1) (e 2) (e 3) (e 9) (e 10) w K R3) (blkK 0 (fun e w => F252_3 w K) noE)) i e w → ke i e w) :
    ∀ e w, F252_15 (e 0) (e 1) (e 2) (e 3) (e 9) (e 10) w K R3 → denL Try.prog (tabOf T252) 141 fuel ((flat (thenC (nthC (flat (blkB (nthC (flat (loopB (blkB (nthC (flat (bodyOf Try.f252)) 3)))) 2))) 7))).drop 0) e w kn kr ke := by
  intro e w h
  unfold F252_15 at h
  have e1 : ∀ (Y0 : Value → Value → Value → Value → Value → Value → Value → World → Prop), F252_15b (e 0) (e 1) (e 2) (e 3) (e 9) (e 10) w K R3 Y0 = denL Try.prog (tabOf T252) 141 fuel (((flat (thenC (nthC (flat (blkB (nthC (flat (loopB (blkB (nthC (flat (bodyOf Try.f252)) 3)))) 2))) 7))).drop 0).take 1) e w (fun e w => Y0 (e 0) (e 1) (e 2) (e 3) (e 9) (e 10) (e 11) w) (endD Try.prog [.tmp 8] K) (blkK 1 (fun e w => F252_6 (e 0) (e 1) (e 2) (e 3) (e 9) (e 10) w K R3) (blkK 0 (fun e w => F252_3 w K) noE)) := by intro Y0; kernel_rfl
  exact seg 1 (Eq.mp (e1 (fun a0 a1 a2 a3 a9 a10 a11 w => F252_16 a0 a1 a2 a3 a9 a10 a11 w K R3)) h) (fun e w h => ok252_16 R3 hn hr he e w h) hr he

def F252_17b (s0 : Value) (s1 : Value) (s2 : Value) (s3 : Value) (s9 : Value) (s10 : Value) (w : World) (_K : Value → World → Prop) (R3 : Value → Value → Value → Value → Value → Value → World → Prop) (Y0 : Value → Value → Value → Value → Value → Value → World → Prop) : Prop :=
Y0 s0 s1 s2 s3 s9 s10 w

def F252_17 (s0 : Value) (s1 : Value) (s2 : Value) (s3 : Value) (s9 : Value) (s10 : Value) (w : World) (K : Value → World → Prop) (R3 : Value → Value → Value → Value → Value → Value → World → Prop) : Prop := F252_17b s0 s1 s2 s3 s9 s10 w K R3 (fun a0 a1 a2 a3 a9 a10 w => F252_10 a0 a1 a2 a3 a9 a10 w K R3)

theorem ok252_17 (R3 : Value → Value → Value → Value → Value → Value → World → Prop) {K : Value → World → Prop} {kn kr : Env → World → Prop} {ke : Nat → Env → World → Prop}
    (hn : ∀ e w, (fun e w => F252_10 (e 0) (e 1) (e 2) (e 3) (e 9) (e 10) w K R3) e w → kn e w) (hr : ∀ e w, endD Try.prog [.tmp 8] K e w → kr e w) (he : ∀ i e w, (blkK 1 (fun e w => F252_6 (e 0) (e 1) (e 2) (e 3) (e 9) (e 10) w K R3) (blkK 0 (fun e w => F252_3 w K) noE)) i e w → ke i e w) :
    ∀ e w, F252_17 (e 0) (e 1) (e 2) (e 3) (e 9) (e 10) w K R3 → denL Try.prog (tabOf T252) 141 fuel ((flat (elseC (nthC (flat (blkB (nthC (flat (loopB (blkB (nthC (flat (bodyOf Try.f252)) 3)))) 2))) 7))).drop 0) e w kn kr ke := by
  intro e w h
  unfold F252_17 at h
  have e1 : ∀ (Y0 : Value → Value → Value → Value → Value → Value → World → Prop), F252_17b (e 0) (e 1) (e 2) (e 3) (e 9) (e 10) w K R3 Y0 = denL Try.prog (tabOf T252) 141 fuel ((flat (elseC (nthC (flat (blkB (nthC (flat (loopB (blkB (nthC (flat (bodyOf Try.f252)) 3)))) 2))) 7))).drop 0) e w (fun e w => Y0 (e 0) (e 1) (e 2) (e 3) (e 9) (e 10) w) (endD Try.prog [.tmp 8] K) (blkK 1 (fun e w => F252_6 (e 0) (e 1) (e 2) (e 3) (e 9) (e 10) w K R3) (blkK 0 (fun e w => F252_3 w K) noE)) := by intro Y0; kernel_rfl
  exact seg_end (Eq.mp (e1 (fun a0 a1 a2 a3 a9 a10 w => F252_10 a0 a1 a2 a3 a9 a10 w K R3)) h) hn hr he

def F252_9 (s0 : Value) (s1 : Value) (s2 : Value) (s3 : Value) (s9 : Value) (s10 : Value) (s65 : Value) (w : World) (K : Value → World → Prop) (R3 : Value → Value → Value → Value → Value → Value → World → Prop) : Prop := ifB s65 (F252_15 s0 s1 s2 s3 s9 s10 w K R3) (F252_17 s0 s1 s2 s3 s9 s10 w K R3)

theorem ok252_9 (R3 : Value → Value → Value → Value → Value → Value → World → Prop) {K : Value → World → Prop} {kn kr : Env → World → Prop} {ke : Nat → Env → World → Prop}
    (hn : ∀ e w, (fun e w => F252_6 (e 0) (e 1) (e 2) (e 3) (e 9) (e 10) w K R3) e w → kn e w) (hr : ∀ e w, endD Try.prog [.tmp 8] K e w → kr e w) (he : ∀ i e w, (blkK 1 (fun e w => F252_6 (e 0) (e 1) (e 2) (e 3) (e 9) (e 10) w K R3) (blkK 0 (fun e w => F252_3 w K) noE)) i e w → ke i e w) :
    ∀ e w, F252_9 (e 0) (e 1) (e 2) (e 3) (e 9) (e 10) (e 65) w K R3 → denL Try.prog (tabOf T252) 141 fuel ((flat (blkB (nthC (flat (loopB (blkB (nthC (flat (bodyOf Try.f252)) 3)))) 2))).drop 7) e w kn kr ke := by
  intro e w h
  unfold F252_9 at h
  refine seg_cond (c := (.tmp 65)) (a := thenC (nthC (flat (blkB (nthC (flat (loopB (blkB (nthC (flat (bodyOf Try.f252)) 3)))) 2))) 7)) (b := elseC (nthC (flat (blkB (nthC (flat (loopB (blkB (nthC (flat (bodyOf Try.f252)) 3)))) 2))) 7)) (l2 := (flat (blkB (nthC (flat (loopB (blkB (nthC (flat (bodyOf Try.f252)) 3)))) 2))).drop 8) (by kernel_rfl) h (fun h => ?_) (fun h => ?_)
  · exact ok252_15 R3 (fun e w h => ok252_10 R3 hn hr he e w h) hr he e w h
  · exact ok252_17 R3 (fun e w h => ok252_10 R3 hn hr he e w h) hr he e w h

def F252_8b (s0 : Value) (s1 : Value) (s2 : Value) (s3 : Value) (s9 : Value) (s10 : Value) (w : World) (K : Value → World → Prop) (R3 : Value → Value → Value → Value → Value → Value → World → Prop) (Y0 : Value → Value → Value → Value → Value → Value → Value → World → Prop) : Prop :=
bindP (bEq Try.prog 3 (.tmp 39) (.tmp 40) s9 s2) fun v52 =>
ifB v52 (
K (.bool true) w) (
bindP (bSub s2 s1) fun v53 =>
bindP (bLt v53 (.int .i64 50)) fun v54 =>
ifB v54 (
K (.bool false) w) (
bindP (bSub s9 (.int .i64 1)) fun v55 =>
bindP (bSub s9 (.int .i64 1)) fun v56 =>
bindP (pIndexL 2 s0 v56) fun v57 =>
bindP (ldN 2 v57 w.drew) fun v58 =>
bindP (pIndexL 2 s0 s9) fun v59 =>
bindP (ldN 2 v59 w.drew) fun v60 =>
bindP (pIndexL 2 s0 s9) fun v61 =>
bindW (st 2 v61 v58 w.drew) fun w62 =>
bindP (pIndexL 2 s0 v55) fun v64 =>
bindW (st 2 v64 v60 w62) fun w65 =>
bindP (bSub s9 s1) fun v67 =>
bindP (bGe v67 (.int .i64 2)) fun v68 =>
Y0 s0 s1 s2 s3 s9 s10 v68 w65))

def F252_8 (s0 : Value) (s1 : Value) (s2 : Value) (s3 : Value) (s9 : Value) (s10 : Value) (w : World) (K : Value → World → Prop) (R3 : Value → Value → Value → Value → Value → Value → World → Prop) : Prop := F252_8b s0 s1 s2 s3 s9 s10 w K R3 (fun a0 a1 a2 a3 a9 a10 a65 w => F252_9 a0 a1 a2 a3 a9 a10 a65 w K R3)

theorem ok252_8 (R3 : Value → Value → Value → Value → Value → Value → World → Prop) {K : Value → World → Prop} {kn kr : Env → World → Prop} {ke : Nat → Env → World → Prop}
    (hn : ∀ e w, (fun e w => F252_6 (e 0) (e 1) (e 2) (e 3) (e 9) (e 10) w K R3) e w → kn e w) (hr : ∀ e w, endD Try.prog [.tmp 8] K e w → kr e w) (he : ∀ i e w, (blkK 1 (fun e w => F252_6 (e 0) (e 1) (e 2) (e 3) (e 9) (e 10) w K R3) (blkK 0 (fun e w => F252_3 w K) noE)) i e w → ke i e w) :
    ∀ e w, F252_8 (e 0) (e 1) (e 2) (e 3) (e 9) (e 10) w K R3 → denL Try.prog (tabOf T252) 141 fuel ((flat (blkB (nthC (flat (loopB (blkB (nthC (flat (bodyOf Try.f252)) 3)))) 2))).drop 1) e w kn kr ke := by
  intro e w h
  unfold F252_8 at h
  have e1 : ∀ (Y0 : Value → Value → Value → Value → Value → Value → Value → World → Prop), F252_8b (e 0) (e 1) (e 2) (e 3) (e 9) (e 10) w K R3 Y0 = denL Try.prog (tabOf T252) 141 fuel (((flat (blkB (nthC (flat (loopB (blkB (nthC (flat (bodyOf Try.f252)) 3)))) 2))).drop 1).take 6) e w (fun e w => Y0 (e 0) (e 1) (e 2) (e 3) (e 9) (e 10) (e 65) w) (endD Try.prog [.tmp 8] K) (blkK 1 (fun e w => F252_6 (e 0) (e 1) (e 2) (e 3) (e 9) (e 10) w K R3) (blkK 0 (fun e w => F252_3 w K) noE)) := by intro Y0; kernel_rfl
  exact seg 6 (Eq.mp (e1 (fun a0 a1 a2 a3 a9 a10 a65 w => F252_9 a0 a1 a2 a3 a9 a10 a65 w K R3)) h) (fun e w h => ok252_9 R3 hn hr he e w h) hr he

def F252_7b (s0 : Value) (s1 : Value) (s2 : Value) (s3 : Value) (s9 : Value) (s10 : Value) (w : World) (_K : Value → World → Prop) (R3 : Value → Value → Value → Value → Value → Value → World → Prop) (Y0 : Value → Value → Value → Value → Value → Value → World → Prop) (Y1 : Value → Value → Value → Value → Value → Value → World → Prop) : Prop :=
bindP (bLt s9 s2) fun v69 =>
stepM (gd true v69) s3 fun v70 =>
stepM (gd true v69) s0 fun v71 =>
stepM (gd true v69) s9 fun v72 =>
Sx.stepG (gd true v69) (pIndexL 2 v71 v72) fun v73 =>
Sx.stepG (gd true v69) (ldN 2 v73 w.drew) fun v74 =>
stepM (gd true v69) s0 fun v75 =>
stepM (gd true v69) s9 fun v76 =>
Sx.stepG (gd true v69) (bSub v76 (.int .i64 1)) fun v77 =>
Sx.stepG (gd true v69) (pIndexL 2 v75 v77) fun v78 =>
Sx.stepG (gd true v69) (ldN 2 v78 w.drew) fun v79 =>
stepE (gd true v69) (fun k => eCallV (tabOf T252) v70 [v74, v79] w.drew k) w.drew fun v81 w80 =>
Sx.stepG (gd true v69) (bLt v81 (.int .i64 0)) fun v82 =>
Sx.stepG (gd true v69) (uNot v82) fun v83 =>
bindP (pPick v69 v83 (.bool false)) fun v84 =>
ifB v84 (
bindP (bAdd s9 (.int .i64 1)) fun v85 =>
Y0 s0 s1 s2 s3 v85 s10 w80) (
Y1 s0 s1 s2 s3 s9 s10 w80)

def F252_7L : Nat → Value → Value → Value → Value → Value → Value → World → (Value → World → Prop) → (Value → Value → Value → Value → Value → Value → World → Prop) → Prop
  | 0, _, _, _, _, _, _, _, _, _ => False
  | n + 1, s0, s1, s2, s3, s9, s10, w, K, R3 => F252_7b s0 s1 s2 s3 s9 s10 w K R3 (fun a0 a1 a2 a3 a9 a10 w => F252_7L n a0 a1 a2 a3 a9 a10 w K R3) (fun a0 a1 a2 a3 a9 a10 w => F252_8 a0 a1 a2 a3 a9 a10 w K R3)

def F252_7 (s0 : Value) (s1 : Value) (s2 : Value) (s3 : Value) (s9 : Value) (s10 : Value) (w : World) (K : Value → World → Prop) (R3 : Value → Value → Value → Value → Value → Value → World → Prop) : Prop := F252_7L fuel s0 s1 s2 s3 s9 s10 w K R3

theorem ok252_7 (R3 : Value → Value → Value → Value → Value → Value → World → Prop) {K : Value → World → Prop} {kn kr : Env → World → Prop} {ke : Nat → Env → World → Prop}
    (hn : ∀ e w, (fun e w => F252_6 (e 0) (e 1) (e 2) (e 3) (e 9) (e 10) w K R3) e w → kn e w) (hr : ∀ e w, endD Try.prog [.tmp 8] K e w → kr e w) (he : ∀ i e w, (blkK 1 (fun e w => F252_6 (e 0) (e 1) (e 2) (e 3) (e 9) (e 10) w K R3) (blkK 0 (fun e w => F252_3 w K) noE)) i e w → ke i e w) :
    ∀ e w, F252_7 (e 0) (e 1) (e 2) (e 3) (e 9) (e 10) w K R3 → denL Try.prog (tabOf T252) 141 fuel ((flat (blkB (nthC (flat (loopB (blkB (nthC (flat (bodyOf Try.f252)) 3)))) 2))).drop 0) e w kn kr ke := by
  intro e w h
  unfold F252_7 at h
  refine seg_loop (id := 2) (body := (loopB (blkB (nthC (flat (blkB (nthC (flat (loopB (blkB (nthC (flat (bodyOf Try.f252)) 3)))) 2))) 0)))) (l2 := (flat (blkB (nthC (flat (loopB (blkB (nthC (flat (bodyOf Try.f252)) 3)))) 2))).drop 1) (by kernel_rfl) ?_
  refine loop_ok (FL := fun m e w => F252_7L m (e 0) (e 1) (e 2) (e 3) (e 9) (e 10) w K R3) (fr := endD Try.prog [.tmp 8] K) (fe := (blkK 2 (fun e w => F252_8 (e 0) (e 1) (e 2) (e 3) (e 9) (e 10) w K R3) (blkK 1 (fun e w => F252_6 (e 0) (e 1) (e 2) (e 3) (e 9) (e 10) w K R3) (blkK 0 (fun e w => F252_3 w K) noE)))) (fun _ _ h => h) ?_ hr (blkK_mono (fun e w h => ok252_8 R3 hn hr he e w h) he) fuel e w h
  intro m e w h
  have h : F252_7L (m + 1) (e 0) (e 1) (e 2) (e 3) (e 9) (e 10) w K R3 := h
  rw [F252_7L] at h
  have e1 : ∀ (Y0 : Value → Value → Value → Value → Value → Value → World → Prop) (Y1 : Value → Value → Value → Value → Value → Value → World → Prop), F252_7b (e 0) (e 1) (e 2) (e 3) (e 9) (e 10) w K R3 Y0 Y1 = denL Try.prog (tabOf T252) 141 fuel (flat (loopB (blkB (nthC (flat (blkB (nthC (flat (loopB (blkB (nthC (flat (bodyOf Try.f252)) 3)))) 2))) 0)))) e w (fun e w => Y0 (e 0) (e 1) (e 2) (e 3) (e 9) (e 10) w) (endD Try.prog [.tmp 8] K) (blkK 2 (fun e w => Y1 (e 0) (e 1) (e 2) (e 3) (e 9) (e 10) w) (blkK 1 (fun e w => F252_6 (e 0) (e 1) (e 2) (e 3) (e 9) (e 10) w K R3) (blkK 0 (fun e w => F252_3 w K) noE))) := by intro Y0 Y1; kernel_rfl
  exact Eq.mp (e1 (fun a0 a1 a2 a3 a9 a10 w => F252_7L m a0 a1 a2 a3 a9 a10 w K R3) (fun a0 a1 a2 a3 a9 a10 w => F252_8 a0 a1 a2 a3 a9 a10 w K R3)) h

def F252_5 (s0 : Value) (s1 : Value) (s2 : Value) (s3 : Value) (s9 : Value) (s10 : Value) (w : World) (K : Value → World → Prop) (R3 : Value → Value → Value → Value → Value → Value → World → Prop) : Prop := F252_7 s0 s1 s2 s3 s9 s10 w K R3

theorem ok252_5 (R3 : Value → Value → Value → Value → Value → Value → World → Prop) {K : Value → World → Prop} {kn kr : Env → World → Prop} {ke : Nat → Env → World → Prop}
    (hn : ∀ e w, (fun e w => R3 (e 0) (e 1) (e 2) (e 3) (e 9) (e 10) w) e w → kn e w) (hr : ∀ e w, endD Try.prog [.tmp 8] K e w → kr e w) (he : ∀ i e w, (blkK 0 (fun e w => F252_3 w K) noE) i e w → ke i e w) :
    ∀ e w, F252_5 (e 0) (e 1) (e 2) (e 3) (e 9) (e 10) w K R3 → denL Try.prog (tabOf T252) 141 fuel ((flat (loopB (blkB (nthC (flat (bodyOf Try.f252)) 3)))).drop 2) e w kn kr ke := by
  intro e w h
  unfold F252_5 at h
  refine seg_block (id := 1) (body := (blkB (nthC (flat (loopB (blkB (nthC (flat (bodyOf Try.f252)) 3)))) 2))) (l2 := (flat (loopB (blkB (nthC (flat (bodyOf Try.f252)) 3)))).drop 3) (by kernel_rfl) ?_
  exact ok252_7 R3 (fun e w h => ok252_6 R3 hn hr he e w h) hr (blkK_mono (fun e w h => ok252_6 R3 hn hr he e w h) he) e w h

def F252_4b (s0 : Value) (s1 : Value) (s2 : Value) (s3 : Value) (s9 : Value) (s10 : Value) (w : World) (_K : Value → World → Prop) (R3 : Value → Value → Value → Value → Value → Value → World → Prop) (Y0 : Value → Value → Value → Value → Value → Value → World → Prop) (Y1 : World → Prop) : Prop :=
bindP (bLt s10 (.int .i64 5)) fun v86 =>
ifB v86 (
Y0 s0 s1 s2 s3 s9 s10 w) (
Y1 w)

def F252_4 (s0 : Value) (s1 : Value) (s2 : Value) (s3 : Value) (s9 : Value) (s10 : Value) (w : World) (K : Value → World → Prop) (R3 : Value → Value → Value → Value → Value → Value → World → Prop) : Prop := F252_4b s0 s1 s2 s3 s9 s10 w K R3 (fun a0 a1 a2 a3 a9 a10 w => F252_5 a0 a1 a2 a3 a9 a10 w K R3) (fun w => F252_3 w K)

theorem ok252_4 (R3 : Value → Value → Value → Value → Value → Value → World → Prop) {K : Value → World → Prop} {kn kr : Env → World → Prop} {ke : Nat → Env → World → Prop}
    (hn : ∀ e w, (fun e w => R3 (e 0) (e 1) (e 2) (e 3) (e 9) (e 10) w) e w → kn e w) (hr : ∀ e w, endD Try.prog [.tmp 8] K e w → kr e w) (he : ∀ i e w, (blkK 0 (fun e w => F252_3 w K) noE) i e w → ke i e w) :
    ∀ e w, F252_4 (e 0) (e 1) (e 2) (e 3) (e 9) (e 10) w K R3 → denL Try.prog (tabOf T252) 141 fuel ((flat (loopB (blkB (nthC (flat (bodyOf Try.f252)) 3)))).drop 0) e w kn kr ke := by
  intro e w h
  unfold F252_4 at h
  have e1 : ∀ (Y0 : Value → Value → Value → Value → Value → Value → World → Prop) (Y1 : World → Prop), F252_4b (e 0) (e 1) (e 2) (e 3) (e 9) (e 10) w K R3 Y0 Y1 = denL Try.prog (tabOf T252) 141 fuel (((flat (loopB (blkB (nthC (flat (bodyOf Try.f252)) 3)))).drop 0).take 2) e w (fun e w => Y0 (e 0) (e 1) (e 2) (e 3) (e 9) (e 10) w) (endD Try.prog [.tmp 8] K) (blkK 0 (fun e w => Y1 w) noE) := by intro Y0 Y1; kernel_rfl
  exact seg 2 (Eq.mp (e1 (fun a0 a1 a2 a3 a9 a10 w => F252_5 a0 a1 a2 a3 a9 a10 w K R3) (fun w => F252_3 w K)) h) (fun e w h => ok252_5 R3 hn hr he e w h) hr he

def F252_2L : Nat → Value → Value → Value → Value → Value → Value → World → (Value → World → Prop) → Prop
  | 0, _, _, _, _, _, _, _, _ => False
  | n + 1, s0, s1, s2, s3, s9, s10, w, K => F252_4 s0 s1 s2 s3 s9 s10 w K (fun a0 a1 a2 a3 a9 a10 w => F252_2L n a0 a1 a2 a3 a9 a10 w K)

def F252_2 (s0 : Value) (s1 : Value) (s2 : Value) (s3 : Value) (s9 : Value) (s10 : Value) (w : World) (K : Value → World → Prop) : Prop := F252_2L fuel s0 s1 s2 s3 s9 s10 w K

theorem ok252_2 {K : Value → World → Prop} {kn kr : Env → World → Prop} {ke : Nat → Env → World → Prop}
    (hn : ∀ e w, (fun e w => K (e 8) w) e w → kn e w) (hr : ∀ e w, endD Try.prog [.tmp 8] K e w → kr e w) (he : ∀ i e w, noE i e w → ke i e w) :
    ∀ e w, F252_2 (e 0) (e 1) (e 2) (e 3) (e 9) (e 10) w K → denL Try.prog (tabOf T252) 141 fuel ((flat (bodyOf Try.f252)).drop 3) e w kn kr ke := by
  intro e w h
  unfold F252_2 at h
  refine seg_loop (id := 0) (body := (loopB (blkB (nthC (flat (bodyOf Try.f252)) 3)))) (l2 := (flat (bodyOf Try.f252)).drop 4) (by kernel_rfl) ?_
  refine loop_ok (FL := fun m e w => F252_2L m (e 0) (e 1) (e 2) (e 3) (e 9) (e 10) w K) (fr := endD Try.prog [.tmp 8] K) (fe := (blkK 0 (fun e w => F252_3 w K) noE)) (fun _ _ h => h) ?_ hr (blkK_mono (fun e w h => ok252_3 hn hr he e w h) he) fuel e w h
  intro m e w h
  have h : F252_2L (m + 1) (e 0) (e 1) (e 2) (e 3) (e 9) (e 10) w K := h
  rw [F252_2L] at h
  exact ok252_4 (fun a0 a1 a2 a3 a9 a10 w => F252_2L m a0 a1 a2 a3 a9 a10 w K) (fun _ _ h => h) (fun _ _ h => h) (fun _ _ _ h => h) e w h

def F252_1b (s0 : Value) (s1 : Value) (s2 : Value) (s3 : Value) (w : World) (_K : Value → World → Prop) (Y0 : Value → Value → Value → Value → Value → Value → World → Prop) : Prop :=
bindP (bAdd s1 (.int .i64 1)) fun v87 =>
Y0 s0 s1 s2 s3 v87 (.int .i64 0) w

def F252_1 (s0 : Value) (s1 : Value) (s2 : Value) (s3 : Value) (w : World) (K : Value → World → Prop) : Prop := F252_1b s0 s1 s2 s3 w K (fun a0 a1 a2 a3 a9 a10 w => F252_2 a0 a1 a2 a3 a9 a10 w K)

theorem ok252_1 {K : Value → World → Prop} {kn kr : Env → World → Prop} {ke : Nat → Env → World → Prop}
    (hn : ∀ e w, (fun e w => K (e 8) w) e w → kn e w) (hr : ∀ e w, endD Try.prog [.tmp 8] K e w → kr e w) (he : ∀ i e w, noE i e w → ke i e w) :
    ∀ e w, F252_1 (e 0) (e 1) (e 2) (e 3) w K → denL Try.prog (tabOf T252) 141 fuel ((flat (bodyOf Try.f252)).drop 0) e w kn kr ke := by
  intro e w h
  unfold F252_1 at h
  have e1 : ∀ (Y0 : Value → Value → Value → Value → Value → Value → World → Prop), F252_1b (e 0) (e 1) (e 2) (e 3) w K Y0 = denL Try.prog (tabOf T252) 141 fuel (((flat (bodyOf Try.f252)).drop 0).take 3) e w (fun e w => Y0 (e 0) (e 1) (e 2) (e 3) (e 9) (e 10) w) (endD Try.prog [.tmp 8] K) noE := by intro Y0; kernel_rfl
  exact seg 3 (Eq.mp (e1 (fun a0 a1 a2 a3 a9 a10 w => F252_2 a0 a1 a2 a3 a9 a10 w K)) h) (fun e w h => ok252_2 hn hr he e w h) hr he

def F252 (x0 : Value) (x1 : Value) (x2 : Value) (x3 : Value) (w : World) (K : Value → World → Prop) : Prop := F252_1 x0 x1 x2 x3 w K

def G252 : FnT := fun args w K => on4 (fun x0 x1 x2 x3 => F252 x0 x1 x2 x3 w K) args
theorem c252 {x0 x1 x2 x3 : Value} {w : World} {K : Value → World → Prop} (h : F252 x0 x1 x2 x3 w K) : callP G252 [x0, x1, x2, x3] w K := callP_intro h
theorem ok252 : OkF Try.prog 252 G252 := by
  refine okF_of (tab_ok (l := T252) ⟨ok150, trivial⟩) mixed (n := fuel) Try.func252 Try.call252 fun args w K h => ?_
  obtain ⟨x0, x1, x2, x3, rfl, hh⟩ := of_on4 h
  unfold F252 at hh
  exact fnD_list (c := bodyOf Try.f252) (by kernel_rfl) (by kernel_rfl) (ok252_1 (fun _ _ h => h) (fun _ _ h => h) (fun _ _ _ h => h) (initE [x0, x1, x2, x3]) w hh)

-- 253 slices.partitionEqualCmpFunc[gong/heap.Item]
def T253 : List (Nat × FnT) := [(150, G150)]
def F253_3b (s11 : Value) (w : World) (K : Value → World → Prop) : Prop :=
K s11 w

def F253_3 (s11 : Value) (w : World) (K : Value → World → Prop) : Prop := F253_3b s11 w K

theorem ok253_3 {K : Value → World → Prop} {kn kr : Env → World → Prop} {ke : Nat → Env → World → Prop}
    (hn : ∀ e w, (fun e w => K (e 10) w) e w → kn e w) (hr : ∀ e w, endD Try.prog [.tmp 10] K e w → kr e w) (he : ∀ i e w, noE i e w → ke i e w) :
    ∀ e w, F253_3 (e 11) w K → denL Try.prog (tabOf T253) 90 fuel ((flat (bodyOf Try.f253)).drop 4) e w kn kr ke := by
  intro e w h
  unfold F253_3 at h
  have e1 : ∀ (_ : Unit), F253_3b (e 11) w K = denL Try.prog (tabOf T253) 90 fuel ((flat (bodyOf Try.f253)).drop 4) e w (fun e w => K (e 10) w) (endD Try.prog [.tmp 10] K) noE := by intro _; kernel_rfl
  exact seg_end (Eq.mp (e1 ()) h) hn hr he

def F253_7b (s0 : Value) (s1 : Value) (s4 : Value) (s11 : Value) (s12 : Value) (w : World) (_K : Value → World → Prop) (R3 : Value → Value → Value → Value → Value → World → Prop) (Y0 : Value → World → Prop) : Prop :=
bindP (bGt s11 s12) fun v1 =>
ifB v1 (
Y0 s11 w) (
bindP (pIndexL 2 s0 s12) fun v2 =>
bindP (ldN 2 v2 w.drew) fun v3 =>
bindP (pIndexL 2 s0 s11) fun v4 =>
bindP (ldN 2 v4 w.drew) fun v5 =>
bindP (pIndexL 2 s0 s11) fun v6 =>
bindW (st 2 v6 v3 w.drew) fun w7 =>
bindP (pIndexL 2 s0 s12) fun v9 =>
bindW (st 2 v9 v5 w7) fun w10 =>
bindP (bAdd s11 (.int .i64 1)) fun v12 =>
bindP (bSub s12 (.int .i64 1)) fun v13 =>
R3 s0 s1 s4 v12 v13 w10)

def F253_7 (s0 : Value) (s1 : Value) (s4 : Value) (s11 : Value) (s12 : Value) (w : World) (K : Value → World → Prop) (R3 : Value → Value → Value → Value → Value → World → Prop) : Prop := F253_7b s0 s1 s4 s11 s12 w K R3 (fun a11 w => F253_3 a11 w K)

theorem ok253_7 (R3 : Value → Value → Value → Value → Value → World → Prop) {K : Value → World → Prop} {kn kr : Env → World → Prop} {ke : Nat → Env → World → Prop}
    (hn : ∀ e w, (fun e w => R3 (e 0) (e 1) (e 4) (e 11) (e 12) w) e w → kn e w) (hr : ∀ e w, endD Try.prog [.tmp 10] K e w → kr e w) (he : ∀ i e w, (blkK 1 (fun e w => R3 (e 0) (e 1) (e 4) (e 11) (e 12) w) (blkK 0 (fun e w => F253_3 (e 11) w K) noE)) i e w → ke i e w) :
    ∀ e w, F253_7 (e 0) (e 1) (e 4) (e 11) (e 12) w K R3 → denL Try.prog (tabOf T253) 90 fuel ((flat (blkB (nthC (flat (loopB (blkB (nthC (flat (bodyOf Try.f253)) 3)))) 0))).drop 2) e w kn kr ke := by
  intro e w h
  unfold F253_7 at h
  have e1 : ∀ (Y0 : Value → World → Prop), F253_7b (e 0) (e 1) (e 4) (e 11) (e 12) w K R3 Y0 = denL Try.prog (tabOf T253) 90 fuel ((flat (blkB (nthC (flat (loopB (blkB (nthC (flat (bodyOf Try.f253)) 3)))) 0))).drop 2) e w (fun e w => R3 (e 0) (e 1) (e 4) (e 11) (e 12) w) (endD Try.prog [.tmp 10] K) (blkK 1 (fun e w => R3 (e 0) (e 1) (e 4) (e 11) (e 12) w) (blkK 0 (fun e w => Y0 (e 11) w) noE)) := by intro Y0; kernel_rfl
  exact seg_end (Eq.mp (e1 (fun a11 w => F253_3 a11 w K)) h) hn hr he

def F253_6b (s0 : Value) (s1 : Value) (s4 : Value) (s11 : Value) (s12 : Value) (w : World) (_K : Value → World → Prop) (R3 : Value → Value → Value → Value → Value → World → Prop) (Y0 : Value → Value → Value → Value → Value → World → Prop) (Y1 : Value → Value → Value → Value → Value → World → Prop) : Prop :=
bindP (bLe s11 s12) fun v14 =>
stepM (gd true v14) s4 fun v15 =>
stepM (gd true v14) s0 fun v16 =>
stepM (gd true v14) s1 fun v17 =>
Sx.stepG (gd true v14) (pIndexL 2 v16 v17) fun v18 =>
Sx.stepG (gd true v14) (ldN 2 v18 w.drew) fun v19 =>
stepM (gd true v14) s0 fun v20 =>
stepM (gd true v14) s12 fun v21 =>
Sx.stepG (gd true v14) (pIndexL 2 v20 v21) fun v22 =>
Sx.stepG (gd true v14) (ldN 2 v22 w.drew) fun v23 =>
stepE (gd true v14) (fun k => eCallV (tabOf T253) v15 [v19, v23] w.drew k) w.drew fun v25 w24 =>
Sx.stepG (gd true v14) (bLt v25 (.int .i64 0)) fun v26 =>
bindP (pPick v14 v26 (.bool false)) fun v27 =>
ifB v27 (
bindP (bSub s12 (.int .i64 1)) fun v28 =>
Y0 s0 s1 s4 s11 v28 w24) (
Y1 s0 s1 s4 s11 s12 w24)

def F253_6L : Nat → Value → Value → Value → Value → Value → World → (Value → World → Prop) → (Value → Value → Value → Value → Value → World → Prop) → Prop
  | 0, _, _, _, _, _, _, _, _ => False
  | n + 1, s0, s1, s4, s11, s12, w, K, R3 => F253_6b s0 s1 s4 s11 s12 w K R3 (fun a0 a1 a4 a11 a12 w => F253_6L n a0 a1 a4 a11 a12 w K R3) (fun a0 a1 a4 a11 a12 w => F253_7 a0 a1 a4 a11 a12 w K R3)

def F253_6 (s0 : Value) (s1 : Value) (s4 : Value) (s11 : Value) (s12 : Value) (w : World) (K : Value → World → Prop) (R3 : Value → Value → Value → Value → Value → World → Prop) : Prop := F253_6L fuel s0 s1 s4 s11 s12 w K R3

theorem ok253_6 (R3 : Value → Value → Value → Value → Value → World → Prop) {K : Value → World → Prop} {kn kr : Env → World → Prop} {ke : Nat → Env → World → Prop}
    (hn : ∀ e w, (fun e w => R3 (e 0) (e 1) (e 4) (e 11) (e 12) w) e w → kn e w) (hr : ∀ e w, endD Try.prog [.tmp 10] K e w → kr e w) (he : ∀ i e w, (blkK 1 (fun e w => R3 (e 0) (e 1) (e 4) (e 11) (e 12) w) (blkK 0 (fun e w => F253_3 (e 11) w K) noE)) i e w → ke i e w) :
    ∀ e w, F253_6 (e 0) (e 1) (e 4) (e 11) (e 12) w K R3 → denL Try.prog (tabOf T253) 90 fuel ((flat (blkB (nthC (flat (loopB (blkB (nthC (flat (bodyOf Try.f253)) 3)))) 0))).drop 1) e w kn kr ke := by
  intro e w h
  unfold F253_6 at h
  refine seg_loop (id := 4) (body := (loopB (blkB (nthC (flat (blkB (nthC (flat (loopB (blkB (nthC (flat (bodyOf Try.f253)) 3)))) 0))) 1)))) (l2 := (flat (blkB (nthC (flat (loopB (blkB (nthC (flat (bodyOf Try.f253)) 3)))) 0))).drop 2) (by kernel_rfl) ?_
  refine loop_ok (FL := fun m e w => F253_6L m (e 0) (e 1) (e 4) (e 11) (e 12) w K R3) (fr := endD Try.prog [.tmp 10] K) (fe := (blkK 4 (fun e w => F253_7 (e 0) (e 1) (e 4) (e 11) (e 12) w K R3) (blkK 1 (fun e w => R3 (e 0) (e 1) (e 4) (e 11) (e 12) w) (blkK 0 (fun e w => F253_3 (e 11) w K) noE)))) (fun _ _ h => h) ?_ hr (blkK_mono (fun e w h => ok253_7 R3 hn hr he e w h) he) fuel e w h
  intro m e w h
  have h : F253_6L (m + 1) (e 0) (e 1) (e 4) (e 11) (e 12) w K R3 := h
  rw [F253_6L] at h
  have e1 : ∀ (Y0 : Value → Value → Value → Value → Value → World → Prop) (Y1 : Value → Value → Value → Value → Value → World → Prop), F253_6b (e 0) (e 1) (e 4) (e 11) (e 12) w K R3 Y0 Y1 = denL Try.prog (tabOf T253) 90 fuel (flat (loopB (blkB (nthC (flat (blkB (nthC (flat (loopB (blkB (nthC (flat (bodyOf Try.f253)) 3)))) 0))) 1)))) e w (fun e w => Y0 (e 0) (e 1) (e 4) (e 11) (e 12) w) (endD Try.prog [.tmp 10] K) (blkK 4 (fun e w => Y1 (e 0) (e 1) (e 4) (e 11) (e 12) w) (blkK 1 (fun e w => R3 (e 0) (e 1) (e 4) (e 11) (e 12) w) (blkK 0 (fun e w => F253_3 (e 11) w K) noE))) := by intro Y0 Y1; kernel_rfl
  exact Eq.mp (e1 (fun a0 a1 a4 a11 a12 w => F253_6L m a0 a1 a4 a11 a12 w K R3) (fun a0 a1 a4 a11 a12 w => F253_7 a0 a1 a4 a11 a12 w K R3)) h

def F253_5b (s0 : Value) (s1 : Value) (s4 : Value) (s11 : Value) (s12 : Value) (w : World) (_K : Value → World → Prop) (R3 : Value → Value → Value → Value → Value → World → Prop) (Y0 : Value → Value → Value → Value → Value → World → Prop) (Y1 : Value → Value → Value → Value → Value → World → Prop) : Prop :=
bindP (bLe s11 s12) fun v29 =>
stepM (gd true v29) s4 fun v30 =>
stepM (gd true v29) s0 fun v31 =>
stepM (gd true v29) s1 fun v32 =>
Sx.stepG (gd true v29) (pIndexL 2 v31 v32) fun v33 =>
Sx.stepG (gd true v29) (ldN 2 v33 w.drew) fun v34 =>
stepM (gd true v29) s0 fun v35 =>
stepM (gd true v29) s11 fun v36 =>
Sx.stepG (gd true v29) (pIndexL 2 v35 v36) fun v37 =>
Sx.stepG (gd true v29) (ldN 2 v37 w.drew) fun v38 =>
stepE (gd true v29) (fun k => eCallV (tabOf T253) v30 [v34, v38] w.drew k) w.drew fun v40 w39 =>
Sx.stepG (gd true v29) (bLt v40 (.int .i64 0)) fun v41 =>
Sx.stepG (gd true v29) (uNot v41) fun v42 =>
bindP (pPick v29 v42 (.bool false)) fun v43 =>
ifB v43 (
bindP (bAdd s11 (.int .i64 1)) fun v44 =>
Y0 s0 s1 s4 v44 s12 w39) (
Y1 s0 s1 s4 s11 s12 w39)

def F253_5L : Nat → Value → Value → Value → Value → Value → World → (Value → World → Prop) → (Value → Value → Value → Value → Value → World → Prop) → Prop
  | 0, _, _, _, _, _, _, _, _ => False
  | n + 1, s0, s1, s4, s11, s12, w, K, R3 => F253_5b s0 s1 s4 s11 s12 w K R3 (fun a0 a1 a4 a11 a12 w => F253_5L n a0 a1 a4 a11 a12 w K R3) (fun a0 a1 a4 a11 a12 w => F253_6 a0 a1 a4 a11 a12 w K R3)

def F253_5 (s0 : Value) (s1 : Value) (s4 : Value) (s11 : Value) (s12 : Value) (w : World) (K : Value → World → Prop) (R3 : Value → Value → Value → Value → Value → World → Prop) : Prop := F253_5L fuel s0 s1 s4 s11 s12 w K R3

theorem ok253_5 (R3 : Value → Value → Value → Value → Value → World → Prop) {K : Value → World → Prop} {kn kr : Env → World → Prop} {ke : Nat → Env → World → Prop}
    (hn : ∀ e w, (fun e w => R3 (e 0) (e 1) (e 4) (e 11) (e 12) w) e w → kn e w) (hr : ∀ e w, endD Try.prog [.tmp 10] K e w → kr e w) (he : ∀ i e w, (blkK 1 (fun e w => R3 (e 0) (e 1) (e 4) (e 11) (e 12) w) (blkK 0 (fun e w => F253_3 (e 11) w K) noE)) i e w → ke i e w) :
    ∀ e w, F253_5 (e 0) (e 1) (e 4) (e 11) (e 12) w K R3 → denL Try.prog (tabOf T253) 90 fuel ((flat (blkB (nthC (flat (loopB (blkB (nthC (flat (bodyOf Try.f253)) 3)))) 0))).drop 0) e w kn kr ke := by
  intro e w h
  unfold F253_5 at h
  refine seg_loop (id := 2) (body := (loopB (blkB (nthC (flat (blkB (nthC (flat (loopB (blkB (nthC (flat (bodyOf Try.f253)) 3)))) 0))) 0)))) (l2 := (flat (blkB (nthC (flat (loopB (blkB (nthC (flat (bodyOf Try.f253)) 3)))) 0))).drop 1) (by kernel_rfl) ?_
  refine loop_ok (FL := fun m e w => F253_5L m (e 0) (e 1) (e 4) (e 11) (e 12) w K R3) (fr := endD Try.prog [.tmp 10] K) (fe := (blkK 2 (fun e w => F253_6 (e 0) (e 1) (e 4) (e 11) (e 12) w K R3) (blkK 1 (fun e w => R3 (e 0) (e 1) (e 4) (e 11) (e 12) w) (blkK 0 (fun e w => F253_3 (e 11) w K) noE)))) (fun _ _ h => h) ?_ hr (blkK_mono (fun e w h => ok253_6 R3 hn hr he e w h) he) fuel e w h
  intro m e w h
  have h : F253_5L (m + 1) (e 0) (e 1) (e 4) (e 11) (e 12) w K R3 := h
  rw [F253_5L] at h
  have e1 : ∀ (Y0 : Value → Value → Value → Value → Value → World → Prop) (Y1 : Value → Value → Value → Value → Value → World → Prop), F253_5b (e 0) (e 1) (e 4) (e 11) (e 12) w K R3 Y0 Y1 = denL Try.prog (tabOf T253) 90 fuel (flat (loopB (blkB (nthC (flat (blkB (nthC (flat (loopB (blkB (nthC (flat (bodyOf Try.f253)) 3)))) 0))) 0)))) e w (fun e w => Y0 (e 0) (e 1) (e 4) (e 11) (e 12) w) (endD Try.prog [.tmp 10] K) (blkK 2 (fun e w => Y1 (e 0) (e 1) (e 4) (e 11) (e 12) w) (blkK 1 (fun e w => R3 (e 0) (e 1) (e 4) (e 11) (e 12) w) (blkK 0 (fun e w => F253_3 (e 11) w K) noE))) := by intro Y0 Y1; kernel_rfl
  exact Eq.mp (e1 (fun a0 a1 a4 a11 a12 w => F253_5L m a0 a1 a4 a11 a12 w K R3) (fun a0 a1 a4 a11 a12 w => F253_6 a0 a1 a4 a11 a12 w K R3)) h

def F253_4 (s0 : Value) (s1 : Value) (s4 : Value) (s11 : Value) (s12 : Value) (w : World) (K : Value → World → Prop) (R3 : Value → Value → Value → Value → Value → World → Prop) : Prop := F253_5 s0 s1 s4 s11 s12 w K R3

theorem ok253_4 (R3 : Value → Value → Value → Value → Value → World → Prop) {K : Value → World → Prop} {kn kr : Env → World → Prop} {ke : Nat → Env → World → Prop}
    (hn : ∀ e w, (fun e w => R3 (e 0) (e 1) (e 4) (e 11) (e 12) w) e w → kn e w) (hr : ∀ e w, endD Try.prog [.tmp 10] K e w → kr e w) (he : ∀ i e w, (blkK 0 (fun e w => F253_3 (e 11) w K) noE) i e w → ke i e w) :
    ∀ e w, F253_4 (e 0) (e 1) (e 4) (e 11) (e 12) w K R3 → denL Try.prog (tabOf T253) 90 fuel ((flat (loopB (blkB (nthC (flat (bodyOf Try.f253)) 3)))).drop 0) e w kn kr ke := by
  intro e w h
  unfold F253_4 at h
  refine seg_block (id := 1) (body := (blkB (nthC (flat (loopB (blkB (nthC (flat (bodyOf Try.f253)) 3)))) 0))) (l2 := (flat (loopB (blkB (nthC (flat (bodyOf Try.f253)) 3)))).drop 1) (by kernel_rfl) ?_
  exact ok253_5 R3 hn hr (blkK_mono hn he) e w h

def F253_2L : Nat → Value → Value → Value → Value → Value → World → (Value → World → Prop) → Prop
  | 0, _, _, _, _, _, _, _ => False
  | n + 1, s0, s1, s4, s11, s12, w, K => F253_4 s0 s1 s4 s11 s12 w K (fun a0 a1 a4 a11 a12 w => F253_2L n a0 a1 a4 a11 a12 w K)

def F253_2 (s0 : Value) (s1 : Value) (s4 : Value) (s11 : Value) (s12 : Value) (w : World) (K : Value → World → Prop) : Prop := F253_2L fuel s0 s1 s4 s11 s12 w K

theorem ok253_2 {K : Value → World → Prop} {kn kr : Env → World → Prop} {ke : Nat → Env → World → Prop}
    (hn : ∀ e w, (fun e w => K (e 10) w) e w → kn e w) (hr : ∀ e w, endD Try.prog [.tmp 10] K e w → kr e w) (he : ∀ i e w, noE i e w → ke i e w) :
    ∀ e w, F253_2 (e 0) (e 1) (e 4) (e 11) (e 12) w K → denL Try.prog (tabOf T253) 90 fuel ((flat (bodyOf Try.f253)).drop 3) e w kn kr ke := by
  intro e w h
  unfold F253_2 at h
  refine seg_loop (id := 0) (body := (loopB (blkB (nthC (flat (bodyOf Try.f253)) 3)))) (l2 := (flat (bodyOf Try.f253)).drop 4) (by kernel_rfl) ?_
  refine loop_ok (FL := fun m e w => F253_2L m (e 0) (e 1) (e 4) (e 11) (e 12) w K) (fr := endD Try.prog [.tmp 10] K) (fe := (blkK 0 (fun e w => F253_3 (e 11) w K) noE)) (fun _ _ h => h) ?_ hr (blkK_mono (fun e w h => ok253_3 hn hr he e w h) he) fuel e w h
  intro m e w h
  have h : F253_2L (m + 1) (e 0) (e 1) (e 4) (e 11) (e 12) w K := h
  rw [F253_2L] at h
  exact ok253_4 (fun a0 a1 a4 a11 a12 w => F253_2L m a0 a1 a4 a11 a12 w K) (fun _ _ h => h) (fun _ _ h => h) (fun _ _ _ h => h) e w h

def F253_1b (s0 : Value) (s1 : Value) (s2 : Value) (s3 : Value) (s4 : Value) (w : World) (_K : Value → World → Prop) (Y0 : Value → Value → Value → Value → Value → World → Prop) : Prop :=
bindP (pIndexL 2 s0 s3) fun v45 =>
bindP (ldN 2 v45 w.drew) fun v46 =>
bindP (pIndexL 2 s0 s1) fun v47 =>
bindP (ldN 2 v47 w.drew) fun v48 =>
bindP (pIndexL 2 s0 s1) fun v49 =>
bindW (st 2 v49 v46 w.drew) fun w50 =>
bindP (pIndexL 2 s0 s3) fun v52 =>
bindW (st 2 v52 v48 w50) fun w53 =>
bindP (bAdd s1 (.int .i64 1)) fun v55 =>
bindP (bSub s2 (.int .i64 1)) fun v56 =>
Y0 s0 s1 s4 v55 v56 w53

def F253_1 (s0 : Value) (s1 : Value) (s2 : Value) (s3 : Value) (s4 : Value) (w : World) (K : Value → World → Prop) : Prop := F253_1b s0 s1 s2 s3 s4 w K (fun a0 a1 a4 a11 a12 w => F253_2 a0 a1 a4 a11 a12 w K)

theorem ok253_1 {K : Value → World → Prop} {kn kr : Env → World → Prop} {ke : Nat → Env → World → Prop}
    (hn : ∀ e w, (fun e w => K (e 10) w) e w → kn e w) (hr : ∀ e w, endD Try.prog [.tmp 10] K e w → kr e w) (he : ∀ i e w, noE i e w → ke i e w) :
    ∀ e w, F253_1 (e 0) (e 1) (e 2) (e 3) (e 4) w K → denL Try.prog (tabOf T253) 90 fuel ((flat (bodyOf Try.f253)).drop 0) e w kn kr ke := by
  intro e w h
  unfold F253_1 at h
  have e1 : ∀ (Y0 : Value → Value → Value → Value → Value → World → Prop), F253_1b (e 0) (e 1) (e 2) (e 3) (e 4) w K Y0 = denL Try.prog (tabOf T253) 90 fuel (((flat (bodyOf Try.f253)).drop 0).take 3) e w (fun e w => Y0 (e 0) (e 1) (e 4) (e 11) (e 12) w) (endD Try.prog [.tmp 10] K) noE := by intro Y0; kernel_rfl
  exact seg 3 (Eq.mp (e1 (fun a0 a1 a4 a11 a12 w => F253_2 a0 a1 a4 a11 a12 w K)) h) (fun e w h => ok253_2 hn hr he e w h) hr he

def F253 (x0 : Value) (x1 : Value) (x2 : Value) (x3 : Value) (x4 : Value) (w : World) (K : Value → World → Prop) : Prop := F253_1 x0 x1 x2 x3 x4 w K

def G253 : FnT := fun args w K => on5 (fun x0 x1 x2 x3 x4 => F253 x0 x1 x2 x3 x4 w K) args
theorem c253 {x0 x1 x2 x3 x4 : Value} {w : World} {K : Value → World → Prop} (h : F253 x0 x1 x2 x3 x4 w K) : callP G253 [x0, x1, x2, x3, x4] w K := callP_intro h
theorem ok253 : OkF Try.prog 253 G253 := by
  refine okF_of (tab_ok (l := T253) ⟨ok150, trivial⟩) mixed (n := fuel) Try.func253 Try.call253 fun args w K h => ?_
  obtain ⟨x0, x1, x2, x3, x4, rfl, hh⟩ := of_on5 h
  unfold F253 at hh
  exact fnD_list (c := bodyOf Try.f253) (by kernel_rfl) (by kernel_rfl) (ok253_1 (fun _ _ h => h) (fun _ _ h => h) (fun _ _ _ h => h) (initE [x0, x1, x2, x3, x4]) w hh)

-- 254 slices.partitionCmpFunc[gong/heap.Item]
def T254 : List (Nat × FnT) := [(150, G150)]
def F254_6b (s0 : Value) (s1 : Value) (s13 : Value) (w : World) (K : Value → World → Prop) : Prop :=
bindP (pIndexL 2 s0 s1) fun v1 =>
bindP (ldN 2 v1 w.drew) fun v2 =>
bindP (pIndexL 2 s0 s13) fun v3 =>
bindP (ldN 2 v3 w.drew) fun v4 =>
bindP (pIndexL 2 s0 s13) fun v5 =>
bindW (st 2 v5 v2 w.drew) fun w6 =>
bindP (pIndexL 2 s0 s1) fun v8 =>
bindW (st 2 v8 v4 w6) fun w9 =>
K (.tuple #[s13, (.bool false)]) w9

def F254_6 (s0 : Value) (s1 : Value) (s13 : Value) (w : World) (K : Value → World → Prop) : Prop := F254_6b s0 s1 s13 w K

theorem ok254_6 {K : Value → World → Prop} {kn kr : Env → World → Prop} {ke : Nat → Env → World → Prop}
    (hn : ∀ e w, (fun e w => K (.tuple #[(e 10), (e 11)]) w) e w → kn e w) (hr : ∀ e w, endD Try.prog [.tmp 10, .tmp 11] K e w → kr e w) (he : ∀ i e w, noE i e w → ke i e w) :
    ∀ e w, F254_6 (e 0) (e 1) (e 13) w K → denL Try.prog (tabOf T254) 178 fuel ((flat (bodyOf Try.f254)).drop 11) e w kn kr ke := by
  intro e w h
  unfold F254_6 at h
  have e1 : ∀ (_ : Unit), F254_6b (e 0) (e 1) (e 13) w K = denL Try.prog (tabOf T254) 178 fuel ((flat (bodyOf Try.f254)).drop 11) e w (fun e w => K (.tuple #[(e 10), (e 11)]) w) (endD Try.prog [.tmp 10, .tmp 11] K) noE := by intro _; kernel_rfl
  exact seg_end (Eq.mp (e1 ()) h) hn hr he

def F254_10b (s0 : Value) (s1 : Value) (s4 : Value) (s12 : Value) (s13 : Value) (w : World) (_K : Value → World → Prop) (R6 : Value → Value → Value → Value → Value → World → Prop) (Y0 : Value → Value → Value → World → Prop) : Prop :=
bindP (bGt s12 s13) fun v11 =>
ifB v11 (
Y0 s0 s1 s13 w) (
bindP (pIndexL 2 s0 s13) fun v12 =>
bindP (ldN 2 v12 w.drew) fun v13 =>
bindP (pIndexL 2 s0 s12) fun v14 =>
bindP (ldN 2 v14 w.drew) fun v15 =>
bindP (pIndexL 2 s0 s12) fun v16 =>
bindW (st 2 v16 v13 w.drew) fun w17 =>
bindP (pIndexL 2 s0 s13) fun v19 =>
bindW (st 2 v19 v15 w17) fun w20 =>
bindP (bAdd s12 (.int .i64 1)) fun v22 =>
bindP (bSub s13 (.int .i64 1)) fun v23 =>
R6 s0 s1 s4 v22 v23 w20)

def F254_10 (s0 : Value) (s1 : Value) (s4 : Value) (s12 : Value) (s13 : Value) (w : World) (K : Value → World → Prop) (R6 : Value → Value → Value → Value → Value → World → Prop) : Prop := F254_10b s0 s1 s4 s12 s13 w K R6 (fun a0 a1 a13 w => F254_6 a0 a1 a13 w K)

theorem ok254_10 (R6 : Value → Value → Value → Value → Value → World → Prop) {K : Value → World → Prop} {kn kr : Env → World → Prop} {ke : Nat → Env → World → Prop}
    (hn : ∀ e w, (fun e w => R6 (e 0) (e 1) (e 4) (e 12) (e 13) w) e w → kn e w) (hr : ∀ e w, endD Try.prog [.tmp 10, .tmp 11] K e w → kr e w) (he : ∀ i e w, (blkK 5 (fun e w => R6 (e 0) (e 1) (e 4) (e 12) (e 13) w) (blkK 4 (fun e w => F254_6 (e 0) (e 1) (e 13) w K) noE)) i e w → ke i e w) :
    ∀ e w, F254_10 (e 0) (e 1) (e 4) (e 12) (e 13) w K R6 → denL Try.prog (tabOf T254) 178 fuel ((flat (blkB (nthC (flat (loopB (blkB (nthC (flat (bodyOf Try.f254)) 10)))) 0))).drop 2) e w kn kr ke := by
  intro e w h
  unfold F254_10 at h
  have e1 : ∀ (Y0 : Value → Value → Value → World → Prop), F254_10b (e 0) (e 1) (e 4) (e 12) (e 13) w K R6 Y0 = denL Try.prog (tabOf T254) 178 fuel ((flat (blkB (nthC (flat (loopB (blkB (nthC (flat (bodyOf Try.f254)) 10)))) 0))).drop 2) e w (fun e w => R6 (e 0) (e 1) (e 4) (e 12) (e 13) w) (endD Try.prog [.tmp 10, .tmp 11] K) (blkK 5 (fun e w => R6 (e 0) (e 1) (e 4) (e 12) (e 13) w) (blkK 4 (fun e w => Y0 (e 0) (e 1) (e 13) w) noE)) := by intro Y0; kernel_rfl
  exact seg_end (Eq.mp (e1 (fun a0 a1 a13 w => F254_6 a0 a1 a13 w K)) h) hn hr he

def F254_9b (s0 : Value) (s1 : Value) (s4 : Value) (s12 : Value) (s13 : Value) (w : World) (_K : Value → World → Prop) (R6 : Value → Value → Value → Value → Value → World → Prop) (Y0 : Value → Value → Value → Value → Value → World → Prop) (Y1 : Value → Value → Value → Value → Value → World → Prop) : Prop :=
bindP (bLe s12 s13) fun v24 =>
stepM (gd true v24) s4 fun v25 =>
stepM (gd true v24) s0 fun v26 =>
stepM (gd true v24) s13 fun v27 =>
Sx.stepG (gd true v24) (pIndexL 2 v26 v27) fun v28 =>
Sx.stepG (gd true v24) (ldN 2 v28 w.drew) fun v29 =>
stepM (gd true v24) s0 fun v30 =>
stepM (gd true v24) s1 fun v31 =>
Sx.stepG (gd true v24) (pIndexL 2 v30 v31) fun v32 =>
Sx.stepG (gd true v24) (ldN 2 v32 w.drew) fun v33 =>
stepE (gd true v24) (fun k => eCallV (tabOf T254) v25 [v29, v33] w.drew k) w.drew fun v35 w34 =>
Sx.stepG (gd true v24) (bLt v35 (.int .i64 0)) fun v36 =>
Sx.stepG (gd true v24) (uNot v36) fun v37 =>
bindP (pPick v24 v37 (.bool false)) fun v38 =>
ifB v38 (
bindP (bSub s13 (.int .i64 1)) fun v39 =>
Y0 s0 s1 s4 s12 v39 w34) (
Y1 s0 s1 s4 s12 s13 w34)

def F254_9L : Nat → Value → Value → Value → Value → Value → World → (Value → World → Prop) → (Value → Value → Value → Value → Value → World → Prop) → Prop
  | 0, _, _, _, _, _, _, _, _ => False
  | n + 1, s0, s1, s4, s12, s13, w, K, R6 => F254_9b s0 s1 s4 s12 s13 w K R6 (fun a0 a1 a4 a12 a13 w => F254_9L n a0 a1 a4 a12 a13 w K R6) (fun a0 a1 a4 a12 a13 w => F254_10 a0 a1 a4 a12 a13 w K R6)

def F254_9 (s0 : Value) (s1 : Value) (s4 : Value) (s12 : Value) (s13 : Value) (w : World) (K : Value → World → Prop) (R6 : Value → Value → Value → Value → Value → World → Prop) : Prop := F254_9L fuel s0 s1 s4 s12 s13 w K R6

theorem ok254_9 (R6 : Value → Value → Value → Value → Value → World → Prop) {K : Value → World → Prop} {kn kr : Env → World → Prop} {ke : Nat → Env → World → Prop}
    (hn : ∀ e w, (fun e w => R6 (e 0) (e 1) (e 4) (e 12) (e 13) w) e w → kn e w) (hr : ∀ e w, endD Try.prog [.tmp 10, .tmp 11] K e w → kr e w) (he : ∀ i e w, (blkK 5 (fun e w => R6 (e 0) (e 1) (e 4) (e 12) (e 13) w) (blkK 4 (fun e w => F254_6 (e 0) (e 1) (e 13) w K) noE)) i e w → ke i e w) :
    ∀ e w, F254_9 (e 0) (e 1) (e 4) (e 12) (e 13) w K R6 → denL Try.prog (tabOf T254) 178 fuel ((flat (blkB (nthC (flat (loopB (blkB (nthC (flat (bodyOf Try.f254)) 10)))) 0))).drop 1) e w kn kr ke := by
  intro e w h
  unfold F254_9 at h
  refine seg_loop (id := 8) (body := (loopB (blkB (nthC (flat (blkB (nthC (flat (loopB (blkB (nthC (flat (bodyOf Try.f254)) 10)))) 0))) 1)))) (l2 := (flat (blkB (nthC (flat (loopB (blkB (nthC (flat (bodyOf Try.f254)) 10)))) 0))).drop 2) (by kernel_rfl) ?_
  refine loop_ok (FL := fun m e w => F254_9L m (e 0) (e 1) (e 4) (e 12) (e 13) w K R6) (fr := endD Try.prog [.tmp 10, .tmp 11] K) (fe := (blkK 8 (fun e w => F254_10 (e 0) (e 1) (e 4) (e 12) (e 13) w K R6) (blkK 5 (fun e w => R6 (e 0) (e 1) (e 4) (e 12) (e 13) w) (blkK 4 (fun e w => F254_6 (e 0) (e 1) (e 13) w K) noE)))) (fun _ _ h => h) ?_ hr (blkK_mono (fun e w h => ok254_10 R6 hn hr he e w h) he) fuel e w h
  intro m e w h
  have h : F254_9L (m + 1) (e 0) (e 1) (e 4) (e 12) (e 13) w K R6 := h
  rw [F254_9L] at h
  have e1 : ∀ (Y0 : Value → Value → Value → Value → Value → World → Prop) (Y1 : Value → Value → Value → Value → Value → World → Prop), F254_9b (e 0) (e 1) (e 4) (e 12) (e 13) w K R6 Y0 Y1 = denL Try.prog (tabOf T254) 178 fuel (flat (loopB (blkB (nthC (flat (blkB (nthC (flat (loopB (blkB (nthC (flat (bodyOf Try.f254)) 10)))) 0))) 1)))) e w (fun e w => Y0 (e 0) (e 1) (e 4) (e 12) (e 13) w) (endD Try.prog [.tmp 10, .tmp 11] K) (blkK 8 (fun e w => Y1 (e 0) (e 1) (e 4) (e 12) (e 13) w) (blkK 5 (fun e w => R6 (e 0) (e 1) (e 4) (e 12) (e 13) w) (blkK 4 (fun e w => F254_6 (e 0) (e 1) (e 13) w K) noE))) := by intro Y0 Y1; kernel_rfl
  exact Eq.mp (e1 (fun a0 a1 a4 a12 a13 w => F254_9L m a0 a1 a4 a12 a13 w K R6) (fun a0 a1 a4 a12 a13 w => F254_10 a0 a1 a4 a12 a13 w K R6)) h

def F254_8b (s0 : Value) (s1 : Value) (s4 : Value) (s12 : Value) (s13 : Value) (w : World) (_K : Value → World → Prop) (R6 : Value → Value → Value → Value → Value → World → Prop) (Y0 : Value → Value → Value → Value → Value → World → Prop) (Y1 : Value → Value → Value → Value → Value → World → Prop) : Prop :=
bindP (bLe s12 s13) fun v40 =>
stepM (gd true v40) s4 fun v41 =>
stepM (gd true v40) s0 fun v42 =>
stepM (gd true v40) s12 fun v43 =>
Sx.stepG (gd true v40) (pIndexL 2 v42 v43) fun v44 =>
Sx.stepG (gd true v40) (ldN 2 v44 w.drew) fun v45 =>
stepM (gd true v40) s0 fun v46 =>
stepM (gd true v40) s1 fun v47 =>
Sx.stepG (gd true v40) (pIndexL 2 v46 v47) fun v48 =>
Sx.stepG (gd true v40) (ldN 2 v48 w.drew) fun v49 =>
stepE (gd true v40) (fun k => eCallV (tabOf T254) v41 [v45, v49] w.drew k) w.drew fun v51 w50 =>
Sx.stepG (gd true v40) (bLt v51 (.int .i64 0)) fun v52 =>
bindP (pPick v40 v52 (.bool false)) fun v53 =>
ifB v53 (
bindP (bAdd s12 (.int .i64 1)) fun v54 =>
Y0 s0 s1 s4 v54 s13 w50) (
Y1 s0 s1 s4 s12 s13 w50)

def F254_8L : Nat → Value → Value → Value → Value → Value → World → (Value → World → Prop) → (Value → Value → Value → Value → Value → World → Prop) → Prop
  | 0, _, _, _, _, _, _, _, _ => False
  | n + 1, s0, s1, s4, s12, s13, w, K, R6 => F254_8b s0 s1 s4 s12 s13 w K R6 (fun a0 a1 a4 a12 a13 w => F254_8L n a0 a1 a4 a12 a13 w K R6) (fun a0 a1 a4 a12 a13 w => F254_9 a0 a1 a4 a12 a13 w K R6)

def F254_8 (s0 : Value) (s1 : Value) (s4 : Value) (s12 : Value) (s13 : Value) (w : World) (K : Value → World → Prop) (R6 : Value → Value → Value → Value → Value → World → Prop) : Prop := F254_8L fuel s0 s1 s4 s12 s13 w K R6

theorem ok254_8 (R6 : Value → Value → Value → Value → Value → World → Prop) {K : Value → World → Prop} {kn kr : Env → World → Prop} {ke : Nat → Env → World → Prop}
    (hn : ∀ e w, (fun e w => R6 (e 0) (e 1) (e 4) (e 12) (e 13) w) e w → kn e w) (hr : ∀ e w, endD Try.prog [.tmp 10, .tmp 11] K e w → kr e w) (he : ∀ i e w, (blkK 5 (fun e w => R6 (e 0) (e 1) (e 4) (e 12) (e 13) w) (blkK 4 (fun e w => F254_6 (e 0) (e 1) (e 13) w K) noE)) i e w → ke i e w) :
    ∀ e w, F254_8 (e 0) (e 1) (e 4) (e 12) (e 13) w K R6 → denL Try.prog (tabOf T254) 178 fuel ((flat (blkB (nthC (flat (loopB (blkB (nthC (flat (bodyOf Try.f254)) 10)))) 0))).drop 0) e w kn kr ke := by
  intro e w h
  unfold F254_8 at h
  refine seg_loop (id := 6) (body := (loopB (blkB (nthC (flat (blkB (nthC (flat (loopB (blkB (nthC (flat (bodyOf Try.f254)) 10)))) 0))) 0)))) (l2 := (flat (blkB (nthC (flat (loopB (blkB (nthC (flat (bodyOf Try.f254)) 10)))) 0))).drop 1) (by kernel_rfl) ?_
  refine loop_ok (FL := fun m e w => F254_8L m (e 0) (e 1) (e 4) (e 12) (e 13) w K R6) (fr := endD Try.prog [.tmp 10, .tmp 11] K) (fe := (blkK 6 (fun e w => F254_9 (e 0) (e 1) (e 4) (e 12) (e 13) w K R6) (blkK 5 (fun e w => R6 (e 0) (e 1) (e 4) (e 12) (e 13) w) (blkK 4 (fun e w => F254_6 (e 0) (e 1) (e 13) w K) noE)))) (fun _ _ h => h) ?_ hr (blkK_mono (fun e w h => ok254_9 R6 hn hr he e w h) he) fuel e w h
  intro m e w h
  have h : F254_8L (m + 1) (e 0) (e 1) (e 4) (e 12) (e 13) w K R6 := h
  rw [F254_8L] at h
  have e1 : ∀ (Y0 : Value → Value → Value → Value → Value → World → Prop) (Y1 : Value → Value → Value → Value → Value → World → Prop), F254_8b (e 0) (e 1) (e 4) (e 12) (e 13) w K R6 Y0 Y1 = denL Try.prog (tabOf T254) 178 fuel (flat (loopB (blkB (nthC (flat (blkB (nthC (flat (loopB (blkB (nthC (flat (bodyOf Try.f254)) 10)))) 0))) 0)))) e w (fun e w => Y0 (e 0) (e 1) (e 4) (e 12) (e 13) w) (endD Try.prog [.tmp 10, .tmp 11] K) (blkK 6 (fun e w => Y1 (e 0) (e 1) (e 4) (e 12) (e 13) w) (blkK 5 (fun e w => R6 (e 0) (e 1) (e 4) (e 12) (e 13) w) (blkK 4 (fun e w => F254_6 (e 0) (e 1) (e 13) w K) noE))) := by intro Y0 Y1; kernel_rfl
  exact Eq.mp (e1 (fun a0 a1 a4 a12 a13 w => F254_8L m a0 a1 a4 a12 a13 w K R6) (fun a0 a1 a4 a12 a13 w => F254_9 a0 a1 a4 a12 a13 w K R6)) h

def F254_7 (s0 : Value) (s1 : Value) (s4 : Value) (s12 : Value) (s13 : Value) (w : World) (K : Value → World → Prop) (R6 : Value → Value → Value → Value → Value → World → Prop) : Prop := F254_8 s0 s1 s4 s12 s13 w K R6

theorem ok254_7 (R6 : Value → Value → Value → Value → Value → World → Prop) {K : Value → World → Prop} {kn kr : Env → World → Prop} {ke : Nat → Env → World → Prop}
    (hn : ∀ e w, (fun e w => R6 (e 0) (e 1) (e 4) (e 12) (e 13) w) e w → kn e w) (hr : ∀ e w, endD Try.prog [.tmp 10, .tmp 11] K e w → kr e w) (he : ∀ i e w, (blkK 4 (fun e w => F254_6 (e 0) (e 1) (e 13) w K) noE) i e w → ke i e w) :
    ∀ e w, F254_7 (e 0) (e 1) (e 4) (e 12) (e 13) w K R6 → denL Try.prog (tabOf T254) 178 fuel ((flat (loopB (blkB (nthC (flat (bodyOf Try.f254)) 10)))).drop 0) e w kn kr ke := by
  intro e w h
  unfold F254_7 at h
  refine seg_block (id := 5) (body := (blkB (nthC (flat (loopB (blkB (nthC (flat (bodyOf Try.f254)) 10)))) 0))) (l2 := (flat (loopB (blkB (nthC (flat (bodyOf Try.f254)) 10)))).drop 1) (by kernel_rfl) ?_
  exact ok254_8 R6 hn hr (blkK_mono hn he) e w h

def F254_5L : Nat → Value → Value → Value → Value → Value → World → (Value → World → Prop) → Prop
  | 0, _, _, _, _, _, _, _ => False
  | n + 1, s0, s1, s4, s12, s13, w, K => F254_7 s0 s1 s4 s12 s13 w K (fun a0 a1 a4 a12 a13 w => F254_5L n a0 a1 a4 a12 a13 w K)

def F254_5 (s0 : Value) (s1 : Value) (s4 : Value) (s12 : Value) (s13 : Value) (w : World) (K : Value → World → Prop) : Prop := F254_5L fuel s0 s1 s4 s12 s13 w K

theorem ok254_5 {K : Value → World → Prop} {kn kr : Env → World → Prop} {ke : Nat → Env → World → Prop}
    (hn : ∀ e w, (fun e w => K (.tuple #[(e 10), (e 11)]) w) e w → kn e w) (hr : ∀ e w, endD Try.prog [.tmp 10, .tmp 11] K e w → kr e w) (he : ∀ i e w, noE i e w → ke i e w) :
    ∀ e w, F254_5 (e 0) (e 1) (e 4) (e 12) (e 13) w K → denL Try.prog (tabOf T254) 178 fuel ((flat (bodyOf Try.f254)).drop 10) e w kn kr ke := by
  intro e w h
  unfold F254_5 at h
  refine seg_loop (id := 4) (body := (loopB (blkB (nthC (flat (bodyOf Try.f254)) 10)))) (l2 := (flat (bodyOf Try.f254)).drop 11) (by kernel_rfl) ?_
  refine loop_ok (FL := fun m e w => F254_5L m (e 0) (e 1) (e 4) (e 12) (e 13) w K) (fr := endD Try.prog [.tmp 10, .tmp 11] K) (fe := (blkK 4 (fun e w => F254_6 (e 0) (e 1) (e 13) w K) noE)) (fun _ _ h => h) ?_ hr (blkK_mono (fun e w h => ok254_6 hn hr he e w h) he) fuel e w h
  intro m e w h
  have h : F254_5L (m + 1) (e 0) (e 1) (e 4) (e 12) (e 13) w K := h
  rw [F254_5L] at h
  exact ok254_7 (fun a0 a1 a4 a12 a13 w => F254_5L m a0 a1 a4 a12 a13 w K) (fun _ _ h => h) (fun _ _ h => h) (fun _ _ _ h => h) e w h

def F254_4b (s0 : Value) (s1 : Value) (s4 : Value) (s12 : Value) (s13 : Value) (w : World) (K : Value → World → Prop) (Y0 : Value → Value → Value → Value → Value → World → Prop) : Prop :=
bindP (bGt s12 s13) fun v55 =>
ifB v55 (
bindP (pIndexL 2 s0 s1) fun v56 =>
bindP (ldN 2 v56 w.drew) fun v57 =>
bindP (pIndexL 2 s0 s13) fun v58 =>
bindP (ldN 2 v58 w.drew) fun v59 =>
bindP (pIndexL 2 s0 s13) fun v60 =>
bindW (st 2 v60 v57 w.drew) fun w61 =>
bindP (pIndexL 2 s0 s1) fun v63 =>
bindW (st 2 v63 v59 w61) fun w64 =>
K (.tuple #[s13, (.bool true)]) w64) (
bindP (pIndexL 2 s0 s13) fun v66 =>
bindP (ldN 2 v66 w.drew) fun v67 =>
bindP (pIndexL 2 s0 s12) fun v68 =>
bindP (ldN 2 v68 w.drew) fun v69 =>
bindP (pIndexL 2 s0 s12) fun v70 =>
bindW (st 2 v70 v67 w.drew) fun w71 =>
bindP (pIndexL 2 s0 s13) fun v73 =>
bindW (st 2 v73 v69 w71) fun w74 =>
bindP (bAdd s12 (.int .i64 1)) fun v76 =>
bindP (bSub s13 (.int .i64 1)) fun v77 =>
Y0 s0 s1 s4 v76 v77 w74)

def F254_4 (s0 : Value) (s1 : Value) (s4 : Value) (s12 : Value) (s13 : Value) (w : World) (K : Value → World → Prop) : Prop := F254_4b s0 s1 s4 s12 s13 w K (fun a0 a1 a4 a12 a13 w => F254_5 a0 a1 a4 a12 a13 w K)

theorem ok254_4 {K : Value → World → Prop} {kn kr : Env → World → Prop} {ke : Nat → Env → World → Prop}
    (hn : ∀ e w, (fun e w => K (.tuple #[(e 10), (e 11)]) w) e w → kn e w) (hr : ∀ e w, endD Try.prog [.tmp 10, .tmp 11] K e w → kr e w) (he : ∀ i e w, noE i e w → ke i e w) :
    ∀ e w, F254_4 (e 0) (e 1) (e 4) (e 12) (e 13) w K → denL Try.prog (tabOf T254) 178 fuel ((flat (bodyOf Try.f254)).drop 5) e w kn kr ke := by
  intro e w h
  unfold F254_4 at h
  have e1 : ∀ (Y0 : Value → Value → Value → Value → Value → World → Prop), F254_4b (e 0) (e 1) (e 4) (e 12) (e 13) w K Y0 = denL Try.prog (tabOf T254) 178 fuel (((flat (bodyOf Try.f254)).drop 5).take 5) e w (fun e w => Y0 (e 0) (e 1) (e 4) (e 12) (e 13) w) (endD Try.prog [.tmp 10, .tmp 11] K) noE := by intro Y0; kernel_rfl
  exact seg 5 (Eq.mp (e1 (fun a0 a1 a4 a12 a13 w => F254_5 a0 a1 a4 a12 a13 w K)) h) (fun e w h => ok254_5 hn hr he e w h) hr he

def F254_3b (s0 : Value) (s1 : Value) (s4 : Value) (s12 : Value) (s13 : Value) (w : World) (_K : Value → World → Prop) (Y0 : Value → Value → Value → Value → Value → World → Prop) (Y1 : Value → Value → Value → Value → Value → World → Prop) : Prop :=
bindP (bLe s12 s13) fun v78 =>
stepM (gd true v78) s4 fun v79 =>
stepM (gd true v78) s0 fun v80 =>
stepM (gd true v78) s13 fun v81 =>
Sx.stepG (gd true v78) (pIndexL 2 v80 v81) fun v82 =>
Sx.stepG (gd true v78) (ldN 2 v82 w.drew) fun v83 =>
stepM (gd true v78) s0 fun v84 =>
stepM (gd true v78) s1 fun v85 =>
Sx.stepG (gd true v78) (pIndexL 2 v84 v85) fun v86 =>
Sx.stepG (gd true v78) (ldN 2 v86 w.drew) fun v87 =>
stepE (gd true v78) (fun k => eCallV (tabOf T254) v79 [v83, v87] w.drew k) w.drew fun v89 w88 =>
Sx.stepG (gd true v78) (bLt v89 (.int .i64 0)) fun v90 =>
Sx.stepG (gd true v78) (uNot v90) fun v91 =>
bindP (pPick v78 v91 (.bool false)) fun v92 =>
ifB v92 (
bindP (bSub s13 (.int .i64 1)) fun v93 =>
Y0 s0 s1 s4 s12 v93 w88) (
Y1 s0 s1 s4 s12 s13 w88)

def F254_3L : Nat → Value → Value → Value → Value → Value → World → (Value → World → Prop) → Prop
  | 0, _, _, _, _, _, _, _ => False
  | n + 1, s0, s1, s4, s12, s13, w, K => F254_3b s0 s1 s4 s12 s13 w K (fun a0 a1 a4 a12 a13 w => F254_3L n a0 a1 a4 a12 a13 w K) (fun a0 a1 a4 a12 a13 w => F254_4 a0 a1 a4 a12 a13 w K)

def F254_3 (s0 : Value) (s1 : Value) (s4 : Value) (s12 : Value) (s13 : Value) (w : World) (K : Value → World → Prop) : Prop := F254_3L fuel s0 s1 s4 s12 s13 w K

theorem ok254_3 {K : Value → World → Prop} {kn kr : Env → World → Prop} {ke : Nat → Env → World → Prop}
    (hn : ∀ e w, (fun e w => K (.tuple #[(e 10), (e 11)]) w) e w → kn e w) (hr : ∀ e w, endD Try.prog [.tmp 10, .tmp 11] K e w → kr e w) (he : ∀ i e w, noE i e w → ke i e w) :
    ∀ e w, F254_3 (e 0) (e 1) (e 4) (e 12) (e 13) w K → denL Try.prog (tabOf T254) 178 fuel ((flat (bodyOf Try.f254)).drop 4) e w kn kr ke := by
  intro e w h
  unfold F254_3 at h
  refine seg_loop (id := 2) (body := (loopB (blkB (nthC (flat (bodyOf Try.f254)) 4)))) (l2 := (flat (bodyOf Try.f254)).drop 5) (by kernel_rfl) ?_
  refine loop_ok (FL := fun m e w => F254_3L m (e 0) (e 1) (e 4) (e 12) (e 13) w K) (fr := endD Try.prog [.tmp 10, .tmp 11] K) (fe := (blkK 2 (fun e w => F254_4 (e 0) (e 1) (e 4) (e 12) (e 13) w K) noE)) (fun _ _ h => h) ?_ hr (blkK_mono (fun e w h => ok254_4 hn hr he e w h) he) fuel e w h
  intro m e w h
  have h : F254_3L (m + 1) (e 0) (e 1) (e 4) (e 12) (e 13) w K := h
  rw [F254_3L] at h
  have e1 : ∀ (Y0 : Value → Value → Value → Value → Value → World → Prop) (Y1 : Value → Value → Value → Value → Value → World → Prop), F254_3b (e 0) (e 1) (e 4) (e 12) (e 13) w K Y0 Y1 = denL Try.prog (tabOf T254) 178 fuel (flat (loopB (blkB (nthC (flat (bodyOf Try.f254)) 4)))) e w (fun e w => Y0 (e 0) (e 1) (e 4) (e 12) (e 13) w) (endD Try.prog [.tmp 10, .tmp 11] K) (blkK 2 (fun e w => Y1 (e 0) (e 1) (e 4) (e 12) (e 13) w) noE) := by intro Y0 Y1; kernel_rfl
  exact Eq.mp (e1 (fun a0 a1 a4 a12 a13 w => F254_3L m a0 a1 a4 a12 a13 w K) (fun a0 a1 a4 a12 a13 w => F254_4 a0 a1 a4 a12 a13 w K)) h

def F254_2b (s0 : Value) (s1 : Value) (s4 : Value) (s12 : Value) (s13 : Value) (w : World) (_K : Value → World → Prop) (Y0 : Value → Value → Value → Value → Value → World → Prop) (Y1 : Value → Value → Value → Value → Value → World → Prop) : Prop :=
bindP (bLe s12 s13) fun v94 =>
stepM (gd true v94) s4 fun v95 =>
stepM (gd true v94) s0 fun v96 =>
stepM (gd true v94) s12 fun v97 =>
Sx.stepG (gd true v94) (pIndexL 2 v96 v97) fun v98 =>
Sx.stepG (gd true v94) (ldN 2 v98 w.drew) fun v99 =>
stepM (gd true v94) s0 fun v100 =>
stepM (gd true v94) s1 fun v101 =>
Sx.stepG (gd true v94) (pIndexL 2 v100 v101) fun v102 =>
Sx.stepG (gd true v94) (ldN 2 v102 w.drew) fun v103 =>
stepE (gd true v94) (fun k => eCallV (tabOf T254) v95 [v99, v103] w.drew k) w.drew fun v105 w104 =>
Sx.stepG (gd true v94) (bLt v105 (.int .i64 0)) fun v106 =>
bindP (pPick v94 v106 (.bool false)) fun v107 =>
ifB v107 (
bindP (bAdd s12 (.int .i64 1)) fun v108 =>
Y0 s0 s1 s4 v108 s13 w104) (
Y1 s0 s1 s4 s12 s13 w104)

def F254_2L : Nat → Value → Value → Value → Value → Value → World → (Value → World → Prop) → Prop
  | 0, _, _, _, _, _, _, _ => False
  | n + 1, s0, s1, s4, s12, s13, w, K => F254_2b s0 s1 s4 s12 s13 w K (fun a0 a1 a4 a12 a13 w => F254_2L n a0 a1 a4 a12 a13 w K) (fun a0 a1 a4 a12 a13 w => F254_3 a0 a1 a4 a12 a13 w K)

def F254_2 (s0 : Value) (s1 : Value) (s4 : Value) (s12 : Value) (s13 : Value) (w : World) (K : Value → World → Prop) : Prop := F254_2L fuel s0 s1 s4 s12 s13 w K

theorem ok254_2 {K : Value → World → Prop} {kn kr : Env → World → Prop} {ke : Nat → Env → World → Prop}
    (hn : ∀ e w, (fun e w => K (.tuple #[(e 10), (e 11)]) w) e w → kn e w) (hr : ∀ e w, endD Try.prog [.tmp 10, .tmp 11] K e w → kr e w) (he : ∀ i e w, noE i e w → ke i e w) :
    ∀ e w, F254_2 (e 0) (e 1) (e 4) (e 12) (e 13) w K → denL Try.prog (tabOf T254) 178 fuel ((flat (bodyOf Try.f254)).drop 3) e w kn kr ke := by
  intro e w h
  unfold F254_2 at h
  refine seg_loop (id := 0) (body := (loopB (blkB (nthC (flat (bodyOf Try.f254)) 3)))) (l2 := (flat (bodyOf Try.f254)).drop 4) (by kernel_rfl) ?_
  refine loop_ok (FL := fun m e w => F254_2L m (e 0) (e 1) (e 4) (e 12) (e 13) w K) (fr := endD Try.prog [.tmp 10, .tmp 11] K) (fe := (blkK 0 (fun e w => F254_3 (e 0) (e 1) (e 4) (e 12) (e 13) w K) noE)) (fun _ _ h => h) ?_ hr (blkK_mono (fun e w h => ok254_3 hn hr he e w h) he) fuel e w h
  intro m e w h
  have h : F254_2L (m + 1) (e 0) (e 1) (e 4) (e 12) (e 13) w K := h
  rw [F254_2L] at h
  have e1 : ∀ (Y0 : Value → Value → Value → Value → Value → World → Prop) (Y1 : Value → Value → Value → Value → Value → World → Prop), F254_2b (e 0) (e 1) (e 4) (e 12) (e 13) w K Y0 Y1 = denL Try.prog (tabOf T254) 178 fuel (flat (loopB (blkB (nthC (flat (bodyOf Try.f254)) 3)))) e w (fun e w => Y0 (e 0) (e 1) (e 4) (e 12) (e 13) w) (endD Try.prog [.tmp 10, .tmp 11] K) (blkK 0 (fun e w => Y1 (e 0) (e 1) (e 4) (e 12) (e 13) w) noE) := by intro Y0 Y1; kernel_rfl
  exact Eq.mp (e1 (fun a0 a1 a4 a12 a13 w => F254_2L m a0 a1 a4 a12 a13 w K) (fun a0 a1 a4 a12 a13 w => F254_3 a0 a1 a4 a12 a13 w K)) h

def F254_1b (s0 : Value) (s1 : Value) (s2 : Value) (s3 : Value) (s4 : Value) (w : World) (_K : Value → World → Prop) (Y0 : Value → Value → Value → Value → Value → World → Prop) : Prop :=
bindP (pIndexL 2 s0 s3) fun v109 =>
bindP (ldN 2 v109 w.drew) fun v110 =>
bindP (pIndexL 2 s0 s1) fun v111 =>
bindP (ldN 2 v111 w.drew) fun v112 =>
bindP (pIndexL 2 s0 s1) fun v113 =>
bindW (st 2 v113 v110 w.drew) fun w114 =>
bindP (pIndexL 2 s0 s3) fun v116 =>
bindW (st 2 v116 v112 w114) fun w117 =>
bindP (bAdd s1 (.int .i64 1)) fun v119 =>
bindP (bSub s2 (.int .i64 1)) fun v120 =>
Y0 s0 s1 s4 v119 v120 w117

def F254_1 (s0 : Value) (s1 : Value) (s2 : Value) (s3 : Value) (s4 : Value) (w : World) (K : Value → World → Prop) : Prop := F254_1b s0 s1 s2 s3 s4 w K (fun a0 a1 a4 a12 a13 w => F254_2 a0 a1 a4 a12 a13 w K)

theorem ok254_1 {K : Value → World → Prop} {kn kr : Env → World → Prop} {ke : Nat → Env → World → Prop}
    (hn : ∀ e w, (fun e w => K (.tuple #[(e 10), (e 11)]) w) e w → kn e w) (hr : ∀ e w, endD Try.prog [.tmp 10, .tmp 11] K e w → kr e w) (he : ∀ i e w, noE i e w → ke i e w) :
    ∀ e w, F254_1 (e 0) (e 1) (e 2) (e 3) (e 4) w K → denL Try.prog (tabOf T254) 178 fuel ((flat (bodyOf Try.f254)).drop 0) e w kn kr ke := by
  intro e w h
  unfold F254_1 at h
  have e1 : ∀ (Y0 : Value → Value → Value → Value → Value → World → Prop), F254_1b (e 0) (e 1) (e 2) (e 3) (e 4) w K Y0 = denL Try.prog (tabOf T254) 178 fuel (((flat (bodyOf Try.f254)).drop 0).take 3) e w (fun e w => Y0 (e 0) (e 1) (e 4) (e 12) (e 13) w) (endD Try.prog [.tmp 10, .tmp 11] K) noE := by intro Y0; kernel_rfl
  exact seg 3 (Eq.mp (e1 (fun a0 a1 a4 a12 a13 w => F254_2 a0 a1 a4 a12 a13 w K)) h) (fun e w h => ok254_2 hn hr he e w h) hr he

def F254 (x0 : Value) (x1 : Value) (x2 : Value) (x3 : Value) (x4 : Value) (w : World) (K : Value → World → Prop) : Prop := F254_1 x0 x1 x2 x3 x4 w K

def G254 : FnT := fun args w K => on5 (fun x0 x1 x2 x3 x4 => F254 x0 x1 x2 x3 x4 w K) args
theorem c254 {x0 x1 x2 x3 x4 : Value} {w : World} {K : Value → World → Prop} (h : F254 x0 x1 x2 x3 x4 w K) : callP G254 [x0, x1, x2, x3, x4] w K := callP_intro h
theorem ok254 : OkF Try.prog 254 G254 := by
  refine okF_of (tab_ok (l := T254) ⟨ok150, trivial⟩) mixed (n := fuel) Try.func254 Try.call254 fun args w K h => ?_
  obtain ⟨x0, x1, x2, x3, x4, rfl, hh⟩ := of_on5 h
  unfold F254 at hh
  exact fnD_list (c := bodyOf Try.f254) (by kernel_rfl) (by kernel_rfl) (ok254_1 (fun _ _ h => h) (fun _ _ h => h) (fun _ _ _ h => h) (initE [x0, x1, x2, x3, x4]) w hh)

end Go.Proofs.Gong
