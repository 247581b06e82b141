/- A part of the proofs: what stands below it, told in lemmas. No condition. -/
import Derived.Test.YtpbfmiphjcmjjaaTy
set_option linter.all false
namespace Go.Proofs.Gong
open Go Go.Sx Go.Proofs
set_option maxRecDepth 100000
-- 15 gong/gongbook.Below
def T15 : List (Nat × FnT) := []
def F15 (x0 : Value) (x1 : Value) (w : World) (K : Value → World → Prop) : Prop :=
bindP (bRem x0 x1) fun v1 =>
bindP (bAdd v1 x1) fun v2 =>
bindP (bRem v2 x1) fun v3 =>
K v3 w

def G15 : FnT := fun args w K => on2 (fun x0 x1 => F15 x0 x1 w K) args
theorem c15 {x0 x1 : Value} {w : World} {K : Value → World → Prop} (h : F15 x0 x1 w K) : callP G15 [x0, x1] w K := callP_intro (on2_mk (p := fun x0 x1 => F15 x0 x1 w K) h)
theorem ok15 : OkF Try.prog 15 G15 := by
  refine okF_of (tab_ok (l := T15) trivial) mixed (n := fuel) Try.func15 Try.call15 fun args w K h => ?_
  obtain ⟨x0, x1, rfl, hh⟩ := of_on2 h
  exact fnD_list (c := bodyOf Try.f15) (by kernel_rfl) (by kernel_rfl) (Eq.mp (by kernel_rfl) hh)

-- 69 gong/gongref20.IsTime
def T69 : List (Nat × FnT) := []
def F69 (x0 : Value) (w : World) (K : Value → World → Prop) : Prop :=
bindP (bGe x0 (.int .i64 0)) fun v1 =>
stepM (gd true v1) x0 fun v2 =>
Sx.stepG (gd true v1) (bLe v2 (.int .i64 2305843009213693952)) fun v3 =>
bindP (pPick v1 v3 (.bool false)) fun v4 =>
K v4 w

def G69 : FnT := fun args w K => on1 (fun x0 => F69 x0 w K) args
theorem c69 {x0 : Value} {w : World} {K : Value → World → Prop} (h : F69 x0 w K) : callP G69 [x0] w K := callP_intro (on1_mk (p := fun x0 => F69 x0 w K) h)
theorem ok69 : OkF Try.prog 69 G69 := by
  refine okF_of (tab_ok (l := T69) trivial) mixed (n := fuel) Try.func69 Try.call69 fun args w K h => ?_
  obtain ⟨x0, rfl, hh⟩ := of_on1 h
  exact fnD_list (c := bodyOf Try.f69) (by kernel_rfl) (by kernel_rfl) (Eq.mp (by kernel_rfl) hh)

end Go.Proofs.Gong
