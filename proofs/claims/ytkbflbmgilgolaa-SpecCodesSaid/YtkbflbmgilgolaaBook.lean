/- A part of the proofs: what stands below it, told in lemmas. No condition. -/
import Derived.Test.YtkbflbmgilgolaaTy
namespace Go.Proofs.Gong
open Go Go.Sx Go.Proofs
set_option maxRecDepth 100000
-- 23 gong/gongbook.Below
def T23 : List (Nat × FnT) := []
def F23 (x0 : Value) (x1 : Value) (w : World) (K : Value → World → Prop) : Prop :=
bindP (bRem x0 x1) fun v1 =>
bindP (bAdd v1 x1) fun v2 =>
bindP (bRem v2 x1) fun v3 =>
K v3 w

def G23 : FnT := fun args w K => on2 (fun x0 x1 => F23 x0 x1 w K) args
theorem c23 {x0 x1 : Value} {w : World} {K : Value → World → Prop} (h : F23 x0 x1 w K) : callP G23 [x0, x1] w K := callP_intro h
theorem ok23 : OkF Try.prog 23 G23 := by
  refine okF_of (tab_ok (l := T23) trivial) mixed (n := fuel) Try.func23 Try.call23 fun args w K h => ?_
  obtain ⟨x0, x1, rfl, hh⟩ := of_on2 h
  exact fnD_list (c := bodyOf Try.f23) (by kernel_rfl) (by kernel_rfl) (Eq.mp (by kernel_rfl) hh)

-- 123 gong/gongref20.IsTime
def T123 : List (Nat × FnT) := []
def F123 (x0 : Value) (w : World) (K : Value → World → Prop) : Prop :=
bindP (bGe x0 (.int .i64 0)) fun v1 =>
stepM (gd true v1) x0 fun v2 =>
Sx.stepG (gd true v1) (bLe v2 (.int .i64 2305843009213693952)) fun v3 =>
bindP (pPick v1 v3 (.bool false)) fun v4 =>
K v4 w

def G123 : FnT := fun args w K => on1 (fun x0 => F123 x0 w K) args
theorem c123 {x0 : Value} {w : World} {K : Value → World → Prop} (h : F123 x0 w K) : callP G123 [x0] w K := callP_intro h
theorem ok123 : OkF Try.prog 123 G123 := by
  refine okF_of (tab_ok (l := T123) trivial) mixed (n := fuel) Try.func123 Try.call123 fun args w K h => ?_
  obtain ⟨x0, rfl, hh⟩ := of_on1 h
  exact fnD_list (c := bodyOf Try.f123) (by kernel_rfl) (by kernel_rfl) (Eq.mp (by kernel_rfl) hh)

end Go.Proofs.Gong
