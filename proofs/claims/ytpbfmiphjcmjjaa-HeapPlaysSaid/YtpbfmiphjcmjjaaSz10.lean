/- A part of the proofs: what stands below it, told in lemmas. No condition. -/
import Derived.Test.YtpbfmiphjcmjjaaSz9
set_option linter.all false
namespace Go.Sx
open Go.ChangeShapes Go.WideShapes Go.RowKit
def isStB (P : Program) (t : TypeId) : Bool := match P.underlying t with | some (.struct _) => true | _ => false
section
variable {H : Type} {enc : TypeId × Value → H} {P : Program} {w : World} {base : Nat} {held : Bool}
theorem arg_struct {t : TypeId} {ks : List CK} {v : Value} {d : DataW H} {ps : List MemPlace} {n0 : Nat} {r : _root_.Go.Reach} (hst : isStB P t = true) (hks : scal P n0 t = some ks)
    {b0 : Nat} (hval : Value.okWide P w r b0 t v) {sp : Nat → Bool} (hd : DataW.Trod enc P w base sp held t v d ps) :
    ∃ cs : List Value, v = .agg cs.toArray ∧ FitL ks cs := by
  obtain ⟨fs, ht⟩ : ∃ fs, P.underlying t = some (.struct fs) := by
    unfold isStB at hst
    split at hst
    · exact ⟨_, by assumption⟩
    · cases hst
  obtain ⟨fuel, hx⟩ := hd
  simp only [Value.okWide, ht] at hval
  obtain ⟨cs, rfl, _, _⟩ := hval
  refine ⟨cs.toList, by simp, ?_⟩
  exact scal_ok _ _ _ hks _ _ _ hx
end
theorem fitL_cons {c : CK} {ks : List CK} : ∀ {cs : List Value}, FitL (c :: ks) cs → ∃ v vs, cs = v :: vs ∧ Fit c v ∧ FitL ks vs
  | v :: vs, h => ⟨v, vs, rfl, h.1, h.2⟩
  | [], h => h.elim
theorem fitL_nil : ∀ {cs : List Value}, FitL [] cs → cs = []
  | [], _ => rfl
  | _ :: _, h => h.elim
theorem fitL_int {k : IntKind} {ks : List CK} {cs : List Value} (h : FitL (.int k :: ks) cs) : ∃ (n : Int) (vs : List Value), cs = .int k n :: vs ∧ (Lit.int k n).wf = true ∧ FitL ks vs := by
  obtain ⟨v, vs, rfl, ⟨n, rfl, hn⟩, h2⟩ := fitL_cons h
  exact ⟨n, vs, rfl, hn, h2⟩
theorem fitL_bool {ks : List CK} {cs : List Value} (h : FitL (.bool :: ks) cs) : ∃ (b : Bool) (vs : List Value), cs = .bool b :: vs ∧ FitL ks vs := by
  obtain ⟨v, vs, rfl, ⟨n, rfl⟩, h2⟩ := fitL_cons h
  exact ⟨n, vs, rfl, h2⟩
theorem fitL_str {ks : List CK} {cs : List Value} (h : FitL (.str :: ks) cs) : ∃ (l : List UInt8) (vs : List Value), cs = .string (bs l) :: vs ∧ l.length ≤ maxLen ∧ FitL ks vs := by
  obtain ⟨v, vs, rfl, ⟨s, rfl, hs⟩, h2⟩ := fitL_cons h
  refine ⟨s.data.toList, vs, by rw [← bs_of], ?_, h2⟩
  rw [Array.length_toList]; exact hs
theorem str_bs {s : ByteArray} : ∃ l : List UInt8, s = bs l ∧ l.length = s.size := ⟨s.data.toList, bs_of s, by rw [Array.length_toList]; rfl⟩
theorem on0_mk {p : Prop} (h : p) : on0 p [] := h
theorem on1_mk {p : Value → Prop} {a : Value} (h : p a) : on1 p [a] := h
theorem on2_mk {p : Value → Value → Prop} {a b : Value} (h : p a b) : on2 p [a, b] := h
theorem on3_mk {p : Value → Value → Value → Prop} {a b c : Value} (h : p a b c) : on3 p [a, b, c] := h
theorem on4_mk {p : Value → Value → Value → Value → Prop} {a b c d : Value} (h : p a b c d) : on4 p [a, b, c, d] := h
theorem on5_mk {p : Value → Value → Value → Value → Value → Prop} {a b c d e : Value} (h : p a b c d e) : on5 p [a, b, c, d, e] := h
theorem on6_mk {p : Value → Value → Value → Value → Value → Value → Prop} {a b c d e f : Value} (h : p a b c d e f) : on6 p [a, b, c, d, e, f] := h
theorem on7_mk {p : Value → Value → Value → Value → Value → Value → Value → Prop} {a b c d e f g : Value} (h : p a b c d e f g) : on7 p [a, b, c, d, e, f, g] := h
end Go.Sx
