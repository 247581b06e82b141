/- A part of the proofs: what stands below it, told in lemmas. No condition. -/
import Derived.Test.YtpbfmiphjcmjjaaSz7
import Derived.Laws.Externs
set_option linter.all false
namespace Go.Sx
/-! what has no Go text -/
def gClone : FnT := fun args w K => match args with
  | [.iface t (.map (some r))] => match w.heap[r]? with
    | some (.map es clock) => K (.iface t (.map (some w.heap.size))) (w.alloc (.map es clock))
    | _ => False
  | _ => False
theorem okClone {P : Program} {i : Nat} {fn : Func} (hf : P.funcs[i]? = some fn) (hname : (fn.name == "runtime.NumGoroutine") = false) (hb : fn.body.isNone = true) (hn : Extern.findNext fn = none) (he : Extern.find fn = some Extern.MapsClone.clone) : OkF P i gClone := by
  intro args w K h
  unfold gClone at h
  split at h
  · rename_i t r
    split at h
    · rename_i es clock hb'
      refine .inr ⟨_, _, ?_, h⟩
      rw [run_callFunc_extern hf hname hb hn he]
      have e : Extern.MapsClone.clone [Value.iface t (.map (some r))].toArray = (getObj r >>= fun o => match o with
        | .map entries clock => (newObj (.map entries clock) >>= fun n => pure (.iface t (.map (some n))))
        | _ => stuck "maps.clone: a map expected") := rfl
      rw [e]
      have g : (getObj r).run P w = .ok (.map es clock) w := by simp [getObj, Sem.run, hb']
      simp only [Sem.run_bind, g, Result.andThen_ok]
      rfl
    · exact h.elim
  · exact h.elim
section
variable {κ ν : Type} {ek : κ → Value} {ev : ν → Value} {m : List (κ × ν)} {w0 w : World} {L : List HP} {v : Value}
theorem gClone_sat {K : Value → World → Prop} {t : TypeId} (h : Sat w0 (MapH ek ev v m :: L) w) (hK : ∀ v' w', Sat w0 (MapH ek ev v' m :: MapH ek ev v m :: L) w' → K (.iface t v') w') : callP gClone [.iface t v] w K := by
  obtain ⟨r, es, clock, ⟨rfl, hm⟩, hs⟩ := map_iff.1 h
  refine callP_intro ?_
  simp only [gClone, hs.blk]
  refine hK _ _ (map_iff.2 ⟨_, es, clock, ⟨rfl, hm⟩, ?_⟩)
  exact (Sat.alloc h _)
end
/-- several parts as one -/
def HS : List HP → HP
  | [] => HEm
  | P :: l => HSt P (HS l)
theorem Sat.hs_iff {w0 w : World} {L : List HP} : ∀ {l : List HP}, Sat w0 (HS l :: L) w ↔ Sat w0 (l ++ L) w := by
  intro l
  have key : ∀ (l : List HP) (L : List HP) (h : Hp), SepL (HS l :: L) h ↔ SepL (l ++ L) h := by
    intro l
    induction l with
    | nil =>
      intro L h
      constructor
      · rintro ⟨a, b, hd, rfl, _, hL⟩
        have : ∀ (M : List HP) (b h : Hp), (∀ i o, b i = some o → h i = some o) → SepL M b → SepL M h := by
          intro M
          induction M with
          | nil => intro _ _ _ _; trivial
          | cons Q M ih =>
            rintro b h hb ⟨x, y, hxy, rfl, hQ, hM⟩
            refine ⟨x, fun i => match x i with | some _ => none | none => h i, ?_, ?_, hQ, ih y _ ?_ hM⟩
            · intro i o hx; simp [hx]
            · funext i; unfold hOr
              cases hx : x i with
              | none => simp [hx]
              | some o => simp; exact hb i o (hOr_l hx)
            · intro i o hy
              have hx : x i = none := hxy.symm i o hy
              simp [hx]
              exact hb i o (hOr_r hxy hy)
        exact this L b _ (fun i o hb => hOr_r hd hb) hL
      · intro h1
        exact ⟨fun _ => none, h, (fun _ _ h => by cases h), rfl, trivial, h1⟩
    | cons P l ih =>
      intro L h
      show SepL (HSt P (HS l) :: L) h ↔ _
      rw [SepL.star]
      constructor
      · exact fun h1 => h1.tail fun _ h2 => (ih L _).1 h2
      · exact fun h1 => SepL.tail (fun _ h2 => (ih L _).2 h2) h1
  exact ⟨fun h => h.conv fun _ => (key l L _).1, fun h => h.conv fun _ => (key l L _).2⟩
section
variable {P : Program} {t : TypeId} {x y : Operand}
theorem bEq_nilm {k e : TypeId} (h : P.underlying t = some (.map k e)) (a : Option Nat) : bEq P t x y (.map a) (.map none) = some (.bool a.isNone) := by
  cases a <;> simp [bEq, bEqv, eqPlain, eqv, Op.maxDepth, h]
theorem bEq_nils {e : TypeId} (h : P.underlying t = some (.slice e)) (a : Option Addr) (n c : Nat) : bEq P t x y (.slice a n c) (.slice none 0 0) = some (.bool a.isNone) := by
  cases a <;> simp [bEq, bEqv, eqPlain, eqv, Op.maxDepth, h]
theorem bNe_nils {e : TypeId} (h : P.underlying t = some (.slice e)) (a : Option Addr) (n c : Nat) : bNe P t x y (.slice a n c) (.slice none 0 0) = some (.bool (!a.isNone)) := by
  cases a <;> simp [bNe, bEqv, eqPlain, eqv, Op.maxDepth, h]
theorem fMkI_of {d : TypeDesc} (h : P.underlying t = some d) (hd : ∀ m, d ≠ .interface m) (v : Value) : fMkI P t v = some (.iface t v) := by
  unfold fMkI; rw [h]; cases d <;> first | (exact absurd rfl (hd _)) | rfl
theorem fAssert_of {d : TypeDesc} (h : P.underlying t = some d) (hd : ∀ m, d ≠ .interface m) (v : Value) : fAssert P (.iface t v) t false = some v := by
  unfold fAssert; rw [h]; cases d <;> first | (exact absurd rfl (hd _)) | simp
end
end Go.Sx
