/- A part of the proofs: what stands below it, told in lemmas. No condition. -/
import Derived.Test.YtpbfmiphjcmjjaaP0
import Derived.ChangeSame
import Derived.WideKeyArgs
import Derived.RowKit
import Derived.Below
import Derived.OpenShut
import Derived.Deep.Slices
import Derived.ChangeMaps5
import Derived.Laws.Externs
import Derived.SizedLaws
import Derived.Shelf.SlSortCmp.WholeK
import Derived.Shelf.SlSortCmp.NoneTotal
import Derived.Shelf.SlIterI.Nil
import Derived.Shelf.SlIter.Nil
import Derived.Shelf.SortM.Plain
import Derived.Shelf.SortM.SortNone
import Derived.Test.YtpbfmiphjcmjjaaProg
set_option linter.all false

/- Sz1 -/
namespace Go.Sx
def andO (x y : Option Bool) : Option Bool := match x with | some true => y | some false => some false | none => none
@[simp] theorem andO_some (b c : Bool) : andO (some b) (some c) = some (b && c) := by cases b <;> rfl
/-! what is owned, told as a list of parts that lie apart -/
abbrev Hp := Nat → Option Obj
abbrev HP := Hp → Prop
def hOr (a b : Hp) : Hp := fun i => match a i with | some o => some o | none => b i
def hDisj (a b : Hp) : Prop := ∀ i o, a i = some o → b i = none
def SepL : List HP → Hp → Prop
  | [], _ => True
  | P :: L, h => ∃ a b, hDisj a b ∧ h = hOr a b ∧ P a ∧ SepL L b
/-- all that was there in w0 is as it was; the parts of L lie apart, in what is new -/
structure Sat (w0 : World) (L : List HP) (w : World) : Prop where
  fr : Fr [] w0 w
  ex : ∃ h : Hp, SepL L h ∧ ∀ i o, h i = some o → w0.heap.size ≤ i ∧ w.heap[i]? = some o

def Blk (b : Nat) (o : Obj) : HP := fun h => h b = some o
def Cl (b : Nat) (c : Array Value) (ty : TypeId) : HP := Blk b (.cells c ty (0, 0))
def HEx {α : Sort _} (f : α → HP) : HP := fun h => ∃ x, f x h
def HPr (p : Prop) (P : HP) : HP := fun h => p ∧ P h
def HSt (P Q : HP) : HP := fun h => ∃ a b, hDisj a b ∧ h = hOr a b ∧ P a ∧ Q b
def HEm : HP := fun _ => True
def SlH (es : Nat) (ty : TypeId) (v : Value) (n : Nat) (cs : List Value) : HP := fun h =>
  (v = .slice none 0 0 ∧ n = 0 ∧ cs = []) ∨ ∃ b o cap a, v = .slice (some ⟨b, o, none⟩) n cap ∧ n ≤ cap ∧ o + cap * es ≤ a.size ∧ cs = (a.toList.drop o).take (n * es) ∧ h b = some (.cells a ty (0, 0))

theorem hDisj.symm {a b : Hp} (h : hDisj a b) : hDisj b a := fun i o hb => by
  cases ha : a i with
  | none => rfl
  | some x => rw [h i x ha] at hb; cases hb
theorem hOr_comm {a b : Hp} (h : hDisj a b) : hOr a b = hOr b a := by
  funext i; unfold hOr
  cases ha : a i with
  | none => cases b i <;> rfl
  | some x => rw [h i x ha]
theorem hOr_assoc (a b c : Hp) : hOr (hOr a b) c = hOr a (hOr b c) := by
  funext i; unfold hOr; cases a i <;> rfl
theorem hOr_l {a b : Hp} {i : Nat} {o : Obj} (h : a i = some o) : hOr a b i = some o := by simp [hOr, h]
theorem hOr_r {a b : Hp} {i : Nat} {o : Obj} (hd : hDisj a b) (h : b i = some o) : hOr a b i = some o := by rw [hOr_comm hd]; exact hOr_l h
theorem hDisj_or {a b c : Hp} : hDisj a (hOr b c) ↔ hDisj a b ∧ hDisj a c := by
  constructor
  · intro h
    refine ⟨fun i o ha => ?_, fun i o ha => ?_⟩
    all_goals
      have := h i o ha
      unfold hOr at this
      cases hb : b i with
      | none => first | rfl | simpa [hb] using this
      | some x => simp [hb] at this
  · rintro ⟨h1, h2⟩ i o ha
    simp [hOr, h1 i o ha, h2 i o ha]
theorem or_hDisj {a b c : Hp} : hDisj (hOr a b) c ↔ hDisj a c ∧ hDisj b c := by
  constructor
  · intro h
    have := hDisj_or.1 h.symm
    exact ⟨this.1.symm, this.2.symm⟩
  · rintro ⟨h1, h2⟩
    exact (hDisj_or.2 ⟨h1.symm, h2.symm⟩).symm

section
variable {P Q : HP} {L L' : List HP} {h : Hp}
theorem SepL.swap (hs : SepL (P :: Q :: L) h) : SepL (Q :: P :: L) h := by
  obtain ⟨a, _, hd, rfl, hP, b, c, hd2, rfl, hQ, hL⟩ := hs
  obtain ⟨h1, h2⟩ := hDisj_or.1 hd
  refine ⟨b, hOr a c, ?_, ?_, hQ, a, c, h2, rfl, hP, hL⟩
  · exact hDisj_or.2 ⟨h1.symm, hd2⟩
  · rw [← hOr_assoc, hOr_comm h1, hOr_assoc]
theorem SepL.tail (f : ∀ h, SepL L h → SepL L' h) (hs : SepL (P :: L) h) : SepL (P :: L') h := by
  obtain ⟨a, b, hd, rfl, hP, hL⟩ := hs
  exact ⟨a, b, hd, rfl, hP, f _ hL⟩
theorem SepL.perm (p : L.Perm L') : ∀ {h : Hp}, SepL L h → SepL L' h := by
  induction p with
  | nil => exact fun h => h
  | cons x _ ih => exact fun h => h.tail fun _ => ih
  | swap x y l => exact fun h => h.swap
  | trans _ _ i1 i2 => exact fun h => i2 (i1 h)
theorem SepL.star : SepL (HSt P Q :: L) h ↔ SepL (P :: Q :: L) h := by
  constructor
  · rintro ⟨_, c, hd, rfl, ⟨a, b, hd2, rfl, hP, hQ⟩, hL⟩
    obtain ⟨h1, h2⟩ := or_hDisj.1 hd
    exact ⟨a, hOr b c, hDisj_or.2 ⟨hd2, h1⟩, hOr_assoc _ _ _, hP, b, c, h2, rfl, hQ, hL⟩
  · rintro ⟨a, _, hd, rfl, hP, b, c, hd2, rfl, hQ, hL⟩
    obtain ⟨h1, h2⟩ := hDisj_or.1 hd
    exact ⟨hOr a b, c, or_hDisj.2 ⟨h2, hd2⟩, (hOr_assoc _ _ _).symm, ⟨a, b, h1, rfl, hP, hQ⟩, hL⟩
theorem SepL.drop (hs : SepL (P :: L) h) : ∃ b, SepL L b ∧ ∀ i o, b i = some o → h i = some o := by
  obtain ⟨a, b, hd, rfl, hP, hL⟩ := hs
  exact ⟨b, hL, fun i o hb => hOr_r hd hb⟩
end

section
variable {w0 w w' : World} {P Q : HP} {L L' : List HP}
theorem Sat.perm (hs : Sat w0 L w) (p : L.Perm L') : Sat w0 L' w := by
  obtain ⟨h, h1, h2⟩ := hs.ex
  exact ⟨hs.fr, h, h1.perm p, h2⟩
theorem Sat.conv (hs : Sat w0 L w) (f : ∀ h, SepL L h → SepL L' h) : Sat w0 L' w := by
  obtain ⟨h, h1, h2⟩ := hs.ex
  exact ⟨hs.fr, h, f h h1, h2⟩
theorem Sat.start (w0 : World) : Sat w0 [] w0 := ⟨.refl _ _, fun _ => none, trivial, fun _ _ h => by cases h⟩
theorem Sat.drop (hs : Sat w0 (P :: L) w) : Sat w0 L w := by
  obtain ⟨h, h1, h2⟩ := hs.ex
  obtain ⟨b, hb, hb2⟩ := h1.drop
  exact ⟨hs.fr, b, hb, fun i o h => h2 i o (hb2 i o h)⟩
theorem Sat.mono (hs : Sat w0 (P :: L) w) (f : ∀ h, P h → Q h) : Sat w0 (Q :: L) w := hs.conv fun _ ⟨a, b, hd, e, hP, hL⟩ => ⟨a, b, hd, e, f a hP, hL⟩
/-- the second, third .. part to the front -/
theorem Sat.f1 {A B : HP} (h : Sat w0 (A :: B :: L) w) : Sat w0 (B :: A :: L) w := h.conv fun _ h => h.swap
theorem Sat.f2 {A B C : HP} (h : Sat w0 (A :: B :: C :: L) w) : Sat w0 (C :: A :: B :: L) w := h.conv fun _ h => (h.tail fun _ h => h.swap).swap
theorem Sat.f3 {A B C D : HP} (h : Sat w0 (A :: B :: C :: D :: L) w) : Sat w0 (D :: A :: B :: C :: L) w := h.conv fun _ h => (h.tail fun _ h => (h.tail fun _ h => h.swap).swap).swap
theorem Sat.f4 {A B C D E : HP} (h : Sat w0 (A :: B :: C :: D :: E :: L) w) : Sat w0 (E :: A :: B :: C :: D :: L) w := h.conv fun _ h => (h.tail fun _ h => (h.tail fun _ h => (h.tail fun _ h => h.swap).swap).swap).swap
/-- the first part to the second, third .. place -/
theorem Sat.b2 {A B C : HP} (h : Sat w0 (A :: B :: C :: L) w) : Sat w0 (B :: C :: A :: L) w := h.conv fun _ h => h.swap.tail fun _ h => h.swap
theorem Sat.b3 {A B C D : HP} (h : Sat w0 (A :: B :: C :: D :: L) w) : Sat w0 (B :: C :: D :: A :: L) w := h.conv fun _ h => h.swap.tail fun _ h => h.swap.tail fun _ h => h.swap
@[simp] theorem Sat.star_iff : Sat w0 (HSt P Q :: L) w ↔ Sat w0 (P :: Q :: L) w := ⟨fun h => h.conv fun _ => SepL.star.1, fun h => h.conv fun _ => SepL.star.2⟩
@[simp] theorem Sat.ex_iff {α : Sort _} {f : α → HP} : Sat w0 (HEx f :: L) w ↔ ∃ x, Sat w0 (f x :: L) w := by
  constructor
  · rintro ⟨hf, h, ⟨a, b, hd, e, ⟨x, hx⟩, hL⟩, h2⟩
    exact ⟨x, hf, h, ⟨a, b, hd, e, hx, hL⟩, h2⟩
  · rintro ⟨x, h⟩
    exact h.mono fun a ha => ⟨x, ha⟩
@[simp] theorem Sat.pr_iff {p : Prop} : Sat w0 (HPr p P :: L) w ↔ p ∧ Sat w0 (P :: L) w := by
  constructor
  · rintro ⟨hf, h, ⟨a, b, hd, e, ⟨hp, hx⟩, hL⟩, h2⟩
    exact ⟨hp, hf, h, ⟨a, b, hd, e, hx, hL⟩, h2⟩
  · rintro ⟨x, h⟩
    exact h.mono fun a ha => ⟨x, ha⟩
@[simp] theorem Sat.em_iff : Sat w0 (HEm :: L) w ↔ Sat w0 L w := by
  refine ⟨Sat.drop, fun h => ?_⟩
  obtain ⟨hh, h1, h2⟩ := h.ex
  exact ⟨h.fr, hh, ⟨fun _ => none, hh, (fun _ _ h => by cases h), rfl, trivial, h1⟩, h2⟩

theorem Sat.os (h : Sat w0 L w) : w'.os = w.os → w'.os = w0.os := fun e => e.trans h.fr.os
theorem Sat.size (h : Sat w0 L w) : w0.heap.size ≤ w.heap.size := h.fr.size
theorem Sat.old (h : Sat w0 L w) {b : Nat} (hb : b < w0.heap.size) : w.heap[b]? = w0.heap[b]? := h.fr.blk b hb (by simp)
theorem Sat.drew (h : Sat w0 L w) : Sat w0 L w.drew := ⟨h.fr.trans (Fr.drew [] w) fun x hx => .inl hx, h.ex⟩
theorem Sat.undrew (h : Sat w0 L w.drew) : Sat w0 L w := ⟨⟨h.fr.os, h.fr.tape, h.fr.output, h.fr.size, h.fr.blk⟩, h.ex⟩
theorem Sat.same (h : Sat w0 L w) (e : w'.heap = w.heap) (e1 : w'.os = w.os) (e2 : w'.tape = w.tape) (e3 : w'.output = w.output) : Sat w0 L w' :=
  ⟨⟨e1.trans h.fr.os, e2.trans h.fr.tape, e3.trans h.fr.output, by rw [e]; exact h.fr.size, fun b hb hn => by rw [e]; exact h.fr.blk b hb hn⟩, by rw [e]; exact h.ex⟩

theorem Sat.blk {b : Nat} {o : Obj} (h : Sat w0 (Blk b o :: L) w) : w.heap[b]? = some o := by
  obtain ⟨_, hh, ⟨a, c, hd, rfl, hP, _⟩, h2⟩ := h
  exact (h2 b o (hOr_l hP)).2
theorem Sat.blk_ge {b : Nat} {o : Obj} (h : Sat w0 (Blk b o :: L) w) : w0.heap.size ≤ b := by
  obtain ⟨_, hh, ⟨a, c, hd, rfl, hP, _⟩, h2⟩ := h
  exact (h2 b o (hOr_l hP)).1
theorem Sat.cl {b : Nat} {c : Array Value} {ty : TypeId} (h : Sat w0 (Cl b c ty :: L) w) : w.heap[b]? = some (.cells c ty (0, 0)) := h.blk
theorem Sat.alloc (h : Sat w0 L w) (o : Obj) : Sat w0 (Blk w.heap.size o :: L) (w.alloc o) := by
  obtain ⟨hf, hh, h1, h2⟩ := h
  refine ⟨hf.trans (Fr.alloc [] w o) fun x hx => .inl hx, hOr (fun i => if i = w.heap.size then some o else none) hh, ⟨_, hh, ?_, rfl, by simp [Blk], h1⟩, ?_⟩
  · intro i o' hi
    by_cases e : i = w.heap.size
    · subst e
      cases hx : hh w.heap.size with
      | none => rfl
      | some x => have := lt_of_blk (h2 _ _ hx).2; omega
    · simp [e] at hi
  · intro i o' hi
    by_cases e : i = w.heap.size
    · subst e; simp [hOr] at hi; subst hi
      exact ⟨hf.size, heap_alloc_new _ _⟩
    · simp [hOr, e] at hi
      obtain ⟨g1, g2⟩ := h2 i o' hi
      exact ⟨g1, by rw [heap_alloc_lt _ _ (lt_of_blk g2)]; exact g2⟩
theorem Sat.set {b : Nat} {o : Obj} (h : Sat w0 (Blk b o :: L) w) (o' : Obj) : Sat w0 (Blk b o' :: L) (setBlk w b o') := by
  have hb := h.blk
  have hge := h.blk_ge
  obtain ⟨hf, hh, ⟨a, c, hd, rfl, hP, hL⟩, h2⟩ := h
  refine ⟨⟨hf.os, hf.tape, hf.output, by simpa using hf.size, fun x hx hn => by rw [setBlk_ne (by omega)]; exact hf.blk x hx hn⟩, hOr (fun i => if i = b then some o' else a i) c, ⟨_, c, ?_, rfl, by simp [Blk], hL⟩, ?_⟩
  · intro i x hi
    by_cases e : i = b
    · subst e; exact hd _ _ hP
    · simp [e] at hi; exact hd _ _ hi
  · intro i x hi
    by_cases e : i = b
    · subst e; simp [hOr] at hi; subst hi
      exact ⟨hge, setBlk_same hb⟩
    · have : hOr a c i = some x := by simpa [hOr, e] using hi
      obtain ⟨g1, g2⟩ := h2 i x this
      exact ⟨g1, by rw [setBlk_ne (by omega)]; exact g2⟩

/-- a part that is told by what it owns in a world -/
theorem Sat.own {es n : Nat} {ty : TypeId} {v : Value} {cs : List Value} (h : Sat w0 (SlH es ty v n cs :: L) w) :
    ∃ fp, Own w es ty fp v n cs ∧ ∀ (w' : World) (fp' : List Nat) (v' : Value) (n' : Nat) (cs' : List Value) (es' : Nat) (ty' : TypeId), Own w' es' ty' fp' v' n' cs' → Stp fp fp' w w' → Sat w0 (SlH es' ty' v' n' cs' :: L) w' := by
  obtain ⟨hf, hh, ⟨a, c, hd, rfl, hP, hL⟩, h2⟩ := h
  have key : ∀ fp : List Nat, (∀ b ∈ fp, ∃ o, a b = some o) → ∀ (w' : World) (fp' : List Nat) (v' : Value) (n' : Nat) (cs' : List Value) (es' : Nat) (ty' : TypeId), Own w' es' ty' fp' v' n' cs' → Stp fp fp' w w' → Sat w0 (SlH es' ty' v' n' cs' :: L) w' := by
    intro fp hfp w' fp' v' n' cs' es' ty' hO st
    have hge : ∀ b ∈ fp, w0.heap.size ≤ b := fun b hb => by obtain ⟨o, ho⟩ := hfp b hb; exact (h2 b o (hOr_l ho)).1
    have hc : ∀ i o, c i = some o → i ∉ fp ∧ i < w.heap.size ∧ w0.heap.size ≤ i ∧ w.heap[i]? = some o := fun i o hi => by
      obtain ⟨g1, g2⟩ := h2 i o (hOr_r hd hi)
      refine ⟨fun hm => ?_, lt_of_blk g2, g1, g2⟩
      obtain ⟨o', ho'⟩ := hfp i hm
      rw [hd i o' ho'] at hi; cases hi
    refine ⟨hf.trans st.fr fun x hx => .inr (hge x hx), hOr (fun i => if i ∈ fp' then w'.heap[i]? else none) c, ⟨_, c, ?_, rfl, ?_, hL⟩, ?_⟩
    · intro i o hi
      by_cases hm : i ∈ fp'
      · cases hci : c i with
        | none => rfl
        | some x =>
          obtain ⟨g1, g2, _, _⟩ := hc i x hci
          rcases st.ext i hm with h | h
          · exact absurd h g1
          · omega
      · simp [hm] at hi
    · cases hO with
      | nil => exact .inl ⟨rfl, rfl, rfl⟩
      | blk hb hn ha hc => exact .inr ⟨_, _, _, _, rfl, hn, ha, hc, by simpa using hb⟩
    · intro i o hi
      by_cases hm : i ∈ fp'
      · simp only [hOr, hm, if_true] at hi
        cases hw : w'.heap[i]? with
        | none => have := hO.lt i hm; simp [Array.getElem?_eq_none_iff] at hw; omega
        | some x =>
          rw [hw] at hi; simp at hi; subst hi
          refine ⟨?_, rfl⟩
          rcases st.ext i hm with h | h
          · exact hge i h
          · exact Nat.le_trans hf.size h
      · simp [hOr, hm] at hi
        obtain ⟨g1, g2, g3, g4⟩ := hc i o hi
        exact ⟨g3, (st.keep g2 g1).trans g4⟩
  rcases hP with ⟨rfl, rfl, rfl⟩ | ⟨b, o, cap, arr, rfl, hn, ha, hc, hb⟩
  · exact ⟨[], .nil, key [] (by simp)⟩
  · exact ⟨[b], .blk (h2 b _ (hOr_l hb)).2 hn ha hc, key [b] (by simpa using ⟨_, hb⟩)⟩
theorem Sat.rd {es n : Nat} {ty : TypeId} {v : Value} {cs : List Value} (h : Sat w0 (SlH es ty v n cs :: L) w) : Rd w es v n cs := by
  obtain ⟨fp, hO, _⟩ := h.own
  exact hO.rd
theorem Sat.ofOwn {es n : Nat} {ty : TypeId} {v : Value} {cs : List Value} {fp : List Nat} (h : Sat w0 L w) (hO : Own w' es ty fp v n cs) (st : Stp [] fp w w') : Sat w0 (SlH es ty v n cs :: L) w' := by
  have h0 : Sat w0 (SlH es ty (.slice none 0 0) 0 [] :: L) w := by
    have := Sat.em_iff.2 h
    exact this.mono fun _ _ => .inl ⟨rfl, rfl, rfl⟩
  obtain ⟨fp0, hO0, k⟩ := h0.own
  cases hO0
  exact k _ _ _ _ _ _ _ hO st
theorem Sat.nilsl {es : Nat} {ty : TypeId} (h : Sat w0 L w) : Sat w0 (SlH es ty (.slice none 0 0) 0 [] :: L) w := h.ofOwn .nil (.refl _ _)
theorem Sat.unsl {es n : Nat} {ty : TypeId} {v : Value} {cs : List Value} (h : Sat w0 (SlH es ty v n cs :: L) w) {v' : Value} {n' : Nat} {cs' : List Value} (hO : ∀ fp, Own w es ty fp v n cs → Own w es ty fp v' n' cs') : Sat w0 (SlH es ty v' n' cs' :: L) w := by
  obtain ⟨fp, h1, k⟩ := h.own
  exact k _ _ _ _ _ _ _ (hO _ h1) (.refl _ _)
theorem Rd.keepF {es n : Nat} {v : Value} {cs : List Value} (h : Rd w es v n cs) (hk : ∀ b, b < w.heap.size → w'.heap[b]? = w.heap[b]?) : Rd w' es v n cs := by
  cases h with
  | emp a cap => exact .emp a cap
  | blk hb hn ha hc => exact .blk (by rw [hk _ (lt_of_blk hb)]; exact hb) hn ha hc
theorem Rd.sat {es n : Nat} {v : Value} {cs : List Value} (h : Rd w0 es v n cs) (hs : Sat w0 L w) : Rd w es v n cs := h.keepF fun _ hb => hs.old hb
theorem Rd.heap {es n : Nat} {v : Value} {cs : List Value} (h : Rd w es v n cs) (e : w'.heap = w.heap) : Rd w' es v n cs := h.keepF fun _ _ => by rw [e]
theorem Sat.cellOld (h : Sat w0 L w) {a : Addr} {v : Value} (hv : w0.cell? a = some v) : w.cell? a = some v := by
  unfold World.cell? at *
  cases hb : w0.heap[a.block]? with
  | none => simp [hb] at hv
  | some o => rw [h.old (lt_of_blk hb), hb]; rwa [hb] at hv

/-! operations -/
theorem eBox_sat {t : TypeId} {v : Value} {K : Value → World → Prop} (h : Sat w0 L w) (hK : ∀ p w', Sat w0 (Cl p v.cells t :: L) w' → K (ptr p) w') : eBox t v w K := hK _ _ (h.alloc _)
theorem eAlloc_sat {Pg : Program} {t : TypeId} {z : Value} {K : Value → World → Prop} (h : Sat w0 L w) (hz : fZero Pg t = some z) (hK : ∀ p w', Sat w0 (Cl p z.cells t :: L) w' → K (ptr p) w') : eAlloc Pg t w K := by
  unfold eAlloc; rw [hz]; exact hK _ _ (h.alloc _)
theorem eBuildSl_sat {Pg : Program} {t el : TypeId} {es len : Nat} {parts : List (Nat × Value)} {K : Value → World → Prop} {c : Array Value} (h : Sat w0 L w) (hu : Pg.underlying t = some (.slice el))
    (hc : fBuildSl Pg el len parts = some c) (hs : c.size = len * es) (hK : ∀ s w', Sat w0 (SlH es el s len c.toList :: L) w' → K s w') : eBuildSl Pg t len parts w K :=
  eBuildSl_own hu hc hs fun w' s hO st => hK _ _ (h.ofOwn hO st)
theorem eMakeSl_sat {Pg : Program} {t el : TypeId} {es bytes : Nat} {l c : Nat} {K : Value → World → Prop} (h : Sat w0 L w) (T : SlT Pg t el es bytes) (hl : l ≤ c) (hc : c * bytes ≤ 281474976710656)
    (hK : ∀ s cs w', Sat w0 (SlH es el s l cs :: L) w' → K s w') : eMakeSl Pg t (.int .i64 l) (.int .i64 c) w K :=
  eMakeSl_own T hl hc fun w' s cs hO st => hK _ _ _ (h.ofOwn hO st)
theorem eAppend_sat {Pg : Program} {t xt el : TypeId} {es bytes n m : Nat} {s x : Value} {cs ds : List Value} {K : Value → World → Prop} (h : Sat w0 (SlH es el s n cs :: L) w) (T : SlT Pg t el es bytes) (hxt : isSS Pg xt = true)
    (hR : Rd w es x m ds) (hd : ds.all (·.oneCell') = true) (hb : (n + m) * bytes ≤ 140737488355328)
    (hK : ∀ s' w', Sat w0 (SlH es el s' (n + m) (cs ++ ds) :: L) w' → K s' w') : eAppend Pg t xt s x w K := by
  obtain ⟨fp, hO, k⟩ := h.own
  exact eAppend_own T hxt hO hR hd hb fun w' fp' s' hO' st => hK _ _ (k _ _ _ _ _ _ _ hO' st)
theorem eCopy_sat {Pg : Program} {t el : TypeId} {es bytes n : Nat} {d x : Value} {cs ds : List Value} {K : Value → World → Prop} (h : Sat w0 (SlH es el d n cs :: L) w) (T : SlT Pg t el es bytes)
    (hR : Rd w es x n ds) (hd : ds.all (·.oneCell') = true) (hK : ∀ w', Sat w0 (SlH es el d n ds :: L) w' → K (.int .i64 n) w') : eCopy Pg t d x w K := by
  obtain ⟨fp, hO, k⟩ := h.own
  exact eCopy_own T hO hR hd fun w' hO' st => hK _ (k _ _ _ _ _ _ _ hO' st)
theorem Sat.setc {b : Nat} {c : Array Value} {ty : TypeId} (h : Sat w0 (Cl b c ty :: L) w) (c' : Array Value) : Sat w0 (Cl b c' ty :: L) (setBlk w b (.cells c' ty (0, 0))) := h.set _
/-- a store of several cells -/
theorem st_cells {b o n : Nat} {c : Array Value} {ty : TypeId} (h : w.heap[b]? = some (.cells c ty (0, 0))) {x : Value} (hn : x.cells.size = n) (hv : x.cells.toList.all (·.oneCell') = true) (ho : o + n ≤ c.size) :
    st n (.pointer (some ⟨b, o, none⟩)) x w = some (setBlk w b (.cells (wr c o x.cells.toList) ty (0, 0))) := by
  simp only [st]
  rw [if_pos hn, stCells_ok h (by simp [hn, ho]) hv]
theorem ldN_of {b o n : Nat} {c : Array Value} {ty : TypeId} {fz : Nat × Nat} (h : w.heap[b]? = some (.cells c ty fz)) (ho : o + n ≤ c.size) : ldN n (.pointer (some ⟨b, o, none⟩)) w = some (.agg (c.extract o (o + n))) := by
  simp [ldN, h, ho]
end
end Go.Sx

/- Sz2 -/
namespace Go.Sx
@[simp] theorem bs_beq (a b : ByteArray) : (a == b) = decide (a = b) := by
  rcases a with ⟨a⟩; rcases b with ⟨b⟩
  show (a == b) = _
  rw [Bool.eq_iff_iff]; simp
@[simp] theorem one_int (k : IntKind) (n : Int) : (Value.int k n).oneCell' = true := rfl
@[simp] theorem one_str (s : ByteArray) : (Value.string s).oneCell' = true := rfl
@[simp] theorem one_bool (b : Bool) : (Value.bool b).oneCell' = true := rfl
@[simp] theorem one_ptr (a : Option Addr) : (Value.pointer a).oneCell' = true := rfl
@[simp] theorem one_sl (a : Option Addr) (n c : Nat) : (Value.slice a n c).oneCell' = true := rfl
@[simp] theorem one_map (a : Option Nat) : (Value.map a).oneCell' = true := rfl
@[simp] theorem cells_agg (a : Array Value) : (Value.agg a).cells = a := rfl
section
variable {w0 w : World} {L : List HP}
theorem Sat.drops {M : List HP} (h : Sat w0 (M ++ L) w) : Sat w0 L w := by
  induction M with
  | nil => exact h
  | cons a r ih => exact ih h.drop
/-- parts by their places -/
theorem Sat.pick (h : Sat w0 L w) (idx rest : List Nat) (n : Nat) (hi : (rest ++ idx).Perm (List.range n)) (hn : n ≤ L.length) : Sat w0 (idx.map (fun i => L.getD i HEm) ++ L.drop n) w := by
  have p : (L.take n).Perm (rest.map (fun i => L.getD i HEm) ++ idx.map (fun i => L.getD i HEm)) := by
    have := (hi.map fun i => L.getD i HEm).symm
    rw [List.map_append] at this
    refine List.Perm.trans (List.Perm.of_eq ?_) this
    apply List.ext_getElem
    · simp; omega
    · intro i h1 h2; simp at h1 h2 ⊢
      rw [List.getElem?_eq_getElem (by omega)]; rfl
  refine Sat.drops (M := rest.map fun i => L.getD i HEm) (h.perm ?_)
  have := p.append_right (L.drop n)
  rw [List.take_append_drop, List.append_assoc] at this
  exact this
theorem bindW_st {b o : Nat} {c : Array Value} {ty : TypeId} {x : Value} {k : World → Prop} (h : Sat w0 (Cl b c ty :: L) w) [OneV x] (ho : o < c.size) (hk : ∀ w', Sat w0 (Cl b (c.setIfInBounds o x) ty :: L) w' → k w') :
    bindW (st 1 (.pointer (some ⟨b, o, none⟩)) x w) k := by
  rw [st_at h.cl x ho]; exact hk _ (h.setc _)
theorem bindW_stN {b o n : Nat} {c : Array Value} {ty : TypeId} {x : Value} {k : World → Prop} (h : Sat w0 (Cl b c ty :: L) w) (hn : x.cells.size = n) (hv : x.cells.toList.all (·.oneCell') = true) (ho : o + n ≤ c.size)
    (hk : ∀ w', Sat w0 (Cl b (wr c o x.cells.toList) ty :: L) w' → k w') : bindW (st n (.pointer (some ⟨b, o, none⟩)) x w) k := by
  rw [st_cells h.cl hn hv ho]; exact hk _ (h.setc _)
/-- the same but for draws -/
structure Same (w w' : World) : Prop where
  heap : w'.heap = w.heap
  os : w'.os = w.os
  tape : w'.tape = w.tape
  output : w'.output = w.output
theorem Same.refl (w : World) : Same w w := ⟨rfl, rfl, rfl, rfl⟩
theorem Same.drew (w : World) : Same w w.drew := ⟨rfl, rfl, rfl, rfl⟩
theorem Same.trans {a b c : World} (h : Same a b) (h' : Same b c) : Same a c := ⟨h'.heap.trans h.heap, h'.os.trans h.os, h'.tape.trans h.tape, h'.output.trans h.output⟩
theorem Sat.to {w' : World} (h : Sat w0 L w) (e : Same w w') : Sat w0 L w' := h.same e.heap e.os e.tape e.output
theorem Rd.to {w' : World} {es n : Nat} {v : Value} {cs : List Value} (h : Rd w es v n cs) (e : Same w w') : Rd w' es v n cs := h.heap e.heap
theorem Same.cell {w' : World} (e : Same w w') (a : Addr) : w'.cell? a = w.cell? a := by simp [World.cell?, e.heap]
/-- one cell of a slice is written -/
theorem st_elem {es n i o : Nat} {ty : TypeId} {v : Value} {cs : List Value} {j : IntKind} (h : Sat w0 (SlH es ty v n cs :: L) w) (hi : i < n) (ho : o < es) (x : Value) [OneV x] :
    ∃ b q, pIndexL es v (.int j i) = some (.pointer (some ⟨b, q, none⟩)) ∧ ∃ w', st 1 (.pointer (some ⟨b, q + o, none⟩)) x w = some w' ∧ Sat w0 (SlH es ty v n (cs.set (i * es + o) x) :: L) w' := by
  obtain ⟨fp, hO, kk⟩ := h.own
  cases hO with
  | nil => omega
  | blk hb hn ha hc =>
    rename_i b q cap a
    have h1 : i * es + o < n * es := by
      have := Nat.mul_le_mul_right es (show i + 1 ≤ n by omega)
      rw [Nat.add_mul] at this; omega
    have h2 := Nat.mul_le_mul_right es hn
    refine ⟨b, q + i * es, ?_, _, st_at hb x (by omega), kk _ [b] _ _ _ _ _ (.blk (setBlk_same hb) hn (by simpa using ha) ?_) (.set _ _ (by simp))⟩
    · simp only [pIndexL]; rw [if_pos ⟨by omega, by omega⟩]; simp
    · subst hc
      rw [Array.toList_setIfInBounds, List.drop_set, if_neg (by omega), List.take_set, show q + i * es + o - q = i * es + o by omega]
/-- a part of a slice, wherever it is read -/
theorem Rd.sub' {es n lo hi : Nat} {v v' : Value} {cs : List Value} {L H M : Option Value} (h : Rd w es v n cs) (hs : pSliceL es v L H M = some v') (hL : Bd 0 L lo) (hH : Bd n H hi) (hM : BdM hi n H M) (h1 : lo ≤ hi) (h2 : hi ≤ n) :
    Rd w es v' (hi - lo) ((cs.take (hi * es)).drop (lo * es)) := by
  obtain ⟨v2, e, hr⟩ := h.sub hL hH hM h1 h2
  rw [e] at hs; cases hs; exact hr
end
end Go.Sx

/- Sz3 -/
namespace Go.Sx
open Go.ChangeShapes Go.WideShapes Go.RowKit
/-! from a law's contract to its row -/
section
variable {H : Type} {enc : TypeId × Value → H} {P : Program}
theorem trodAll_stays (hl : laidOutB P = true) {W W' : World} {sp' : Nat → Bool} {base : Nat} : ∀ {ts : List TypeId} {vs : List Value} {ds : List (DataW H)} {ps : List MemPlace}, (∀ t ∈ ts, P.readableRec t = true ∧ t < P.types.size) →
    DataW.TrodAll enc P W base (fun _ => true) true ts vs ds ps → (∀ p ∈ ps, W.sameAt W' p) → (∀ p ∈ ps, sp' p.block = true) → DataW.TrodAll enc P W' base sp' true ts vs ds ps := by
  intro ts
  induction ts with
  | nil => intro vs ds ps _ h _ _; obtain ⟨rfl, rfl, rfl⟩ := trodAll_nil h; exact trodAll_mk0
  | cons t ts ih =>
    intro vs ds ps hr h h1 h2
    cases vs with
    | nil => exact h.elim
    | cons v vs =>
      cases ds with
      | nil => exact h.elim
      | cons d ds =>
        obtain ⟨p, q, hp, hq, rfl⟩ := h
        have := hr t (by simp)
        exact ⟨p, q, WideElems.Trod_stays hl this.1 this.2 hp (fun x hx => h1 x (by simp [hx])) (fun x hx => h2 x (by simp [hx])), ih (fun t ht => hr t (by simp [ht])) hq (fun x hx => h1 x (by simp [hx])) (fun x hx => h2 x (by simp [hx])), rfl⟩
/-- a law that answers true, and whose call leaves all that was there as it was -/
theorem law_post (hl : laidOutB P = true) {f : Func} {s : ChangeSpec} {apart fresh handsOn again : Bool} {W W' : World} {args : Array Value} {ds gs : List (DataW H)} {before : List MemPlace} {tb : TypeId}
    (hp : f.params.toList.all (fun t => P.readableRec t && decide (t < P.types.size)) = true) (hW : DataW.Whole enc P f.params.toList s.vars apart W args.toList ds gs before) (hv : s.vars = [])
    (hs : s.fn H ds = { results := [.lit (.bool true)], args := ds }) (hr : f.resultTypes = #[tb]) (hb : P.underlying tb = some .bool) (hf : Fr [] W W') : s.post enc P f apart fresh handsOn again W args (.bool true) W' := by
  have hlt := hW.lt
  have hW0 := hW
  obtain ⟨p, q, hA, hV, rfl, hfz, hnd⟩ := hW
  rw [hv] at hV
  obtain ⟨rfl, rfl⟩ := trodVars_none hV
  simp only [List.append_nil] at *
  have hB := hf.below
  have hpar : ∀ t ∈ f.params.toList, P.readableRec t = true ∧ t < P.types.size := fun t ht => by
    have := List.all_eq_true.1 hp t ht
    simpa using this
  have hsame : ∀ x ∈ p, W.sameAt W' x := fun x hx => hB.same (hlt x hx)
  have hargs : ∀ sp : Nat → Bool, (∀ x ∈ p, sp x.block = true) → DataW.TrodAll enc P W' 0 sp true f.params.toList args.toList ds p := fun sp hsp => trodAll_stays hl hpar hA hsame hsp
  have hres : ∀ (b : Nat) (sp : Nat → Bool) (hd : Bool), DataW.TrodAll enc P W' b sp hd f.resultTypes.toList ((Value.bool true).resultList f.resultTypes.size) [.lit (.bool true)] [] := by
    intro b sp hd
    rw [hr]
    exact trodAll_mk1 (shut_bool hb true)
  have hfn : s.fn H (ds ++ []) = { results := [.lit (.bool true)], args := ds } := by rw [List.append_nil]; exact hs
  refine ⟨ds, [], p, [], p, [], hW0, by rw [hfn]; exact hres _ _ _, by rw [hfn]; exact hargs _ fun x hx => by simpa using hlt x hx, by rw [hfn, hv]; rfl, hB.frame _, fun _ => ⟨?_, [.lit (.bool true)] ++ ds, [], p, ⟨p, [], ?_, by rw [hv]; rfl, by simp, ?_, ?_⟩, ?_⟩⟩
  · exact ok_one hr rfl (by simp [Value.okWide, hb, Cell.okWide, Cell.ok])
  · have := trodAll_append (hargs (fun _ => true) fun _ _ => rfl) (hres 0 (fun _ => true) true)
    simpa using this
  · intro b off hx
    rw [hB.frozen (p := ⟨b, off, none⟩) (hlt _ hx)]
    exact hfz b off hx
  · exact hnd
  · exact fun x hx _ => hx
/-- the call of a law -/
theorem law_calls {i : Nat} {G : FnT} (ok : OkF P i G) (hc : ∀ args w, (callFunc i args).run P w = .ok (.enter i args) w) {args : List Value} {W : World} (h : callP G args W fun v w' => v = .bool true ∧ Sat W [] w') :
    Calls P i args.toArray W fun e w' => e = .returned (.bool true) ∧ Fr [] W w' := by
  obtain ⟨k0, h0, hk⟩ := h
  rcases (ok _ _ _ h0) with ⟨_, hC⟩ | ⟨v, w', hr, _⟩
  · exact hC.mono fun e w' ⟨v, he, hv⟩ => ⟨by rw [he, (hk _ _ hv).1], (hk _ _ hv).2.fr⟩
  · rw [hc] at hr; cases hr
end
end Go.Sx

/- Sz4 -/
namespace Go.Sx
open Go.ChangeShapes Go.WideShapes Go.RowKit
/-! arguments: what a reading says of the cells -/
inductive CK where
  | int (k : IntKind)
  | str
  | bool
def Fit (c : CK) (v : Value) : Prop := match c with
  | .int k => ∃ n, v = .int k n ∧ (Lit.int k n).wf = true
  | .str => ∃ s, v = .string s ∧ s.size ≤ maxLen
  | .bool => ∃ b, v = .bool b
def FitL : List CK → List Value → Prop
  | [], [] => True
  | c :: cs, v :: vs => Fit c v ∧ FitL cs vs
  | _, _ => False
theorem FitL.append : ∀ {a b : List CK} {x y : List Value}, FitL a x → FitL b y → FitL (a ++ b) (x ++ y)
  | [], _, [], _, _, h => h
  | _ :: _, _, _ :: _, _, h, h' => ⟨h.1, h.2.append h'⟩
  | [], _, _ :: _, _, h, _ => h.elim
  | _ :: _, _, [], _, h, _ => h.elim
theorem FitL.length : ∀ {a : List CK} {x : List Value}, FitL a x → x.length = a.length
  | [], [], _ => rfl
  | _ :: _, _ :: _, h => by simp [h.2.length]
  | [], _ :: _, h => h.elim
  | _ :: _, [], h => h.elim
def scalF (P : Program) (r : TypeId → Option (List CK)) : List Field → Nat → Option (List CK)
  | [], _ => some []
  | f :: fs, off => match f.offset == off, r f.type with
    | true, some ks => match ks.length == P.cellsOf f.type, scalF P r fs (off + ks.length) with
      | true, some l => some (ks ++ l)
      | _, _ => none
    | _, _ => none
def repCK (ks : List CK) : Nat → List CK
  | 0 => []
  | n + 1 => ks ++ repCK ks n
def scal (P : Program) : Nat → TypeId → Option (List CK)
  | 0, _ => none
  | d + 1, t => match P.underlying t with
    | some .bool => some [.bool]
    | some (.int k) => some [.int k]
    | some .string => some [.str]
    | some (.struct fs) => match scalF P (scal P d) fs.toList 0 with
      | some ks => if ks.length = P.cellsOf t then some ks else none
      | none => none
    | some (.array n e) => match scal P d e with
      | some ks => if ks.length = P.cellsOf e ∧ n * ks.length = P.cellsOf t then some (repCK ks n) else none
      | none => none
    | _ => none
section
variable {H : Type} {enc : TypeId × Value → H} {P : Program} {w : World} {base : Nat} {sp : Nat → Bool} {held : Bool}
theorem scalF_ok {r : TypeId → Option (List CK)} {R : TypeId → List Value → Option (DataW H × List MemPlace)} {cs : List Value} (hr : ∀ t ks c x, r t = some ks → R t c = some x → FitL ks c) :
    ∀ (fs : List Field) (off : Nat) (ks : List CK) (xs : List (DataW H × List MemPlace)), scalF P r fs off = some ks → fs.mapM (fun f => R f.type ((cs.drop f.offset).take (P.cellsOf f.type))) = some xs → FitL ks ((cs.drop off).take ks.length) := by
  intro fs
  induction fs with
  | nil => intro off ks xs h _; simp [scalF] at h; subst h; simp [FitL]
  | cons f fs ih =>
    intro off ks xs h hm
    unfold scalF at h
    split at h
    · rename_i ks1 ho hks
      split at h
      · rename_i l hl hk
        simp only [Option.some.injEq] at h; subst h
        simp only [beq_iff_eq] at ho hl
        simp only [List.mapM_cons, Option.bind_eq_bind, Option.bind_eq_some_iff] at hm
        obtain ⟨x, hx, ys, hys, _⟩ := hm
        have f1 := hr _ _ _ _ hks hx
        have f2 := ih _ _ _ hk hys
        rw [ho, ← hl] at f1
        have := f1.append f2
        rw [List.length_append, List.take_add, List.drop_drop]
        exact this
      · cases h
    · cases h
theorem repCK_length (ks : List CK) (n : Nat) : (repCK ks n).length = n * ks.length := by
  induction n with
  | zero => simp [repCK]
  | succ n ih => simp [repCK, ih, Nat.add_mul, Nat.add_comm]
theorem rep_ok {ks : List CK} {cs : List Value} : ∀ (n o : Nat), (∀ i, i < n → FitL ks ((cs.drop (o + i * ks.length)).take ks.length)) → FitL (repCK ks n) ((cs.drop o).take (n * ks.length)) := by
  intro n
  induction n with
  | zero => intro o _; simp [repCK, FitL]
  | succ n ih =>
    intro o h
    have h0 := h 0 (by omega)
    simp only [Nat.zero_mul, Nat.add_zero] at h0
    have h1 := ih (o + ks.length) fun i hi => by
      have := h (i + 1) (by omega)
      rwa [Nat.add_mul, Nat.one_mul, Nat.add_comm (i * ks.length), ← Nat.add_assoc] at this
    have := h0.append h1
    rw [show (n + 1) * ks.length = ks.length + n * ks.length by rw [Nat.add_mul]; omega, List.take_add, List.drop_drop]
    exact this
theorem mapM_each {α β : Type} {f : α → Option β} : ∀ {l : List α} {r : List β}, l.mapM f = some r → ∀ x ∈ l, ∃ y, f x = some y := by
  intro l
  induction l with
  | nil => intro r _ x hx; simp at hx
  | cons a l ih =>
    intro r h x hx
    simp only [List.mapM_cons, Option.bind_eq_bind, Option.bind_eq_some_iff] at h
    obtain ⟨y, hy, ys, hys, _⟩ := h
    rcases List.mem_cons.1 hx with rfl | hx
    · exact ⟨y, hy⟩
    · exact ih hys x hx
theorem scal_ok : ∀ (d : Nat) (t : TypeId) (ks : List CK), scal P d t = some ks → ∀ (fuel : Nat) (cs : List Value) (x : DataW H × List MemPlace), DataW.trod enc P w base sp held fuel t cs = some x → FitL ks cs := by
  intro d
  induction d with
  | zero => intro t ks h; simp [scal] at h
  | succ d ih =>
    intro t ks h fuel cs x hx
    cases fuel with
    | zero => simp [DataW.trod] at hx
    | succ fuel =>
    unfold scal at h
    split at h
    · rename_i hu
      simp only [Option.some.injEq] at h; subst h
      unfold DataW.trod at hx
      rw [hu] at hx
      split at hx <;> first | (simp_all; done) | (exact ⟨⟨_, rfl⟩, trivial⟩) | (rename_i h1; simp at h1)
    · rename_i k hu
      simp only [Option.some.injEq] at h; subst h
      unfold DataW.trod at hx
      rw [hu] at hx
      split at hx
      all_goals first | (rename_i h1; simp at h1; done) | skip
      all_goals first | (simp at hx; done) | skip
      all_goals
        rename_i h1
        simp at h1
        subst h1
        split at hx
        · rename_i h2; obtain ⟨rfl, h3⟩ := h2; exact ⟨⟨_, rfl, h3⟩, trivial⟩
        · simp at hx
    · rename_i hu
      simp only [Option.some.injEq] at h; subst h
      unfold DataW.trod at hx
      rw [hu] at hx
      split at hx
      all_goals first | (rename_i h1; simp at h1; done) | skip
      all_goals first | (simp at hx; done) | skip
      all_goals
        split at hx
        · rename_i h3; exact ⟨⟨_, rfl, h3⟩, trivial⟩
        · simp at hx
    · rename_i fs hu
      split at h
      · rename_i ks' hks
        split at h
        · rename_i hlen
          simp only [Option.some.injEq] at h; subst h
          have : cs.length = P.cellsOf t ∧ ∃ xs, fs.toList.mapM (fun f => DataW.trod enc P w base sp held fuel f.type ((cs.drop f.offset).take (P.cellsOf f.type))) = some xs := by
            unfold DataW.trod at hx
            rw [hu] at hx
            split at hx
            all_goals first | (rename_i h1; simp at h1; done) | skip
            all_goals first | (simp at hx; done) | skip
            all_goals first | exact (‹∀ (fs_1 : Array Field), some (TypeDesc.struct fs) = some (TypeDesc.struct fs_1) → False› fs rfl).elim | skip
            all_goals
              have h1 := ‹some (TypeDesc.struct fs) = some (TypeDesc.struct _)›
              cases h1
              split at hx
              · rename_i hl
                simp only [Option.map_eq_some_iff] at hx
                obtain ⟨xs, hxs, _⟩ := hx
                exact ⟨hl, xs, hxs⟩
              · simp at hx
          obtain ⟨hl, xs, hxs⟩ := this
          have := scalF_ok (R := DataW.trod enc P w base sp held fuel) (fun t ks c x h1 h2 => ih t ks h1 fuel c x h2) fs.toList 0 ks' xs hks hxs
          rw [List.drop_zero, List.take_of_length_le (by omega)] at this
          exact this
        · cases h
      · cases h
    · rename_i n e hu
      split at h
      · rename_i ks' hks
        split at h
        · rename_i hlen
          simp only [Option.some.injEq] at h; subst h
          have : cs.length = P.cellsOf t ∧ ∃ xs, (List.range n).mapM (fun i => DataW.trod enc P w base sp held fuel e ((cs.drop (i * P.cellsOf e)).take (P.cellsOf e))) = some xs := by
            unfold DataW.trod at hx
            rw [hu] at hx
            split at hx
            all_goals first | (rename_i h1; simp at h1; done) | skip
            all_goals first | (simp at hx; done) | skip
            all_goals first | exact (‹∀ (n_1 : Nat) (e_1 : TypeId), some (TypeDesc.array n e) = some (TypeDesc.array n_1 e_1) → False› n e rfl).elim | skip
            all_goals
              have h1 := ‹some (TypeDesc.array n e) = some (TypeDesc.array _ _)›
              cases h1
              split at hx
              · rename_i hl
                simp only [Option.map_eq_some_iff] at hx
                obtain ⟨xs, hxs, _⟩ := hx
                exact ⟨hl, xs, hxs⟩
              · simp at hx
          obtain ⟨hl, xs, hxs⟩ := this
          have := rep_ok (ks := ks') (cs := cs) n 0 fun i hi => by
            obtain ⟨y, hy⟩ := mapM_each hxs i (by simpa using hi)
            have := ih _ _ hks _ _ _ hy
            rw [Nat.zero_add, hlen.1]; exact this
          rw [List.drop_zero, List.take_of_length_le (by omega)] at this
          exact this
        · cases h
      · cases h
    · cases h
theorem add_add (a : Addr) (x y : Nat) : (a.add x).add y = a.add (x + y) := by
  unfold Addr.add
  by_cases hx : x = 0 <;> by_cases hy : y = 0 <;> simp [hx, hy]
  omega
theorem arg_slice {t e : TypeId} {es : Nat} {ks : List CK} {v : Value} {d : DataW H} {ps : List MemPlace} {n0 : Nat} {r : _root_.Go.Reach} (ht : P.underlying t = some (.slice e)) (he : P.cellsOf e = es) (hpos : 0 < es) (hks : scal P n0 e = some ks)
    {b0 : Nat} (hval : Value.okWide P w r b0 t v) (hd : DataW.Trod enc P w base (fun _ => true) held t v d ps) :
    ∃ n cs, Rd w es v n cs ∧ n ≤ maxLen ∧ ∀ i, i < n → FitL ks ((cs.drop (i * es)).take es) := by
  obtain ⟨fuel, hx⟩ := hd
  have hv : v.cells.toList = [v] := by
    simp only [Value.okWide, ht, Cell.okWide, Cell.ok] at hval
    split at hval <;> first | rfl | (exact hval.elim) | simp_all [Value.cells]
  rw [hv] at hx
  rcases Go.Deep.open_slice ht hx with ⟨h1, _⟩ | ⟨a, len, cap, m, n, D, Pl, h1, hb, hlc, hcm, hm, _, hel⟩
  · simp only [List.cons.injEq, and_true] at h1; subst h1
    exact ⟨0, [], .emp _ _, Nat.zero_le _, fun i hi => by omega⟩
  · simp only [List.cons.injEq, and_true] at h1; subst h1
    simp only [if_true] at hm; subst hm
    by_cases hc0 : m = 0
    · have : len = 0 := by omega
      subst this
      exact ⟨0, [], .emp _ _, Nat.zero_le _, fun i hi => by omega⟩
    rw [he] at hel
    have cell : ∀ k, k < m * es → ∃ u, w.cell? (a.add k) = some u := by
      intro k hk
      have hi : k / es < m := by rw [Nat.div_lt_iff_lt_mul hpos]; exact hk
      obtain ⟨cs', h1, _⟩ := hel _ hi
      obtain ⟨_, h2, h3⟩ := World.cells?_some h1
      have hm := Nat.mod_lt k hpos
      have h4 := h3 (k % es) hm
      rw [add_add, show k / es * es + k % es = k by rw [Nat.mul_comm]; exact Nat.div_add_mod k es] at h4
      exact ⟨cs'[k % es]'(by omega), by rw [h4, List.getElem?_eq_getElem]⟩
    have hpos2 : 0 < m * es := Nat.mul_pos (by omega) hpos
    obtain ⟨b, o, spot⟩ := a
    have hspot : spot = none ∧ ∃ arr ty fz, w.heap[b]? = some (.cells arr ty fz) := by
      obtain ⟨u, hu⟩ := cell 0 hpos2
      simp only [Addr.add, if_true, World.cell?] at hu
      split at hu
      · rename_i arr ty fz hb'
        cases spot with
        | none => exact ⟨rfl, _, _, _, hb'⟩
        | some s => simp at hu
      · cases hu
    obtain ⟨rfl, arr, ty, fz, hb'⟩ := hspot
    have cell2 : ∀ k, k < m * es → o + k < arr.size := by
      intro k hk
      obtain ⟨u, hu⟩ := cell k hk
      rw [addr_add, cell_of hb'] at hu
      rcases Nat.lt_or_ge (o + k) arr.size with h | h
      · exact h
      · rw [Array.getElem?_eq_none h] at hu; cases hu
    have hsz := cell2 (m * es - 1) (by omega)
    have hle := Nat.mul_le_mul_right es hlc
    refine ⟨len, _, .blk hb' hlc (by omega) rfl, by omega, fun i hi => ?_⟩
    obtain ⟨cs', h1, h2⟩ := hel i (by omega)
    have h3 := scal_ok _ _ _ hks _ _ _ h2
    obtain ⟨_, h4, h5⟩ := World.cells?_some h1
    have hi2 : i * es + es ≤ len * es := by
      have := Nat.mul_le_mul_right es (show i + 1 ≤ len by omega)
      rw [Nat.add_mul] at this; omega
    have : (((arr.toList.drop o).take (len * es)).drop (i * es)).take es = cs' := by
      apply List.ext_getElem
      · simp; omega
      · intro j j1 j2
        have := h5 j (by omega)
        rw [addr_add, addr_add, cell_of hb', List.getElem?_eq_getElem j2, Array.getElem?_eq_getElem (cell2 (i * es + j) (by omega) |> fun h => by omega)] at this
        simp only [Option.some.injEq] at this
        rw [← this]
        simp [Nat.add_assoc]
    rw [this]; exact h3
theorem fit_list {α : Type} {f : α → List Value} {good : α → Prop} {ks : List CK} {es : Nat} (hf : ∀ c, FitL ks c → ∃ x, c = f x ∧ good x) : ∀ (n : Nat) (cs : List Value), cs.length = n * es → (∀ i, i < n → FitL ks ((cs.drop (i * es)).take es)) →
    ∃ l : List α, l.length = n ∧ cs = l.flatMap f ∧ ∀ x ∈ l, good x := by
  intro n
  induction n with
  | zero => intro cs h _; exact ⟨[], rfl, by simpa using h, by simp⟩
  | succ n ih =>
    intro cs h hx
    obtain ⟨x, e1, g1⟩ := hf _ (hx 0 (by omega))
    obtain ⟨l, e2, e3, g2⟩ := ih (cs.drop es) (by simp [h, Nat.add_mul]) fun i hi => by
      have := hx (i + 1) (by omega)
      rwa [Nat.add_mul, Nat.one_mul, Nat.add_comm (i * es), ← List.drop_drop] at this
    refine ⟨x :: l, by simp [e2], ?_, by simpa using ⟨g1, g2⟩⟩
    rw [List.flatMap_cons, ← e3, ← e1]
    simp
theorem flat_at {α : Type} {f : α → List Value} {es : Nat} (hf : ∀ x, (f x).length = es) : ∀ (l : List α) (i : Nat) (hi : i < l.length), ((l.flatMap f).drop (i * es)).take es = f l[i]
  | x :: l, 0, _ => by
    rw [List.flatMap_cons, Nat.zero_mul, List.drop_zero, List.take_left' (hf x)]; rfl
  | x :: l, i + 1, hi => by
    rw [List.flatMap_cons, Nat.add_mul, Nat.one_mul, Nat.add_comm, ← List.drop_drop, List.drop_left' (hf x)]
    exact flat_at hf l i (by simpa using hi)
theorem Rd.elem {α : Type} {f : α → List Value} {es n i : Nat} {v : Value} {l : List α} {j : IntKind} (h : Rd w es v n (l.flatMap f)) (hf : ∀ x, (f x).length = es) (hn : n = l.length) (hi : i < l.length) :
    ∃ b o, pIndexL es v (.int j i) = some (.pointer (some ⟨b, o, none⟩)) ∧ ldN es (.pointer (some ⟨b, o, none⟩)) w = some (.agg (f l[i]).toArray) ∧ ∀ k, w.cell? ⟨b, o + k, none⟩ = (f l[i])[k]? ∨ es ≤ k := by
  have hc2 := flat_at hf l i hi
  generalize l.flatMap f = cs at h hc2
  cases h with
  | emp => omega
  | blk hb hn ha hc =>
    rename_i b o cap a ty fz
    have e1 : i * es + es ≤ n * es := by
      have := Nat.mul_le_mul_right es (show i + 1 ≤ n by omega)
      rw [Nat.add_mul] at this; omega
    have e2 : f l[i] = (a.toList.drop (o + i * es)).take es := by
      rw [← hc2, hc, List.drop_take, List.take_take, List.drop_drop, Nat.min_eq_left (by omega)]
    refine ⟨b, o + i * es, ?_, ?_, fun k => ?_⟩
    · simp only [pIndexL]; rw [if_pos ⟨by omega, by omega⟩]; simp
    · rw [ldN_of hb (by omega), e2]
      congr 2
      apply Array.ext'
      simp only [Array.toList_extract, List.extract_eq_take_drop]
      rw [show o + i * es + es - (o + i * es) = es by omega]
    · rcases Nat.lt_or_ge k es with hk | hk
      · left
        rw [cell_of hb, e2, List.getElem?_take_of_lt hk, List.getElem?_drop, Array.getElem?_toList]
      · exact .inr hk
end
end Go.Sx

/- Sz5 -/
namespace Go.Sx
/-! maps that are owned -/
section
variable {κ ν : Type}
structure MapOk (ek : κ → Value) (ev : ν → Value) (es : Array MapEntry) (clock : Nat) (m : List (κ × ν)) : Prop where
  kv : es.toList.map (fun e => (e.key, e.val)) = m.map (fun x => (ek x.1, ev x.2))
  nd : (es.toList.map (·.born)).Nodup
  lt : ∀ e ∈ es.toList, e.born < clock
  kd : (m.map Prod.fst).Nodup
def MapH (ek : κ → Value) (ev : ν → Value) (v : Value) (m : List (κ × ν)) : HP := HEx fun r => HEx fun es => HEx fun clock => HPr (v = .map (some r) ∧ MapOk ek ev es clock m) (Blk r (.map es clock))
variable {ek : κ → Value} {ev : ν → Value} {m : List (κ × ν)} {w0 w : World} {L : List HP} {v : Value}
theorem map_iff : Sat w0 (MapH ek ev v m :: L) w ↔ ∃ r es clock, (v = .map (some r) ∧ MapOk ek ev es clock m) ∧ Sat w0 (Blk r (.map es clock) :: L) w := by
  simp only [MapH, Sat.ex_iff, Sat.pr_iff]
def ItH (ek : κ → Value) (ev : ν → Value) (it v : Value) (m rem : List (κ × ν)) : HP := HEx fun q => HEx fun r => HEx fun es => HEx fun clock => HEx fun seen =>
  HPr (it = ptr q ∧ v = .map (some r) ∧ MapOk ek ev es clock m ∧ (es.toList.filter (fun e => !seen.contains e.born)).map (fun e => (e.key, e.val)) = rem.map (fun x => (ek x.1, ev x.2)) ∧ rem.Sublist m)
    (HSt (Blk q (.mapIter (some r) clock seen clock)) (Blk r (.map es clock)))
theorem it_iff {it : Value} {rem : List (κ × ν)} : Sat w0 (ItH ek ev it v m rem :: L) w ↔ ∃ q r es clock seen, (it = ptr q ∧ v = .map (some r) ∧ MapOk ek ev es clock m ∧ (es.toList.filter (fun e => !seen.contains e.born)).map (fun e => (e.key, e.val)) = rem.map (fun x => (ek x.1, ev x.2)) ∧ rem.Sublist m) ∧
    Sat w0 (Blk q (.mapIter (some r) clock seen clock) :: Blk r (.map es clock) :: L) w := by
  simp only [ItH, Sat.ex_iff, Sat.pr_iff, Sat.star_iff]
theorem map_one (h : Sat w0 (MapH ek ev v m :: L) w) : OneV v := by
  obtain ⟨r, es, c, ⟨rfl, _⟩, _⟩ := map_iff.1 h; infer_instance
theorem map_nd (h : Sat w0 (MapH ek ev v m :: L) w) : (m.map Prod.fst).Nodup := by
  obtain ⟨r, es, c, ⟨_, h⟩, _⟩ := map_iff.1 h; exact h.kd
theorem lenM_map (h : Sat w0 (MapH ek ev v m :: L) w) : lenM v w = some (.int .i64 m.length) := by
  obtain ⟨r, es, clock, ⟨rfl, hm⟩, hs⟩ := map_iff.1 h
  have := congrArg List.length hm.kv
  simp at this
  simp [lenM, mapOf, hs.blk, this]
theorem it_map {it : Value} {rem : List (κ × ν)} (h : Sat w0 (ItH ek ev it v m rem :: L) w) : Sat w0 (MapH ek ev v m :: L) w := by
  obtain ⟨q, r, es, clock, seen, ⟨_, h2, h3, _⟩, h5⟩ := it_iff.1 h
  exact map_iff.2 ⟨r, es, clock, ⟨h2, h3⟩, h5.drop⟩
theorem map_eraseIdx' {α β : Type} (f : α → β) : ∀ (l : List α) (j : Nat), (l.eraseIdx j).map f = (l.map f).eraseIdx j
  | [], _ => by simp
  | _ :: _, 0 => by simp
  | a :: l, j + 1 => by simp [map_eraseIdx' f l j]
theorem eClear_sat {P : Program} {kt : TypeId} {K : Value → World → Prop} (h : Sat w0 (MapH ek ev v m :: L) w) {t et : TypeId} (hu : P.underlying t = some (.map kt et))
    (hK : ∀ w', Sat w0 (MapH ek ev v ([] : List (κ × ν)) :: L) w' → K unit w') : eClear P t v w K := by
  obtain ⟨r, es, clock, ⟨rfl, hm⟩, hs⟩ := map_iff.1 h
  simp only [eClear, hu, hs.blk]
  exact hK _ (map_iff.2 ⟨r, _, _, ⟨rfl, ⟨by simp, by simp, by simp, by simp⟩⟩, hs.set _⟩)
theorem eMakeMap_sat {K : Value → World → Prop} (ek : κ → Value) (ev : ν → Value) (h : Sat w0 L w) (hK : ∀ v w', Sat w0 (MapH ek ev v ([] : List (κ × ν)) :: L) w' → K v w') : eMakeMap none w K :=
  hK _ _ (map_iff.2 ⟨_, _, _, ⟨rfl, ⟨by simp, by simp, by simp, by simp⟩⟩, h.alloc _⟩)

/-! ranging over a map that stays -/
theorem eRange_sat {P : Program} {kt : TypeId} {K : Value → World → Prop} (h : Sat w0 (MapH ek ev v m :: L) w) {t et : TypeId} (hu : P.underlying t = some (.map kt et))
    (hK : ∀ it w', Sat w0 (ItH ek ev it v m m :: L) w' → K it w') : eRange P t v w K := by
  obtain ⟨r, es, clock, ⟨rfl, hm⟩, hs⟩ := map_iff.1 h
  simp only [eRange, hu, hs.blk]
  exact hK _ _ (it_iff.2 ⟨_, r, es, clock, #[], ⟨rfl, rfl, hm, by rw [List.filter_eq_self.2 (by simp)]; exact hm.kv, List.Sublist.refl _⟩, hs.alloc _⟩)
theorem eNext_sat {K : Value → World → Prop} {it : Value} {rem : List (κ × ν)} (h : Sat w0 (ItH ek ev it v m rem :: L) w)
    (h0 : rem = [] → ∀ w', Sat w0 (ItH ek ev it v m [] :: L) w' → K over w')
    (h1 : ∀ (x : κ × ν) (r1 r2 : List (κ × ν)) (w' : World), rem = r1 ++ x :: r2 → Sat w0 (ItH ek ev it v m (r1 ++ r2) :: L) w' → K (.tuple #[.bool true, ek x.1, ev x.2]) w') : eNext it false w K := by
  obtain ⟨q, r, es, clock, seen, ⟨rfl, rfl, hm, hrem, hsub⟩, hs⟩ := it_iff.1 h
  simp only [eNext, ptr, hs.blk, hs.f1.blk]
  have hall : ∀ e ∈ es.toList, e.born < clock := hm.lt
  have hold : (es.filter fun e => !seen.contains e.born).filter (fun e => decide (e.born < clock)) = es.filter fun e => !seen.contains e.born := by
    apply Array.ext'
    simp only [Array.toList_filter]
    exact List.filter_eq_self.2 fun e he => by simpa using hall e (List.mem_filter.1 he).1
  have hnew : (es.filter fun e => !seen.contains e.born).filter (fun e => decide (e.born ≥ clock)) = #[] := by
    apply Array.ext'
    simp only [Array.toList_filter]
    refine List.filter_eq_nil_iff.2 fun e he => ?_
    have := hall e (List.mem_filter.1 he).1
    simp; omega
  have hC : nextC es clock seen = (if (es.filter fun e => !seen.contains e.born).isEmpty then #[none] else #[]) ++ (es.filter fun e => !seen.contains e.born).map some := by
    simp only [nextC, hold, hnew, Array.append_empty]
  refine ⟨?_, ?_⟩
  · cases hes : es.toList with
    | nil => have : es = #[] := by apply Array.ext'; simpa using hes
             subst this; simp
    | cons e l =>
      have : e.born < clock := hall e (by rw [hes]; simp)
      have h3 : es.all (fun x => decide (x.born ≥ clock)) = false := by
        rw [Bool.eq_false_iff]
        intro hx
        rw [Array.all_eq_true_iff_forall_mem] at hx
        have := hx e (by rw [← Array.mem_toList_iff, hes]; simp)
        simp at this; omega
      simp [h3]
  · intro j w1 hw1 hj
    have hs1 : Sat w0 (Blk q (.mapIter (some r) clock seen clock) :: Blk r (.map es clock) :: L) w1 := by
      rcases hw1 with rfl | rfl
      · exact hs
      · exact hs.drew
    rw [hC] at hj ⊢
    generalize hl : (es.filter fun e => !seen.contains e.born) = left at *
    have hleft : left.toList = es.toList.filter fun e => !seen.contains e.born := by rw [← hl]; simp
    rw [← hleft] at hrem
    by_cases hemp : left.toList = []
    · have : left = #[] := Array.ext' (by simpa using hemp)
      subst this
      simp at hj ⊢
      subst hj
      simp
      have hr0 : rem = [] := by simpa using hrem
      subst hr0
      exact h0 rfl _ (it_iff.2 ⟨q, r, es, clock, seen, ⟨rfl, rfl, hm, by rw [← hleft]; simp, hsub⟩, hs1⟩)
    · have hne : left.isEmpty = false := by
        rw [Bool.eq_false_iff]; intro hx
        simp at hx; exact hemp (by simp [hx])
      simp [hne] at hj ⊢
      have hlen := congrArg List.length hrem
      simp at hlen
      have hjr : j < rem.length := by omega
      simp [hj]
      have hkv := congrArg (fun l => l[j]?) hrem
      simp [hj, hjr] at hkv
      have split : rem = rem.take j ++ rem[j] :: rem.drop (j + 1) := by
        rw [List.getElem_cons_drop, List.take_append_drop]
      have := h1 rem[j] (rem.take j) (rem.drop (j + 1)) (setBlk w1 q (.mapIter (some r) clock (seen.push left[j].born) clock)) split ?_
      · rw [← hkv.1, ← hkv.2] at this; exact this
      · refine it_iff.2 ⟨q, r, es, clock, seen.push left[j].born, ⟨rfl, rfl, hm, ?_, ?_⟩, hs1.set _⟩
        · have hnd : (left.toList.map (·.born)).Nodup := by
            rw [hleft]; exact hm.nd.sublist (List.filter_sublist.map _)
          have e1 : es.toList.filter (fun e => !(seen.push left[j].born).contains e.born) = left.toList.eraseIdx j := by
            have e2 : es.toList.filter (fun e => !(seen.push left[j].born).contains e.born) = left.toList.filter (fun e => decide (e.born ≠ left[j].born)) := by
              rw [hleft, List.filter_filter]
              congr 1; funext e
              rw [Bool.eq_iff_iff]; simp; 
              constructor
              · rintro ⟨a, b⟩; exact ⟨b, a⟩
              · rintro ⟨a, b⟩; exact ⟨b, a⟩
            rw [e2]
            have key : ∀ (l : List MapEntry) (j : Nat) (hj : j < l.length), (l.map (·.born)).Nodup → l.filter (fun e => decide (e.born ≠ l[j].born)) = l.eraseIdx j := by
              intro l
              induction l with
              | nil => intro j hj; simp at hj
              | cons a l ih =>
                intro j hj hn
                simp only [List.map_cons, List.nodup_cons] at hn
                cases j with
                | zero =>
                  simp
                  intro x hx e
                  exact hn.1 (by rw [← e]; exact List.mem_map_of_mem hx)
                | succ j =>
                  simp only [List.length_cons, Nat.add_lt_add_iff_right] at hj
                  have : a.born ≠ l[j].born := fun e => hn.1 (by rw [e]; exact List.mem_map_of_mem (List.getElem_mem hj))
                  simp [this]
                  simpa using ih j hj hn.2
            exact key left.toList j (by simpa using hj) hnd
          rw [e1, map_eraseIdx', hrem, ← map_eraseIdx', List.eraseIdx_eq_take_drop_succ]
        · rw [← List.eraseIdx_eq_take_drop_succ]; exact (List.eraseIdx_sublist _ _).trans hsub
end
section
variable {κ ν : Type} [DecidableEq κ]
def aGet (k : κ) : List (κ × ν) → Option ν
  | [] => none
  | x :: r => if k = x.1 then some x.2 else aGet k r
def aSet (k : κ) (v : ν) : List (κ × ν) → List (κ × ν)
  | [] => [(k, v)]
  | x :: r => if k = x.1 then (k, v) :: r else x :: aSet k v r
def aDel (k : κ) : List (κ × ν) → List (κ × ν)
  | [] => []
  | x :: r => if k = x.1 then r else x :: aDel k r
def aFind (ev : ν → Value) (k : κ) : List (κ × ν) → Nat → Option (Nat × Value)
  | [], _ => none
  | x :: r, i => if k = x.1 then some (i, ev x.2) else aFind ev k r (i + 1)
structure KeyT (P : Program) (kt : TypeId) (ek : κ → Value) : Prop where
  u : (P.underlying kt).isSome = true
  ck : ∀ k, ckv P 10000 kt (ek k) = true
  eq : ∀ a b, eqv P Op.maxDepth kt (ek a) (ek b) = some (decide (a = b))
  sb : ∀ a, Instr.sameBits 10000 (ek a) (ek a) = true
variable {P : Program} {kt : TypeId} {ek : κ → Value} {ev : ν → Value} {m : List (κ × ν)} {k : κ}

theorem aFind_some {j i : Nat} {val : Value} : ∀ {m : List (κ × ν)} {i : Nat}, aFind ev k m i = some (j, val) → ∃ b, i ≤ j ∧ m[j - i]? = some (k, b) ∧ val = ev b ∧ aGet k m = some b ∧ (∀ x, aSet k x m = m.set (j - i) (k, x)) ∧ aDel k m = m.eraseIdx (j - i) := by
  intro m
  induction m with
  | nil => intro i h; simp [aFind] at h
  | cons y r ih =>
    intro i h
    unfold aFind at h
    by_cases hk : k = y.1
    · simp [hk] at h
      obtain ⟨rfl, rfl⟩ := h
      exact ⟨y.2, Nat.le_refl _, by simp [hk], rfl, by simp [aGet, hk], by simp [aSet, hk], by simp [aDel, hk]⟩
    · simp only [hk, if_false] at h
      obtain ⟨b, h1, h2, h3, h4, h5, h6⟩ := ih h
      have e : j - i = j - (i + 1) + 1 := by omega
      exact ⟨b, by omega, by rw [e]; simpa using h2, h3, by simp [aGet, hk, h4], fun x => by rw [e]; simp [aSet, hk, h5], by rw [e]; simp [aDel, hk, h6]⟩
theorem aFind_none : ∀ {m : List (κ × ν)} {i : Nat}, aFind ev k m i = none → aGet k m = none ∧ (∀ x, aSet k x m = m ++ [(k, x)]) ∧ aDel k m = m ∧ k ∉ m.map Prod.fst := by
  intro m
  induction m with
  | nil => intro i _; simp [aGet, aSet, aDel]
  | cons y r ih =>
    intro i h
    unfold aFind at h
    by_cases hk : k = y.1
    · simp [hk] at h
    · simp only [hk, if_false] at h
      obtain ⟨h1, h2, h3, h4⟩ := ih h
      refine ⟨by simp [aGet, hk, h1], fun x => by simp [aSet, hk, h2], by simp [aDel, hk, h3], ?_⟩
      rw [List.map_cons, List.mem_cons]; rintro (h | h)
      · exact hk h
      · exact h4 h
theorem mFind_al (K : KeyT P kt ek) : ∀ (l : List MapEntry) (m : List (κ × ν)) (i : Nat), l.map (fun e => (e.key, e.val)) = m.map (fun x => (ek x.1, ev x.2)) → mFind (eqv P Op.maxDepth kt (ek k)) l i = some (aFind ev k m i) := by
  intro l
  induction l with
  | nil => intro m i h; cases m with | nil => rfl | cons => simp at h
  | cons e l ih =>
    intro m i h
    cases m with
    | nil => simp at h
    | cons x m =>
      simp only [List.map_cons, List.cons.injEq, Prod.mk.injEq] at h
      obtain ⟨⟨h1, h2⟩, h3⟩ := h
      unfold mFind aFind
      rw [h1, K.eq]
      by_cases hk : k = x.1
      · simp [hk, h2]
      · simp [hk, ih _ _ h3]
theorem aGet_set (k k' : κ) (x : ν) : ∀ (m : List (κ × ν)), aGet k (aSet k' x m) = if k = k' then some x else aGet k m
  | [] => by by_cases h : k = k' <;> simp [aSet, aGet, h]
  | y :: r => by
    by_cases h' : k' = y.1
    · by_cases h : k = k'
      · simp [aSet, aGet, h, h']
      · have : ¬ k = y.1 := fun e => h (e.trans h'.symm)
        simp [aSet, aGet, h, h', this]
    · by_cases h : k = y.1
      · have : ¬ k = k' := fun e => h' (e.symm.trans h)
        have : ¬ y.1 = k' := fun e => h' e.symm
        simp [aSet, aGet, h, h', this]
      · simp [aSet, aGet, h, h', aGet_set k k' x r]
theorem aGet_mem {k : κ} {x : ν} : ∀ {m : List (κ × ν)}, aGet k m = some x → (k, x) ∈ m
  | [], h => by simp [aGet] at h
  | y :: r, h => by
    unfold aGet at h
    by_cases hk : k = y.1
    · simp [hk] at h; subst h; subst hk; simp
    · simp only [hk, if_false] at h; exact List.mem_cons_of_mem _ (aGet_mem h)
theorem mem_aGet {k : κ} {x : ν} : ∀ {m : List (κ × ν)}, (m.map Prod.fst).Nodup → (k, x) ∈ m → aGet k m = some x
  | [], _, h => by simp at h
  | y :: r, hn, h => by
    simp only [List.map_cons, List.nodup_cons] at hn
    unfold aGet
    rcases List.mem_cons.1 h with rfl | h
    · simp
    · have : ¬ k = y.1 := fun e => hn.1 (by rw [← e]; exact List.mem_map_of_mem (f := Prod.fst) h)
      simp only [this, if_false]; exact mem_aGet hn.2 h
section
variable {w0 w : World} {L : List HP} {v : Value}
theorem look_map (h : Sat w0 (MapH ek ev v m :: L) w) (K : KeyT P kt ek) {t et : TypeId} {z : Value} (hu : P.underlying t = some (.map kt et)) (hz : fZero P et = some z) (ok : Bool) (k : κ) :
    fLook P t v (ek k) ok w = some (if ok then .tuple #[(aGet k m).elim z ev, .bool (aGet k m).isSome] else (aGet k m).elim z ev) := by
  obtain ⟨r, es, clock, ⟨rfl, hm⟩, hs⟩ := map_iff.1 h
  simp only [fLook, hu, mapOf, hs.blk]
  rw [if_pos ⟨K.ck k, K.u⟩, mFind_al K _ _ 0 hm.kv]
  cases hf : aFind ev k m 0 with
  | none => simp [(aFind_none hf).1, hz]
  | some x =>
    obtain ⟨j, val⟩ := x
    obtain ⟨b, _, _, rfl, h4, _⟩ := aFind_some (i := 0) hf
    simp [h4]
theorem look1 (h : Sat w0 (MapH ek ev v m :: L) w) (K : KeyT P kt ek) {t et : TypeId} {z : Value} (hu : P.underlying t = some (.map kt et)) (hz : fZero P et = some z) (k : κ) : fLook P t v (ek k) false w = some ((aGet k m).elim z ev) := by
  rw [look_map h K hu hz]; rfl
theorem look2 (h : Sat w0 (MapH ek ev v m :: L) w) (K : KeyT P kt ek) {t et : TypeId} {z : Value} (hu : P.underlying t = some (.map kt et)) (hz : fZero P et = some z) (k : κ) : fLook P t v (ek k) true w = some (.tuple #[(aGet k m).elim z ev, .bool (aGet k m).isSome]) := by
  rw [look_map h K hu hz]; rfl
theorem aSet_keys {x : ν} (h : (m.map Prod.fst).Nodup) : ((aSet k x m).map Prod.fst).Nodup := by
  cases hf : aFind (fun _ : ν => Value.int .i64 0) k m 0 with
  | none =>
    obtain ⟨_, h2, _, h4⟩ := aFind_none hf
    rw [h2, List.map_append, List.nodup_append]
    refine ⟨h, by simp, fun a ha b hb => ?_⟩
    simp at hb; subst hb; intro e; subst e; exact h4 ha
  | some y =>
    obtain ⟨j, val⟩ := y
    obtain ⟨b, _, h2, _, _, h5, _⟩ := aFind_some (i := 0) hf
    rw [h5, List.map_set]
    have : (m.map Prod.fst).set (j - 0) k = m.map Prod.fst := by
      apply List.ext_getElem?
      intro i
      rw [List.getElem?_set]
      split
      · rename_i hi; subst hi
        split
        · simp at h2; simp [h2]
        · rename_i hn; have := (List.getElem?_eq_some_iff.1 h2).1; simp at hn; omega
      · rfl
    rw [this]; exact h
theorem eMapSet_sat {K : Value → World → Prop} (h : Sat w0 (MapH ek ev v m :: L) w) (T : KeyT P kt ek) {t et : TypeId} (hu : P.underlying t = some (.map kt et)) (k : κ) (x : ν)
    (hK : ∀ w', Sat w0 (MapH ek ev v (aSet k x m) :: L) w' → K unit w') : eMapSet P t v (ek k) (ev x) w K := by
  obtain ⟨r, es, clock, ⟨rfl, hm⟩, hs⟩ := map_iff.1 h
  simp only [eMapSet, hu, hs.blk]
  refine ⟨⟨T.ck k, T.u⟩, ?_⟩
  rw [mFind_al T _ _ 0 hm.kv]
  have kd := aSet_keys (k := k) (x := x) hm.kd
  cases hf : aFind ev k m 0 with
  | none =>
    obtain ⟨_, h2, _, h4⟩ := aFind_none hf
    refine hK _ (map_iff.2 ⟨r, _, _, ⟨rfl, ?_, ?_, ?_, kd⟩, hs.set _⟩)
    · rw [h2]; simp [hm.kv]
    · simp only [Array.toList_push, List.map_append, List.nodup_append]
      refine ⟨hm.nd, by simp, fun a ha b hb => ?_⟩
      simp at hb; subst hb
      obtain ⟨e, he, rfl⟩ := List.mem_map.1 ha
      have := hm.lt e he; omega
    · intro e he
      simp only [Array.toList_push, List.mem_append, List.mem_singleton] at he
      rcases he with he | rfl
      · have := hm.lt e he; omega
      · simp
  | some y =>
    obtain ⟨j, val⟩ := y
    obtain ⟨b, _, h2, _, _, h5, _⟩ := aFind_some (i := 0) hf
    simp only [Nat.sub_zero] at h2 h5
    have hj : j < m.length := by
      rcases Nat.lt_or_ge j m.length with h | h
      · exact h
      · rw [List.getElem?_eq_none h] at h2; cases h2
    have hlen := congrArg List.length hm.kv
    simp at hlen
    have hje : j < es.size := by omega
    have hkey : es[j].key = ek k := by
      have := congrArg (fun l => l[j]?) hm.kv
      simp [hje, h2] at this
      exact this.1
    refine ⟨?_, hK _ (map_iff.2 ⟨r, _, _, ⟨rfl, ?_, ?_, ?_, kd⟩, hs.set _⟩)⟩
    · simp [hje, hkey, T.sb]
    · rw [h5, List.map_set]
      apply List.ext_getElem?
      intro i
      have := congrArg (fun l => l[i]?) hm.kv
      simp only [List.getElem?_map, Array.getElem?_toList, Array.getElem?_modify, List.getElem?_set] at this ⊢
      by_cases hi : j = i
      · subst hi; simp [hje, hj]
      · simp [hi]; simpa using this
    · have : (es.modify j fun e => { e with key := ek k, val := ev x }).toList.map (·.born) = es.toList.map (·.born) := by
        apply List.ext_getElem?
        intro i
        simp only [List.getElem?_map, Array.getElem?_toList, Array.getElem?_modify]
        split
        · cases es[i]? <;> simp
        · rfl
      rw [this]; exact hm.nd
    · intro e he
      obtain ⟨i, hi, rfl⟩ := List.getElem_of_mem he
      simp at hi
      simp only [Array.getElem_toList, Array.getElem_modify]
      have := hm.lt es[i] (by simp)
      split <;> exact this
theorem eDelete_sat {K : Value → World → Prop} (h : Sat w0 (MapH ek ev v m :: L) w) (T : KeyT P kt ek) {t et : TypeId} (hu : P.underlying t = some (.map kt et)) (k : κ)
    (hK : ∀ w', Sat w0 (MapH ek ev v (aDel k m) :: L) w' → K unit w') : eDelete P t v (ek k) w K := by
  obtain ⟨r, es, clock, ⟨rfl, hm⟩, hs⟩ := map_iff.1 h
  simp only [eDelete, hu, hs.blk]
  refine ⟨⟨T.ck k, T.u⟩, ?_⟩
  rw [mFind_al T _ _ 0 hm.kv]
  cases hf : aFind ev k m 0 with
  | none =>
    obtain ⟨_, _, h3, _⟩ := aFind_none hf
    refine hK _ (map_iff.2 ⟨r, _, _, ⟨rfl, ?_⟩, hs.set _⟩)
    rw [h3]; exact hm
  | some y =>
    obtain ⟨j, val⟩ := y
    obtain ⟨b, _, h2, _, _, _, h6⟩ := aFind_some (i := 0) hf
    simp only [Nat.sub_zero] at h2 h6
    have hj : j < m.length := by
      rcases Nat.lt_or_ge j m.length with h | h
      · exact h
      · rw [List.getElem?_eq_none h] at h2; cases h2
    have hlen := congrArg List.length hm.kv
    simp at hlen
    have e : (es.eraseIdxIfInBounds j).toList = es.toList.eraseIdx j := by
      rw [Array.toList_eraseIdxIfInBounds]
    have sub := List.eraseIdx_sublist es.toList j
    refine hK _ (map_iff.2 ⟨r, _, _, ⟨rfl, ?_, ?_, ?_, ?_⟩, hs.set _⟩)
    · rw [e, h6, map_eraseIdx', map_eraseIdx', hm.kv]
    · rw [e]; exact hm.nd.sublist (sub.map _)
    · rw [e]; exact fun x hx => hm.lt x (sub.subset hx)
    · rw [h6]; exact hm.kd.sublist ((List.eraseIdx_sublist m j).map _)
end
end
theorem KeyT.int {P : Program} {kt : TypeId} (h : P.underlying kt = some (.int .i64)) : KeyT P kt (fun n : Int => Value.int .i64 n) where
  u := by simp [h]
  ck := fun k => by simp [ckv, h]
  eq := fun a b => by simp [eqv, Op.maxDepth, h]; rw [Bool.eq_iff_iff]; simp
  sb := fun a => by simp [Instr.sameBits]
theorem KeyT.str {P : Program} {kt : TypeId} (h : P.underlying kt = some .string) : KeyT P kt (fun n : ByteArray => Value.string n) where
  u := by simp [h]
  ck := fun k => by simp [ckv, h]
  eq := fun a b => by simp [eqv, Op.maxDepth, h, sEq_eq]
  sb := fun a => by simp [Instr.sameBits]
end Go.Sx

/- Sz6 -/
namespace Go.Sx
/-! slices of things: each member x is the cells f x -/
structure Cod {α : Type} (f : α → List Value) (es : Nat) : Prop where
  len : ∀ x, (f x).length = es
  one : ∀ x, (f x).all (·.oneCell') = true
  pos : 0 < es
def LsH {α : Type} (f : α → List Value) (es : Nat) (ty : TypeId) (v : Value) (l : List α) : HP := SlH es ty v l.length (l.flatMap f)
/-- where a member lies -/
def elP (es : Nat) (v : Value) (i : Int) : Value := (pIndexL es v (.int .i64 i)).getD undef
section
variable {α : Type} {f : α → List Value} {es : Nat} {ty : TypeId} {v : Value} {l : List α} {w0 w : World} {L : List HP}
theorem flat_len (C : Cod f es) (l : List α) : (l.flatMap f).length = l.length * es := by
  induction l with
  | nil => simp
  | cons x l ih => simp [ih, C.len, Nat.add_mul, Nat.add_comm]
theorem flat_one (C : Cod f es) (l : List α) : (l.flatMap f).all (·.oneCell') = true := by
  induction l with
  | nil => simp
  | cons x l ih => rw [List.flatMap_cons, List.all_append, C.one, ih]; rfl
theorem flat_take (C : Cod f es) : ∀ (l : List α) (i : Nat), (l.flatMap f).take (i * es) = (l.take i).flatMap f
  | [], i => by simp
  | x :: l, 0 => by simp
  | x :: l, i + 1 => by
    rw [List.flatMap_cons, Nat.add_mul, Nat.one_mul, Nat.add_comm, List.take_append_add_of_len (C.len x), flat_take C l i, List.take_succ_cons, List.flatMap_cons]
theorem flat_drop (C : Cod f es) : ∀ (l : List α) (i : Nat), (l.flatMap f).drop (i * es) = (l.drop i).flatMap f
  | [], i => by simp
  | x :: l, 0 => by simp
  | x :: l, i + 1 => by
    rw [List.flatMap_cons, Nat.add_mul, Nat.one_mul, Nat.add_comm, ← List.drop_drop, List.drop_left' (C.len x), flat_drop C l i, List.drop_succ_cons]
theorem flat_set (C : Cod f es) (l : List α) (i : Nat) (x : α) (hi : i < l.length) : (l.flatMap f).take (i * es) ++ f x ++ (l.flatMap f).drop (i * es + es) = (l.set i x).flatMap f := by
  rw [flat_take C, show i * es + es = (i + 1) * es by rw [Nat.add_mul]; omega, flat_drop C, List.set_eq_take_append_cons_drop, if_pos hi]
  simp
theorem ls_rd (h : Sat w0 (LsH f es ty v l :: L) w) : Rd w es v l.length (l.flatMap f) := Sat.rd h
theorem ls_one (h : Sat w0 (LsH f es ty v l :: L) w) : OneV v := (ls_rd h).one
theorem ls_len (h : Sat w0 (LsH f es ty v l :: L) w) : lenL v = some (.int .i64 l.length) := (ls_rd h).len
theorem rd_ix {n : Nat} {cs : List Value} (h : Rd w es v n cs) {i : Nat} (hi : i < n) : ∃ b o, pIndexL es v (.int .i64 i) = some (.pointer (some ⟨b, o, none⟩)) ∧ elP es v i = .pointer (some ⟨b, o, none⟩) := by
  cases h with
  | emp => omega
  | blk hb hn ha hc =>
    rename_i b o cap a ty fz
    have e : pIndexL es (.slice (some ⟨b, o, none⟩) n cap) (.int .i64 i) = some (.pointer (some ⟨b, o + i * es, none⟩)) := by
      simp only [pIndexL]; rw [if_pos ⟨by omega, by omega⟩]; simp
    exact ⟨b, o + i * es, e, by simp [elP, e]⟩
theorem ix_el {n : Nat} {cs : List Value} (h : Rd w es v n cs) {i : Nat} (hi : i < n) : pIndexL es v (.int .i64 i) = some (elP es v i) := by
  obtain ⟨b, o, h1, h2⟩ := rd_ix h hi
  rw [h1, h2]
theorem ls_ix (h : Sat w0 (LsH f es ty v l :: L) w) {i : Nat} (hi : i < l.length) : pIndexL es v (.int .i64 i) = some (elP es v i) := ix_el (ls_rd h) hi
theorem rd_ld (C : Cod f es) (h : Rd w es v l.length (l.flatMap f)) {i : Nat} (hi : i < l.length) : ldN es (elP es v i) w = some (.agg (f l[i]).toArray) := by
  obtain ⟨b, o, h1, h2, _⟩ := h.elem C.len rfl hi (j := .i64)
  have : elP es v i = .pointer (some ⟨b, o, none⟩) := by simp [elP, h1]
  rw [this, h2]
theorem ls_ld (C : Cod f es) (h : Sat w0 (LsH f es ty v l :: L) w) {i : Nat} (hi : i < l.length) : ldN es (elP es v i) w = some (.agg (f l[i]).toArray) := rd_ld C (ls_rd h) hi
theorem rd_ld1 {g : α → Value} (h : Rd w 1 v l.length (l.flatMap fun x => [g x])) {i : Nat} (hi : i < l.length) : ld1 (elP 1 v i) w = some (g l[i]) := by
  obtain ⟨b, o, h1, _, h3⟩ := h.elem (fun _ => rfl) rfl hi (j := .i64)
  have : elP 1 v i = .pointer (some ⟨b, o, none⟩) := by simp [elP, h1]
  rw [this]
  have := h3 0
  simpa using this
theorem ls_ld1 {g : α → Value} (h : Sat w0 (LsH (fun x => [g x]) 1 ty v l :: L) w) {i : Nat} (hi : i < l.length) : ld1 (elP 1 v i) w = some (g l[i]) := rd_ld1 (ls_rd h) hi
/-- one cell of a member -/
theorem rd_fld (C : Cod f es) (h : Rd w es v l.length (l.flatMap f)) {i k : Nat} (hi : i < l.length) (hk : k < es) : ∃ a, pFieldAddr k (elP es v i) = some (.pointer (some a)) ∧ w.cell? a = (f l[i])[k]? := by
  obtain ⟨b, o, h1, _, h3⟩ := h.elem C.len rfl hi (j := .i64)
  have : elP es v i = .pointer (some ⟨b, o, none⟩) := by simp [elP, h1]
  rw [this]
  refine ⟨⟨b, o + k, none⟩, rfl, ?_⟩
  rcases h3 k with h | h
  · exact h
  · omega
theorem ls_st (C : Cod f es) (h : Sat w0 (LsH f es ty v l :: L) w) {i : Nat} (hi : i < l.length) (x : α) {y : Value} (hy : y.cells = (f x).toArray) {k : World → Prop} (hk : ∀ w', Sat w0 (LsH f es ty v (l.set i x) :: L) w' → k w') :
    bindW (st es (elP es v i) y w) k := by
  obtain ⟨fp, hO, kk⟩ := Sat.own h
  generalize hcs : l.flatMap f = cs at hO kk
  generalize hn' : l.length = n at hO kk
  cases hO with
  | nil => omega
  | blk hb hn ha hc =>
    rename_i b q cap a
    have e : elP es (.slice (some ⟨b, q, none⟩) n cap) i = .pointer (some ⟨b, q + i * es, none⟩) := by
      simp only [elP, pIndexL]; rw [if_pos ⟨by omega, by omega⟩]; simp
    have h1 : i * es + es ≤ n * es := by
      have := Nat.mul_le_mul_right es (show i + 1 ≤ n by omega)
      rw [Nat.add_mul] at this; omega
    have h2 := Nat.mul_le_mul_right es hn
    have hlx : (f x).length = es := C.len x
    rw [e, st_cells hb (by rw [hy]; simpa using hlx) (by rw [hy]; exact C.one x) (by omega)]
    refine hk _ ?_
    unfold LsH
    rw [List.length_set, hn']
    refine kk _ [b] _ _ _ _ _ (.blk (setBlk_same hb) hn ?_ ?_) (.set _ _ (by simp))
    · have : ∀ (vs : List Value) (c : Array Value) (o : Nat), (wr c o vs).size = c.size := by
        intro vs; induction vs with
        | nil => intro c o; rfl
        | cons v vs ih => intro c o; simp [wr, ih]
      rw [this]; exact ha
    · rw [hy, wr_toList _ _ _ (by simp [hlx]; omega), ← flat_set C l i x (by omega), hcs, hc]
      have e1 : List.take (q + i * es) a.toList = List.take q a.toList ++ List.take (i * es) (List.drop q a.toList) := by rw [List.take_add]
      have e2 : (List.take q a.toList).length = q := by simp; omega
      rw [e1]
      simp only [List.append_assoc]
      rw [List.drop_left' e2, List.take_take, Nat.min_eq_left (by omega)]
      rw [show n * es = i * es + (es + (n * es - i * es - es)) by omega, List.take_append_add_of_len (by simp; omega), List.take_append_add_of_len hlx]
      congr 2
      rw [List.drop_take, List.drop_drop]
      congr 1
      · omega
      · congr 1; simp [hlx]; omega
theorem ls_nil (h : Sat w0 L w) : Sat w0 (LsH f es ty (.slice none 0 0) [] :: L) w := h.nilsl
theorem ls_app {P : Program} {t xt : TypeId} {bytes : Nat} {s x : Value} {m : List α} {K : Value → World → Prop} (C : Cod f es) (h : Sat w0 (LsH f es ty s l :: L) w) (T : SlT P t ty es bytes) (hxt : isSS P xt = true)
    (hR : Rd w es x m.length (m.flatMap f)) (hb : (l.length + m.length) * bytes ≤ 140737488355328) (hK : ∀ s' w', Sat w0 (LsH f es ty s' (l ++ m) :: L) w' → K s' w') : eAppend P t xt s x w K := by
  refine eAppend_sat h T hxt hR (flat_one C m) hb fun s' w' h' => hK s' w' ?_
  unfold LsH
  rw [List.length_append, List.flatMap_append]; exact h'
theorem ls_lit {P : Program} {t : TypeId} {m : List α} {parts : List (Nat × Value)} {K : Value → World → Prop} {c : Array Value} (C : Cod f es) (h : Sat w0 L w) (hu : P.underlying t = some (.slice ty)) (hc : fBuildSl P ty m.length parts = some c) (hm : c.toList = m.flatMap f)
    (hK : ∀ s w', Sat w0 (LsH f es ty s m :: L) w' → K s w') : eBuildSl P t m.length parts w K := by
  refine eBuildSl_sat (es := es) h hu hc ?_ fun s w' h' => hK s w' ?_
  · have := congrArg List.length hm
    rw [flat_len C] at this; simpa using this
  · unfold LsH; rw [← hm]; exact h'
theorem ls_sub {lo hi : Nat} {A H M : Option Value} (C : Cod f es) (h : Sat w0 (LsH f es ty v l :: L) w) (hL : Bd 0 A lo) (hH : Bd l.length H hi) (hM : BdM hi l.length H M) (h1 : lo ≤ hi) (h2 : hi ≤ l.length) :
    ∃ v', pSliceL es v A H M = some v' ∧ Sat w0 (LsH f es ty v' ((l.take hi).drop lo) :: L) w := by
  obtain ⟨fp, hO, k⟩ := Sat.own h
  obtain ⟨v', e, hO'⟩ := hO.sub hL hH hM h1 h2
  refine ⟨v', e, ?_⟩
  have := k _ _ _ _ _ _ _ hO' (.refl _ _)
  unfold LsH
  rw [flat_take C, flat_drop C] at this
  have e : ((l.take hi).drop lo).length = hi - lo := by simp; omega
  rw [e]; exact this
theorem rd_sub {lo hi : Nat} {A H M : Option Value} {v' : Value} (C : Cod f es) (h : Rd w es v l.length (l.flatMap f)) (hs : pSliceL es v A H M = some v') (hL : Bd 0 A lo) (hH : Bd l.length H hi) (hM : BdM hi l.length H M) (h1 : lo ≤ hi) (h2 : hi ≤ l.length) :
    Rd w es v' ((l.take hi).drop lo).length (((l.take hi).drop lo).flatMap f) := by
  have := h.sub' hs hL hH hM h1 h2
  rw [flat_take C, flat_drop C] at this
  have e : ((l.take hi).drop lo).length = hi - lo := by simp; omega
  rw [e]; exact this
end
theorem Cod.one1 {α : Type} {g : α → Value} (h : ∀ x, (g x).oneCell' = true) : Cod (fun x => [g x]) 1 := ⟨fun _ => rfl, fun x => by simp [h], by omega⟩
def cI (n : Int) : List Value := [.int .i64 n]
def cS (s : ByteArray) : List Value := [.string s]
theorem CI : Cod cI 1 := ⟨fun _ => rfl, fun _ => rfl, by omega⟩
theorem CS : Cod cS 1 := ⟨fun _ => rfl, fun _ => rfl, by omega⟩
end Go.Sx

/- Sz7 -/
namespace Go.Sx
/-! sorting in place: what a list may become -/
section
variable {α : Type}
/-- l' has the members of l, and outside [a, b) the same ones -/
structure PermOn (a b : Nat) (l l' : List α) : Prop where
  perm : l'.Perm l
  out : ∀ i, (i < a ∨ b ≤ i) → l'[i]? = l[i]?
theorem PermOn.refl (a b : Nat) (l : List α) : PermOn a b l l := ⟨.refl _, fun _ _ => rfl⟩
theorem PermOn.trans {a b : Nat} {l m n : List α} (h : PermOn a b l m) (h' : PermOn a b m n) : PermOn a b l n := ⟨h'.perm.trans h.perm, fun i hi => (h'.out i hi).trans (h.out i hi)⟩
theorem PermOn.wide {a b a' b' : Nat} {l m : List α} (h : PermOn a b l m) (ha : a' ≤ a) (hb : b ≤ b') : PermOn a' b' l m := ⟨h.perm, fun i hi => h.out i (by omega)⟩
theorem PermOn.len {a b : Nat} {l m : List α} (h : PermOn a b l m) : m.length = l.length := h.perm.length_eq
theorem take_eq_of {l m : List α} {a : Nat} (h : ∀ i, i < a → m[i]? = l[i]?) : m.take a = l.take a := by
  apply List.ext_getElem?
  intro i
  simp only [List.getElem?_take]
  split
  · exact h i ‹_›
  · rfl
theorem drop_eq_of {l m : List α} {a : Nat} (h : ∀ i, a ≤ i → m[i]? = l[i]?) : m.drop a = l.drop a := by
  apply List.ext_getElem?
  intro i
  simp only [List.getElem?_drop]
  exact h _ (by omega)
theorem PermOn.mid {a b : Nat} {l m : List α} (h : PermOn a b l m) (hab : a ≤ b) : ((m.take b).drop a).Perm ((l.take b).drop a) := by
  have e : ∀ x : List α, x = x.take a ++ ((x.take b).drop a ++ x.drop b) := fun x => by
    have : x.take a = (x.take b).take a := by rw [List.take_take, Nat.min_eq_left hab]
    rw [this, ← List.append_assoc, List.take_append_drop, List.take_append_drop]
  have hp := h.perm
  rw [e m, e l, take_eq_of fun i hi => h.out i (.inl hi), drop_eq_of fun i hi => h.out i (.inr hi)] at hp
  have := (List.perm_append_left_iff _).1 hp
  exact (List.perm_append_right_iff _).1 this
/-- what holds of all members of a range goes on to hold -/
theorem PermOn.all {a b : Nat} {l m : List α} (h : PermOn a b l m) {p : α → Prop} (hp : ∀ i x, a ≤ i → i < b → l[i]? = some x → p x) : ∀ i x, a ≤ i → i < b → m[i]? = some x → p x := by
  intro i x ha hb hx
  have hm : x ∈ (m.take b).drop a := by
    apply List.mem_of_getElem? (i := i - a)
    rw [List.getElem?_drop, List.getElem?_take_of_lt (by omega), show a + (i - a) = i by omega, hx]
  have := (h.mid (by omega)).subset hm
  obtain ⟨j, hj⟩ := List.getElem?_of_mem this
  have hj' := hj
  rw [List.getElem?_drop, List.getElem?_take] at hj
  split at hj
  · exact hp (a + j) x (by omega) ‹_› hj
  · cases hj
def swapL (l : List α) (i j : Nat) : List α := match l[i]?, l[j]? with | some x, some y => (l.set i y).set j x | _, _ => l
theorem swapL_eq {l : List α} {i j : Nat} (hi : i < l.length) (hj : j < l.length) : swapL l i j = (l.set i l[j]).set j l[i] := by simp [swapL, hi, hj]
theorem swapL_get {l : List α} {i j : Nat} (hi : i < l.length) (hj : j < l.length) (k : Nat) : (swapL l i j)[k]? = if k = j then some l[i] else if k = i then some l[j] else l[k]? := by
  rw [swapL_eq hi hj]
  simp only [List.getElem?_set, List.length_set]
  by_cases h1 : j = k
  · subst h1; simp [hj]
  · by_cases h2 : i = k
    · subst h2; simp [h1, hi, Ne.symm h1]
    · simp [h1, h2, Ne.symm h1, Ne.symm h2]
theorem swapL_len (l : List α) (i j : Nat) : (swapL l i j).length = l.length := by
  unfold swapL; split <;> simp
theorem swapL_perm {l : List α} {i j : Nat} (hi : i < l.length) (hj : j < l.length) : (swapL l i j).Perm l := by
  have h := Array.swap_perm (xs := l.toArray) (i := i) (j := j) (by simpa using hi) (by simpa using hj)
  have e : (l.toArray.swap i j (by simpa using hi) (by simpa using hj)).toList = swapL l i j := by
    rw [swapL_eq hi hj]; simp [Array.swap]
  have := h.toList
  rw [e] at this
  exact this
theorem PermOn.swap {a b i j : Nat} {l : List α} (hi : a ≤ i ∧ i < b) (hj : a ≤ j ∧ j < b) (hb : b ≤ l.length) : PermOn a b l (swapL l i j) :=
  ⟨swapL_perm (by omega) (by omega), fun k hk => by
    rw [swapL_get (by omega) (by omega)]
    rw [if_neg (by omega), if_neg (by omega)]⟩

structure SWO (lt : α → α → Bool) : Prop where
  asym : ∀ a b, lt a b = true → lt b a = false
  tr : ∀ a b c, lt b a = false → lt c b = false → lt c a = false
variable {lt : α → α → Bool}
theorem SWO.lt_le {a b c : α} (S : SWO lt) (h : lt a b = true) (h' : lt c b = false) : lt a c = true := by
  cases h2 : lt a c with
  | true => rfl
  | false => have := S.tr b c a h' h2; rw [this] at h; cases h
theorem SWO.le_lt {a b c : α} (S : SWO lt) (h : lt b a = false) (h' : lt b c = true) : lt a c = true := by
  cases h2 : lt a c with
  | true => rfl
  | false => have := S.tr c a b h2 h; rw [this] at h'; cases h'
theorem SWO.irr (S : SWO lt) (a : α) : lt a a = false := by
  cases h : lt a a with
  | false => rfl
  | true => have := S.asym a a h; rw [this] at h; cases h
def SortOn (lt : α → α → Bool) (a b : Nat) (l : List α) : Prop := ∀ i j x y, a ≤ i → i < j → j < b → l[i]? = some x → l[j]? = some y → lt y x = false
theorem SortOn.small {a b : Nat} {l : List α} (h : b ≤ a + 1) : SortOn lt a b l := fun i j x y h1 h2 h3 => by omega
theorem SortOn.of_eq {a b : Nat} {l m : List α} (h : SortOn lt a b l) (e : ∀ i, a ≤ i → i < b → m[i]? = l[i]?) : SortOn lt a b m :=
  fun i j x y h1 h2 h3 hx hy => h i j x y h1 h2 h3 (by rw [← e i h1 (by omega)]; exact hx) (by rw [← e j (by omega) h3]; exact hy)
/-- sorted step by step -/
theorem SortOn.step (S : SWO lt) {a b : Nat} {l : List α} (h : ∀ i x y, a ≤ i → i + 1 < b → l[i]? = some x → l[i + 1]? = some y → lt y x = false) : SortOn lt a b l := by
  intro i j x y h1 h2 h3 hx hy
  induction j generalizing y with
  | zero => omega
  | succ j ih =>
    by_cases e : i = j
    · subst e; exact h i x y h1 h3 hx hy
    · have hj : j < l.length := by have := (List.getElem?_eq_some_iff.1 hy).1; omega
      have hz : l[j]? = some l[j] := List.getElem?_eq_getElem hj
      exact S.tr _ _ _ (ih l[j] (by omega) (by omega) hz) (h j l[j] y (by omega) h3 hz hy)
/-- a middle that is between -/
theorem SortOn.join (S : SWO lt) {a m b : Nat} {l : List α} {p : α} (hm : l[m]? = some p) (h1 : SortOn lt a m l) (h2 : SortOn lt (m + 1) b l)
    (hl : ∀ i x, a ≤ i → i < m → l[i]? = some x → lt p x = false) (hr : ∀ i x, m < i → i < b → l[i]? = some x → lt x p = false) : SortOn lt a b l := by
  intro i j x y g1 g2 g3 hx hy
  rcases Nat.lt_trichotomy j m with h | h | h
  · exact h1 i j x y g1 g2 h hx hy
  · subst h; rw [hm] at hy; cases hy; exact hl i x g1 g2 hx
  · rcases Nat.lt_trichotomy i m with g | g | g
    · exact S.tr _ _ _ (hl i x g1 g hx) (hr j y h g3 hy)
    · subst g; rw [hm] at hx; cases hx; exact hr j y h g3 hy
    · exact h2 i j x y (by omega) g2 g3 hx hy
theorem SortOn.sorted {l : List α} (h : SortOn lt 0 l.length l) : l.Pairwise fun x y => lt y x = false := by
  rw [List.pairwise_iff_getElem]
  intro i j hi hj hij
  exact h i j _ _ (by omega) hij hj (List.getElem?_eq_getElem hi) (List.getElem?_eq_getElem hj)
/-- two sorted lists of the same members are one, where the order is of all -/
theorem sorted_unique (ht : ∀ a b, lt a b = false → lt b a = false → a = b) {l m : List α} (hp : l.Perm m) (hl : l.Pairwise fun x y => lt y x = false) (hm : m.Pairwise fun x y => lt y x = false) : l = m :=
  hp.eq_of_pairwise (fun a b _ _ h1 h2 => ht a b h2 h1) hl hm
end
end Go.Sx

/- Sz8 -/
namespace Go.Sx
/-! what has no Go text -/
def gClone : FnT := fun args w K => match args with
  | [.iface t (.map (some r))] => match w.heap[r]? with
    | some (.map es clock) => K (.iface t (.map (some w.heap.size))) (w.alloc (.map es clock))
    | _ => False
  | _ => False
theorem okClone {P : Program} {i : Nat} {fn : Func} (hf : P.funcs[i]? = some fn) (hname : (fn.name == "runtime.NumGoroutine") = false) (hb : fn.body.isNone = true) (hn : Extern.findNext fn = none) (he : Extern.find fn = some Extern.MapsClone.clone) : OkF P i gClone := by
  intro args w K h
  unfold gClone at h
  split at h
  · rename_i t r
    split at h
    · rename_i es clock hb'
      refine .inr ⟨_, _, ?_, h⟩
      rw [run_callFunc_extern hf hname hb hn he]
      have e : Extern.MapsClone.clone [Value.iface t (.map (some r))].toArray = (getObj r >>= fun o => match o with
        | .map entries clock => (newObj (.map entries clock) >>= fun n => pure (.iface t (.map (some n))))
        | _ => stuck "maps.clone: a map expected") := rfl
      rw [e]
      have g : (getObj r).run P w = .ok (.map es clock) w := by simp [getObj, Sem.run, hb']
      simp only [Sem.run_bind, g, Result.andThen_ok]
      rfl
    · exact h.elim
  · exact h.elim
section
variable {κ ν : Type} {ek : κ → Value} {ev : ν → Value} {m : List (κ × ν)} {w0 w : World} {L : List HP} {v : Value}
theorem gClone_sat {K : Value → World → Prop} {t : TypeId} (h : Sat w0 (MapH ek ev v m :: L) w) (hK : ∀ v' w', Sat w0 (MapH ek ev v' m :: MapH ek ev v m :: L) w' → K (.iface t v') w') : callP gClone [.iface t v] w K := by
  obtain ⟨r, es, clock, ⟨rfl, hm⟩, hs⟩ := map_iff.1 h
  refine callP_intro ?_
  simp only [gClone, hs.blk]
  refine hK _ _ (map_iff.2 ⟨_, es, clock, ⟨rfl, hm⟩, ?_⟩)
  exact (Sat.alloc h _)
end
/-- several parts as one -/
def HS : List HP → HP
  | [] => HEm
  | P :: l => HSt P (HS l)
theorem Sat.hs_iff {w0 w : World} {L : List HP} : ∀ {l : List HP}, Sat w0 (HS l :: L) w ↔ Sat w0 (l ++ L) w := by
  intro l
  have key : ∀ (l : List HP) (L : List HP) (h : Hp), SepL (HS l :: L) h ↔ SepL (l ++ L) h := by
    intro l
    induction l with
    | nil =>
      intro L h
      constructor
      · rintro ⟨a, b, hd, rfl, _, hL⟩
        have : ∀ (M : List HP) (b h : Hp), (∀ i o, b i = some o → h i = some o) → SepL M b → SepL M h := by
          intro M
          induction M with
          | nil => intro _ _ _ _; trivial
          | cons Q M ih =>
            rintro b h hb ⟨x, y, hxy, rfl, hQ, hM⟩
            refine ⟨x, fun i => match x i with | some _ => none | none => h i, ?_, ?_, hQ, ih y _ ?_ hM⟩
            · intro i o hx; simp [hx]
            · funext i; unfold hOr
              cases hx : x i with
              | none => simp [hx]
              | some o => simp; exact hb i o (hOr_l hx)
            · intro i o hy
              have hx : x i = none := hxy.symm i o hy
              simp [hx]
              exact hb i o (hOr_r hxy hy)
        exact this L b _ (fun i o hb => hOr_r hd hb) hL
      · intro h1
        exact ⟨fun _ => none, h, (fun _ _ h => by cases h), rfl, trivial, h1⟩
    | cons P l ih =>
      intro L h
      show SepL (HSt P (HS l) :: L) h ↔ _
      rw [SepL.star]
      constructor
      · exact fun h1 => h1.tail fun _ h2 => (ih L _).1 h2
      · exact fun h1 => SepL.tail (fun _ h2 => (ih L _).2 h2) h1
  exact ⟨fun h => h.conv fun _ => (key l L _).1, fun h => h.conv fun _ => (key l L _).2⟩
section
variable {P : Program} {t : TypeId} {x y : Operand}
theorem bEq_nilm {k e : TypeId} (h : P.underlying t = some (.map k e)) (a : Option Nat) : bEq P t x y (.map a) (.map none) = some (.bool a.isNone) := by
  cases a <;> simp [bEq, bEqv, eqPlain, eqv, Op.maxDepth, h]
theorem bEq_nils {e : TypeId} (h : P.underlying t = some (.slice e)) (a : Option Addr) (n c : Nat) : bEq P t x y (.slice a n c) (.slice none 0 0) = some (.bool a.isNone) := by
  cases a <;> simp [bEq, bEqv, eqPlain, eqv, Op.maxDepth, h]
theorem bNe_nils {e : TypeId} (h : P.underlying t = some (.slice e)) (a : Option Addr) (n c : Nat) : bNe P t x y (.slice a n c) (.slice none 0 0) = some (.bool (!a.isNone)) := by
  cases a <;> simp [bNe, bEqv, eqPlain, eqv, Op.maxDepth, h]
theorem fMkI_of {d : TypeDesc} (h : P.underlying t = some d) (hd : ∀ m, d ≠ .interface m) (v : Value) : fMkI P t v = some (.iface t v) := by
  unfold fMkI; rw [h]; cases d <;> first | (exact absurd rfl (hd _)) | rfl
theorem fAssert_of {d : TypeDesc} (h : P.underlying t = some d) (hd : ∀ m, d ≠ .interface m) (v : Value) : fAssert P (.iface t v) t false = some v := by
  unfold fAssert; rw [h]; cases d <;> first | (exact absurd rfl (hd _)) | simp
end
end Go.Sx

/- Sz9 -/
namespace Go.Sx
/-! texts as lists of bytes -/
def bs (l : List UInt8) : ByteArray := ⟨l.toArray⟩
theorem mk_bs (l : List UInt8) : ByteArray.mk l.toArray = bs l := by unfold bs; rfl
theorem bs_of (s : ByteArray) : s = bs s.data.toList := by cases s; simp [bs]
@[simp] theorem bs_size (l : List UInt8) : (bs l).size = l.length := by simp [bs, ByteArray.size]
@[simp] theorem bs_data (l : List UInt8) : (bs l).data.toList = l := by simp [bs]
@[simp] theorem bs_append (a b : List UInt8) : bs a ++ bs b = bs (a ++ b) := by
  apply ByteArray.ext; simp [bs, ByteArray.data_append]
@[simp] theorem bs_inj {a b : List UInt8} : bs a = bs b ↔ a = b := by simp [bs]
@[simp] theorem bs_extract (l : List UInt8) (i j : Nat) : (bs l).extract i j = bs ((l.take j).drop i) := by
  apply ByteArray.ext
  rw [ByteArray.data_extract]
  simp only [bs, List.extract_toArray, List.extract_eq_take_drop]
  rw [List.drop_take]
@[simp] theorem bs_get (l : List UInt8) (i : Nat) : (bs l)[i]? = l[i]? := by
  by_cases h : i < l.length
  · rw [List.getElem?_eq_getElem h, getElem?_pos (bs l) i (by simpa using h)]
    simp [bs, ByteArray.getElem_eq_getElem_data]
  · rw [List.getElem?_eq_none (by omega), getElem?_neg (bs l) i (by simpa using h)]
theorem ix_txt {l : List UInt8} {i : Nat} {j : IntKind} (h : i < l.length) : pIndexS (.string (bs l)) (.int j i) = some (.int .u8 l[i].toNat) := by
  simp [pIndexS, h]
  rfl
theorem sub_from {l : List UInt8} {i : Nat} {j : IntKind} (h : i ≤ l.length) : pSliceS (.string (bs l)) (some (.int j i)) none = some (.string (bs (l.drop i))) := by
  simp [pSliceS, hiB, bnd, h]
theorem sub_to {l : List UInt8} {i : Nat} {j : IntKind} (h : i ≤ l.length) : pSliceS (.string (bs l)) none (some (.int j i)) = some (.string (bs (l.take i))) := by
  simp [pSliceS, hiB, bnd]
  rw [if_pos (by omega)]
theorem sub_both {l : List UInt8} {a b : Nat} {j k : IntKind} (h1 : a ≤ b) (h2 : b ≤ l.length) : pSliceS (.string (bs l)) (some (.int j a)) (some (.int k b)) = some (.string (bs ((l.take b).drop a))) := by
  simp [pSliceS, hiB, bnd]
  rw [if_pos (by omega)]
  simp
  rw [if_pos (by omega)]
theorem add_txt {a b : List UInt8} (h : a.length + b.length ≤ 9223372036854775807) : bAdd (.string (bs a)) (.string (bs b)) = some (.string (bs (a ++ b))) := by
  have e : IntKind.i64.max = 9223372036854775807 := by decide
  simp only [bAdd, bs_size, e]
  rw [if_neg (by omega), bs_append]
/-! bytes in cells -/
def cellsB (l : List UInt8) : List Value := l.map fun b => .int .u8 b.toNat
@[simp] theorem cellsB_len (l : List UInt8) : (cellsB l).length = l.length := by simp [cellsB]
@[simp] theorem bytesOf_cells : ∀ l : List UInt8, bytesOf (cellsB l) = some l
  | [] => rfl
  | b :: l => by
    show bytesOf (.int .u8 b.toNat :: cellsB l) = _
    simp [bytesOf, bytesOf_cells l]
theorem cBytes_rd {w : World} {v : Value} {n : Nat} {l : List UInt8} (h : Rd w 1 v n (cellsB l)) (h0 : 0 < n) : cBytes v w = some (.string (bs l)) := by
  have hl := h.length
  generalize hc : cellsB l = cs at h hl
  cases h with
  | emp => omega
  | blk hb hn ha hcs =>
    rename_i b o cap a ty fz
    subst hcs
    simp only [cBytes, hb]
    rw [if_pos (by omega)]
    have : (a.extract o (o + n)).toList = (a.toList.drop o).take (n * 1) := by simp [List.take_drop]
    rw [this, ← hc, bytesOf_cells]
    rfl
theorem cBytes_arr {w : World} {b i n : Nat} {c : Array Value} {ty : TypeId} {fz : Nat × Nat} {j : IntKind} {l : List UInt8} (h : w.heap[b]? = some (.cells c ty fz)) (hn : c.size = n) (hi : i ≤ n) (hl : c.toList.drop i = cellsB l) :
    ∃ v, pSliceA n 1 (.pointer (some ⟨b, 0, none⟩)) (some (.int j i)) none none = some v ∧ cBytes v w = some (.string (bs l)) := by
  have e : ∀ a, cBytes (.slice (some ⟨b, a, none⟩) (n - i) (n - i)) w = if a + (n - i) ≤ c.size then (bytesOf (c.extract a (a + (n - i))).toList).map fun l => .string ⟨l.toArray⟩ else none := by
    intro a; simp [cBytes, h]
  have hll := congrArg List.length hl
  simp at hll
  simp [pSliceA, hiB, bnd]
  rw [if_pos (by omega)]
  simp only
  by_cases hni : n = i
  · subst hni
    refine ⟨_, rfl, ?_⟩
    rw [if_pos rfl, e, if_pos (by omega)]
    have : l = [] := by cases l; rfl; simp at hll; omega
    subst this
    simp [bytesOf]; rfl
  · refine ⟨_, rfl, ?_⟩
    have e0 : (if i = 0 then (⟨b, 0, none⟩ : Addr) else ⟨b, i, none⟩) = ⟨b, i, none⟩ := by split <;> simp_all
    rw [if_neg hni]
    simp only [Addr.add, Nat.zero_add, Nat.mul_one]
    rw [e0, e, if_pos (by omega)]
    have : (c.extract i (i + (n - i))).toList = c.toList.drop i := by
      simp
      rw [List.take_of_length_le (by simp; omega)]
    rw [this, hl, bytesOf_cells]
    rfl
section
variable {w0 w : World} {L : List HP}
theorem eToBytes_sat {P : Program} {s d el : TypeId} {l : List UInt8} {K : Value → World → Prop} (h : Sat w0 L w) (us : P.underlying s = some .string) (ud : P.underlying d = some (.slice el)) (ue : P.underlying el = some (.int .u8))
    (hK : ∀ v w' b o, Sat w0 (Blk b o :: L) w' → Rd w' 1 v l.length (cellsB l) → K v w') : eToBytes P s d (.string (bs l)) w K := by
  simp only [eToBytes, us, ud, ue]
  intro cap hc
  have h1 := (h.drew).alloc (.cells (((bs l).data.map fun b => .int .u8 b.toNat) ++ Array.replicate (cap - (bs l).size) (.int .u8 0)) el (cap, cap + 1))
  refine hK _ _ _ _ h1 ?_
  have hb := h1.blk
  simp at hc
  simp only [sl, bs_size]
  refine .blk (o := 0) hb hc ?_ ?_
  · simp [bs]
  · simp [bs, cellsB]
end
/-! numbers -/
theorem bShr_nat {n k : Nat} {j j' : IntKind} (h : k ≤ j.bits) : bShr (.int j n) (.int j' k) = some (.int j ((n / 2 ^ k : Nat))) := by
  simp only [bShr]
  rw [if_neg (by omega)]
  simp only [Int.toNat_natCast, Nat.min_eq_left h]
  congr 2
  rw [Int.fdiv_eq_ediv_of_nonneg _ (by exact_mod_cast Nat.zero_le _)]
  exact_mod_cast rfl
theorem wrap_u64 {n : Nat} (h : n < 18446744073709551616) : IntKind.u64.wrap n = n := by
  have e : IntKind.u64.wrap n = Int.emod n 18446744073709551616 := by rfl
  rw [e]; exact Int.emod_eq_of_lt (by omega) (by omega)
theorem wrap_u8 (n : Nat) : IntKind.u8.wrap n = (n % 256 : Nat) := by
  have e : IntKind.u8.wrap n = (n : Int) % 256 := by rfl
  rw [e]; omega
theorem bOr_i64 {a b : Nat} (ha : a < 9223372036854775808) (hb : b < 9223372036854775808) : bBit .or (.int .i64 a) (.int .i64 b) = some (.int .i64 ((a ||| b : Nat))) := by
  have h : a ||| b < 2 ^ 63 := Nat.or_lt_two_pow (by omega) (by omega)
  have e : (2 : Nat) ^ IntKind.i64.bits = 18446744073709551616 := by decide
  simp only [bBit, bBits, if_true, Option.map_some]
  congr 2
  rw [BitVec.toNat_or]
  simp only [BitVec.ofInt_natCast, BitVec.toNat_ofNat, e]
  rw [Nat.mod_eq_of_lt (show a < _ by omega), Nat.mod_eq_of_lt (show b < _ by omega)]
  exact wrap_id ⟨by omega, by omega⟩
theorem bOr_u64 {a b : Nat} (ha : a < 18446744073709551616) (hb : b < 18446744073709551616) : bBit .or (.int .u64 a) (.int .u64 b) = some (.int .u64 ((a ||| b : Nat))) := by
  have h : a ||| b < 2 ^ 64 := Nat.or_lt_two_pow (by omega) (by omega)
  have e : (2 : Nat) ^ IntKind.u64.bits = 18446744073709551616 := by decide
  simp only [bBit, bBits, if_true, Option.map_some]
  congr 2
  rw [BitVec.toNat_or]
  simp only [BitVec.ofInt_natCast, BitVec.toNat_ofNat, e]
  rw [Nat.mod_eq_of_lt (show a < _ by omega), Nat.mod_eq_of_lt (show b < _ by omega)]
  exact wrap_u64 (by omega)
theorem andNot_all : ∀ n : Fin 256, bBits .andNot .u8 (n.val : Int) 128 = some ((n.val % 128 : Nat) : Int) := by decide +kernel
theorem bAndNot_u8 (b : UInt8) : bBit .andNot (.int .u8 b.toNat) (.int .u8 128) = some (.int .u8 ((b.toNat % 128 : Nat))) := by
  have := andNot_all ⟨b.toNat, b.toNat_lt⟩
  simp only at this
  simp only [bBit, if_true, this, Option.map_some]
theorem or_add {a b i : Nat} (h : b < 2 ^ i) : (a * 2 ^ i) ||| b = a * 2 ^ i + b := by
  rw [Nat.mul_comm, Nat.two_pow_add_eq_or_of_lt h]
end Go.Sx

/- Sz10 -/
namespace Go.Sx
open Go.ChangeShapes Go.WideShapes Go.RowKit
def isStB (P : Program) (t : TypeId) : Bool := match P.underlying t with | some (.struct _) => true | _ => false
section
variable {H : Type} {enc : TypeId × Value → H} {P : Program} {w : World} {base : Nat} {held : Bool}
theorem arg_struct {t : TypeId} {ks : List CK} {v : Value} {d : DataW H} {ps : List MemPlace} {n0 : Nat} {r : _root_.Go.Reach} (hst : isStB P t = true) (hks : scal P n0 t = some ks)
    {b0 : Nat} (hval : Value.okWide P w r b0 t v) {sp : Nat → Bool} (hd : DataW.Trod enc P w base sp held t v d ps) :
    ∃ cs : List Value, v = .agg cs.toArray ∧ FitL ks cs := by
  obtain ⟨fs, ht⟩ : ∃ fs, P.underlying t = some (.struct fs) := by
    unfold isStB at hst
    split at hst
    · exact ⟨_, by assumption⟩
    · cases hst
  obtain ⟨fuel, hx⟩ := hd
  simp only [Value.okWide, ht] at hval
  obtain ⟨cs, rfl, _, _⟩ := hval
  refine ⟨cs.toList, by simp, ?_⟩
  exact scal_ok _ _ _ hks _ _ _ hx
end
theorem fitL_cons {c : CK} {ks : List CK} : ∀ {cs : List Value}, FitL (c :: ks) cs → ∃ v vs, cs = v :: vs ∧ Fit c v ∧ FitL ks vs
  | v :: vs, h => ⟨v, vs, rfl, h.1, h.2⟩
  | [], h => h.elim
theorem fitL_nil : ∀ {cs : List Value}, FitL [] cs → cs = []
  | [], _ => rfl
  | _ :: _, h => h.elim
theorem fitL_int {k : IntKind} {ks : List CK} {cs : List Value} (h : FitL (.int k :: ks) cs) : ∃ (n : Int) (vs : List Value), cs = .int k n :: vs ∧ (Lit.int k n).wf = true ∧ FitL ks vs := by
  obtain ⟨v, vs, rfl, ⟨n, rfl, hn⟩, h2⟩ := fitL_cons h
  exact ⟨n, vs, rfl, hn, h2⟩
theorem fitL_bool {ks : List CK} {cs : List Value} (h : FitL (.bool :: ks) cs) : ∃ (b : Bool) (vs : List Value), cs = .bool b :: vs ∧ FitL ks vs := by
  obtain ⟨v, vs, rfl, ⟨n, rfl⟩, h2⟩ := fitL_cons h
  exact ⟨n, vs, rfl, h2⟩
theorem fitL_str {ks : List CK} {cs : List Value} (h : FitL (.str :: ks) cs) : ∃ (l : List UInt8) (vs : List Value), cs = .string (bs l) :: vs ∧ l.length ≤ maxLen ∧ FitL ks vs := by
  obtain ⟨v, vs, rfl, ⟨s, rfl, hs⟩, h2⟩ := fitL_cons h
  refine ⟨s.data.toList, vs, by rw [← bs_of], ?_, h2⟩
  rw [Array.length_toList]; exact hs
theorem str_bs {s : ByteArray} : ∃ l : List UInt8, s = bs l ∧ l.length = s.size := ⟨s.data.toList, bs_of s, by rw [Array.length_toList]; rfl⟩
theorem on0_mk {p : Prop} (h : p) : on0 p [] := h
theorem on1_mk {p : Value → Prop} {a : Value} (h : p a) : on1 p [a] := h
theorem on2_mk {p : Value → Value → Prop} {a b : Value} (h : p a b) : on2 p [a, b] := h
theorem on3_mk {p : Value → Value → Value → Prop} {a b c : Value} (h : p a b c) : on3 p [a, b, c] := h
theorem on4_mk {p : Value → Value → Value → Value → Prop} {a b c d : Value} (h : p a b c d) : on4 p [a, b, c, d] := h
theorem on5_mk {p : Value → Value → Value → Value → Value → Prop} {a b c d e : Value} (h : p a b c d e) : on5 p [a, b, c, d, e] := h
theorem on6_mk {p : Value → Value → Value → Value → Value → Value → Prop} {a b c d e f : Value} (h : p a b c d e f) : on6 p [a, b, c, d, e, f] := h
theorem on7_mk {p : Value → Value → Value → Value → Value → Value → Value → Prop} {a b c d e f g : Value} (h : p a b c d e f g) : on7 p [a, b, c, d, e, f, g] := h
end Go.Sx

/- Sz11 -/
namespace Go.Sx
/-! steps of a walk: each takes the parts by looking for them -/
inductive Rep (A B : HP) : List HP → List HP → Prop
  | here {L : List HP} : Rep A B (A :: L) (B :: L)
  | there {X : HP} {L L' : List HP} : Rep A B L L' → Rep A B (X :: L) (X :: L')
inductive Fnt (A : HP) : List HP → List HP → Prop
  | here {L : List HP} : Fnt A (A :: L) L
  | there {X : HP} {L M : List HP} : Fnt A L M → Fnt A (X :: L) (X :: M)
/-- L' is got from L: parts are picked, others dropped -/
inductive Get : List HP → List HP → Prop
  | done {L : List HP} : Get L L
  | skip {X : HP} {L L' : List HP} : Get L L' → Get (X :: L) L'
  | pick {A : HP} {L M L' : List HP} : Fnt A L M → Get M L' → Get L (A :: L')
theorem Fnt.perm {A : HP} {L M : List HP} (f : Fnt A L M) : L.Perm (A :: M) := by
  induction f with
  | here => exact .refl _
  | there _ ih => exact (ih.cons _).trans (.swap _ _ _)
theorem Rep.split {A B : HP} {L L' : List HP} (r : Rep A B L L') : ∃ M, L.Perm (A :: M) ∧ (B :: M).Perm L' := by
  induction r with
  | here => exact ⟨_, .refl _, .refl _⟩
  | there _ ih => obtain ⟨M, h1, h2⟩ := ih; exact ⟨_ :: M, (h1.cons _).trans (.swap _ _ _), (List.Perm.swap _ _ _).trans (h2.cons _)⟩
/-! cells by their places -/
class Nth (l : List Value) (i : Nat) (v : outParam Value) : Prop where
  get : l[i]? = some v
instance {a : Value} {l : List Value} : Nth (a :: l) 0 a := ⟨rfl⟩
instance {a b : Value} {l : List Value} {n : Nat} [h : Nth l n a] : Nth (b :: l) (n + 1) a := ⟨by simpa using h.get⟩
class Upd (l : List Value) (i : Nat) (y : Value) (l' : outParam (List Value)) : Prop where
  lt : i < l.length
  eq : l.set i y = l'
instance {a y : Value} {l : List Value} : Upd (a :: l) 0 y (y :: l) := ⟨by simp, rfl⟩
instance {y b : Value} {l l' : List Value} {n : Nat} [h : Upd l n y l'] : Upd (b :: l) (n + 1) y (b :: l') := ⟨by simpa using h.lt, by simp [h.eq]⟩
class Part (l : List Value) (o n : Nat) (l' : outParam (List Value)) : Prop where
  le : o + n ≤ l.length
  eq : (l.drop o).take n = l'
instance {l : List Value} : Part l 0 0 [] := ⟨by simp, by simp⟩
instance {a : Value} {l l' : List Value} {n : Nat} [h : Part l 0 n l'] : Part (a :: l) 0 (n + 1) (a :: l') := ⟨by have := h.le; simp; omega, by simpa using h.eq⟩
instance {a : Value} {l l' : List Value} {o n : Nat} [h : Part l o n l'] : Part (a :: l) (o + 1) n l' := ⟨by have := h.le; simp; omega, by simpa using h.eq⟩
theorem Part.all (l : List Value) : Part l 0 l.length l := ⟨by simp, by simp⟩
class Ups (l : List Value) (o : Nat) (ys : List Value) (l' : outParam (List Value)) : Prop where
  le : o + ys.length ≤ l.length
  eq : l.take o ++ (ys ++ l.drop (o + ys.length)) = l'
instance {l : List Value} : Ups l 0 [] l := ⟨by simp, by simp⟩
instance {a y : Value} {l ys l' : List Value} [h : Ups l 0 ys l'] : Ups (a :: l) 0 (y :: ys) (y :: l') := ⟨by have := h.le; simp at *; omega, by simpa using h.eq⟩
instance {a : Value} {l ys l' : List Value} {o : Nat} [h : Ups l o ys l'] : Ups (a :: l) (o + 1) ys (a :: l') := ⟨by have := h.le; simp; omega, by rw [Nat.add_right_comm]; simpa using h.eq⟩
theorem Ups.all {l ys : List Value} (h : l.length = ys.length) : Ups l 0 ys ys := ⟨by omega, by simp; omega⟩
/-- a box among the parts -/
class CellIn (p : Nat) (l : outParam (List Value)) (ty : outParam TypeId) (L : List HP) : Prop where
  mem : Cl p l.toArray ty ∈ L
instance {p : Nat} {l : List Value} {ty : TypeId} {L : List HP} : CellIn p l ty (Cl p l.toArray ty :: L) := ⟨.head _⟩
instance (priority := low) {p : Nat} {l : List Value} {ty : TypeId} {X : HP} {L : List HP} [h : CellIn p l ty L] : CellIn p l ty (X :: L) := ⟨.tail _ h.mem⟩
class Rp (p : Nat) (l' : List Value) (l : outParam (List Value)) (ty : outParam TypeId) (L : List HP) (L' : outParam (List HP)) : Prop where
  rep : Rep (Cl p l.toArray ty) (Cl p l'.toArray ty) L L'
instance {p : Nat} {l l' : List Value} {ty : TypeId} {L : List HP} : Rp p l' l ty (Cl p l.toArray ty :: L) (Cl p l'.toArray ty :: L) := ⟨.here⟩
instance (priority := low) {p : Nat} {l l' : List Value} {ty : TypeId} {X : HP} {L L' : List HP} [h : Rp p l' l ty L L'] : Rp p l' l ty (X :: L) (X :: L') := ⟨.there h.rep⟩
/-- a slice among the parts -/
class LsIn (v : Value) (L : List HP) (α : outParam Type) (f : outParam (α → List Value)) (es : outParam Nat) (ty : outParam TypeId) (l : outParam (List α)) : Prop where
  fnt : ∃ M, Fnt (LsH f es ty v l) L M
instance {v : Value} {L : List HP} {α : Type} {f : α → List Value} {es : Nat} {ty : TypeId} {l : List α} : LsIn v (LsH f es ty v l :: L) α f es ty l := ⟨_, .here⟩
instance (priority := low) {v : Value} {X : HP} {L : List HP} {α : Type} {f : α → List Value} {es : Nat} {ty : TypeId} {l : List α} [h : LsIn v L α f es ty l] : LsIn v (X :: L) α f es ty l := ⟨h.fnt.elim fun M h => ⟨X :: M, .there h⟩⟩
class CodC {α : Type} (f : α → List Value) (es : outParam Nat) : Prop where
  cod : Cod f es
class SameC (w w' : World) : Prop where
  same : Same w w'
instance {w : World} : SameC w w := ⟨.refl _⟩
instance {w w' : World} [h : SameC w w'] : SameC w w'.drew := ⟨h.same.trans (.drew _)⟩
/-- where a field of a member lies -/
def elF (es : Nat) (v : Value) (i : Int) (k : Nat) : Value := (pFieldAddr k (elP es v i)).getD undef
section
variable {w0 w : World} {L L' M : List HP} {A B : HP} {k : Value → Prop} {K : Value → World → Prop}
theorem Sat.front (h : Sat w0 L w) (f : Fnt A L M) : Sat w0 (A :: M) w := h.perm f.perm
theorem Sat.get (h : Sat w0 L w) (g : Get L L') : Sat w0 L' w := by
  obtain ⟨hf, hh, h1, h2⟩ := h
  have key : ∀ {L L' : List HP}, Get L L' → ∀ {a : Hp}, SepL L a → ∃ b, SepL L' b ∧ ∀ i o, b i = some o → a i = some o := by
    intro L L' g
    induction g with
    | done => exact fun h => ⟨_, h, fun _ _ h => h⟩
    | skip _ ih =>
      intro a h
      obtain ⟨b, hb, h3⟩ := h.drop
      obtain ⟨c, hc, h4⟩ := ih hb
      exact ⟨c, hc, fun i o h => h3 i o (h4 i o h)⟩
    | pick f _ ih =>
      intro a h
      obtain ⟨x, y, hd, rfl, hP, hL⟩ := h.perm f.perm
      obtain ⟨c, hc, h4⟩ := ih hL
      refine ⟨hOr x c, ⟨x, c, fun i o hx => ?_, rfl, hP, hc⟩, fun i o h => ?_⟩
      · cases hci : c i with
        | none => rfl
        | some z => have h6 := h4 i z hci; rw [hd i o hx] at h6; cases h6
      · unfold hOr at h
        cases hx : x i with
        | some z => rw [hx] at h; simp at h; subst h; exact hOr_l hx
        | none => rw [hx] at h; simp at h; exact hOr_r hd (h4 i o h)
  obtain ⟨b, hb, h3⟩ := key g h1
  exact ⟨hf, b, hb, fun i o h => h2 i o (h3 i o h)⟩
theorem Sat.mem {b : Nat} {o : Obj} (h : Sat w0 L w) (hm : Blk b o ∈ L) : w.heap[b]? = some o := by
  obtain ⟨X, Y, rfl⟩ := List.append_of_mem hm
  exact (h.perm List.perm_middle).blk
theorem Sat.memc {b : Nat} {c : Array Value} {ty : TypeId} (h : Sat w0 L w) (hm : Cl b c ty ∈ L) : w.heap[b]? = some (.cells c ty (0, 0)) := h.mem hm
theorem Sat.rep {w' : World} (h : Sat w0 L w) (r : Rep A B L L') (f : ∀ M, Sat w0 (A :: M) w → Sat w0 (B :: M) w') : Sat w0 L' w' := by
  obtain ⟨M, h1, h2⟩ := r.split
  exact (f M (h.perm h1)).perm h2
/-! loads, stores, boxes -/
theorem go_cell {p i : Nat} {c : Array Value} {ty : TypeId} {v : Value} (h : Sat w0 L w) (hm : Cl p c ty ∈ L) (hc : c[i]? = some v) : w.cell? ⟨p, i, none⟩ = some v := by
  rw [cell_of (h.memc hm), hc]
theorem ld1_cells {p i : Nat} {l : List Value} {ty : TypeId} {v : Value} {w1 : World} (h : Sat w0 L w) [e : SameC w w1] [hm : CellIn p l ty L] [hc : Nth l i v] : ld1 (.pointer (some ⟨p, i, none⟩)) w1 = some v := by
  rw [ld1_ptr]; exact go_cell (h.to e.same) hm.mem (by rw [List.getElem?_toArray]; exact hc.get)
theorem ld_part {p o n : Nat} {l l' : List Value} {ty : TypeId} {w1 : World} (h : Sat w0 L w) (e : Same w w1) (hm : Cl p l.toArray ty ∈ L) (hc : Part l o n l') : ldN n (.pointer (some ⟨p, o, none⟩)) w1 = some (.agg l'.toArray) := by
  rw [ldN_of ((h.to e).memc hm) (by simpa using hc.le)]
  congr 2
  apply Array.ext'
  rw [Array.toList_extract, List.extract_eq_take_drop]
  simpa using hc.eq
theorem go_some {o : Option Value} {v : Value} (h : o = some v) (hk : k v) : bindP o k := by rw [h, bindP_some]; exact hk
theorem go_ld1 {p i : Nat} {l : List Value} {ty : TypeId} {v : Value} {w1 : World} (h : Sat w0 L w) [SameC w w1] [CellIn p l ty L] [Nth l i v] (hk : k v) : bindP (ld1 (.pointer (some ⟨p, i, none⟩)) w1) k :=
  go_some (ld1_cells h) hk
theorem go_ldN {p o n : Nat} {l l' : List Value} {ty : TypeId} {w1 : World} (h : Sat w0 L w) [e : SameC w w1] [hm : CellIn p l ty L] [hc : Part l o n l'] (hk : k (.agg l'.toArray)) : bindP (ldN n (.pointer (some ⟨p, o, none⟩)) w1) k :=
  go_some (ld_part h e.same hm.mem hc) hk
theorem go_ldA {p n : Nat} {l : List Value} {ty : TypeId} {w1 : World} (h : Sat w0 L w) [e : SameC w w1] [hm : CellIn p l ty L] (hc : l.length = n) (hk : k (.agg l.toArray)) : bindP (ldN n (.pointer (some ⟨p, 0, none⟩)) w1) k :=
  go_some (ld_part h e.same hm.mem (hc ▸ Part.all l)) hk
theorem go_st {p i : Nat} {l l' m : List Value} {ty ty' : TypeId} {y : Value} [OneV y] {k : World → Prop} {w1 : World} (h : Sat w0 L w) [e : SameC w w1] [hm : CellIn p l ty L] [hc : Upd l i y l'] [r : Rp p l' m ty' L L']
    (hk : ∀ w', Sat w0 L' w' → k w') : bindW (st 1 (.pointer (some ⟨p, i, none⟩)) y w1) k := by
  have h := h.to e.same
  have hb := h.memc hm.mem
  rw [st_at hb y (by simpa using hc.lt)]
  rw [bindW_some]
  refine hk _ (h.rep r.rep fun M h => ?_)
  have h2 := h.cl
  rw [hb] at h2
  simp only [Option.some.injEq, Obj.cells.injEq, and_true] at h2
  obtain ⟨e1, rfl⟩ := h2
  obtain rfl : l = m := by simpa using congrArg Array.toList e1
  rw [List.setIfInBounds_toArray, hc.eq]; exact h.setc _
theorem go_stW {p o n : Nat} {l ys l' m : List Value} {ty ty' : TypeId} {k : World → Prop} {w1 : World} (h : Sat w0 L w) (e : Same w w1) (hm : Cl p l.toArray ty ∈ L) (hn : ys.length = n) (h1 : ys.all (·.oneCell') = true) (hc : Ups l o ys l') (r : Rep (Cl p m.toArray ty') (Cl p l'.toArray ty') L L')
    (hk : ∀ w', Sat w0 L' w' → k w') : bindW (st n (.pointer (some ⟨p, o, none⟩)) (.agg ys.toArray) w1) k := by
  have h := h.to e
  have hb := h.memc hm
  have hle := hc.le
  rw [st_cells hb (by simpa using hn) (by simpa using h1) (by simp; omega), bindW_some]
  refine hk _ (h.rep r fun M h => ?_)
  have h2 := h.cl
  rw [hb] at h2
  simp only [Option.some.injEq, Obj.cells.injEq, and_true] at h2
  obtain ⟨e1, rfl⟩ := h2
  obtain rfl : l = m := by simpa using congrArg Array.toList e1
  have e : wr l.toArray o (Value.agg ys.toArray).cells.toList = l'.toArray := by
    apply Array.ext'
    rw [wr_toList _ _ _ (by simp; omega)]
    simpa using hc.eq
  rw [e]; exact h.setc _
theorem go_stN {p o n : Nat} {l ys l' m : List Value} {ty ty' : TypeId} {k : World → Prop} {w1 : World} (h : Sat w0 L w) [e : SameC w w1] [hm : CellIn p l ty L] [hc : Ups l o ys l'] [r : Rp p l' m ty' L L'] (hn : ys.length = n) (h1 : ys.all (·.oneCell') = true)
    (hk : ∀ w', Sat w0 L' w' → k w') : bindW (st n (.pointer (some ⟨p, o, none⟩)) (.agg ys.toArray) w1) k :=
  go_stW h e.same hm.mem hn h1 hc r.rep hk
theorem go_stA {p n : Nat} {l ys m : List Value} {ty ty' : TypeId} {k : World → Prop} {w1 : World} (h : Sat w0 L w) [e : SameC w w1] [hm : CellIn p l ty L] [r : Rp p ys m ty' L L'] (hl : l.length = n) (hn : ys.length = n) (h1 : ys.all (·.oneCell') = true)
    (hk : ∀ w', Sat w0 L' w' → k w') : bindW (st n (.pointer (some ⟨p, 0, none⟩)) (.agg ys.toArray) w1) k :=
  go_stW h e.same hm.mem hn h1 (Ups.all (by omega)) r.rep hk
theorem go_box {t : TypeId} {v : Value} {l : List Value} {w1 : World} (h : Sat w0 L w) [e : SameC w w1] (hc : v.cells = l.toArray) (hK : ∀ p w', Sat w0 (Cl p l.toArray t :: L) w' → K (.pointer (some ⟨p, 0, none⟩)) w') : eBox t v w1 K := by
  refine eBox_sat (h.to e.same) fun p w' h' => hK p w' ?_
  rw [← hc]; exact h'
theorem go_alloc {Pg : Program} {t : TypeId} {z : Value} {l : List Value} {w1 : World} (h : Sat w0 L w) [e : SameC w w1] (hz : fZero Pg t = some z) (hc : z.cells = l.toArray) (hK : ∀ p w', Sat w0 (Cl p l.toArray t :: L) w' → K (.pointer (some ⟨p, 0, none⟩)) w') : eAlloc Pg t w1 K := by
  refine eAlloc_sat (h.to e.same) hz fun p w' h' => hK p w' ?_
  rw [← hc]; exact h'
theorem go_rd {p i : Nat} {l : List Value} {ty : TypeId} {v v' : Value} {X : Prop} {w1 : World} (h : Sat w0 L w) [e : SameC w w1] [hm : CellIn p l ty L] [hc : Nth l i v] (hv : v = v') (hX : X) : fok true (ld1 (.pointer (some ⟨p, i, none⟩)) w1) v' ∧ X := by
  subst hv
  exact ⟨by rw [fok_true]; exact ld1_cells h, hX⟩
theorem go_rdN {p o n : Nat} {l l' : List Value} {ty : TypeId} {v' : Value} {X : Prop} {w1 : World} (h : Sat w0 L w) [e : SameC w w1] [hm : CellIn p l ty L] [hc : Part l o n l'] (hv : .agg l'.toArray = v') (hX : X) : fok true (ldN n (.pointer (some ⟨p, o, none⟩)) w1) v' ∧ X := by
  subst hv
  exact ⟨by rw [fok_true]; exact ld_part h e.same hm.mem hc, hX⟩
theorem go_look1 {Pg : Program} {κ ν : Type} [DecidableEq κ] {ek : κ → Value} {ev : ν → Value} {v : Value} {m : List (κ × ν)} {kt t et : TypeId} {z : Value} {w1 : World} (h : Sat w0 L w) [e : SameC w w1] (hm : Fnt (MapH ek ev v m) L M) (T : KeyT Pg kt ek)
    (hu : Pg.underlying t = some (.map kt et)) (hz : fZero Pg et = some z) (q : κ) (hk : k ((aGet q m).elim z ev)) : bindP (fLook Pg t v (ek q) false w1) k :=
  go_some (look1 ((h.to e.same).front hm) T hu hz q) hk
theorem go_look2 {Pg : Program} {κ ν : Type} [DecidableEq κ] {ek : κ → Value} {ev : ν → Value} {v : Value} {m : List (κ × ν)} {kt t et : TypeId} {z : Value} {w1 : World} (h : Sat w0 L w) [e : SameC w w1] (hm : Fnt (MapH ek ev v m) L M) (T : KeyT Pg kt ek)
    (hu : Pg.underlying t = some (.map kt et)) (hz : fZero Pg et = some z) (q : κ) (hk : k (.tuple #[(aGet q m).elim z ev, .bool (aGet q m).isSome])) : bindP (fLook Pg t v (ek q) true w1) k :=
  go_some (look2 ((h.to e.same).front hm) T hu hz q) hk
theorem go_lenM {κ ν : Type} [DecidableEq κ] {ek : κ → Value} {ev : ν → Value} {v : Value} {m : List (κ × ν)} {w1 : World} (h : Sat w0 L w) [e : SameC w w1] (hm : Fnt (MapH ek ev v m) L M) (hk : k (.int .i64 m.length)) : bindP (lenM v w1) k :=
  go_some (lenM_map ((h.to e.same).front hm)) hk
theorem go_if {b : Bool} {X Y : Prop} (h1 : b = true → X) (h2 : b = false → Y) : ifB (.bool b) X Y := by
  cases b
  · rw [ifB_false]; exact h2 rfl
  · rw [ifB_true]; exact h1 rfl
theorem go_fok {o : Option Value} {v : Value} {X : Prop} (ho : o = some v) (hX : X) : fok true o v ∧ X := ⟨by rw [fok_true]; exact ho, hX⟩
/-! slices of things -/
theorem ls_of {α : Type} {f : α → List Value} {es : Nat} {ty : TypeId} {v : Value} {l : List α} {w1 : World} (h : Sat w0 L w) (e : Same w w1) (m : LsIn v L α f es ty l) : Rd w1 es v l.length (l.flatMap f) := by
  obtain ⟨M, hm⟩ := m.fnt
  exact ls_rd ((h.to e).front hm)
theorem rd_fa {α : Type} {f : α → List Value} {es i j : Nat} {v : Value} {l : List α} (C : Cod f es) (h : Rd w es v l.length (l.flatMap f)) (hi : i < l.length) (hj : j < es) : pFieldAddr j (elP es v i) = some (elF es v i j) := by
  obtain ⟨a, h1, _⟩ := rd_fld C h hi hj
  unfold elF; rw [h1]; rfl
theorem rd_f1 {α : Type} {f : α → List Value} {es i j : Nat} {v x : Value} {l : List α} (C : Cod f es) (h : Rd w es v l.length (l.flatMap f)) (hi : i < l.length) (hx : Nth (f l[i]) j x) : ld1 (elF es v i j) w = some x := by
  have hj : j < es := by
    have := (List.getElem?_eq_some_iff.1 hx.get).1
    rwa [C.len] at this
  obtain ⟨a, h1, h2⟩ := rd_fld C h hi hj
  have : elF es v i j = .pointer (some a) := by unfold elF; rw [h1]; rfl
  rw [this, ld1_ptr, h2, hx.get]
theorem go_lenL {α : Type} {f : α → List Value} {es : Nat} {ty : TypeId} {v : Value} {l : List α} (h : Sat w0 L w) [m : LsIn v L α f es ty l] (hk : k (.int .i64 l.length)) : bindP (lenL v) k :=
  go_some (ls_of h (.refl _) m).len hk
theorem go_ix {α : Type} {f : α → List Value} {es i : Nat} {ty : TypeId} {v : Value} {l : List α} (h : Sat w0 L w) [m : LsIn v L α f es ty l] (hi : i < l.length) (hk : k (elP es v i)) : bindP (pIndexL es v (.int .i64 i)) k :=
  go_some (ix_el (ls_of h (.refl _) m) hi) hk
theorem go_elN {α : Type} {f : α → List Value} {es i : Nat} {ty : TypeId} {v : Value} {l : List α} {w1 : World} (h : Sat w0 L w) [e : SameC w w1] [m : LsIn v L α f es ty l] [C : CodC f es] (hi : i < l.length) (hk : k (.agg (f l[i]).toArray)) : bindP (ldN es (elP es v i) w1) k :=
  go_some (rd_ld C.cod (ls_of h e.same m) hi) hk
theorem go_fa {α : Type} {f : α → List Value} {es i j : Nat} {ty : TypeId} {v : Value} {l : List α} (h : Sat w0 L w) [m : LsIn v L α f es ty l] [C : CodC f es] (hi : i < l.length) (hj : j < es) (hk : k (elF es v i j)) : bindP (pFieldAddr j (elP es v i)) k :=
  go_some (rd_fa C.cod (ls_of h (.refl _) m) hi hj) hk
theorem go_f1 {α : Type} {f : α → List Value} {es i j : Nat} {ty : TypeId} {v x : Value} {l : List α} {w1 : World} (h : Sat w0 L w) [e : SameC w w1] [m : LsIn v L α f es ty l] [C : CodC f es] (hi : i < l.length) (hx : Nth (f l[i]) j x) (hk : k x) : bindP (ld1 (elF es v i j) w1) k :=
  go_some (rd_f1 C.cod (ls_of h e.same m) hi hx) hk
theorem go_rf1 {α : Type} {f : α → List Value} {es i j : Nat} {ty : TypeId} {v x x' : Value} {l : List α} {X : Prop} {w1 : World} (h : Sat w0 L w) [e : SameC w w1] [m : LsIn v L α f es ty l] [C : CodC f es] (hi : i < l.length) (hx : Nth (f l[i]) j x) (hv : x = x') (hX : X) : fok true (ld1 (elF es v i j) w1) x' ∧ X := by
  subst hv
  exact ⟨by rw [fok_true]; exact rd_f1 C.cod (ls_of h e.same m) hi hx, hX⟩
theorem go_rel {α : Type} {f : α → List Value} {es i : Nat} {ty : TypeId} {v x' : Value} {l : List α} {X : Prop} {w1 : World} (h : Sat w0 L w) [e : SameC w w1] [m : LsIn v L α f es ty l] [C : CodC f es] (hi : i < l.length) (hv : .agg (f l[i]).toArray = x') (hX : X) : fok true (ldN es (elP es v i) w1) x' ∧ X := by
  subst hv
  exact ⟨by rw [fok_true]; exact rd_ld C.cod (ls_of h e.same m) hi, hX⟩
theorem go_rlen {α : Type} {f : α → List Value} {es : Nat} {ty : TypeId} {v x' : Value} {l : List α} {X : Prop} (h : Sat w0 L w) [m : LsIn v L α f es ty l] (hv : .int .i64 l.length = x') (hX : X) : fok true (lenL v) x' ∧ X := by
  subst hv
  exact ⟨by rw [fok_true]; exact (ls_of h (.refl _) m).len, hX⟩
theorem bAdd_i64 {a b : Int} (h : -9223372036854775808 ≤ a + b ∧ a + b ≤ 9223372036854775807) : bAdd (.int .i64 a) (.int .i64 b) = some (.int .i64 (a + b)) := by rw [bAdd_int, wrap_id h]
theorem bSub_i64 {a b : Int} (h : -9223372036854775808 ≤ a - b ∧ a - b ≤ 9223372036854775807) : bSub (.int .i64 a) (.int .i64 b) = some (.int .i64 (a - b)) := by rw [bSub_int, wrap_id h]
theorem pMin_int {j : IntKind} {a b : Int} : pMin (.int j a) (.int j b) = some (.int j (min a b)) := by
  simp only [pMin]; congr 2; rw [Int.min_def]; split <;> split <;> omega
theorem pMax_int {j : IntKind} {a b : Int} : pMax (.int j a) (.int j b) = some (.int j (max a b)) := by
  simp only [pMax]; congr 2; rw [Int.max_def]; split <;> split <;> omega
end
/-- the simple steps, in one -/
theorem evA : (∀ (v : Value) (k : Value → Prop), bindP (some v) k = k v) ∧ (∀ (o : Option Value) (k : Value → Prop), Sx.stepG true o k = bindP o k) ∧ (∀ (o : Option Value) (k : Value → Prop), Sx.stepG false o k = k undef) ∧
    (∀ (v : Value) (k : Value → Prop), stepM true v k = k v) ∧ (∀ (v : Value) (k : Value → Prop), stepM false v k = k undef) ∧
    (∀ (E : (Value → World → Prop) → Prop) (w : World) (K : Value → World → Prop), stepE true E w K = E K) ∧ (∀ (E : (Value → World → Prop) → Prop) (w : World) (K : Value → World → Prop), stepE false E w K = K undef w) ∧
    (∀ (w : World) (q : World → Prop), bindW (some w) q = q w) ∧ (∀ a b : Prop, ifB (.bool true) a b = a) ∧ (∀ a b : Prop, ifB (.bool false) a b = b) ∧ (∀ b : Bool, gd true (.bool b) = b) ∧ (∀ b : Bool, gd false (.bool b) = !b) ∧
    (∀ a b : Value, pPick (.bool true) a b = some a) ∧ (∀ a b : Value, pPick (.bool false) a b = some b) ∧ (∀ a : Addr, pNil (.pointer (some a)) = some (.pointer (some a))) ∧ (∀ off b o : Nat, pFieldAddr off (.pointer (some ⟨b, o, none⟩)) = some (.pointer (some ⟨b, o + off, none⟩))) ∧
    (∀ b : Bool, uNot (.bool b) = some (.bool !b)) ∧ (∀ b : Bool, gd b undef = false) :=
  ⟨fun _ _ => bindP_some _, fun _ _ => stepG_true _, fun _ _ => stepG_false _, fun _ _ => stepM_true _, fun _ _ => stepM_false _, fun _ _ _ => stepE_true _, fun _ _ _ => stepE_false _, fun _ _ => bindW_some _, fun _ _ => ifB_true, fun _ _ => ifB_false, gd_true, gd_false, pPick_true, pPick_false, pNil_ptr, pFieldAddr_ptr, uNot_bool, fun b => by cases b <;> rfl⟩
theorem evB : (∀ j (a b : Int), bLt (.int j a) (.int j b) = some (.bool (a < b))) ∧ (∀ j (a b : Int), bLe (.int j a) (.int j b) = some (.bool (a ≤ b))) ∧ (∀ j (a b : Int), bGt (.int j a) (.int j b) = some (.bool (a > b))) ∧ (∀ j (a b : Int), bGe (.int j a) (.int j b) = some (.bool (a ≥ b))) ∧
    (∀ P t x y j (a b : Int), bEq P t x y (.int j a) (.int j b) = some (.bool (decide (a = b)))) ∧ (∀ P t x y j (a b : Int), bNe P t x y (.int j a) (.int j b) = some (.bool (!decide (a = b)))) ∧
    (∀ P t x y (a b : ByteArray), bEq P t x y (.string a) (.string b) = some (.bool (decide (a = b)))) ∧ (∀ P t x y (a b : ByteArray), bNe P t x y (.string a) (.string b) = some (.bool (!decide (a = b)))) ∧
    (∀ (l : List Value) i, pTuple (.tuple l.toArray) i = l[i]?) ∧ (∀ (a : Value) (l : List Value), (a :: l)[0]? = some a) ∧ (∀ (a : Value) (l : List Value) i, (a :: l)[i + 1]? = l[i]?) ∧
    (∀ a n c, lenL (.slice a n c) = some (.int .i64 (n : Nat))) ∧ (∀ s : ByteArray, lenS (.string s) = some (.int .i64 s.size)) ∧ (∀ l : List UInt8, (bs l).size = l.length) ∧ (∀ j (a b : Int), pMin (.int j a) (.int j b) = some (.int j (min a b))) ∧ (∀ j (a b : Int), pMax (.int j a) (.int j b) = some (.int j (max a b))) ∧
    (∀ l : List UInt8, ByteArray.mk l.toArray = bs l) ∧ (∀ a b : List UInt8, (bs a = bs b) = (a = b)) ∧
    (∀ v w, ld1 v w.drew = ld1 v w) ∧ (∀ n v w, ldN n v w.drew = ldN n v w) ∧ (∀ v w, lenM v w.drew = lenM v w) ∧ (∀ v w, cBytes v w.drew = cBytes v w) ∧ (∀ P t m k b w, fLook P t m k b w.drew = fLook P t m k b w) ∧ (∀ v, fok true (some v) v = True) :=
  ⟨bLt_int, bLe_int, bGt_int, bGe_int, fun _ _ _ _ => bEq_int, fun _ _ _ _ => bNe_int, fun _ _ _ _ _ _ => by rw [bEq_str, bs_beq], fun _ _ _ _ _ _ => by rw [bNe_str, bs_beq], pTuple_mk, fun _ _ => List.getElem?_cons_zero, fun _ _ _ => List.getElem?_cons_succ, lenL_mk, lenS_mk, bs_size, fun _ _ _ => pMin_int, fun _ _ _ => pMax_int, mk_bs, fun _ _ => by rw [bs_inj], fun _ _ => rfl, fun _ _ _ => rfl, fun _ _ => rfl, fun _ _ => rfl, fun _ _ _ _ _ _ => rfl, fun _ => by rw [fok_true]; simp⟩
end Go.Sx

/- Sz12 -/
namespace Go.Sx
open Go.ChangeShapes Go.WideShapes Go.RowKit
/-! arguments, slices within them, and how long all is -/
inductive CK2 where
  | int (k : IntKind)
  | str
  | bool
  | sl (es : Nat) (ks : List CK2)
mutual
def Fit2 (w : World) (B : Nat) : CK2 → Value → Prop
  | .int k, v => ∃ n, v = .int k n ∧ (Lit.int k n).wf = true
  | .str, v => ∃ s, v = .string s ∧ s.size ≤ B
  | .bool, v => ∃ b, v = .bool b
  | .sl es ks, v => ∃ n cs, Rd w es v n cs ∧ n ≤ B ∧ ∀ i, i < n → FitL2 w B ks ((cs.drop (i * es)).take es)
def FitL2 (w : World) (B : Nat) : List CK2 → List Value → Prop
  | [], vs => vs = []
  | c :: cs, vs => ∃ v r, vs = v :: r ∧ Fit2 w B c v ∧ FitL2 w B cs r
end
section
variable {w : World} {B : Nat}
theorem FitL2.append : ∀ {a b : List CK2} {x y : List Value}, FitL2 w B a x → FitL2 w B b y → FitL2 w B (a ++ b) (x ++ y)
  | [], _, x, _, h, h' => by simp only [FitL2] at h; subst h; exact h'
  | _ :: _, _, x, _, h, h' => by
    simp only [FitL2] at h
    obtain ⟨v, r, rfl, h1, h2⟩ := h
    simp only [List.cons_append, FitL2]
    exact ⟨v, _, rfl, h1, h2.append h'⟩
theorem FitL2.length : ∀ {a : List CK2} {x : List Value}, FitL2 w B a x → x.length = a.length
  | [], x, h => by simp only [FitL2] at h; subst h; rfl
  | _ :: _, x, h => by
    simp only [FitL2] at h
    obtain ⟨v, r, rfl, _, h2⟩ := h
    simp [h2.length]
theorem fitL2_nil {cs : List Value} (h : FitL2 w B [] cs) : cs = [] := by simpa only [FitL2] using h
theorem fitL2_int {k : IntKind} {ks : List CK2} {cs : List Value} (h : FitL2 w B (.int k :: ks) cs) : ∃ (n : Int) (vs : List Value), cs = .int k n :: vs ∧ (Lit.int k n).wf = true ∧ FitL2 w B ks vs := by
  simp only [FitL2, Fit2] at h
  obtain ⟨v, r, rfl, ⟨n, rfl, hn⟩, h2⟩ := h
  exact ⟨n, r, rfl, hn, h2⟩
theorem fitL2_bool {ks : List CK2} {cs : List Value} (h : FitL2 w B (.bool :: ks) cs) : ∃ (b : Bool) (vs : List Value), cs = .bool b :: vs ∧ FitL2 w B ks vs := by
  simp only [FitL2, Fit2] at h
  obtain ⟨v, r, rfl, ⟨n, rfl⟩, h2⟩ := h
  exact ⟨n, r, rfl, h2⟩
theorem fitL2_str {ks : List CK2} {cs : List Value} (h : FitL2 w B (.str :: ks) cs) : ∃ (l : List UInt8) (vs : List Value), cs = .string (bs l) :: vs ∧ l.length ≤ B ∧ FitL2 w B ks vs := by
  simp only [FitL2, Fit2] at h
  obtain ⟨v, r, rfl, ⟨s, rfl, hs⟩, h2⟩ := h
  obtain ⟨l, rfl, hl⟩ := str_bs (s := s)
  exact ⟨l, r, rfl, by omega, h2⟩
theorem fitL2_sl {es : Nat} {k ks : List CK2} {cs : List Value} (h : FitL2 w B (.sl es k :: ks) cs) : ∃ (v : Value) (vs : List Value), cs = v :: vs ∧ (∃ n ds, Rd w es v n ds ∧ n ≤ B ∧ ∀ i, i < n → FitL2 w B k ((ds.drop (i * es)).take es)) ∧ FitL2 w B ks vs := by
  simp only [FitL2, Fit2] at h
  obtain ⟨v, r, rfl, h1, h2⟩ := h
  exact ⟨v, r, rfl, h1, h2⟩
end
def scal2F (P : Program) (r : TypeId → Option (List CK2)) : List Field → Nat → Option (List CK2)
  | [], _ => some []
  | f :: fs, off => match f.offset == off, r f.type with
    | true, some ks => match ks.length == P.cellsOf f.type, scal2F P r fs (off + ks.length) with
      | true, some l => some (ks ++ l)
      | _, _ => none
    | _, _ => none
def repCK2 (ks : List CK2) : Nat → List CK2
  | 0 => []
  | n + 1 => ks ++ repCK2 ks n
def scal2 (P : Program) : Nat → TypeId → Option (List CK2)
  | 0, _ => none
  | d + 1, t => match P.underlying t with
    | some .bool => some [.bool]
    | some (.int k) => some [.int k]
    | some .string => some [.str]
    | some (.slice e) => match scal2 P d e with
      | some ks => if 0 < P.cellsOf e ∧ 0 < P.bytesOf e then some [.sl (P.cellsOf e) ks] else none
      | none => none
    | some (.struct fs) => match scal2F P (scal2 P d) fs.toList 0 with
      | some ks => if ks.length = P.cellsOf t then some ks else none
      | none => none
    | some (.array n e) => match scal2 P d e with
      | some ks => if ks.length = P.cellsOf e ∧ n * ks.length = P.cellsOf t then some (repCK2 ks n) else none
      | none => none
    | _ => none
section
variable {H : Type} {enc : TypeId × Value → H} {P : Program} {w : World} {base : Nat} {held : Bool} {B : Nat}
theorem weightsAll_mem {e : TypeId} : ∀ {l : List (DataW H)} {d : DataW H}, d ∈ l → ∀ n ∈ d.weights P e, n ∈ DataW.weightsAll P e l
  | x :: l, d, hd, n, hn => by
    simp only [DataW.weightsAll, List.mem_append]
    rcases List.mem_cons.1 hd with rfl | hd
    · exact .inl hn
    · exact .inr (weightsAll_mem hd n hn)
  | [], _, hd, _, _ => by simp at hd
theorem scal2F_ok {r : TypeId → Option (List CK2)} {R : TypeId → List Value → Option (DataW H × List MemPlace)} {cs : List Value} (hr : ∀ t ks c x, r t = some ks → R t c = some x → (∀ n ∈ x.1.weights P t, n ≤ B) → FitL2 w B ks c) :
    ∀ (fs : List Field) (off : Nat) (ks : List CK2) (xs : List (DataW H × List MemPlace)), scal2F P r fs off = some ks → fs.mapM (fun f => R f.type ((cs.drop f.offset).take (P.cellsOf f.type))) = some xs →
      (∀ n ∈ DataW.weightsEach P (fs.map (·.type)) (xs.map (·.1)), n ≤ B) → FitL2 w B ks ((cs.drop off).take ks.length) := by
  intro fs
  induction fs with
  | nil => intro off ks xs h _ _; simp [scal2F] at h; subst h; simp [FitL2]
  | cons f fs ih =>
    intro off ks xs h hm hw
    unfold scal2F at h
    split at h
    · rename_i ks1 ho hks
      split at h
      · rename_i l hl hk
        simp only [Option.some.injEq] at h; subst h
        simp only [beq_iff_eq] at ho hl
        simp only [List.mapM_cons, Option.bind_eq_bind, Option.bind_eq_some_iff] at hm
        obtain ⟨x, hx, ys, hys, he⟩ := hm
        simp only [Option.pure_def, Option.some.injEq] at he; subst he
        simp only [List.map_cons, DataW.weightsEach, List.mem_append] at hw
        have f1 := hr _ _ _ _ hks hx fun n hn => hw n (.inl hn)
        have f2 := ih _ _ _ hk hys fun n hn => hw n (.inr hn)
        rw [ho, ← hl] at f1
        have := f1.append f2
        rw [List.length_append, List.take_add, List.drop_drop]
        exact this
      · cases h
    · cases h
theorem rep2_ok {ks : List CK2} {cs : List Value} : ∀ (n o : Nat), (∀ i, i < n → FitL2 w B ks ((cs.drop (o + i * ks.length)).take ks.length)) → FitL2 w B (repCK2 ks n) ((cs.drop o).take (n * ks.length)) := by
  intro n
  induction n with
  | zero => intro o _; simp [repCK2, FitL2]
  | succ n ih =>
    intro o h
    have h0 := h 0 (by omega)
    simp only [Nat.zero_mul, Nat.add_zero] at h0
    have h1 := ih (o + ks.length) fun i hi => by
      have := h (i + 1) (by omega)
      rwa [Nat.add_mul, Nat.one_mul, Nat.add_comm (i * ks.length), ← Nat.add_assoc] at this
    have := h0.append h1
    rw [show (n + 1) * ks.length = ks.length + n * ks.length by rw [Nat.add_mul]; omega, List.take_add, List.drop_drop]
    exact this
theorem mapM_mem {α β : Type} {f : α → Option β} : ∀ {l : List α} {r : List β}, l.mapM f = some r → ∀ x ∈ l, ∃ y ∈ r, f x = some y := by
  intro l
  induction l with
  | nil => intro r _ x hx; simp at hx
  | cons a l ih =>
    intro r h x hx
    simp only [List.mapM_cons, Option.bind_eq_bind, Option.bind_eq_some_iff] at h
    obtain ⟨y, hy, ys, hys, he⟩ := h
    simp only [Option.pure_def, Option.some.injEq] at he; subst he
    rcases List.mem_cons.1 hx with rfl | hx
    · exact ⟨y, by simp, hy⟩
    · obtain ⟨z, hz, h2⟩ := ih hys x hx; exact ⟨z, by simp [hz], h2⟩
theorem rd_of_slice {e : TypeId} {es : Nat} {a : Addr} {len cap m : Nat} {R : Nat → List Value → Prop} (he : P.cellsOf e = es) (hpos : 0 < es) (hlc : len ≤ cap) (hm : m = cap)
    (hel : ∀ i, i < m → ∃ cs', w.cells? base (a.add (i * es)) es = some cs' ∧ R i cs') :
    ∃ cs, Rd w es (.slice (some a) len cap) len cs ∧ ∀ i, i < len → R i ((cs.drop (i * es)).take es) := by
  subst hm
  by_cases hc0 : m = 0
  · have : len = 0 := by omega
    subst this
    exact ⟨[], .emp _ _, fun i hi => by omega⟩
  have cell : ∀ k, k < m * es → ∃ u, w.cell? (a.add k) = some u := by
    intro k hk
    have hi : k / es < m := by rw [Nat.div_lt_iff_lt_mul hpos]; exact hk
    obtain ⟨cs', h1, _⟩ := hel _ hi
    obtain ⟨_, h2, h3⟩ := World.cells?_some h1
    have hm := Nat.mod_lt k hpos
    have h4 := h3 (k % es) hm
    rw [add_add, show k / es * es + k % es = k by rw [Nat.mul_comm]; exact Nat.div_add_mod k es] at h4
    exact ⟨cs'[k % es]'(by omega), by rw [h4, List.getElem?_eq_getElem]⟩
  have hpos2 : 0 < m * es := Nat.mul_pos (by omega) hpos
  obtain ⟨b, o, spot⟩ := a
  have hspot : spot = none ∧ ∃ arr ty fz, w.heap[b]? = some (.cells arr ty fz) := by
    obtain ⟨u, hu⟩ := cell 0 hpos2
    simp only [Addr.add, if_true, World.cell?] at hu
    split at hu
    · rename_i arr ty fz hb'
      cases spot with
      | none => exact ⟨rfl, _, _, _, hb'⟩
      | some s => simp at hu
    · cases hu
  obtain ⟨rfl, arr, ty, fz, hb'⟩ := hspot
  have cell2 : ∀ k, k < m * es → o + k < arr.size := by
    intro k hk
    obtain ⟨u, hu⟩ := cell k hk
    rw [addr_add, cell_of hb'] at hu
    rcases Nat.lt_or_ge (o + k) arr.size with h | h
    · exact h
    · rw [Array.getElem?_eq_none h] at hu; cases hu
  have hsz := cell2 (m * es - 1) (by omega)
  have hle := Nat.mul_le_mul_right es hlc
  refine ⟨_, .blk hb' hlc (by omega) rfl, fun i hi => ?_⟩
  obtain ⟨cs', h1, h2⟩ := hel i (by omega)
  obtain ⟨_, h4, h5⟩ := World.cells?_some h1
  have hi2 : i * es + es ≤ len * es := by
    have := Nat.mul_le_mul_right es (show i + 1 ≤ len by omega)
    rw [Nat.add_mul] at this; omega
  have : (((arr.toList.drop o).take (len * es)).drop (i * es)).take es = cs' := by
    apply List.ext_getElem
    · simp; omega
    · intro j j1 j2
      have := h5 j (by omega)
      rw [addr_add, addr_add, cell_of hb', List.getElem?_eq_getElem j2, Array.getElem?_eq_getElem (cell2 (i * es + j) (by omega) |> fun h => by omega)] at this
      simp only [Option.some.injEq] at this
      rw [← this]
      simp [Nat.add_assoc]
  rw [this]; exact h2
theorem scal2_ok : ∀ (d : Nat) (t : TypeId) (ks : List CK2), scal2 P d t = some ks → ∀ (fuel : Nat) (cs : List Value) (x : DataW H × List MemPlace), DataW.trod enc P w base (fun _ => true) held fuel t cs = some x → (∀ n ∈ x.1.weights P t, n ≤ B) → FitL2 w B ks cs := by
  intro d
  induction d with
  | zero => intro t ks h; simp [scal2] at h
  | succ d ih =>
    intro t ks h fuel cs x hx hw
    cases fuel with
    | zero => simp [DataW.trod] at hx
    | succ fuel =>
    unfold scal2 at h
    split at h
    · rename_i hu
      simp only [Option.some.injEq] at h; subst h
      unfold DataW.trod at hx
      rw [hu] at hx
      split at hx <;> first | (simp_all; done) | (exact (by simp only [FitL2, Fit2]; exact ⟨_, _, rfl, ⟨_, rfl⟩, rfl⟩)) | (rename_i h1; simp at h1)
    · rename_i k hu
      simp only [Option.some.injEq] at h; subst h
      unfold DataW.trod at hx
      rw [hu] at hx
      split at hx
      all_goals first | (rename_i h1; simp at h1; done) | skip
      all_goals first | (simp at hx; done) | skip
      all_goals
        rename_i h1
        simp at h1
        subst h1
        split at hx
        · rename_i h2; obtain ⟨rfl, h3⟩ := h2; simp only [FitL2, Fit2]; exact ⟨_, _, rfl, ⟨_, rfl, h3⟩, rfl⟩
        · simp at hx
    · rename_i hu
      simp only [Option.some.injEq] at h; subst h
      unfold DataW.trod at hx
      rw [hu] at hx
      split at hx
      all_goals first | (rename_i h1; simp at h1; done) | skip
      all_goals first | (simp at hx; done) | skip
      all_goals
        split at hx
        · simp only [Option.some.injEq] at hx; subst hx
          rename_i s _ _
          have := hw s.size (by simp [DataW.weights])
          simp only [FitL2, Fit2]; exact ⟨_, _, rfl, ⟨_, rfl, this⟩, rfl⟩
        · simp at hx
    · rename_i e hu
      split at h
      · rename_i ks' hks
        split at h
        · rename_i hcell
          simp only [Option.some.injEq] at h; subst h
          rcases Go.Deep.open_slice hu hx with ⟨rfl, rfl⟩ | ⟨a, len, cap, m, n, D, Pl, rfl, hb, hlc, hcm, hm, rfl, hel⟩
          · simp only [FitL2, Fit2]
            exact ⟨_, _, rfl, ⟨0, [], .emp _ _, Nat.zero_le _, fun i hi => by omega⟩, rfl⟩
          · simp only [if_true] at hm
            simp only [DataW.weights, hu, List.mem_cons, List.mem_append, List.length_map, List.length_range] at hw
            have hn : len ≤ B := by
              have := hw _ (.inl rfl)
              have h3 := Nat.le_mul_of_pos_right (len + (m - len)) hcell.2
              omega
            obtain ⟨cs, hr, hR⟩ := rd_of_slice (R := fun i cs' => i < len → FitL2 w B ks' cs') rfl hcell.1 hlc hm fun i hi => by
              obtain ⟨cs', h1, h2⟩ := hel i hi
              refine ⟨cs', h1, fun hi2 => ih _ _ hks _ _ _ h2 fun n hn => hw n (.inr (.inl (weightsAll_mem (d := D i) ?_ n hn)))⟩
              exact List.mem_map.2 ⟨i, by simpa using hi2, rfl⟩
            simp only [FitL2, Fit2]
            exact ⟨_, _, rfl, ⟨len, cs, hr, hn, fun i hi => hR i hi hi⟩, rfl⟩
        · cases h
      · cases h
    · rename_i fs hu
      split at h
      · rename_i ks' hks
        split at h
        · rename_i hlen
          simp only [Option.some.injEq] at h; subst h
          have : cs.length = P.cellsOf t ∧ ∃ xs, fs.toList.mapM (fun f => DataW.trod enc P w base (fun _ => true) held fuel f.type ((cs.drop f.offset).take (P.cellsOf f.type))) = some xs ∧ x.1 = .agg (xs.map (·.1)) := by
            unfold DataW.trod at hx
            rw [hu] at hx
            split at hx
            all_goals first | (rename_i h1; simp at h1; done) | skip
            all_goals first | (simp at hx; done) | skip
            all_goals first | exact (‹∀ (fs_1 : Array Field), some (TypeDesc.struct fs) = some (TypeDesc.struct fs_1) → False› fs rfl).elim | skip
            all_goals
              have h1 := ‹some (TypeDesc.struct fs) = some (TypeDesc.struct _)›
              cases h1
              split at hx
              · rename_i hl
                simp only [Option.map_eq_some_iff] at hx
                obtain ⟨xs, hxs, rfl⟩ := hx
                exact ⟨hl, xs, hxs, rfl⟩
              · simp at hx
          obtain ⟨hl, xs, hxs, hx1⟩ := this
          rw [hx1] at hw
          simp only [DataW.weights, hu] at hw
          have := scal2F_ok (R := DataW.trod enc P w base (fun _ => true) held fuel) (fun t ks c x h1 h2 h3 => ih t ks h1 fuel c x h2 h3) fs.toList 0 ks' xs hks hxs hw
          rw [List.drop_zero, List.take_of_length_le (by omega)] at this
          exact this
        · cases h
      · cases h
    · rename_i n e hu
      split at h
      · rename_i ks' hks
        split at h
        · rename_i hlen
          simp only [Option.some.injEq] at h; subst h
          have : cs.length = P.cellsOf t ∧ ∃ xs, (List.range n).mapM (fun i => DataW.trod enc P w base (fun _ => true) held fuel e ((cs.drop (i * P.cellsOf e)).take (P.cellsOf e))) = some xs ∧ x.1 = .agg (xs.map (·.1)) := by
            unfold DataW.trod at hx
            rw [hu] at hx
            split at hx
            all_goals first | (rename_i h1; simp at h1; done) | skip
            all_goals first | (simp at hx; done) | skip
            all_goals first | exact (‹∀ (n_1 : Nat) (e_1 : TypeId), some (TypeDesc.array n e) = some (TypeDesc.array n_1 e_1) → False› n e rfl).elim | skip
            all_goals
              have h1 := ‹some (TypeDesc.array n e) = some (TypeDesc.array _ _)›
              cases h1
              split at hx
              · rename_i hl
                simp only [Option.map_eq_some_iff] at hx
                obtain ⟨xs, hxs, rfl⟩ := hx
                exact ⟨hl, xs, hxs, rfl⟩
              · simp at hx
          obtain ⟨hl, xs, hxs, hx1⟩ := this
          rw [hx1] at hw
          simp only [DataW.weights, hu] at hw
          have := rep2_ok (w := w) (B := B) (ks := ks') (cs := cs) n 0 fun i hi => by
            obtain ⟨y, hym, hy⟩ := mapM_mem hxs i (by simpa using hi)
            have := ih _ _ hks _ _ _ hy fun n hn => hw n (weightsAll_mem (List.mem_map.2 ⟨y, hym, rfl⟩) n hn)
            rw [Nat.zero_add, hlen.1]; exact this
          rw [List.drop_zero, List.take_of_length_le (by omega)] at this
          exact this
        · cases h
      · cases h
    · cases h
def isSlB (P : Program) (t : TypeId) : Bool := match P.underlying t with | some (.struct _) => false | some (.array _ _) => false | some _ => true | none => false
/-- an argument, of whatever kind, as cells -/
theorem arg_any {t : TypeId} {ks : List CK2} {v : Value} {d : DataW H} {ps : List MemPlace} {n0 : Nat} (hks : scal2 P n0 t = some ks)
    (hd : DataW.Trod enc P w base (fun _ => true) held t v d ps) (hw : ∀ n ∈ d.weights P t, n ≤ B) : FitL2 w B ks v.cells.toList := by
  obtain ⟨fuel, hx⟩ := hd
  exact scal2_ok _ _ _ hks _ _ _ hx hw
theorem arg_agg {t : TypeId} {v : Value} {r : _root_.Go.Reach} {b0 : Nat} (hst : isStB P t = true) (hval : Value.okWide P w r b0 t v) : ∃ cs : List Value, v = .agg cs.toArray := by
  obtain ⟨fs, ht⟩ : ∃ fs, P.underlying t = some (.struct fs) := by
    unfold isStB at hst
    split at hst
    · exact ⟨_, by assumption⟩
    · cases hst
  simp only [Value.okWide, ht] at hval
  obtain ⟨cs, rfl, _, _⟩ := hval
  exact ⟨cs.toList, by simp⟩
theorem arg_sl {t e : TypeId} {v : Value} {r : _root_.Go.Reach} {b0 : Nat} (ht : P.underlying t = some (.slice e)) (hval : Value.okWide P w r b0 t v) : v.cells.toList = [v] := by
  simp only [Value.okWide, ht, Cell.okWide, Cell.ok] at hval
  split at hval <;> first | rfl | (exact hval.elim) | simp_all [Value.cells]
end
theorem fit_list2 {α : Type} {f : α → List Value} {good : α → Prop} {Q : List Value → Prop} {es : Nat} (hf : ∀ c, Q c → ∃ x, c = f x ∧ good x) : ∀ (n : Nat) (cs : List Value), cs.length = n * es → (∀ i, i < n → Q ((cs.drop (i * es)).take es)) →
    ∃ l : List α, l.length = n ∧ cs = l.flatMap f ∧ ∀ x ∈ l, good x := by
  intro n
  induction n with
  | zero => intro cs h _; exact ⟨[], rfl, by simpa using h, by simp⟩
  | succ n ih =>
    intro cs h hx
    obtain ⟨x, e1, g1⟩ := hf _ (hx 0 (by omega))
    obtain ⟨l, e2, e3, g2⟩ := ih (cs.drop es) (by simp [h, Nat.add_mul]) fun i hi => by
      have := hx (i + 1) (by omega)
      rwa [Nat.add_mul, Nat.one_mul, Nat.add_comm (i * es), ← List.drop_drop] at this
    refine ⟨x :: l, by simp [e2], ?_, by simpa using ⟨g1, g2⟩⟩
    rw [List.flatMap_cons, ← e3, ← e1]
    simp
/-! parts of slices that are only read -/
section
variable {w0 w : World} {L : List HP} {k : Value → Prop} {K : Value → World → Prop} {α : Type} {f : α → List Value} {es i : Nat} {ty : TypeId} {v : Value} {l : List α}
theorem go_subTo {j : IntKind} (h : Sat w0 L w) [m : LsIn v L α f es ty l] [C : CodC f es] (hi : i ≤ l.length) (hk : ∀ v', Rd w es v' (l.take i).length ((l.take i).flatMap f) → k v') : bindP (pSliceL es v none (some (.int j i)) none) k := by
  have hr := ls_of h (.refl _) m
  obtain ⟨v', e, _⟩ := hr.sub (L := none) (H := some (.int j i)) (M := none) (lo := 0) (hi := i) .none (.some _ _) (.none _) (Nat.zero_le _) hi
  have := rd_sub C.cod hr e (lo := 0) (hi := i) .none (.some _ _) (.none _) (Nat.zero_le _) hi
  rw [List.drop_zero] at this
  exact go_some e (hk v' this)
theorem go_subFrom {j : IntKind} (h : Sat w0 L w) [m : LsIn v L α f es ty l] [C : CodC f es] (hi : i ≤ l.length) (hk : ∀ v', Rd w es v' (l.drop i).length ((l.drop i).flatMap f) → k v') : bindP (pSliceL es v (some (.int j i)) none none) k := by
  have hr := ls_of h (.refl _) m
  obtain ⟨v', e, _⟩ := hr.sub (L := some (.int j i)) (H := none) (M := none) (lo := i) (hi := l.length) (.some _ _) .none (.none _) hi (Nat.le_refl _)
  have := rd_sub C.cod hr e (lo := i) (hi := l.length) (.some _ _) .none (.none _) hi (Nat.le_refl _)
  rw [List.take_length] at this
  exact go_some e (hk v' this)
/-- a slice of one, written out -/
theorem go_lit1 {P : Program} {t : TypeId} {x : α} {y : Value} {c : Array Value} {w1 : World} (C : Cod f es) (h : Sat w0 L w) [e : SameC w w1] (hu : P.underlying t = some (.slice ty)) (hc : fBuildSl P ty 1 [(0, y)] = some c) (hm : c.toList = f x)
    (hK : ∀ s w', Sat w0 (LsH f es ty s [x] :: L) w' → K s w') : eBuildSl P t 1 [(0, y)] w1 K :=
  ls_lit (m := [x]) C (h.to e.same) hu hc (by simp [hm]) hK
theorem go_lit0 {P : Program} {t : TypeId} {w1 : World} (C : Cod f es) (h : Sat w0 L w) [e : SameC w w1] (hu : P.underlying t = some (.slice ty)) (hc : fBuildSl P ty 0 [] = some #[])
    (hK : ∀ s w', Sat w0 (LsH f es ty s [] :: L) w' → K s w') : eBuildSl P t 0 [] w1 K :=
  ls_lit (m := []) C (h.to e.same) hu hc (by simp) hK
end
theorem flat_setF {α : Type} {f : α → List Value} {es j : Nat} (C : Cod f es) (hj : j < es) {x' : α} {y : Value} : ∀ {l : List α} {i : Nat} (hi : i < l.length), (f l[i]).set j y = f x' → (l.flatMap f).set (i * es + j) y = (l.set i x').flatMap f
  | a :: l, 0, _, hx => by
    have h1 : j < (f a).length := by rw [C.len]; exact hj
    simp only [List.getElem_cons_zero] at hx
    rw [Nat.zero_mul, Nat.zero_add, List.flatMap_cons, List.set_append_left _ _ h1, hx, List.set_cons_zero, List.flatMap_cons]
  | a :: l, i + 1, hi, hx => by
    have h1 : (f a).length = es := C.len a
    simp only [List.getElem_cons_succ] at hx
    rw [List.flatMap_cons, List.set_append_right _ _ (by rw [h1, Nat.add_mul]; omega), h1, show (i + 1) * es + j - es = i * es + j by rw [Nat.add_mul]; omega, flat_setF C hj (by simpa using hi) hx, List.set_cons_succ, List.flatMap_cons]
theorem go_stF {α : Type} {f : α → List Value} {es i j : Nat} {ty : TypeId} {v y : Value} {l : List α} {w0 w w1 : World} {L M : List HP} {k : World → Prop} [OneV y] {x' : α} (h : Sat w0 L w) [e : SameC w w1] (hm : Fnt (LsH f es ty v l) L M) (C : Cod f es) (hi : i < l.length) (hj : j < es) (hx : (f l[i]).set j y = f x')
    (hk : ∀ w', Sat w0 (LsH f es ty v (l.set i x') :: M) w' → k w') : bindW (st 1 (elF es v i j) y w1) k := by
  have h := (h.to e.same).front hm
  obtain ⟨b, q, e1, w', e2, h2⟩ := st_elem (j := .i64) h hi hj y
  have e3 : elF es v i j = .pointer (some ⟨b, q + j, none⟩) := by
    unfold elF elP; rw [e1]; rfl
  rw [e3, e2, bindW_some]
  refine hk w' ?_
  unfold LsH
  rw [List.length_set, ← flat_setF C hj hi hx]
  exact h2
end Go.Sx

/- So1 -/
namespace Go.Sx
open Go.Proofs (CmpLays)
/-! slices.SortFunc over structs, by the kit's contract, in the words of parts that lie apart -/
section
variable {α : Type} [Inhabited α] {f : α → List Value} {es : Nat}
theorem flatK_eq (C : Cod f es) (l : List α) : Go.Sort.flatK f es l.toArray = (l.flatMap f).toArray := by
  refine Go.Sort.ext_get! (by rw [Go.Sort.size_flatK]; simp [flat_len C l]) fun t ht => ?_
  rw [Go.Sort.size_flatK, List.size_toArray] at ht
  rw [Go.Sort.get_flatK _ _ _ _ (by simpa using ht)]
  have hm := Nat.mod_lt t C.pos
  have hi : t / es < l.length := by rw [Nat.div_lt_iff_lt_mul C.pos]; exact ht
  have h1 := flat_at C.len l (t / es) hi
  have h2 : (l.flatMap f)[t]? = (f l[t / es])[t % es]? := by
    rw [← h1, List.getElem?_take, if_pos hm, List.getElem?_drop, Nat.div_add_mod']
  have h3 : t < (l.flatMap f).length := by rw [flat_len C]; exact ht
  have h4 : t % es < (f l[t / es]).length := by rw [C.len]; exact hm
  rw [List.getElem?_eq_getElem h3, List.getElem?_eq_getElem h4] at h2
  have e1 : l.toArray[t / es]! = l[t / es] := by rw [getElem!_pos l.toArray (t / es) (by simpa using hi)]; simp
  rw [e1, getElem!_pos (f l[t / es]) (t % es) h4, getElem!_pos (l.flatMap f).toArray t (by simpa using h3)]
  simp only [List.getElem_toArray]
  exact (Option.some.inj h2).symm
theorem holds_of {w : World} {b o : Nat} {a : Array Value} {ty : TypeId} {l : List α} (C : Cod f es) (hb : w.heap[b]? = some (.cells a ty (0, 0))) (hc : l.flatMap f = (a.toList.drop o).take (l.length * es)) (ha : o + l.length * es ≤ a.size) : Go.Sort.HoldsK f es w b o l.toArray := by
  unfold Go.Sort.HoldsK
  rw [flatK_eq C]
  intro j hj
  have hj : j < l.length * es := by simpa [flat_len C l] using hj
  have hj2 : j < (l.flatMap f).length := by rw [flat_len C]; exact hj
  refine ⟨?_, by simp [World.frozen?, hb]⟩
  rw [cell_of hb, getElem!_pos _ _ (by simpa using hj2)]
  simp only [List.getElem_toArray, id]
  have : (l.flatMap f)[j]? = a.toList[o + j]? := by rw [hc, List.getElem?_take, if_pos hj, List.getElem?_drop]
  rw [List.getElem?_eq_getElem hj2] at this
  rw [this]; simp
theorem heap_put {w : World} {b o : Nat} {F : Array Value} (i : Nat) : (Go.Sort.putRow id w b o F).heap[i]? = if i = b then (w.heap[b]?).map (Go.Sort.onCells (Go.Sort.putCells id o F)) else w.heap[i]? := by
  unfold Go.Sort.putRow Go.Sort.mapBlock
  simp only [Array.getElem?_modify]
  by_cases h : i = b
  · subst h; simp
  · rw [if_neg (fun e => h e.symm), if_neg h]
theorem sortW {w : World} {b o q : Nat} {a : Array Value} {ty : TypeId} {l l' : List α} {os : Array Obj} (C : Cod f es) (hb : w.heap[b]? = some (.cells a ty (0, 0))) (hlen : l'.length = l.length) (ha : o + l.length * es ≤ a.size) :
    ∃ a' : Array Value, (Go.Proofs.sortWorldK f es w b o q l'.toArray os).heap[b]? = some (.cells a' ty (0, 0)) ∧ a'.size = a.size ∧ l'.flatMap f = (a'.toList.drop o).take (l.length * es) ∧ Stp [b] [b] w (Go.Proofs.sortWorldK f es w b o q l'.toArray os) := by
  have hlt := lt_of_blk hb
  have heap : ∀ i, i < w.heap.size → (Go.Proofs.sortWorldK f es w b o q l'.toArray os).heap[i]? = (Go.Sort.putRow id w b o (l'.flatMap f).toArray).heap[i]? := by
    intro i hi
    show (((Go.Sort.putRowK f es (Go.Sort.ahead w q) b o l'.toArray).heap) ++ os)[i]? = _
    have hs : (Go.Sort.putRowK f es (Go.Sort.ahead w q) b o l'.toArray).heap.size = w.heap.size := by
      unfold Go.Sort.putRowK Go.Sort.putRow Go.Sort.mapBlock Go.Sort.ahead; simp
    rw [Array.getElem?_append_left (by rw [hs]; exact hi)]
    unfold Go.Sort.putRowK
    rw [flatK_eq C, heap_put, heap_put]
    rfl
  have hsz : w.heap.size ≤ (Go.Proofs.sortWorldK f es w b o q l'.toArray os).heap.size := by
    show _ ≤ (((Go.Sort.putRowK f es (Go.Sort.ahead w q) b o l'.toArray).heap) ++ os).size
    have hs : (Go.Sort.putRowK f es (Go.Sort.ahead w q) b o l'.toArray).heap.size = w.heap.size := by
      unfold Go.Sort.putRowK Go.Sort.putRow Go.Sort.mapBlock Go.Sort.ahead; simp
    rw [Array.size_append, hs]; omega
  refine ⟨Go.Sort.putCells id o (l'.flatMap f).toArray a, ?_, by simp [Go.Sort.putCells], ?_, ⟨⟨rfl, rfl, rfl, hsz, fun i hi hn => ?_⟩, fun x hx => .inl hx⟩⟩
  · rw [heap b hlt, heap_put, if_pos rfl, hb]; rfl
  · have hl' : (l'.flatMap f).length = l.length * es := by rw [flat_len C, hlen]
    apply List.ext_getElem?
    intro i
    rw [List.getElem?_take]
    by_cases hi : i < l.length * es
    · rw [if_pos hi, List.getElem?_drop]
      have h1 : o + i < a.size := by omega
      have h2 : i < (l'.flatMap f).length := by omega
      rw [List.getElem?_eq_getElem h2, Array.getElem?_toList]
      simp only [Go.Sort.putCells, Array.getElem?_mapIdx, Array.getElem?_eq_getElem h1, Option.map_some]
      rw [if_pos ⟨by omega, by rw [List.size_toArray]; omega⟩]
      simp only [id, Nat.add_sub_cancel_left]
      rw [getElem!_pos _ _ (by simpa using h2)]
      simp
    · rw [if_neg hi, List.getElem?_eq_none (by omega)]
  · rw [heap i hi, heap_put, if_neg (by simpa using hn)]
end
/-- nothing that lay before is touched: blocks behind, draws -/
def Gr (W W' : World) : Prop := ∃ q os', W' = Go.Sort.grow (W.drewN q) os'
theorem Gr.refl (W : World) : Gr W W := ⟨0, #[], by rw [Go.Sort.grow_empty]; rfl⟩
theorem Gr.alloc {W W' : World} (h : Gr W W') (o : Obj) : Gr W (W'.alloc o) := by
  obtain ⟨q, os, rfl⟩ := h
  exact ⟨q, os ++ #[o], by rw [Go.Sort.alloc_eq_grow, Go.Sort.grow_grow]⟩
theorem Gr.drew {W W' : World} (h : Gr W W') : Gr W W'.drew := by
  obtain ⟨q, os, rfl⟩ := h
  exact ⟨q + 1, os, rfl⟩
section
variable {w0 w W : World} {L : List HP} {K : Value → World → Prop}
theorem eBox_ex {t : TypeId} {v : Value} (h : Sat w0 L w) (g : Gr W w) (hK : ∀ p w', Sat w0 (Cl p v.cells t :: L) w' → Gr W w' → K (ptr p) w') : eBox t v w K := hK _ _ (h.alloc _) (g.alloc _)
theorem eBuildSl_ex {α : Type} {f : α → List Value} {es : Nat} {P : Program} {t ty : TypeId} {m : List α} {parts : List (Nat × Value)} {c : Array Value} (C : Cod f es) (h : Sat w0 L w) (g : Gr W w) (hu : P.underlying t = some (.slice ty)) (hc : fBuildSl P ty m.length parts = some c) (hm : c.toList = m.flatMap f)
    (hK : ∀ s w', Sat w0 (LsH f es ty s m :: L) w' → Gr W w' → K s w') : eBuildSl P t m.length parts w K := by
  have key : eBuildSl P t m.length parts w fun s w' => Sat w0 (LsH f es ty s m :: L) w' := ls_lit C h hu hc hm fun s w' h => h
  unfold eBuildSl at key ⊢
  rw [hu] at key ⊢
  simp only [hc] at key ⊢
  exact hK _ _ key (g.alloc _)
end
theorem swo_of {α : Type} {lt : α → α → Bool} (S : SWO lt) : Go.Sort.SWO lt := ⟨S.irr, fun x y z h1 h2 => S.lt_le h1 (by
    cases h : lt z y with
    | false => rfl
    | true => have := S.asym _ _ h2; rw [this] at h; cases h), fun x y z h1 h2 => by
    cases h : lt x z with
    | false => rfl
    | true =>
      have := S.lt_le h h2
      rw [h1] at this; cases this⟩
def gSortF (P : Program) (es : Nat) (ty : TypeId) : FnT := fun args w K => ∃ (α : Type) (_ : Inhabited α) (f : α → List Value) (cf : α → α → Int) (lt : α → α → Bool) (g : Nat) (v : Value) (w0 : World) (L : List HP) (l : List α),
  args = [v, .func (.func g) #[] #[]] ∧ Cod f es ∧ Go.Sort.SWO (Go.Proofs.ltOf cf) ∧ (∀ x y, Go.Proofs.ltOf cf x y = lt x y) ∧ (∀ args w, (callFunc g args).run P w = .ok (.enter g args) w) ∧
  (∀ (W : World) (x y : α), Calls P g #[.agg (f x).toArray, .agg (f y).toArray] W fun e W' => e = .returned (.int .i64 (cf x y)) ∧ Gr W W') ∧
  Sat w0 (LsH f es ty v l :: L) w ∧ l.length < 4611686018427387904 ∧ ∀ l' w', l'.Perm l → l'.Pairwise (fun x y => lt y x = false) → Sat w0 (LsH f es ty v l' :: L) w' → K (.tuple #[]) w'
theorem okSortF {P : Program} {ρ : Go.Shelf.Ren} (S : Go.Proofs.SlLaysF0.n6 P ρ) {es : Nat} {ty : TypeId} (aE : ∀ w, (isAgg (ρ.t 24)).run P w = .ok true w) (zE : ∀ w, (Go.sizeOf (ρ.t 24)).run P w = .ok es w)
    (ef : ∀ args w, (callFunc (ρ.f 6) args).run P w = .ok (.enter (ρ.f 6) args) w) : OkF P (ρ.f 6) (gSortF P es ty) := by
  intro args w K ⟨α, inst, f, cf, lt, g, v, w0, L, l, ha, C, hO, hlt, eg, hcmp, hs, hlen, hk⟩
  subst ha
  refine .inl ⟨ef _ _, ?_⟩
  obtain ⟨fp, hO', kk⟩ := Sat.own hs
  generalize hcs : l.flatMap f = cs at hO'
  generalize hn' : l.length = n at hO'
  cases hO' with
  | nil =>
    obtain rfl : l = [] := List.eq_nil_of_length_eq_zero hn'
    refine (Go.Proofs.AnyF.slices_SortFunc_none S none 0 (.func (.func g) #[] #[]) w).mono fun e w' ⟨he, hw⟩ => ?_
    subst hw
    exact ⟨_, he, hk [] w' (.refl _) .nil hs⟩
  | blk hb hn ha hc =>
    rename_i b o cap a
    subst hn'
    have h2 := Nat.mul_le_mul_right es hn
    have hH : Go.Sort.HoldsK f es w b o l.toArray := holds_of C hb (by rw [hcs]; exact hc) (by omega)
    have hcon := Go.Proofs.AnyQ.slices_SortFunc S es aE zE f C.len (fun x v hv => List.all_eq_true.1 (C.one x) v hv) cf hO g #[] b o cap l.toArray w eg
      (fun m os dk hd x y => hcmp _ x y) hH (lt_of_blk hb) (by simpa using hlen)
    rw [List.size_toArray] at hcon
    refine hcon.mono fun e w' ⟨he, d', q, os, hp, hsr, hw⟩ => ?_
    obtain ⟨l', rfl⟩ : ∃ l' : List α, d' = l'.toArray := ⟨d'.toList, by simp⟩
    obtain ⟨hp1, _, hp3⟩ := hp
    have hlen' : l'.length = l.length := by simpa using hp1
    have hperm : l'.Perm l := by
      have := hp3
      simp only [List.extract_toArray, List.extract_eq_take_drop] at this
      simpa [List.take_of_length_le, hlen'] using this
    obtain ⟨a', hb', hs', hc', hst⟩ := sortW (q := q) (os := os) C hb hlen' (by omega : o + l.length * es ≤ a.size)
    refine ⟨_, he, hk l' w' hperm ?_ ?_⟩
    · rw [List.pairwise_iff_getElem]
      intro i j hi hj hij
      have := hsr i j (Nat.zero_le _) hij (by omega)
      rw [hlt, getElem!_pos _ _ (by simpa using hj), getElem!_pos _ _ (by simpa using hi)] at this
      simpa using this
    · rw [hw]
      have := kk _ [b] (.slice (some ⟨b, o, none⟩) l.length cap) l.length (l'.flatMap f) es ty (.blk hb' hn (by omega) (by rw [hc'])) hst
      unfold LsH
      rw [hlen']; exact this
theorem calls_of {P : Program} {i : Nat} {G : FnT} (ok : OkF P i G) (hc : ∀ args w, (callFunc i args).run P w = .ok (.enter i args) w) {args : List Value} {W : World} {r : Value} (h : callP G args W fun v w' => v = r ∧ Gr W w') :
    Calls P i args.toArray W fun e w' => e = .returned r ∧ Gr W w' := by
  obtain ⟨k0, h0, hk⟩ := h
  rcases (ok _ _ _ h0) with ⟨_, hC⟩ | ⟨v, w', hr, _⟩
  · exact hC.mono fun e w' ⟨v, he, hv⟩ => ⟨by rw [he, (hk _ _ hv).1], (hk _ _ hv).2⟩
  · rw [hc] at hr; cases hr
section
variable {α : Type} [Inhabited α] {f : α → List Value} {es : Nat}
/-- a call of the sort -/
theorem sortF_sat {P : Program} {g : Nat} {G : FnT} {ty : TypeId} {cf : α → α → Int} {lt : α → α → Bool} {v : Value} {l : List α} {w0 w : World} {L : List HP} {K : Value → World → Prop} (h : Sat w0 (LsH f es ty v l :: L) w) (hl : l.length < 4611686018427387904) (C : Cod f es)
    (S : SWO lt) (hlt : ∀ x y, cf x y < 0 ↔ lt x y = true) (ok : OkF P g G) (eg : ∀ args w, (callFunc g args).run P w = .ok (.enter g args) w)
    (hc : ∀ (W : World) (x y : α), callP G [.agg (f x).toArray, .agg (f y).toArray] W fun v w' => v = .int .i64 (cf x y) ∧ Gr W w')
    (hK : ∀ l' w', l'.Perm l → l'.Pairwise (fun x y => lt y x = false) → Sat w0 (LsH f es ty v l' :: L) w' → K (.tuple #[]) w') : callP (gSortF P es ty) [v, .func (.func g) #[] #[]] w K := by
  have e : ∀ x y, Go.Proofs.ltOf cf x y = lt x y := fun x y => by
    unfold Go.Proofs.ltOf
    rw [Bool.eq_iff_iff]; simp [hlt]
  have e2 : Go.Proofs.ltOf cf = lt := by funext x y; exact e x y
  exact callP_intro ⟨α, inferInstance, f, cf, lt, g, v, w0, L, l, rfl, C, by rw [e2]; exact swo_of S, e, eg, fun W x y => calls_of ok eg (hc W x y), h, hl, hK⟩
end
end Go.Sx

/- So2 -/
set_option linter.all false
namespace Go.Sx
open Go.Proofs Go.Maps
/-! slices.Sorted(maps.Keys(m)), by the kit's contracts, in the words of parts that lie apart -/
abbrev Rany : Value → Option (DataW Unit × List MemPlace) := fun _ => some (.nil, [])
section
variable {κ ν : Type} {ek : κ → Value} {ev : ν → Value} {m : List (κ × ν)} {w0 w : World} {L : List HP} {v : Value} {P : Program} {k : TypeId}
/-- a map that is owned, in the kit's words: what its keys read as -/
theorem map_own (kl : κ → Lit) (hk : ∀ x ∈ m, keyOf P k (ek x.1) = some (kl x.1)) (hinj : ∀ x y, ek x = ek y → x = y) (h : Sat w0 (MapH ek ev v m :: L) w) (hl : m.length ≤ maxLen) :
    ∃ b D, v = .map (some b) ∧ b < w.heap.size ∧ w.ownsMap P k Rany b m.length D ∧ (∃ es, D = .map es ∧ (es.map Prod.fst).Perm (m.map fun x => kl x.1)) := by
  obtain ⟨r, es, clock, ⟨rfl, hm⟩, hs⟩ := map_iff.1 h
  have hlen : es.size = m.length := by
    have := congrArg List.length hm.kv
    simpa using this
  have hkeys : es.toList.map (·.key) = m.map fun x => ek x.1 := by
    have := congrArg (List.map Prod.fst) hm.kv
    simpa [List.map_map, Function.comp_def] using this
  have hkd : ((m.map Prod.fst).map ek).Nodup := by
    refine List.pairwise_map.2 (hm.kd.imp fun hne e => hne (hinj _ _ e))
  have hrd : ∀ x ∈ es.toList, ∃ y ∈ m, x.key = ek y.1 := by
    intro x hx
    have : x.key ∈ es.toList.map (·.key) := List.mem_map.2 ⟨x, hx, rfl⟩
    rw [hkeys] at this
    obtain ⟨y, hy, e⟩ := List.mem_map.1 this
    exact ⟨y, hy, e.symm⟩
  have hrg : ∀ x ∈ es.toList, ∀ y ∈ m, x.key = ek y.1 → WideElems.rd P k Rany x = some (kl y.1, (.nil : DataW Unit)) := by
    intro x hx y hy e
    simp [WideElems.rd, e, hk y hy, Rany]
  refine ⟨r, _, rfl, lt_of_blk hs.blk, ⟨es, clock, hs.blk, ⟨by omega, ⟨hm.lt, hm.nd, ?_⟩, ?_⟩, by omega, rfl⟩, _, rfl, ?_⟩
  · rw [hkeys]
    simpa [List.map_map, Function.comp_def] using hkd
  · intro x hx
    obtain ⟨y, hy, e⟩ := hrd x hx
    exact ⟨_, hrg x hx y hy e⟩
  · have h1 : ((es.toList.map (WideElems.rg P k Rany)).foldr DataW.insert []).Perm (es.toList.map (WideElems.rg P k Rany)) := WideShapes.sorted_perm _
    refine (h1.map Prod.fst).trans ?_
    have h2 : (es.toList.map (WideElems.rg P k Rany)).map Prod.fst = m.map fun x => kl x.1 := by
      rw [List.map_map]
      have h3 : ∀ (l : List MapEntry) (n : List (κ × ν)), (∀ x ∈ l, x ∈ es.toList) → (∀ y ∈ n, y ∈ m) → l.map (·.key) = n.map (fun x => ek x.1) → l.map (Prod.fst ∘ WideElems.rg P k Rany) = n.map fun x => kl x.1 := by
        intro l
        induction l with
        | nil => intro n _ _ e; cases n with
          | nil => rfl
          | cons a n => simp at e
        | cons x l ih =>
          intro n hx hn e
          cases n with
          | nil => simp at e
          | cons y n =>
            simp only [List.map_cons, List.cons.injEq] at e ⊢
            refine ⟨?_, ih n (fun z hz => hx z (List.mem_cons_of_mem _ hz)) (fun z hz => hn z (List.mem_cons_of_mem _ hz)) e.2⟩
            simp [WideElems.rg, hrg x (hx x (by simp)) y (hn y (by simp)) e.1]
      exact h3 _ _ (fun _ h => h) (fun _ h => h) hkeys
    rw [h2]
end
theorem stp_of_below {w w' : World} (h : RowKit.Below w.heap.size w w') (fp : List Nat) (hf : ∀ b ∈ fp, w.heap.size ≤ b) : Stp [] fp w w' :=
  ⟨⟨h.os, h.tape, h.output, h.size, fun b hb _ => h.block b hb⟩, fun x hx => .inr (hf x hx)⟩
theorem Sat.row {w0 w w' : World} {L : List HP} {ty : TypeId} {es n : Nat} {v : Value} {xs : List Value} (h : Sat w0 L w) (hb : RowKit.Below w.heap.size w w') (hr : w'.ownsRow w.heap.size ty es v n xs) : Sat w0 (SlH es ty v n xs :: L) w' := by
  rcases hr with ⟨hx, ⟨rfl, rfl⟩ | ⟨g, cap, cur, rfl, hg, hc, h1, h2, h3, h4⟩⟩
  · obtain rfl : xs = [] := List.eq_nil_of_length_eq_zero (by simpa using hx)
    exact h.ofOwn .nil (stp_of_below hb [] (by simp))
  · exact h.ofOwn (.blk (b := g) (o := 0) (cap := cap) hc h1 (by omega) (by simpa using h4.symm)) (stp_of_below hb [g] (by simpa using hg))

/-! keys that are ints -/
def gSortedI (g : Nat) (ty : TypeId) : FnT := fun args w K => ∃ (ν : Type) (ev : ν → Value) (m : List (Int × ν)) (mv : Value) (bx : Nat) (mt : TypeId) (w0 : World) (L : List HP),
  args = [.func (.func g) #[] #[ptr bx]] ∧ Sat w0 (Cl bx #[mv] mt :: MapH (Value.int .i64) ev mv m :: L) w ∧ (∀ x ∈ m, -9223372036854775808 ≤ x.1 ∧ x.1 ≤ 9223372036854775807) ∧ m.length ≤ 17592186044416 ∧
  ∀ l v w', l.Perm (m.map Prod.fst) → l.Pairwise (· ≤ ·) → Sat w0 (LsH cI 1 ty v l :: Cl bx #[mv] mt :: MapH (Value.int .i64) ev mv m :: L) w' → K v w'
theorem okSortedI {P : Program} {ρk ρs ρt : Go.Shelf.Ren} {f g : Nat} {ty : TypeId} (Kl : SlLaysZI.n7 P ρk) (S : SlLaysZI.n6 P ρs) (T : SlLaysM.n5 P ρt) (hf : ρs.f 6 = f) (hg : ρk.f 10 = g) (ht : ρs.t 26 = ty) (hst : ρs.f 9 = ρt.f 5)
    (ef : ∀ args w, (callFunc f args).run P w = .ok (.enter f args) w) (e9 : ∀ args w, (callFunc (ρt.f 5) args).run P w = .ok (.enter (ρt.f 5) args) w) (eg : ∀ args w, (callFunc g args).run P w = .ok (.enter g args) w) : OkF P f (gSortedI g ty) := by
  subst hf hg ht
  intro args w K ⟨ν, ev, m, mv, bx, mt, w0, L, ha, hs, hr, hl, hk⟩
  subst ha
  refine .inl ⟨ef _ _, ?_⟩
  have hml : m.length ≤ maxLen := by unfold maxLen; omega
  have hs2 := hs.drop
  obtain ⟨b, D, rfl, hb, hown, es, rfl, hp⟩ := map_own (P := P) (k := ρk.t 26) (fun x => .int .i64 x) (fun x hx => keyOf_int_mk Kl.t26 (by
    have := hr x hx
    simp [Lit.wf, IntKind.min, IntKind.max, IntKind.signed, IntKind.bits]; omega)) (fun x y e => by cases e; rfl) hs2 hml
  have hsz : Maps.size (.map es : DataW Unit) = m.length := by
    have := hp.length_eq
    simpa [Maps.size] using this
  have hik : intKeys (.map es : DataW Unit) = (es.map Prod.fst).map intOf := by simp [intKeys]
  have hpk : (intKeys (.map es : DataW Unit)).Perm (m.map Prod.fst) := by
    rw [hik]
    refine (hp.map intOf).trans ?_
    rw [List.map_map]
    exact List.Perm.of_eq (List.map_congr_left fun x _ => rfl)
  have hcell : w.cell? ⟨bx, 0, none⟩ = some (.map (some b)) := by rw [cell_of hs.cl]; rfl
  have hseq := AnyZI.keys_gives (ρ := ρk) { Kl with } Fence.wide 2 trivial rfl (by omega) bx b m.length (.map es) w (lt_of_blk hs.cl) hcell hown
  have hsort : AnyZI.SortsIn P ρs Fence.wide (5 - 1) := by
    constructor
    · intro blk off cap ss W hH hblk hsz
      rw [hst]
      exact callsIn_wide.2 (AnyM.slices_Sort_int T blk off cap ss W hH hblk hsz)
    · intro p cap W
      rw [hst]
      exact callsIn_wide.2 (AnyM.slices_Sort_int_none T p cap W)
  have hcon := callsIn_wide.1 (AnyZI.sorted_in S Fence.wide 5 trivial trivial trivial trivial rfl (by omega) hsort (by rw [hst]; exact e9) (ρk.f 10) #[.pointer (some ⟨bx, 0, none⟩)] trivial eg _ _ (by rw [hsz]; exact hml) (by rw [hsz]; omega) w hseq)
  refine hcon.mono ?_
  rintro e w' ⟨v, ss, rfl, hS, hrow, _, hbl⟩
  refine ⟨_, rfl, hk (ss.mergeSort fun x y => decide (x ≤ y)) v w' (((List.mergeSort_perm ss _).trans hS).trans hpk) ?_ ?_⟩
  · have := List.pairwise_mergeSort (le := fun x y : Int => decide (x ≤ y)) (fun a b c h1 h2 => by simp at *; omega) (fun a b => by simp; omega) ss
    exact this.imp fun h => by simpa using h
  · have := hs.row hbl hrow
    unfold LsH
    have e1 : (ss.mergeSort fun x y => decide (x ≤ y)).flatMap cI = (ss.mergeSort fun x y => decide (x ≤ y)).map encZ := by
      induction (ss.mergeSort fun x y => decide (x ≤ y)) with
      | nil => rfl
      | cons a l ih => simp [List.flatMap_cons, cI, encZ, ih]
    rw [e1, List.length_mergeSort]
    exact this
/-- a call -/
theorem sortedI_sat {g : Nat} {ty : TypeId} {ν : Type} {ev : ν → Value} {m : List (Int × ν)} {mv : Value} {bx : Nat} {mt : TypeId} {w0 w : World} {L : List HP} {K : Value → World → Prop} (h : Sat w0 (Cl bx #[mv] mt :: MapH (Value.int .i64) ev mv m :: L) w)
    (hr : ∀ x ∈ m, -9223372036854775808 ≤ x.1 ∧ x.1 ≤ 9223372036854775807) (hl : m.length ≤ 17592186044416)
    (hK : ∀ l v w', l.Perm (m.map Prod.fst) → l.Pairwise (· ≤ ·) → Sat w0 (LsH cI 1 ty v l :: Cl bx #[mv] mt :: MapH (Value.int .i64) ev mv m :: L) w' → K v w') : callP (gSortedI g ty) [.func (.func g) #[] #[ptr bx]] w K :=
  callP_intro ⟨ν, ev, m, mv, bx, mt, w0, L, rfl, h, hr, hl, hK⟩
end Go.Sx

/- Ty -/
namespace Go.Proofs.Gong
open Go Go.Sx Go.Proofs
set_option linter.all false
set_option maxRecDepth 100000
theorem mixed : Try.prog.follows .mixedOrders = true := by kernel_rfl

-- facts on types
theorem z2 : fZero Try.prog 2 = some (.int .i64 0) := by kernel_rfl
theorem z3 : fZero Try.prog 3 = some (.int .i64 0) := by kernel_rfl
theorem ub4 : Try.prog.underlying 4 = some .bool := by kernel_rfl
theorem z4 : fZero Try.prog 4 = some (.bool false) := by kernel_rfl
theorem z5 : fZero Try.prog 5 = some (.int .u8 0) := by kernel_rfl
theorem z6 : fZero Try.prog 6 = some (.int .u8 0) := by kernel_rfl
theorem z7 : fZero Try.prog 7 = some (.agg #[(.int .i64 0), (.int .i64 0), (.bool false), (.int .u8 0)]) := by kernel_rfl
theorem ss9 : isSS Try.prog 9 = true := by kernel_rfl
theorem z9 : fZero Try.prog 9 = some (.string ⟨#[]⟩) := by kernel_rfl
theorem ss11 : isSS Try.prog 11 = true := by kernel_rfl
theorem z11 : fZero Try.prog 11 = some (.string ⟨#[]⟩) := by kernel_rfl
theorem z12 : fZero Try.prog 12 = some (.int .u64 0) := by kernel_rfl
theorem z13 : fZero Try.prog 13 = some (.agg #[(.string ⟨#[]⟩), (.int .u64 0)]) := by kernel_rfl
theorem z14 : fZero Try.prog 14 = some (.agg #[(.string ⟨#[]⟩), (.int .u64 0)]) := by kernel_rfl
theorem up15 : Try.prog.underlying 15 = some (.pointer 236) := by kernel_rfl
theorem z15 : fZero Try.prog 15 = some (.pointer none) := by kernel_rfl
theorem up16 : Try.prog.underlying 16 = some (.pointer 239) := by kernel_rfl
theorem z16 : fZero Try.prog 16 = some (.pointer none) := by kernel_rfl
theorem up17 : Try.prog.underlying 17 = some (.pointer 247) := by kernel_rfl
theorem z17 : fZero Try.prog 17 = some (.pointer none) := by kernel_rfl
theorem z18 : fZero Try.prog 18 = some (.agg #[(.pointer none)]) := by kernel_rfl
theorem z19 : fZero Try.prog 19 = some (.agg #[(.pointer none)]) := by kernel_rfl
theorem z20 : fZero Try.prog 20 = some .nilIface := by kernel_rfl
theorem z21 : fZero Try.prog 21 = some (.int .i32 0) := by kernel_rfl
theorem u22 : Try.prog.underlying 22 = some (.slice 3) := by kernel_rfl
theorem ss22 : isSS Try.prog 22 = true := by kernel_rfl
theorem sl22 : SlT Try.prog 22 3 1 8 := .of (by kernel_rfl) (by kernel_rfl) (by kernel_rfl) (by omega) (by omega)
theorem z22 : fZero Try.prog 22 = some (.slice none 0 0) := by kernel_rfl
theorem up23 : Try.prog.underlying 23 = some (.pointer 110) := by kernel_rfl
theorem z23 : fZero Try.prog 23 = some (.pointer none) := by kernel_rfl
theorem z24 : fZero Try.prog 24 = some (.int .i64 0) := by kernel_rfl
theorem u29 : Try.prog.underlying 29 = some (.slice 5) := by kernel_rfl
theorem ss29 : isSS Try.prog 29 = true := by kernel_rfl
theorem sl29 : SlT Try.prog 29 5 1 1 := .of (by kernel_rfl) (by kernel_rfl) (by kernel_rfl) (by omega) (by omega)
theorem z29 : fZero Try.prog 29 = some (.slice none 0 0) := by kernel_rfl
theorem z30 : fZero Try.prog 30 = some (.agg #[(.string ⟨#[]⟩), (.string ⟨#[]⟩), (.string ⟨#[]⟩), (.int .i64 0), (.string ⟨#[]⟩)]) := by kernel_rfl
theorem z31 : fZero Try.prog 31 = some (.agg #[(.string ⟨#[]⟩), (.string ⟨#[]⟩), (.string ⟨#[]⟩), (.int .i64 0), (.string ⟨#[]⟩)]) := by kernel_rfl
theorem z32 : fZero Try.prog 32 = some (.agg #[(.int .i64 0), (.string ⟨#[]⟩), (.string ⟨#[]⟩), (.string ⟨#[]⟩), (.int .i64 0), (.string ⟨#[]⟩), (.int .i64 0), (.int .i64 0), (.int .i64 0), (.bool false), (.string ⟨#[]⟩)]) := by kernel_rfl
theorem z33 : fZero Try.prog 33 = some (.agg #[(.int .i64 0), (.string ⟨#[]⟩), (.string ⟨#[]⟩), (.string ⟨#[]⟩), (.int .i64 0), (.string ⟨#[]⟩), (.int .i64 0), (.int .i64 0), (.int .i64 0), (.bool false), (.string ⟨#[]⟩)]) := by kernel_rfl
theorem z41 : fZero Try.prog 41 = some (.agg #[(.int .i64 0), (.int .i64 0), (.string ⟨#[]⟩), (.string ⟨#[]⟩), (.int .i64 0), (.string ⟨#[]⟩), (.string ⟨#[]⟩), (.string ⟨#[]⟩), (.int .i64 0), (.string ⟨#[]⟩), (.slice none 0 0)]) := by kernel_rfl
theorem up46 : Try.prog.underlying 46 = some (.pointer 126) := by kernel_rfl
theorem z46 : fZero Try.prog 46 = some (.pointer none) := by kernel_rfl
theorem z49 : fZero Try.prog 49 = some (.agg #[(.int .i64 0), (.int .i64 0)]) := by kernel_rfl
theorem u52 : Try.prog.underlying 52 = some (.slice 55) := by kernel_rfl
theorem ss52 : isSS Try.prog 52 = true := by kernel_rfl
theorem sl52 : SlT Try.prog 52 55 2 16 := .of (by kernel_rfl) (by kernel_rfl) (by kernel_rfl) (by omega) (by omega)
theorem z52 : fZero Try.prog 52 = some (.slice none 0 0) := by kernel_rfl
theorem z54 : fZero Try.prog 54 = some (.agg #[(.int .i64 0), (.int .i64 0)]) := by kernel_rfl
theorem z55 : fZero Try.prog 55 = some (.agg #[(.int .i64 0), (.int .i64 0)]) := by kernel_rfl
theorem u57 : Try.prog.underlying 57 = some (.slice 62) := by kernel_rfl
theorem ss57 : isSS Try.prog 57 = true := by kernel_rfl
theorem sl57 : SlT Try.prog 57 62 3 24 := .of (by kernel_rfl) (by kernel_rfl) (by kernel_rfl) (by omega) (by omega)
theorem z57 : fZero Try.prog 57 = some (.slice none 0 0) := by kernel_rfl
theorem up58 : Try.prog.underlying 58 = some (.pointer 133) := by kernel_rfl
theorem z58 : fZero Try.prog 58 = some (.pointer none) := by kernel_rfl
theorem z61 : fZero Try.prog 61 = some (.agg #[(.int .i64 0), (.int .i64 0), (.int .i64 0)]) := by kernel_rfl
theorem z62 : fZero Try.prog 62 = some (.agg #[(.int .i64 0), (.int .i64 0), (.int .i64 0)]) := by kernel_rfl
theorem u65 : Try.prog.underlying 65 = some (.slice 135) := by kernel_rfl
theorem ss65 : isSS Try.prog 65 = true := by kernel_rfl
theorem sl65 : SlT Try.prog 65 135 2 16 := .of (by kernel_rfl) (by kernel_rfl) (by kernel_rfl) (by omega) (by omega)
theorem z65 : fZero Try.prog 65 = some (.slice none 0 0) := by kernel_rfl
theorem um70 : Try.prog.underlying 70 = some (.map 3 4) := by kernel_rfl
theorem z70 : fZero Try.prog 70 = some (.map none) := by kernel_rfl
theorem u74 : Try.prog.underlying 74 = some (.slice 33) := by kernel_rfl
theorem ss74 : isSS Try.prog 74 = true := by kernel_rfl
theorem sl74 : SlT Try.prog 74 33 11 128 := .of (by kernel_rfl) (by kernel_rfl) (by kernel_rfl) (by omega) (by omega)
theorem z74 : fZero Try.prog 74 = some (.slice none 0 0) := by kernel_rfl
theorem um77 : Try.prog.underlying 77 = some (.map 79 4) := by kernel_rfl
theorem z77 : fZero Try.prog 77 = some (.map none) := by kernel_rfl
theorem z79 : fZero Try.prog 79 = some (.agg #[(.string ⟨#[]⟩), (.string ⟨#[]⟩), (.string ⟨#[]⟩)]) := by kernel_rfl
theorem u85 : Try.prog.underlying 85 = some (.slice 90) := by kernel_rfl
theorem ss85 : isSS Try.prog 85 = true := by kernel_rfl
theorem sl85 : SlT Try.prog 85 90 11 144 := .of (by kernel_rfl) (by kernel_rfl) (by kernel_rfl) (by omega) (by omega)
theorem z85 : fZero Try.prog 85 = some (.slice none 0 0) := by kernel_rfl
theorem up86 : Try.prog.underlying 86 = some (.pointer 149) := by kernel_rfl
theorem z86 : fZero Try.prog 86 = some (.pointer none) := by kernel_rfl
theorem z90 : fZero Try.prog 90 = some (.agg #[(.int .i64 0), (.int .i64 0), (.int .i64 0), (.int .i64 0), (.string ⟨#[]⟩), (.string ⟨#[]⟩), (.string ⟨#[]⟩), (.int .i64 0), (.string ⟨#[]⟩), (.string ⟨#[]⟩), (.slice none 0 0)]) := by kernel_rfl
theorem up93 : Try.prog.underlying 93 = some (.pointer 159) := by kernel_rfl
theorem z93 : fZero Try.prog 93 = some (.pointer none) := by kernel_rfl
theorem u101 : Try.prog.underlying 101 = some (.slice 41) := by kernel_rfl
theorem ss101 : isSS Try.prog 101 = true := by kernel_rfl
theorem sl101 : SlT Try.prog 101 41 11 152 := .of (by kernel_rfl) (by kernel_rfl) (by kernel_rfl) (by omega) (by omega)
theorem z101 : fZero Try.prog 101 = some (.slice none 0 0) := by kernel_rfl
theorem um107 : Try.prog.underlying 107 = some (.map 3 33) := by kernel_rfl
theorem z107 : fZero Try.prog 107 = some (.map none) := by kernel_rfl
theorem um108 : Try.prog.underlying 108 = some (.map 114 3) := by kernel_rfl
theorem z108 : fZero Try.prog 108 = some (.map none) := by kernel_rfl
theorem z109 : fZero Try.prog 109 = some (.agg #[(.int .i64 0), (.int .i64 0), (.map none), (.map none)]) := by kernel_rfl
theorem z110 : fZero Try.prog 110 = some (.agg #[(.int .i64 0), (.int .i64 0), (.map none), (.map none)]) := by kernel_rfl
theorem z113 : fZero Try.prog 113 = some (.agg #[(.string ⟨#[]⟩), (.string ⟨#[]⟩), (.string ⟨#[]⟩)]) := by kernel_rfl
theorem z114 : fZero Try.prog 114 = some (.agg #[(.string ⟨#[]⟩), (.string ⟨#[]⟩), (.string ⟨#[]⟩)]) := by kernel_rfl
theorem z120 : fZero Try.prog 120 = some (.agg #[(.int .i64 0), (.int .i64 0), (.int .i64 0)]) := by kernel_rfl
theorem z122 : fZero Try.prog 122 = some (.agg #[(.int .i64 0), (.string ⟨#[]⟩), (.string ⟨#[]⟩)]) := by kernel_rfl
theorem um124 : Try.prog.underlying 124 = some (.map 3 3) := by kernel_rfl
theorem z124 : fZero Try.prog 124 = some (.map none) := by kernel_rfl
theorem z126 : fZero Try.prog 126 = some (.agg #[(.int .i64 0), (.slice none 0 0), (.map none)]) := by kernel_rfl
theorem z133 : fZero Try.prog 133 = some (.agg #[(.int .i64 0), (.slice none 0 0)]) := by kernel_rfl
theorem z135 : fZero Try.prog 135 = some (.agg #[(.int .i64 0), (.int .i64 0)]) := by kernel_rfl
theorem z149 : fZero Try.prog 149 = some (.agg #[(.int .i64 0), (.int .i64 0), (.slice none 0 0)]) := by kernel_rfl
theorem z155 : fZero Try.prog 155 = some (.agg #[(.pointer none)]) := by kernel_rfl
theorem um156 : Try.prog.underlying 156 = some (.map 3 41) := by kernel_rfl
theorem z156 : fZero Try.prog 156 = some (.map none) := by kernel_rfl
theorem um157 : Try.prog.underlying 157 = some (.map 122 3) := by kernel_rfl
theorem z157 : fZero Try.prog 157 = some (.map none) := by kernel_rfl
theorem z159 : fZero Try.prog 159 = some (.agg #[(.pointer none), (.int .i64 0), (.int .i64 0), (.map none), (.map none)]) := by kernel_rfl
theorem z197 : fZero Try.prog 197 = some (.int .u32 0) := by kernel_rfl
theorem z236 : fZero Try.prog 236 = some (.agg #[(.pointer none), (.pointer none), (.pointer none), (.string ⟨#[]⟩)]) := by kernel_rfl
theorem z237 : fZero Try.prog 237 = some (.agg #[]) := by kernel_rfl
theorem z239 : fZero Try.prog 239 = some (.agg #[]) := by kernel_rfl
theorem z240 : fZero Try.prog 240 = some (.int .u8 0) := by kernel_rfl
theorem z241 : fZero Try.prog 241 = some (.int .u8 0) := by kernel_rfl
theorem up243 : Try.prog.underlying 243 = some (.pointer 5) := by kernel_rfl
theorem z243 : fZero Try.prog 243 = some (.pointer none) := by kernel_rfl
theorem z244 : fZero Try.prog 244 = some (.int .i32 0) := by kernel_rfl
theorem z245 : fZero Try.prog 245 = some (.int .i32 0) := by kernel_rfl
theorem z247 : fZero Try.prog 247 = some (.agg #[(.int .u64 0), (.int .u64 0), (.int .u32 0), (.int .u8 0), (.int .u8 0), (.int .u8 0), (.int .u8 0), .nilFunc, (.pointer none), (.int .i32 0), (.int .i32 0)]) := by kernel_rfl

theorem eqv31 (x y : Operand) (a0 b0 : ByteArray) (a1 b1 : ByteArray) (a2 b2 : ByteArray) (a3 b3 : Int) (a4 b4 : ByteArray) : bEqv Try.prog 31 x y (.agg #[.string a0, .string a1, .string a2, .int .i64 a3, .string a4]) (.agg #[.string b0, .string b1, .string b2, .int .i64 b3, .string b4]) = andO (some (sEq a0 b0)) (andO (some (sEq a1 b1)) (andO (some (sEq a2 b2)) (andO (some (a3 == b3)) (andO (some (sEq a4 b4)) (some true))))) := by kernel_rfl
theorem eq31 (x y : Operand) (a0 b0 : ByteArray) (a1 b1 : ByteArray) (a2 b2 : ByteArray) (a3 b3 : Int) (a4 b4 : ByteArray) : bEq Try.prog 31 x y (.agg #[.string a0, .string a1, .string a2, .int .i64 a3, .string a4]) (.agg #[.string b0, .string b1, .string b2, .int .i64 b3, .string b4]) = some (.bool ((sEq a0 b0) && ((sEq a1 b1) && ((sEq a2 b2) && ((a3 == b3) && ((sEq a4 b4) && true)))))) := by simp only [bEq, eqv31, andO_some, Option.map_some]
theorem ne31 (x y : Operand) (a0 b0 : ByteArray) (a1 b1 : ByteArray) (a2 b2 : ByteArray) (a3 b3 : Int) (a4 b4 : ByteArray) : bNe Try.prog 31 x y (.agg #[.string a0, .string a1, .string a2, .int .i64 a3, .string a4]) (.agg #[.string b0, .string b1, .string b2, .int .i64 b3, .string b4]) = some (.bool (!((sEq a0 b0) && ((sEq a1 b1) && ((sEq a2 b2) && ((a3 == b3) && ((sEq a4 b4) && true))))))) := by simp only [bNe, eqv31, andO_some, Option.map_some]
theorem eqv33 (x y : Operand) (a0 b0 : Int) (a1 b1 : ByteArray) (a2 b2 : ByteArray) (a3 b3 : ByteArray) (a4 b4 : Int) (a5 b5 : ByteArray) (a6 b6 : Int) (a7 b7 : Int) (a8 b8 : Int) (a9 b9 : Bool) (a10 b10 : ByteArray) : bEqv Try.prog 33 x y (.agg #[.int .i64 a0, .string a1, .string a2, .string a3, .int .i64 a4, .string a5, .int .i64 a6, .int .i64 a7, .int .i64 a8, .bool a9, .string a10]) (.agg #[.int .i64 b0, .string b1, .string b2, .string b3, .int .i64 b4, .string b5, .int .i64 b6, .int .i64 b7, .int .i64 b8, .bool b9, .string b10]) = andO (some (a0 == b0)) (andO (andO (some (sEq a1 b1)) (andO (some (sEq a2 b2)) (andO (some (sEq a3 b3)) (andO (some (a4 == b4)) (andO (some (sEq a5 b5)) (some true)))))) (andO (some (a6 == b6)) (andO (some (a7 == b7)) (andO (some (a8 == b8)) (andO (some (a9 == b9)) (andO (some (sEq a10 b10)) (some true))))))) := by kernel_rfl
theorem eq33 (x y : Operand) (a0 b0 : Int) (a1 b1 : ByteArray) (a2 b2 : ByteArray) (a3 b3 : ByteArray) (a4 b4 : Int) (a5 b5 : ByteArray) (a6 b6 : Int) (a7 b7 : Int) (a8 b8 : Int) (a9 b9 : Bool) (a10 b10 : ByteArray) : bEq Try.prog 33 x y (.agg #[.int .i64 a0, .string a1, .string a2, .string a3, .int .i64 a4, .string a5, .int .i64 a6, .int .i64 a7, .int .i64 a8, .bool a9, .string a10]) (.agg #[.int .i64 b0, .string b1, .string b2, .string b3, .int .i64 b4, .string b5, .int .i64 b6, .int .i64 b7, .int .i64 b8, .bool b9, .string b10]) = some (.bool ((a0 == b0) && (((sEq a1 b1) && ((sEq a2 b2) && ((sEq a3 b3) && ((a4 == b4) && ((sEq a5 b5) && true))))) && ((a6 == b6) && ((a7 == b7) && ((a8 == b8) && ((a9 == b9) && ((sEq a10 b10) && true)))))))) := by simp only [bEq, eqv33, andO_some, Option.map_some]
theorem ne33 (x y : Operand) (a0 b0 : Int) (a1 b1 : ByteArray) (a2 b2 : ByteArray) (a3 b3 : ByteArray) (a4 b4 : Int) (a5 b5 : ByteArray) (a6 b6 : Int) (a7 b7 : Int) (a8 b8 : Int) (a9 b9 : Bool) (a10 b10 : ByteArray) : bNe Try.prog 33 x y (.agg #[.int .i64 a0, .string a1, .string a2, .string a3, .int .i64 a4, .string a5, .int .i64 a6, .int .i64 a7, .int .i64 a8, .bool a9, .string a10]) (.agg #[.int .i64 b0, .string b1, .string b2, .string b3, .int .i64 b4, .string b5, .int .i64 b6, .int .i64 b7, .int .i64 b8, .bool b9, .string b10]) = some (.bool (!((a0 == b0) && (((sEq a1 b1) && ((sEq a2 b2) && ((sEq a3 b3) && ((a4 == b4) && ((sEq a5 b5) && true))))) && ((a6 == b6) && ((a7 == b7) && ((a8 == b8) && ((a9 == b9) && ((sEq a10 b10) && true))))))))) := by simp only [bNe, eqv33, andO_some, Option.map_some]
theorem eqv55 (x y : Operand) (a0 b0 : Int) (a1 b1 : Int) : bEqv Try.prog 55 x y (.agg #[.int .i64 a0, .int .i64 a1]) (.agg #[.int .i64 b0, .int .i64 b1]) = andO (some (a0 == b0)) (andO (some (a1 == b1)) (some true)) := by kernel_rfl
theorem eq55 (x y : Operand) (a0 b0 : Int) (a1 b1 : Int) : bEq Try.prog 55 x y (.agg #[.int .i64 a0, .int .i64 a1]) (.agg #[.int .i64 b0, .int .i64 b1]) = some (.bool ((a0 == b0) && ((a1 == b1) && true))) := by simp only [bEq, eqv55, andO_some, Option.map_some]
theorem ne55 (x y : Operand) (a0 b0 : Int) (a1 b1 : Int) : bNe Try.prog 55 x y (.agg #[.int .i64 a0, .int .i64 a1]) (.agg #[.int .i64 b0, .int .i64 b1]) = some (.bool (!((a0 == b0) && ((a1 == b1) && true)))) := by simp only [bNe, eqv55, andO_some, Option.map_some]
theorem eqv120 (x y : Operand) (a0 b0 : Int) (a1 b1 : Int) (a2 b2 : Int) : bEqv Try.prog 120 x y (.agg #[.int .i64 a0, .int .i64 a1, .int .i64 a2]) (.agg #[.int .i64 b0, .int .i64 b1, .int .i64 b2]) = andO (some (a0 == b0)) (andO (some (a1 == b1)) (andO (some (a2 == b2)) (some true))) := by kernel_rfl
theorem eq120 (x y : Operand) (a0 b0 : Int) (a1 b1 : Int) (a2 b2 : Int) : bEq Try.prog 120 x y (.agg #[.int .i64 a0, .int .i64 a1, .int .i64 a2]) (.agg #[.int .i64 b0, .int .i64 b1, .int .i64 b2]) = some (.bool ((a0 == b0) && ((a1 == b1) && ((a2 == b2) && true)))) := by simp only [bEq, eqv120, andO_some, Option.map_some]
theorem ne120 (x y : Operand) (a0 b0 : Int) (a1 b1 : Int) (a2 b2 : Int) : bNe Try.prog 120 x y (.agg #[.int .i64 a0, .int .i64 a1, .int .i64 a2]) (.agg #[.int .i64 b0, .int .i64 b1, .int .i64 b2]) = some (.bool (!((a0 == b0) && ((a1 == b1) && ((a2 == b2) && true))))) := by simp only [bNe, eqv120, andO_some, Option.map_some]
theorem eqv122 (x y : Operand) (a0 b0 : Int) (a1 b1 : ByteArray) (a2 b2 : ByteArray) : bEqv Try.prog 122 x y (.agg #[.int .i64 a0, .string a1, .string a2]) (.agg #[.int .i64 b0, .string b1, .string b2]) = andO (some (a0 == b0)) (andO (some (sEq a1 b1)) (andO (some (sEq a2 b2)) (some true))) := by kernel_rfl
theorem eq122 (x y : Operand) (a0 b0 : Int) (a1 b1 : ByteArray) (a2 b2 : ByteArray) : bEq Try.prog 122 x y (.agg #[.int .i64 a0, .string a1, .string a2]) (.agg #[.int .i64 b0, .string b1, .string b2]) = some (.bool ((a0 == b0) && ((sEq a1 b1) && ((sEq a2 b2) && true)))) := by simp only [bEq, eqv122, andO_some, Option.map_some]
theorem ne122 (x y : Operand) (a0 b0 : Int) (a1 b1 : ByteArray) (a2 b2 : ByteArray) : bNe Try.prog 122 x y (.agg #[.int .i64 a0, .string a1, .string a2]) (.agg #[.int .i64 b0, .string b1, .string b2]) = some (.bool (!((a0 == b0) && ((sEq a1 b1) && ((sEq a2 b2) && true))))) := by simp only [bNe, eqv122, andO_some, Option.map_some]
end Go.Proofs.Gong

/- Fb -/
namespace Go.Proofs.Gong
open Go Go.Sx Go.Proofs
set_option linter.all false
set_option maxRecDepth 100000
theorem fb31  : fBuild Try.prog 31 [] = some (.agg #[(.string ⟨#[]⟩), (.string ⟨#[]⟩), (.string ⟨#[]⟩), (.int .i64 0), (.string ⟨#[]⟩)]) := by kernel_rfl
theorem fb31_0_1 (x0 : ByteArray) (x1 : ByteArray) : fBuild Try.prog 31 [(0, (.string x0)), (1, (.string x1))] = some (.agg #[.string x0, .string x1, (.string ⟨#[]⟩), (.int .i64 0), (.string ⟨#[]⟩)]) := by kernel_rfl
theorem fb31_0_1_2 (x0 : ByteArray) (x1 : ByteArray) (x2 : ByteArray) : fBuild Try.prog 31 [(0, (.string x0)), (1, (.string x1)), (2, (.string x2))] = some (.agg #[.string x0, .string x1, .string x2, (.int .i64 0), (.string ⟨#[]⟩)]) := by kernel_rfl
theorem fb31_0_1_2_3_4 (x0 : ByteArray) (x1 : ByteArray) (x2 : ByteArray) (x3 : Int) (x4 : ByteArray) : fBuild Try.prog 31 [(0, (.string x0)), (1, (.string x1)), (2, (.string x2)), (3, (.int .i64 x3)), (4, (.string x4))] = some (.agg #[.string x0, .string x1, .string x2, .int .i64 x3, .string x4]) := by kernel_rfl
theorem fb31_0_1_3 (x0 : ByteArray) (x1 : ByteArray) (x2 : Int) : fBuild Try.prog 31 [(0, (.string x0)), (1, (.string x1)), (3, (.int .i64 x2))] = some (.agg #[.string x0, .string x1, (.string ⟨#[]⟩), .int .i64 x2, (.string ⟨#[]⟩)]) := by kernel_rfl
theorem fb33  : fBuild Try.prog 33 [] = some (.agg #[(.int .i64 0), (.string ⟨#[]⟩), (.string ⟨#[]⟩), (.string ⟨#[]⟩), (.int .i64 0), (.string ⟨#[]⟩), (.int .i64 0), (.int .i64 0), (.int .i64 0), (.bool false), (.string ⟨#[]⟩)]) := by kernel_rfl
theorem fb33_0_1_2_3_4 (x0 : Int) (x2 : ByteArray) (x3 : ByteArray) (x4 : ByteArray) (x5 : Int) (x6 : ByteArray) (x7 : Int) (x8 : Int) (x9 : Int) : fBuild Try.prog 33 [(0, (.int .i64 x0)), (1, (.agg #[.string x2, .string x3, .string x4, .int .i64 x5, .string x6])), (2, (.int .i64 x7)), (3, (.int .i64 x8)), (4, (.int .i64 x9))] = some (.agg #[.int .i64 x0, .string x2, .string x3, .string x4, .int .i64 x5, .string x6, .int .i64 x7, .int .i64 x8, .int .i64 x9, (.bool false), (.string ⟨#[]⟩)]) := by kernel_rfl
theorem fb41  : fBuild Try.prog 41 [] = some (.agg #[(.int .i64 0), (.int .i64 0), (.string ⟨#[]⟩), (.string ⟨#[]⟩), (.int .i64 0), (.string ⟨#[]⟩), (.string ⟨#[]⟩), (.string ⟨#[]⟩), (.int .i64 0), (.string ⟨#[]⟩), (.slice none 0 0)]) := by kernel_rfl
theorem fb41_1_2_3_4 (x0 : Int) (x1 : ByteArray) (x2 : ByteArray) (x3 : Int) : fBuild Try.prog 41 [(1, (.int .i64 x0)), (2, (.string x1)), (3, (.string x2)), (4, (.int .i64 x3))] = some (.agg #[(.int .i64 0), .int .i64 x0, .string x1, .string x2, .int .i64 x3, (.string ⟨#[]⟩), (.string ⟨#[]⟩), (.string ⟨#[]⟩), (.int .i64 0), (.string ⟨#[]⟩), (.slice none 0 0)]) := by kernel_rfl
theorem fb41_2 (x0 : ByteArray) : fBuild Try.prog 41 [(2, (.string x0))] = some (.agg #[(.int .i64 0), (.int .i64 0), .string x0, (.string ⟨#[]⟩), (.int .i64 0), (.string ⟨#[]⟩), (.string ⟨#[]⟩), (.string ⟨#[]⟩), (.int .i64 0), (.string ⟨#[]⟩), (.slice none 0 0)]) := by kernel_rfl
theorem fb55  : fBuild Try.prog 55 [] = some (.agg #[(.int .i64 0), (.int .i64 0)]) := by kernel_rfl
theorem fb55_0_1 (x0 : Int) (x1 : Int) : fBuild Try.prog 55 [(0, (.int .i64 x0)), (1, (.int .i64 x1))] = some (.agg #[.int .i64 x0, .int .i64 x1]) := by kernel_rfl
theorem fb110_0_1_2_3 (x0 : Int) (x1 : Int) (x2 : Option Nat) (x3 : Option Nat) : fBuild Try.prog 110 [(0, (.int .i64 x0)), (1, (.int .i64 x1)), (2, (.map x2)), (3, (.map x3))] = some (.agg #[.int .i64 x0, .int .i64 x1, .map x2, .map x3]) := by kernel_rfl
theorem fb114_0_1_2 (x0 : ByteArray) (x1 : ByteArray) (x2 : ByteArray) : fBuild Try.prog 114 [(0, (.string x0)), (1, (.string x1)), (2, (.string x2))] = some (.agg #[.string x0, .string x1, .string x2]) := by kernel_rfl
theorem fb120_0_1_2 (x0 : Int) (x1 : Int) (x2 : Int) : fBuild Try.prog 120 [(0, (.int .i64 x0)), (1, (.int .i64 x1)), (2, (.int .i64 x2))] = some (.agg #[.int .i64 x0, .int .i64 x1, .int .i64 x2]) := by kernel_rfl
theorem fb122_0_1_2 (x0 : Int) (x1 : ByteArray) (x2 : ByteArray) : fBuild Try.prog 122 [(0, (.int .i64 x0)), (1, (.string x1)), (2, (.string x2))] = some (.agg #[.int .i64 x0, .string x1, .string x2]) := by kernel_rfl
theorem fb126_0_1_2 (x0 : Int) (x1 : Option Addr) (n1 c1 : Nat) (x2 : Option Nat) : fBuild Try.prog 126 [(0, (.int .i64 x0)), (1, (.slice x1 n1 c1)), (2, (.map x2))] = some (.agg #[.int .i64 x0, .slice x1 n1 c1, .map x2]) := by kernel_rfl
theorem fb126_0_2 (x0 : Int) (x1 : Option Nat) : fBuild Try.prog 126 [(0, (.int .i64 x0)), (2, (.map x1))] = some (.agg #[.int .i64 x0, (.slice none 0 0), .map x1]) := by kernel_rfl
theorem fb133_0 (x0 : Int) : fBuild Try.prog 133 [(0, (.int .i64 x0))] = some (.agg #[.int .i64 x0, (.slice none 0 0)]) := by kernel_rfl
theorem fb135  : fBuild Try.prog 135 [] = some (.agg #[(.int .i64 0), (.int .i64 0)]) := by kernel_rfl
theorem fb135_0_1 (x0 : Int) (x1 : Int) : fBuild Try.prog 135 [(0, (.int .i64 x0)), (1, (.int .i64 x1))] = some (.agg #[.int .i64 x0, .int .i64 x1]) := by kernel_rfl
theorem fb155_0 (x0 : Option Addr) : fBuild Try.prog 155 [(0, (.pointer x0))] = some (.agg #[.pointer x0]) := by kernel_rfl
theorem fb159_0_1_2_3_4 (x1 : Option Addr) (x2 : Int) (x3 : Int) (x4 : Option Nat) (x5 : Option Nat) : fBuild Try.prog 159 [(0, (.agg #[.pointer x1])), (1, (.int .i64 x2)), (2, (.int .i64 x3)), (3, (.map x4)), (4, (.map x5))] = some (.agg #[.pointer x1, .int .i64 x2, .int .i64 x3, .map x4, .map x5]) := by kernel_rfl
end Go.Proofs.Gong

/- Hp0 -/
namespace Go.Proofs.Gong
open Go.Sx
/-! deadlines as a heap: what is done to the list and to the places -/
abbrev It := Int × Int
def itLt (x y : It) : Bool := decide (x.2 < y.2) || (decide (x.2 = y.2) && decide (x.1 < y.1))
theorem itSWO : SWO itLt := by
  constructor
  · rintro ⟨a, b⟩ ⟨c, d⟩ h; simp [itLt] at *; omega
  · rintro ⟨a, b⟩ ⟨c, d⟩ ⟨e, f⟩ h1 h2; simp [itLt] at *; omega
theorem itTot (a b : It) (h1 : itLt a b = false) (h2 : itLt b a = false) : a = b := by
  rcases a with ⟨a1, a2⟩; rcases b with ⟨b1, b2⟩
  simp only [itLt, Bool.or_eq_false_iff, decide_eq_false_iff_not, Bool.and_eq_false_iff] at h1 h2
  have e1 : a2 = b2 := by omega
  have e2 : a1 = b1 := by omega
  rw [e1, e2]
abbrev Pl := List (Int × Int)
def upL (x : It) (l : List It) (m : Pl) (i : Nat) : List It × Pl :=
  if h : 0 < i then
    match l[(i - 1) / 2]? with
    | some y => if itLt x y then upL x (l.set i y) (aSet y.1 i m) ((i - 1) / 2) else (l.set i x, aSet x.1 i m)
    | none => (l.set i x, aSet x.1 i m)
  else (l.set i x, aSet x.1 i m)
termination_by i
decreasing_by omega
def kidOf (l : List It) (i : Nat) : Nat := match l[2 * i + 1]?, l[2 * i + 2]? with
  | some y, some z => if itLt z y then 2 * i + 2 else 2 * i + 1
  | _, _ => 2 * i + 1
theorem kidOf_gt (l : List It) (i : Nat) : i < kidOf l i := by unfold kidOf; split <;> (try split) <;> omega
def downL (x : It) (l : List It) (m : Pl) (i : Nat) : List It × Pl :=
  if h : 2 * i + 1 < l.length then
    match l[kidOf l i]? with
    | some y => if itLt y x then downL x (l.set i y) (aSet y.1 i m) (kidOf l i) else (l.set i x, aSet x.1 i m)
    | none => (l.set i x, aSet x.1 i m)
  else (l.set i x, aSet x.1 i m)
termination_by l.length - i
decreasing_by have := kidOf_gt l i; simp; omega

structure Idx (l : List It) (m : Pl) : Prop where
  a : ∀ id j, aGet id m = some j → ∃ (k : Nat) (t : Int), j = k ∧ l[k]? = some (id, t)
  b : ∀ (k : Nat) (x : It), l[k]? = some x → aGet x.1 m = some (k : Int)
theorem Idx.inj {l : List It} {m : Pl} (h : Idx l m) {i j : Nat} {x y : It} (hi : l[i]? = some x) (hj : l[j]? = some y) (e : x.1 = y.1) : i = j := by
  have h1 := h.b i x hi
  have h2 := h.b j y hj
  rw [e, h2] at h1
  simp at h1; omega
theorem Idx.ext {l : List It} {m m' : Pl} (h : Idx l m) (e : ∀ k, aGet k m' = aGet k m) : Idx l m' :=
  ⟨fun id j hj => h.a id j (by rw [← e]; exact hj), fun k x hx => by rw [e]; exact h.b k x hx⟩
/-- the members of two places change places -/
theorem Idx.move {l : List It} {m : Pl} {i a : Nat} {x y : It} (hi : i < l.length) (ha : l[a]? = some y) (hne : a ≠ i) (h : Idx (l.set i x) (aSet x.1 i m)) :
    Idx ((l.set i y).set a x) (aSet x.1 a (aSet y.1 i m)) := by
  have hal : a < l.length := (List.getElem?_eq_some_iff.1 ha).1
  have hxi : (l.set i x)[i]? = some x := by simp [hi]
  have hya : (l.set i x)[a]? = some y := by rw [List.getElem?_set_ne (Ne.symm hne)]; exact ha
  have hxy : x.1 ≠ y.1 := fun e => hne (h.inj hya hxi e.symm)
  have get : ∀ k, ((l.set i y).set a x)[k]? = if k = a then some x else if k = i then some y else l[k]? := by
    intro k
    simp only [List.getElem?_set, List.length_set]
    by_cases h1 : a = k
    · subst h1; simp [hal]
    · by_cases h2 : i = k
      · subst h2; simp [h1, hi, Ne.symm h1]
      · simp [h1, h2, Ne.symm h1, Ne.symm h2]
  have old : ∀ k, k ≠ i → (l.set i x)[k]? = l[k]? := fun k hk => List.getElem?_set_ne (Ne.symm hk)
  constructor
  · intro id j hj
    rw [aGet_set] at hj
    by_cases e1 : id = x.1
    · simp [e1] at hj; subst hj
      exact ⟨a, x.2, rfl, by rw [get]; simp [e1]⟩
    · simp only [e1, if_false] at hj
      rw [aGet_set] at hj
      by_cases e2 : id = y.1
      · simp [e2] at hj; subst hj
        exact ⟨i, y.2, rfl, by rw [get]; simp [Ne.symm hne, e2]⟩
      · simp only [e2, if_false] at hj
        obtain ⟨k, t, hk, hl⟩ := h.a id j (by rw [aGet_set]; simp [e1, hj])
        refine ⟨k, t, hk, ?_⟩
        have k1 : k ≠ a := fun e => by subst e; rw [hya] at hl; cases hl; exact e2 rfl
        have k2 : k ≠ i := fun e => by subst e; rw [hxi] at hl; cases hl; exact e1 rfl
        rw [get]; simp only [k1, k2, if_false]
        rw [← old k k2]; exact hl
  · intro k z hz
    rw [get] at hz
    by_cases k1 : k = a
    · simp [k1] at hz; subst hz; subst k1; rw [aGet_set]; simp
    · simp only [k1, if_false] at hz
      by_cases k2 : k = i
      · simp [k2] at hz; subst hz; subst k2; rw [aGet_set, aGet_set]; simp [Ne.symm hxy]
      · simp only [k2, if_false] at hz
        rw [← old k k2] at hz
        have e1 : z.1 ≠ x.1 := fun e => k2 (h.inj hz hxi e)
        have e2 : z.1 ≠ y.1 := fun e => k1 (h.inj hz hya e)
        have := h.b k z hz
        rw [aGet_set] at this ⊢
        simp only [e1, if_false] at this ⊢
        rw [aGet_set]; simp only [e2, if_false]; exact this
theorem set_move_perm {l : List It} {i a : Nat} {x y : It} (hi : i < l.length) (ha : l[a]? = some y) (hne : a ≠ i) : ((l.set i y).set a x).Perm (l.set i x) := by
  have hal : a < l.length := (List.getElem?_eq_some_iff.1 ha).1
  have e : (l.set i y).set a x = swapL (l.set i x) i a := by
    rw [swapL_eq (by simpa using hi) (by simpa using hal)]
    have h1 : (l.set i x)[a]'(by simpa using hal) = y := by
      have := (List.getElem?_eq_some_iff.1 ha).2
      rw [List.getElem_set_ne (Ne.symm hne)]; exact this
    have h2 : (l.set i x)[i]'(by simpa using hi) = x := by simp
    rw [h1, h2, List.set_set]
  rw [e]
  exact swapL_perm (by simpa using hi) (by simpa using hal)

/-- no member is less than the one above it -/
def okAt (l : List It) (k : Nat) : Prop := ∀ x y, l[k]? = some x → l[(k - 1) / 2]? = some y → itLt x y = false
structure Up (l : List It) (i : Nat) (x : It) : Prop where
  o : ∀ k, 0 < k → k ≠ i → (k - 1) / 2 ≠ i → okAt l k
  c : ∀ k y z, 0 < k → 0 < i → (k - 1) / 2 = i → l[k]? = some y → l[(i - 1) / 2]? = some z → itLt y z = false
structure Dn (l : List It) (i : Nat) (x : It) : Prop where
  o : ∀ k, 0 < k → k ≠ i → (k - 1) / 2 ≠ i → okAt l k
  p : ∀ y, 0 < i → l[(i - 1) / 2]? = some y → itLt x y = false
  c : ∀ k y z, 0 < k → 0 < i → (k - 1) / 2 = i → l[k]? = some y → l[(i - 1) / 2]? = some z → itLt y z = false
theorem get_set (l : List It) (i k : Nat) (x : It) (hi : i < l.length) : (l.set i x)[k]? = if k = i then some x else l[k]? := by
  rw [List.getElem?_set]
  by_cases h : i = k
  · subst h; simp [hi]
  · simp [h, Ne.symm h]
theorem up_ok : ∀ (i : Nat) (x : It) (l : List It) (m : Pl), i < l.length → Up l i x → Idx (l.set i x) (aSet x.1 i m) →
    ∃ p, (upL x l m i).1[p]? = some x ∧ Dn (upL x l m i).1 p x ∧ Idx (upL x l m i).1 (upL x l m i).2 ∧ (upL x l m i).1.Perm (l.set i x) := by
  intro i
  induction i using Nat.strongRecOn with
  | ind i ih =>
    intro x l m hi hU hI
    have stop : (∀ y, 0 < i → l[(i - 1) / 2]? = some y → itLt x y = false) → ∃ p, (l.set i x)[p]? = some x ∧ Dn (l.set i x) p x ∧ Idx (l.set i x) (aSet x.1 i m) ∧ (l.set i x).Perm (l.set i x) := by
      intro hp
      refine ⟨i, by simp [hi], ⟨?_, ?_, ?_⟩, hI, .refl _⟩
      · intro k h1 h2 h3 a b ha hb
        rw [get_set _ _ _ _ hi, if_neg h2] at ha
        rw [get_set _ _ _ _ hi, if_neg h3] at hb
        exact hU.o k h1 h2 h3 a b ha hb
      · intro y h0 hy
        rw [get_set _ _ _ _ hi, if_neg (by omega)] at hy
        exact hp y h0 hy
      · intro k y z h1 h0 h2 hy hz
        rw [get_set _ _ _ _ hi, if_neg (by omega)] at hy
        rw [get_set _ _ _ _ hi, if_neg (by omega)] at hz
        exact hU.c k y z h1 h0 h2 hy hz
    rw [upL]
    by_cases h0 : 0 < i
    · simp only [h0, dif_pos]
      have hal : (i - 1) / 2 < l.length := by omega
      have hy : l[(i - 1) / 2]? = some l[(i - 1) / 2] := List.getElem?_eq_getElem hal
      rw [hy]
      simp only
      generalize hyy : l[(i - 1) / 2] = y at hy
      by_cases hlt : itLt x y = true
      · rw [if_pos hlt]
        have hne : (i - 1) / 2 ≠ i := by omega
        have hU' : Up (l.set i y) ((i - 1) / 2) x := by
          refine ⟨?_, ?_⟩
          · intro k h1 h2 h3 a b ha hb
            rw [get_set _ _ _ _ hi] at ha hb
            by_cases k1 : k = i
            · subst k1; exact absurd rfl h3
            · rw [if_neg k1] at ha
              by_cases k2 : (k - 1) / 2 = i
              · rw [if_pos k2] at hb; cases hb
                exact hU.c k a _ h1 h0 k2 ha hy
              · rw [if_neg k2] at hb
                exact hU.o k h1 k1 k2 a b ha hb
          · intro k a b h1 h4 h2 ha hb
            rw [get_set _ _ _ _ hi] at ha hb
            rw [if_neg (by omega)] at hb
            by_cases k1 : k = i
            · rw [if_pos k1] at ha; cases ha
              exact hU.o ((i - 1) / 2) h4 hne (by omega) _ b hy hb
            · rw [if_neg k1] at ha
              have o1 := hU.o k h1 k1 (by omega) a y ha (by rw [h2]; exact hy)
              have o2 := hU.o ((i - 1) / 2) h4 hne (by omega) y b hy hb
              exact itSWO.tr b y a o2 o1
        obtain ⟨p, e1, e2, e3, e4⟩ := ih ((i - 1) / 2) (by omega) x (l.set i y) (aSet y.1 i m) (by simpa using hal) hU' (hI.move hi hy hne)
        exact ⟨p, e1, e2, e3, e4.trans (set_move_perm hi hy hne)⟩
      · rw [if_neg hlt]
        exact stop fun z _ hz => by rw [hy] at hz; cases hz; simpa using hlt
    · simp only [h0, dif_neg, not_false_eq_true]
      exact stop fun z h _ => absurd h h0
theorem kidOf_spec (l : List It) (i : Nat) (h : 2 * i + 1 < l.length) : ∃ y, l[kidOf l i]? = some y ∧ (kidOf l i - 1) / 2 = i ∧ 0 < kidOf l i ∧ ∀ k z, 0 < k → (k - 1) / 2 = i → l[k]? = some z → itLt z y = false := by
  have h1 : l[2 * i + 1]? = some l[2 * i + 1] := List.getElem?_eq_getElem h
  unfold kidOf
  rw [h1]
  by_cases h2 : 2 * i + 2 < l.length
  · have h3 : l[2 * i + 2]? = some l[2 * i + 2] := List.getElem?_eq_getElem h2
    rw [h3]
    simp only
    by_cases hlt : itLt l[2 * i + 2] l[2 * i + 1] = true
    · rw [if_pos hlt]
      refine ⟨_, h3, by omega, by omega, fun k z hk0 hk hz => ?_⟩
      have : k = 2 * i + 1 ∨ k = 2 * i + 2 := by omega
      rcases this with rfl | rfl
      · rw [h1] at hz; cases hz; exact itSWO.asym _ _ hlt
      · rw [h3] at hz; cases hz; exact itSWO.irr _
    · rw [if_neg hlt]
      refine ⟨_, h1, by omega, by omega, fun k z hk0 hk hz => ?_⟩
      have : k = 2 * i + 1 ∨ k = 2 * i + 2 := by omega
      rcases this with rfl | rfl
      · rw [h1] at hz; cases hz; exact itSWO.irr _
      · rw [h3] at hz; cases hz; simpa using hlt
  · rw [List.getElem?_eq_none (l := l) (i := 2 * i + 2) (by omega)]
    simp only
    refine ⟨_, h1, by omega, by omega, fun k z hk0 hk hz => ?_⟩
    have := (List.getElem?_eq_some_iff.1 hz).1
    have : k = 2 * i + 1 := by omega
    subst this; rw [h1] at hz; cases hz; exact itSWO.irr _
def Hp (l : List It) : Prop := ∀ k, 0 < k → okAt l k
theorem down_ok : ∀ (d i : Nat) (x : It) (l : List It) (m : Pl), l.length - i < d → i < l.length → Dn l i x → Idx (l.set i x) (aSet x.1 i m) →
    Hp (downL x l m i).1 ∧ Idx (downL x l m i).1 (downL x l m i).2 ∧ (downL x l m i).1.Perm (l.set i x) := by
  intro d
  induction d with
  | zero => intro i x l m hd; omega
  | succ d ih =>
    intro i x l m hd hi hD hI
    have stop : (∀ k z, 0 < k → (k - 1) / 2 = i → l[k]? = some z → itLt z x = false) → Hp (l.set i x) ∧ Idx (l.set i x) (aSet x.1 i m) ∧ (l.set i x).Perm (l.set i x) := by
      intro hk
      refine ⟨fun k h0 a b ha hb => ?_, hI, .refl _⟩
      rw [get_set _ _ _ _ hi] at ha hb
      by_cases k1 : k = i
      · rw [if_pos k1] at ha; cases ha
        rw [if_neg (by omega)] at hb
        subst k1; exact hD.p b h0 hb
      · rw [if_neg k1] at ha
        by_cases k2 : (k - 1) / 2 = i
        · rw [if_pos k2] at hb; cases hb
          exact hk k a h0 k2 ha
        · rw [if_neg k2] at hb
          exact hD.o k h0 k1 k2 a b ha hb
    rw [downL]
    by_cases h : 2 * i + 1 < l.length
    · simp only [h, dif_pos]
      obtain ⟨y, hy, hc, hc0, hmin⟩ := kidOf_spec l i h
      have hgt := kidOf_gt l i
      rw [hy]; simp only
      generalize kidOf l i = c at *
      have hcl : c < l.length := (List.getElem?_eq_some_iff.1 hy).1
      by_cases hlt : itLt y x = true
      · rw [if_pos hlt]
        have hne : c ≠ i := by omega
        have hD' : Dn (l.set i y) c x := by
          refine ⟨?_, ?_, ?_⟩
          · intro k h1 h2 h3 a b ha hb
            rw [get_set _ _ _ _ hi] at ha hb
            by_cases k1 : k = i
            · rw [if_pos k1] at ha; cases ha
              rw [if_neg (by omega)] at hb
              exact hD.c c _ b hc0 (by omega) hc hy (by rw [← k1]; exact hb)
            · rw [if_neg k1] at ha
              by_cases k2 : (k - 1) / 2 = i
              · rw [if_pos k2] at hb; cases hb
                exact hmin k a h1 k2 ha
              · rw [if_neg k2] at hb
                exact hD.o k h1 k1 k2 a b ha hb
          · intro b h0 hb
            rw [get_set _ _ _ _ hi, hc, if_pos rfl] at hb; cases hb
            exact itSWO.asym _ _ hlt
          · intro k a b h1 h0 h2 ha hb
            rw [get_set _ _ _ _ hi, hc, if_pos rfl] at hb; cases hb
            rw [get_set _ _ _ _ hi, if_neg (by omega)] at ha
            exact hD.o k h1 (by omega) (by omega) a _ ha (by rw [h2]; exact hy)
        obtain ⟨e1, e2, e3⟩ := ih c x (l.set i y) (aSet y.1 i m) (by simp; omega) (by simpa using hcl) hD' (hI.move hi hy hne)
        exact ⟨e1, e2, e3.trans (set_move_perm hi hy hne)⟩
      · rw [if_neg hlt]
        refine stop fun k z h0 hk hz => ?_
        have := hmin k z h0 hk hz
        exact itSWO.tr _ _ _ (by simpa using hlt) this
    · simp only [h, dif_neg, not_false_eq_true]
      refine stop fun k z h0 hk hz => ?_
      have := (List.getElem?_eq_some_iff.1 hz).1
      omega
theorem upL_len : ∀ (i : Nat) (x : It) (l : List It) (m : Pl), (upL x l m i).1.length = l.length := by
  intro i
  induction i using Nat.strongRecOn with
  | ind i ih =>
    intro x l m
    rw [upL]
    split
    · split
      · split
        · rw [ih _ (by omega)]; simp
        · simp
      · simp
    · simp
/-- a member is put to a place, and moved to where it belongs -/
theorem fix_ok {l : List It} {m : Pl} {i : Nat} {x : It} (hi : l[i]? = some x) (hU : Up l i x) (hI : Idx l m) :
    ∃ p, p < l.length ∧ aGet x.1 (upL x l m i).2 = some (p : Int) ∧ (upL x l m i).1[p]? = some x ∧
      Hp (downL x (upL x l m i).1 (upL x l m i).2 p).1 ∧ Idx (downL x (upL x l m i).1 (upL x l m i).2 p).1 (downL x (upL x l m i).1 (upL x l m i).2 p).2 ∧ (downL x (upL x l m i).1 (upL x l m i).2 p).1.Perm l := by
  have hil : i < l.length := (List.getElem?_eq_some_iff.1 hi).1
  have es : ∀ (l : List It) (i : Nat), l[i]? = some x → l.set i x = l := fun l i h => by
    obtain ⟨h1, h2⟩ := List.getElem?_eq_some_iff.1 h
    rw [← h2]; simp
  have em : ∀ (m : Pl) (i : Nat), aGet x.1 m = some (i : Int) → ∀ k, aGet k (aSet x.1 (i : Int) m) = aGet k m := fun m i h k => by
    rw [aGet_set]; split
    · rename_i e; rw [e, h]
    · rfl
  obtain ⟨p, e1, e2, e3, e4⟩ := up_ok i x l m hil hU (by rw [es l i hi]; exact hI.ext (em m i (hI.b i x hi)))
  have hp : p < (upL x l m i).1.length := (List.getElem?_eq_some_iff.1 e1).1
  have hg := e3.b p x e1
  obtain ⟨g1, g2, g3⟩ := down_ok _ p x (upL x l m i).1 (upL x l m i).2 (Nat.lt_succ_self _) hp e2 (by rw [es _ p e1]; exact e3.ext (em _ p hg))
  refine ⟨p, by rw [upL_len] at hp; exact hp, hg, e1, g1, g2, g3.trans ?_⟩
  rw [es _ p e1]; rw [es l i hi] at e4; exact e4
end Go.Proofs.Gong

/- Hp1 -/
namespace Go.Proofs.Gong
open Go.Sx
/-! the same as one list in order -/
def Asc (M : List It) : Prop := M.Pairwise fun x y => itLt y x = false
def dropM (id : Int) (M : List It) : List It := M.filter fun x => decide (x.1 ≠ id)
def insM (x : It) (M : List It) : List It := M.takeWhile (fun y => itLt y x) ++ x :: M.dropWhile (fun y => itLt y x)
def getM (id : Int) (M : List It) : Option Int := (M.find? fun x => decide (x.1 = id)).map (·.2)
theorem insM_perm (x : It) (M : List It) : (insM x M).Perm (x :: M) := by
  unfold insM
  refine List.perm_middle.trans ?_
  rw [List.takeWhile_append_dropWhile]
theorem Asc.ins {M : List It} (h : Asc M) (x : It) : Asc (insM x M) := by
  induction M with
  | nil => simp [insM, Asc]
  | cons y M ih =>
    unfold Asc at h
    rw [List.pairwise_cons] at h
    obtain ⟨h1, h2⟩ := h
    by_cases hlt : itLt y x = true
    · have e : insM x (y :: M) = y :: insM x M := by simp [insM, hlt]
      rw [e]
      unfold Asc
      rw [List.pairwise_cons]
      refine ⟨fun z hz => ?_, ih h2⟩
      rcases List.mem_cons.1 ((insM_perm x M).subset hz) with rfl | hz
      · exact itSWO.asym _ _ hlt
      · exact h1 z hz
    · have e : insM x (y :: M) = x :: y :: M := by simp [insM, hlt]
      rw [e]
      unfold Asc
      rw [List.pairwise_cons]
      refine ⟨fun z hz => ?_, List.pairwise_cons.2 ⟨h1, h2⟩⟩
      rcases List.mem_cons.1 hz with rfl | hz
      · simpa using hlt
      · exact itSWO.tr _ _ _ (by simpa using hlt) (h1 z hz)
theorem Asc.drop {M : List It} (h : Asc M) (id : Int) : Asc (dropM id M) := List.Pairwise.sublist List.filter_sublist h
theorem Asc.eq {M N : List It} (h : Asc M) (h' : Asc N) (p : M.Perm N) : M = N := sorted_unique (lt := itLt) (fun a b h1 h2 => itTot a b h1 h2) p h h'
structure HRep (l : List It) (m : Pl) (M : List It) : Prop where
  i : Idx l m
  h : Hp l
  p : l.Perm M
  s : Asc M
theorem Hp.first {l : List It} (h : Hp l) {x : It} (hx : l[0]? = some x) : ∀ y ∈ l, itLt y x = false := by
  have key : ∀ (k : Nat) (y : It), l[k]? = some y → itLt y x = false := by
    intro k
    induction k using Nat.strongRecOn with
    | ind k ih =>
      intro y hy
      by_cases h0 : 0 < k
      · have hk : k < l.length := (List.getElem?_eq_some_iff.1 hy).1
        have hz : l[(k - 1) / 2]? = some l[(k - 1) / 2] := List.getElem?_eq_getElem (by omega)
        exact itSWO.tr _ _ _ (ih _ (by omega) _ hz) (h k h0 y _ hy hz)
      · have : k = 0 := by omega
        subst this; rw [hx] at hy; cases hy; exact itSWO.irr _
  intro y hy
  obtain ⟨k, hk⟩ := List.getElem?_of_mem hy
  exact key k y hk
theorem HRep.first {l : List It} {m : Pl} {M : List It} (R : HRep l m M) : l.head? = M.head? := by
  cases l with
  | nil => have := R.p.length_eq; simp at this; rw [List.eq_nil_of_length_eq_zero this.symm]
  | cons x l =>
    cases M with
    | nil => have := R.p.length_eq; simp at this
    | cons y M =>
      have h1 := R.h.first (x := x) rfl y (R.p.symm.subset (by simp))
      have h2 : itLt x y = false := by
        rcases List.mem_cons.1 (R.p.subset (show x ∈ x :: l by simp)) with e | e
        · rw [e]; exact itSWO.irr _
        · exact (List.pairwise_cons.1 R.s).1 x e
      have := itTot x y h2 h1
      simp [this]
theorem HRep.ids {l : List It} {m : Pl} {M : List It} (R : HRep l m M) : (M.map (·.1)).Nodup := by
  have : (l.map (·.1)).Nodup := by
    rw [List.nodup_iff_pairwise_ne, List.pairwise_iff_getElem]
    intro i j hi hj hij e
    simp at hi hj e
    have := R.i.inj (List.getElem?_eq_getElem hi) (List.getElem?_eq_getElem hj) e
    omega
  exact (R.p.map _).nodup this
theorem find_of {M : List It} {id t : Int} (hn : (M.map (·.1)).Nodup) (hm : (id, t) ∈ M) : getM id M = some t := by
  induction M with
  | nil => simp at hm
  | cons x M ih =>
    simp only [List.map_cons, List.nodup_cons] at hn
    rcases List.mem_cons.1 hm with rfl | hm
    · simp [getM]
    · have : x.1 ≠ id := fun e => hn.1 (by rw [e]; exact List.mem_map_of_mem (f := (·.1)) hm)
      have := ih hn.2 hm
      unfold getM at *
      rw [List.find?_cons, decide_eq_false ‹x.1 ≠ id›]
      exact this
theorem find_none {M : List It} {id : Int} (h : ∀ t, (id, t) ∉ M) : getM id M = none := by
  unfold getM
  rw [Option.map_eq_none_iff, List.find?_eq_none]
  intro x hx
  simp
  intro e
  exact h x.2 (by rw [← e]; exact hx)
theorem HRep.get {l : List It} {m : Pl} {M : List It} (R : HRep l m M) (id : Int) :
    (∃ (k : Nat) (t : Int), aGet id m = some (k : Int) ∧ l[k]? = some (id, t) ∧ getM id M = some t) ∨ (aGet id m = none ∧ getM id M = none ∧ ∀ t, (id, t) ∉ M) := by
  cases h : aGet id m with
  | some j =>
    obtain ⟨k, t, rfl, hl⟩ := R.i.a id j h
    exact .inl ⟨k, t, rfl, hl, find_of R.ids (R.p.subset (List.mem_of_getElem? hl))⟩
  | none =>
    have hn : ∀ t, (id, t) ∉ M := by
      intro t ht
      obtain ⟨k, hk⟩ := List.getElem?_of_mem (R.p.symm.subset ht)
      have := R.i.b k _ hk
      simp [h] at this
    exact .inr ⟨rfl, find_none hn, hn⟩
theorem drop_absent {M : List It} {id : Int} (h : ∀ t, (id, t) ∉ M) : dropM id M = M := by
  unfold dropM
  rw [List.filter_eq_self]
  intro x hx
  simp
  intro e
  exact h x.2 (by rw [← e]; exact hx)
theorem drop_perm {M : List It} {id t : Int} (hn : (M.map (·.1)).Nodup) (hm : (id, t) ∈ M) : ((id, t) :: dropM id M).Perm M := by
  induction M with
  | nil => simp at hm
  | cons x M ih =>
    simp only [List.map_cons, List.nodup_cons] at hn
    rcases List.mem_cons.1 hm with rfl | hm'
    · have : dropM id ((id, t) :: M) = dropM id M := by simp [dropM]
      rw [this, drop_absent fun t' h => hn.1 (List.mem_map_of_mem (f := (·.1)) h)]
    · have hne : x.1 ≠ id := fun e => hn.1 (by rw [e]; exact List.mem_map_of_mem (f := (·.1)) hm')
      have : dropM id (x :: M) = x :: dropM id M := by simp [dropM, hne]
      rw [this]
      exact (List.Perm.swap _ _ _).trans ((ih hn.2 hm').cons x)
end Go.Proofs.Gong

/- Hp2 -/
namespace Go.Proofs.Gong
open Go.Sx
def setM (id t : Int) (M : List It) : List It := insM (id, t) (dropM id M)
theorem set_perm {l : List It} {k : Nat} {x y : It} (hk : l[k]? = some y) : (y :: l.set k x).Perm (x :: l) := by
  obtain ⟨h1, h2⟩ := List.getElem?_eq_some_iff.1 hk
  have e1 : l = l.take k ++ y :: l.drop (k + 1) := by rw [← h2, List.getElem_cons_drop, List.take_append_drop]
  have e2 : l.set k x = l.take k ++ x :: l.drop (k + 1) := by rw [List.set_eq_take_append_cons_drop, if_pos h1]
  rw [e2]
  refine (List.perm_middle.cons y).trans ?_
  refine (List.Perm.swap _ _ _).trans ?_
  refine List.Perm.cons x ?_
  refine List.perm_middle.symm.trans ?_
  rw [← e1]
theorem Hp.up_set {l : List It} (h : Hp l) {k : Nat} {x : It} (hk : k < l.length) : Up (l.set k x) k x := by
  have hy : l[k]? = some l[k] := List.getElem?_eq_getElem hk
  constructor
  · intro j h0 h1 h2 a b ha hb
    rw [get_set _ _ _ _ hk, if_neg h1] at ha
    rw [get_set _ _ _ _ hk, if_neg h2] at hb
    exact h j h0 a b ha hb
  · intro j y z h0 h1 h2 hy' hz
    rw [get_set _ _ _ _ hk, if_neg (by omega)] at hy'
    rw [get_set _ _ _ _ hk, if_neg (by omega)] at hz
    have a1 := h j h0 y l[k] hy' (by rw [h2]; exact hy)
    have a2 := h k h1 l[k] z hy hz
    exact itSWO.tr _ _ _ a2 a1
theorem aSet_same {m : Pl} {id : Int} {j : Int} (h : aGet id m = some j) (k : Int) : aGet k (aSet id j m) = aGet k m := by
  rw [aGet_set]; split
  · rename_i e; rw [e, h]
  · rfl
theorem HRep.put {l : List It} {m : Pl} {M : List It} (R : HRep l m M) {k : Nat} {id t t' : Int} (hl : l[k]? = some (id, t)) :
    Up (l.set k (id, t')) k (id, t') ∧ Idx (l.set k (id, t')) (aSet id k m) ∧ (l.set k (id, t')).Perm (setM id t' M) := by
  have hk : k < l.length := (List.getElem?_eq_some_iff.1 hl).1
  refine ⟨R.h.up_set hk, ?_, ?_⟩
  · have h0 := R.i
    have hg := R.i.b k _ hl
    constructor
    · intro id' j hj
      rw [aSet_same hg] at hj
      obtain ⟨k', t'', rfl, h2⟩ := h0.a id' j hj
      by_cases e : k' = k
      · subst e; rw [hl] at h2; cases h2
        exact ⟨k', t', rfl, by simp [hk]⟩
      · exact ⟨k', t'', rfl, by rw [get_set _ _ _ _ hk, if_neg e]; exact h2⟩
    · intro j y hy
      rw [aSet_same hg]
      rw [get_set _ _ _ _ hk] at hy
      by_cases e : j = k
      · rw [if_pos e] at hy; cases hy; subst e; exact hg
      · rw [if_neg e] at hy; exact h0.b j y hy
  · have h1 := set_perm (x := (id, t')) hl
    have hm : (id, t) ∈ M := R.p.subset (List.mem_of_getElem? hl)
    have h2 : ((id, t') :: l).Perm ((id, t) :: (id, t') :: dropM id M) := ((R.p.trans (drop_perm R.ids hm).symm).cons _).trans (List.Perm.swap _ _ _)
    have h3 := (h1.trans h2).cons_inv
    exact h3.trans (insM_perm _ _).symm
theorem HRep.add {l : List It} {m : Pl} {M : List It} (R : HRep l m M) {id t' : Int} (hn : aGet id m = none) :
    Up (l ++ [(id, t')]) l.length (id, t') ∧ Idx (l ++ [(id, t')]) (aSet id l.length m) ∧ (l ++ [(id, t')]).Perm (setM id t' M) := by
  have hnm : ∀ t, (id, t) ∉ M := by
    rcases R.get id with ⟨k, t, h, _⟩ | ⟨_, _, h⟩
    · rw [hn] at h; cases h
    · exact h
  have get : ∀ k, (l ++ [(id, t')])[k]? = if k = l.length then some (id, t') else l[k]? := by
    intro k
    rw [List.getElem?_append]
    by_cases h1 : k < l.length
    · rw [if_pos h1, if_neg (by omega)]
    · rw [if_neg h1]
      by_cases h2 : k = l.length
      · simp [h2]
      · rw [if_neg h2, List.getElem?_eq_none (by simp; omega), List.getElem?_eq_none (by omega)]
  refine ⟨⟨?_, ?_⟩, ⟨?_, ?_⟩, ?_⟩
  · intro k h0 h1 h2 a b ha hb
    rw [get, if_neg h1] at ha
    rw [get, if_neg h2] at hb
    exact R.h k h0 a b ha hb
  · intro k y z h0 h1 h2 hy hz
    rw [get, if_neg (by omega)] at hy
    have := (List.getElem?_eq_some_iff.1 hy).1
    omega
  · intro id' j hj
    rw [aGet_set] at hj
    by_cases e : id' = id
    · simp [e] at hj; subst hj
      exact ⟨l.length, t', rfl, by rw [get]; simp [e]⟩
    · simp only [e, if_false] at hj
      obtain ⟨k, t, rfl, hk⟩ := R.i.a id' j hj
      have := (List.getElem?_eq_some_iff.1 hk).1
      exact ⟨k, t, rfl, by rw [get, if_neg (by omega)]; exact hk⟩
  · intro k x hx
    rw [get] at hx
    rw [aGet_set]
    by_cases e : k = l.length
    · rw [if_pos e] at hx; cases hx; simp [e]
    · rw [if_neg e] at hx
      have h1 := R.i.b k x hx
      have : x.1 ≠ id := fun e => by rw [e, hn] at h1; cases h1
      rw [if_neg this]; exact h1
  · refine List.Perm.trans ?_ (insM_perm _ _).symm
    rw [drop_absent hnm]
    exact List.perm_append_comm.trans (R.p.cons _)
theorem aGet_del {κ ν : Type} [DecidableEq κ] (k k' : κ) : ∀ {m : List (κ × ν)}, (m.map Prod.fst).Nodup → aGet k (aDel k' m) = if k = k' then none else aGet k m
  | [], _ => by simp [aDel, aGet]
  | y :: r, h => by
    simp only [List.map_cons, List.nodup_cons] at h
    by_cases h' : k' = y.1
    · have hn : aGet y.1 r = none := by
        cases hx : aGet y.1 r with
        | none => rfl
        | some v => exact absurd (List.mem_map_of_mem (f := Prod.fst) (aGet_mem hx)) h.1
      by_cases h1 : k = k'
      · simp [aDel, h', h1, hn]
      · have : ¬ k = y.1 := fun e => h1 (e.trans h'.symm)
        simp [aDel, aGet, h', this]
    · by_cases h1 : k = y.1
      · have : ¬ k = k' := fun e => h' (e.symm.trans h1)
        have : ¬ y.1 = k' := fun e => h' e.symm
        simp [aDel, aGet, h', h1, this]
      · simp [aDel, aGet, h', h1, aGet_del k k' h.2]
theorem dropLast_get (l : List It) (k : Nat) : l.dropLast[k]? = if k + 1 < l.length then l[k]? else none := by
  rw [List.dropLast_eq_take, List.getElem?_take]
  by_cases h : k < l.length - 1
  · rw [if_pos h, if_pos (by omega)]
  · rw [if_neg h, if_neg (by omega)]
/-- the last one is dropped -/
theorem HRep.dropLast {l : List It} {m : Pl} {M : List It} (R : HRep l m M) (hd : (m.map Prod.fst).Nodup) {id t : Int} (hl : l[l.length - 1]? = some (id, t)) : HRep l.dropLast (aDel id m) (dropM id M) := by
  have hlen : 0 < l.length := by have := (List.getElem?_eq_some_iff.1 hl).1; omega
  have hm : (id, t) ∈ M := R.p.subset (List.mem_of_getElem? hl)
  refine ⟨⟨?_, ?_⟩, ?_, ?_, R.s.drop id⟩
  · intro id' j hj
    rw [aGet_del _ _ hd] at hj
    by_cases e : id' = id
    · simp [e] at hj
    · simp only [e, if_false] at hj
      obtain ⟨k, t', rfl, hk⟩ := R.i.a id' j hj
      refine ⟨k, t', rfl, ?_⟩
      have := (List.getElem?_eq_some_iff.1 hk).1
      have hne : k ≠ l.length - 1 := fun e' => by subst e'; rw [hl] at hk; cases hk; exact e rfl
      rw [dropLast_get, if_pos (by omega)]; exact hk
  · intro k x hx
    rw [dropLast_get] at hx
    split at hx
    · rename_i h1
      have h2 := R.i.b k x hx
      have : x.1 ≠ id := fun e => by have := R.i.inj hx hl e; omega
      rw [aGet_del _ _ hd, if_neg this]; exact h2
    · cases hx
  · intro k h0 a b ha hb
    rw [dropLast_get] at ha hb
    split at ha
    · split at hb
      · exact R.h k h0 a b ha hb
      · cases hb
    · cases ha
  · have e : l = l.dropLast ++ [(id, t)] := by
      have hne : l ≠ [] := fun e => by simp [e] at hlen
      have := List.dropLast_concat_getLast hne
      rw [List.getLast_eq_getElem] at this
      have h2 := (List.getElem?_eq_some_iff.1 hl).2
      rw [h2] at this; exact this.symm
    have h1 : ((id, t) :: l.dropLast).Perm ((id, t) :: dropM id M) := by
      refine List.Perm.trans ?_ (R.p.trans (drop_perm R.ids hm).symm)
      conv => rhs; rw [e]
      exact (List.perm_append_comm (l₁ := [(id, t)]) (l₂ := l.dropLast))
    exact h1.cons_inv
/-- another one is dropped, and the last one comes to its place -/
theorem HRep.dropAt {l : List It} {m : Pl} {M : List It} (R : HRep l m M) (hd : (m.map Prod.fst).Nodup) {id t : Int} {i : Nat} {x : It} (hi : l[i]? = some (id, t)) (hx : l[l.length - 1]? = some x) (hlt : i + 1 < l.length) :
    Up (l.dropLast.set i x) i x ∧ Idx (l.dropLast.set i x) (aSet x.1 i (aDel id m)) ∧ (l.dropLast.set i x).Perm (dropM id M) := by
  have hm : (id, t) ∈ M := R.p.subset (List.mem_of_getElem? hi)
  have hil : i < l.dropLast.length := by simp; omega
  have hxid : x.1 ≠ id := fun e => by have := R.i.inj hx hi e; omega
  have hi' : l.dropLast[i]? = some (id, t) := by rw [dropLast_get, if_pos hlt]; exact hi
  have hh : Hp l.dropLast := by
    intro k h0 a b ha hb
    rw [dropLast_get] at ha hb
    split at ha
    · split at hb
      · exact R.h k h0 a b ha hb
      · cases hb
    · cases ha
  refine ⟨hh.up_set hil, ⟨?_, ?_⟩, ?_⟩
  · intro id' j hj
    rw [aGet_set] at hj
    by_cases e1 : id' = x.1
    · simp [e1] at hj; subst hj
      exact ⟨i, x.2, rfl, by rw [get_set _ _ _ _ hil]; simp [e1]⟩
    · simp only [e1, if_false] at hj
      rw [aGet_del _ _ hd] at hj
      by_cases e : id' = id
      · simp [e] at hj
      · simp only [e, if_false] at hj
        obtain ⟨k, t', rfl, hk⟩ := R.i.a id' j hj
        refine ⟨k, t', rfl, ?_⟩
        have := (List.getElem?_eq_some_iff.1 hk).1
        have h1 : k ≠ l.length - 1 := fun e' => by subst e'; rw [hx] at hk; cases hk; exact e1 rfl
        have h2 : k ≠ i := fun e' => by subst e'; rw [hi] at hk; cases hk; exact e rfl
        rw [get_set _ _ _ _ hil, if_neg h2, dropLast_get, if_pos (by omega)]; exact hk
  · intro k y hy
    rw [get_set _ _ _ _ hil] at hy
    rw [aGet_set]
    by_cases e : k = i
    · rw [if_pos e] at hy; cases hy; simp [e]
    · rw [if_neg e, dropLast_get] at hy
      split at hy
      · rename_i h1
        have h2 := R.i.b k y hy
        have n1 : y.1 ≠ x.1 := fun e' => by have := R.i.inj hy hx e'; omega
        have n2 : y.1 ≠ id := fun e' => by have := R.i.inj hy hi e'; omega
        rw [if_neg n1, aGet_del _ _ hd, if_neg n2]; exact h2
      · cases hy
  · have e : l = l.dropLast ++ [x] := by
      have hne : l ≠ [] := fun e => by simp [e] at hlt
      have := List.dropLast_concat_getLast hne
      rw [List.getLast_eq_getElem] at this
      have h2 := (List.getElem?_eq_some_iff.1 hx).2
      rw [h2] at this; exact this.symm
    have h1 := set_perm (x := x) hi'
    have h2 : (x :: l.dropLast).Perm ((id, t) :: dropM id M) := by
      refine List.Perm.trans ?_ (R.p.trans (drop_perm R.ids hm).symm)
      conv => rhs; rw [e]
      exact (List.perm_append_comm (l₁ := [x]) (l₂ := l.dropLast))
    exact (h1.trans h2).cons_inv
theorem HRep.ofPerm {l : List It} {m : Pl} {M : List It} (hi : Idx l m) (hh : Hp l) (hp : l.Perm M) (hs : Asc M) : HRep l m M := ⟨hi, hh, hp, hs⟩
end Go.Proofs.Gong

/- Book -/
namespace Go.Proofs.Gong
open Go Go.Sx Go.Proofs
set_option maxRecDepth 100000
-- 15 gong/gongbook.Below
def T15 : List (Nat × FnT) := []
def F15 (x0 : Value) (x1 : Value) (w : World) (K : Value → World → Prop) : Prop :=
bindP (bRem x0 x1) fun v1 =>
bindP (bAdd v1 x1) fun v2 =>
bindP (bRem v2 x1) fun v3 =>
K v3 w

def G15 : FnT := fun args w K => on2 (fun x0 x1 => F15 x0 x1 w K) args
theorem c15 {x0 x1 : Value} {w : World} {K : Value → World → Prop} (h : F15 x0 x1 w K) : callP G15 [x0, x1] w K := callP_intro (on2_mk (p := fun x0 x1 => F15 x0 x1 w K) h)
theorem ok15 : OkF Try.prog 15 G15 := by
  refine okF_of (tab_ok (l := T15) trivial) mixed (n := fuel) Try.func15 Try.call15 fun args w K h => ?_
  obtain ⟨x0, x1, rfl, hh⟩ := of_on2 h
  exact fnD_list (c := bodyOf Try.f15) (by kernel_rfl) (by kernel_rfl) (Eq.mp (by kernel_rfl) hh)

-- 69 gong/gongref20.IsTime
def T69 : List (Nat × FnT) := []
def F69 (x0 : Value) (w : World) (K : Value → World → Prop) : Prop :=
bindP (bGe x0 (.int .i64 0)) fun v1 =>
stepM (gd true v1) x0 fun v2 =>
Sx.stepG (gd true v1) (bLe v2 (.int .i64 2305843009213693952)) fun v3 =>
bindP (pPick v1 v3 (.bool false)) fun v4 =>
K v4 w

def G69 : FnT := fun args w K => on1 (fun x0 => F69 x0 w K) args
theorem c69 {x0 : Value} {w : World} {K : Value → World → Prop} (h : F69 x0 w K) : callP G69 [x0] w K := callP_intro (on1_mk (p := fun x0 => F69 x0 w K) h)
theorem ok69 : OkF Try.prog 69 G69 := by
  refine okF_of (tab_ok (l := T69) trivial) mixed (n := fuel) Try.func69 Try.call69 fun args w K h => ?_
  obtain ⟨x0, rfl, hh⟩ := of_on1 h
  exact fnD_list (c := bodyOf Try.f69) (by kernel_rfl) (by kernel_rfl) (Eq.mp (by kernel_rfl) hh)

end Go.Proofs.Gong
