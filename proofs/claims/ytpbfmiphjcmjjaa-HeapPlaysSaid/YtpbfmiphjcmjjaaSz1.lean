/- A part of the proofs: what stands below it, told in lemmas. No condition. -/
import Derived.Test.YtpbfmiphjcmjjaaSy3
set_option linter.all false
namespace Go.Sx
def andO (x y : Option Bool) : Option Bool := match x with | some true => y | some false => some false | none => none
@[simp] theorem andO_some (b c : Bool) : andO (some b) (some c) = some (b && c) := by cases b <;> rfl
/-! what is owned, told as a list of parts that lie apart -/
abbrev Hp := Nat → Option Obj
abbrev HP := Hp → Prop
def hOr (a b : Hp) : Hp := fun i => match a i with | some o => some o | none => b i
def hDisj (a b : Hp) : Prop := ∀ i o, a i = some o → b i = none
def SepL : List HP → Hp → Prop
  | [], _ => True
  | P :: L, h => ∃ a b, hDisj a b ∧ h = hOr a b ∧ P a ∧ SepL L b
/-- all that was there in w0 is as it was; the parts of L lie apart, in what is new -/
structure Sat (w0 : World) (L : List HP) (w : World) : Prop where
  fr : Fr [] w0 w
  ex : ∃ h : Hp, SepL L h ∧ ∀ i o, h i = some o → w0.heap.size ≤ i ∧ w.heap[i]? = some o

def Blk (b : Nat) (o : Obj) : HP := fun h => h b = some o
def Cl (b : Nat) (c : Array Value) (ty : TypeId) : HP := Blk b (.cells c ty (0, 0))
def HEx {α : Sort _} (f : α → HP) : HP := fun h => ∃ x, f x h
def HPr (p : Prop) (P : HP) : HP := fun h => p ∧ P h
def HSt (P Q : HP) : HP := fun h => ∃ a b, hDisj a b ∧ h = hOr a b ∧ P a ∧ Q b
def HEm : HP := fun _ => True
def SlH (es : Nat) (ty : TypeId) (v : Value) (n : Nat) (cs : List Value) : HP := fun h =>
  (v = .slice none 0 0 ∧ n = 0 ∧ cs = []) ∨ ∃ b o cap a, v = .slice (some ⟨b, o, none⟩) n cap ∧ n ≤ cap ∧ o + cap * es ≤ a.size ∧ cs = (a.toList.drop o).take (n * es) ∧ h b = some (.cells a ty (0, 0))

theorem hDisj.symm {a b : Hp} (h : hDisj a b) : hDisj b a := fun i o hb => by
  cases ha : a i with
  | none => rfl
  | some x => rw [h i x ha] at hb; cases hb
theorem hOr_comm {a b : Hp} (h : hDisj a b) : hOr a b = hOr b a := by
  funext i; unfold hOr
  cases ha : a i with
  | none => cases b i <;> rfl
  | some x => rw [h i x ha]
theorem hOr_assoc (a b c : Hp) : hOr (hOr a b) c = hOr a (hOr b c) := by
  funext i; unfold hOr; cases a i <;> rfl
theorem hOr_l {a b : Hp} {i : Nat} {o : Obj} (h : a i = some o) : hOr a b i = some o := by simp [hOr, h]
theorem hOr_r {a b : Hp} {i : Nat} {o : Obj} (hd : hDisj a b) (h : b i = some o) : hOr a b i = some o := by rw [hOr_comm hd]; exact hOr_l h
theorem hDisj_or {a b c : Hp} : hDisj a (hOr b c) ↔ hDisj a b ∧ hDisj a c := by
  constructor
  · intro h
    refine ⟨fun i o ha => ?_, fun i o ha => ?_⟩
    all_goals
      have := h i o ha
      unfold hOr at this
      cases hb : b i with
      | none => first | rfl | simpa [hb] using this
      | some x => simp [hb] at this
  · rintro ⟨h1, h2⟩ i o ha
    simp [hOr, h1 i o ha, h2 i o ha]
theorem or_hDisj {a b c : Hp} : hDisj (hOr a b) c ↔ hDisj a c ∧ hDisj b c := by
  constructor
  · intro h
    have := hDisj_or.1 h.symm
    exact ⟨this.1.symm, this.2.symm⟩
  · rintro ⟨h1, h2⟩
    exact (hDisj_or.2 ⟨h1.symm, h2.symm⟩).symm

section
variable {P Q : HP} {L L' : List HP} {h : Hp}
theorem SepL.swap (hs : SepL (P :: Q :: L) h) : SepL (Q :: P :: L) h := by
  obtain ⟨a, _, hd, rfl, hP, b, c, hd2, rfl, hQ, hL⟩ := hs
  obtain ⟨h1, h2⟩ := hDisj_or.1 hd
  refine ⟨b, hOr a c, ?_, ?_, hQ, a, c, h2, rfl, hP, hL⟩
  · exact hDisj_or.2 ⟨h1.symm, hd2⟩
  · rw [← hOr_assoc, hOr_comm h1, hOr_assoc]
theorem SepL.tail (f : ∀ h, SepL L h → SepL L' h) (hs : SepL (P :: L) h) : SepL (P :: L') h := by
  obtain ⟨a, b, hd, rfl, hP, hL⟩ := hs
  exact ⟨a, b, hd, rfl, hP, f _ hL⟩
theorem SepL.perm (p : L.Perm L') : ∀ {h : Hp}, SepL L h → SepL L' h := by
  induction p with
  | nil => exact fun h => h
  | cons x _ ih => exact fun h => h.tail fun _ => ih
  | swap x y l => exact fun h => h.swap
  | trans _ _ i1 i2 => exact fun h => i2 (i1 h)
theorem SepL.star : SepL (HSt P Q :: L) h ↔ SepL (P :: Q :: L) h := by
  constructor
  · rintro ⟨_, c, hd, rfl, ⟨a, b, hd2, rfl, hP, hQ⟩, hL⟩
    obtain ⟨h1, h2⟩ := or_hDisj.1 hd
    exact ⟨a, hOr b c, hDisj_or.2 ⟨hd2, h1⟩, hOr_assoc _ _ _, hP, b, c, h2, rfl, hQ, hL⟩
  · rintro ⟨a, _, hd, rfl, hP, b, c, hd2, rfl, hQ, hL⟩
    obtain ⟨h1, h2⟩ := hDisj_or.1 hd
    exact ⟨hOr a b, c, or_hDisj.2 ⟨h2, hd2⟩, (hOr_assoc _ _ _).symm, ⟨a, b, h1, rfl, hP, hQ⟩, hL⟩
theorem SepL.drop (hs : SepL (P :: L) h) : ∃ b, SepL L b ∧ ∀ i o, b i = some o → h i = some o := by
  obtain ⟨a, b, hd, rfl, hP, hL⟩ := hs
  exact ⟨b, hL, fun i o hb => hOr_r hd hb⟩
end

section
variable {w0 w w' : World} {P Q : HP} {L L' : List HP}
theorem Sat.perm (hs : Sat w0 L w) (p : L.Perm L') : Sat w0 L' w := by
  obtain ⟨h, h1, h2⟩ := hs.ex
  exact ⟨hs.fr, h, h1.perm p, h2⟩
theorem Sat.conv (hs : Sat w0 L w) (f : ∀ h, SepL L h → SepL L' h) : Sat w0 L' w := by
  obtain ⟨h, h1, h2⟩ := hs.ex
  exact ⟨hs.fr, h, f h h1, h2⟩
theorem Sat.start (w0 : World) : Sat w0 [] w0 := ⟨.refl _ _, fun _ => none, trivial, fun _ _ h => by cases h⟩
theorem Sat.drop (hs : Sat w0 (P :: L) w) : Sat w0 L w := by
  obtain ⟨h, h1, h2⟩ := hs.ex
  obtain ⟨b, hb, hb2⟩ := h1.drop
  exact ⟨hs.fr, b, hb, fun i o h => h2 i o (hb2 i o h)⟩
theorem Sat.mono (hs : Sat w0 (P :: L) w) (f : ∀ h, P h → Q h) : Sat w0 (Q :: L) w := hs.conv fun _ ⟨a, b, hd, e, hP, hL⟩ => ⟨a, b, hd, e, f a hP, hL⟩
/-- the second, third .. part to the front -/
theorem Sat.f1 {A B : HP} (h : Sat w0 (A :: B :: L) w) : Sat w0 (B :: A :: L) w := h.conv fun _ h => h.swap
theorem Sat.f2 {A B C : HP} (h : Sat w0 (A :: B :: C :: L) w) : Sat w0 (C :: A :: B :: L) w := h.conv fun _ h => (h.tail fun _ h => h.swap).swap
theorem Sat.f3 {A B C D : HP} (h : Sat w0 (A :: B :: C :: D :: L) w) : Sat w0 (D :: A :: B :: C :: L) w := h.conv fun _ h => (h.tail fun _ h => (h.tail fun _ h => h.swap).swap).swap
theorem Sat.f4 {A B C D E : HP} (h : Sat w0 (A :: B :: C :: D :: E :: L) w) : Sat w0 (E :: A :: B :: C :: D :: L) w := h.conv fun _ h => (h.tail fun _ h => (h.tail fun _ h => (h.tail fun _ h => h.swap).swap).swap).swap
/-- the first part to the second, third .. place -/
theorem Sat.b2 {A B C : HP} (h : Sat w0 (A :: B :: C :: L) w) : Sat w0 (B :: C :: A :: L) w := h.conv fun _ h => h.swap.tail fun _ h => h.swap
theorem Sat.b3 {A B C D : HP} (h : Sat w0 (A :: B :: C :: D :: L) w) : Sat w0 (B :: C :: D :: A :: L) w := h.conv fun _ h => h.swap.tail fun _ h => h.swap.tail fun _ h => h.swap
@[simp] theorem Sat.star_iff : Sat w0 (HSt P Q :: L) w ↔ Sat w0 (P :: Q :: L) w := ⟨fun h => h.conv fun _ => SepL.star.1, fun h => h.conv fun _ => SepL.star.2⟩
@[simp] theorem Sat.ex_iff {α : Sort _} {f : α → HP} : Sat w0 (HEx f :: L) w ↔ ∃ x, Sat w0 (f x :: L) w := by
  constructor
  · rintro ⟨hf, h, ⟨a, b, hd, e, ⟨x, hx⟩, hL⟩, h2⟩
    exact ⟨x, hf, h, ⟨a, b, hd, e, hx, hL⟩, h2⟩
  · rintro ⟨x, h⟩
    exact h.mono fun a ha => ⟨x, ha⟩
@[simp] theorem Sat.pr_iff {p : Prop} : Sat w0 (HPr p P :: L) w ↔ p ∧ Sat w0 (P :: L) w := by
  constructor
  · rintro ⟨hf, h, ⟨a, b, hd, e, ⟨hp, hx⟩, hL⟩, h2⟩
    exact ⟨hp, hf, h, ⟨a, b, hd, e, hx, hL⟩, h2⟩
  · rintro ⟨x, h⟩
    exact h.mono fun a ha => ⟨x, ha⟩
@[simp] theorem Sat.em_iff : Sat w0 (HEm :: L) w ↔ Sat w0 L w := by
  refine ⟨Sat.drop, fun h => ?_⟩
  obtain ⟨hh, h1, h2⟩ := h.ex
  exact ⟨h.fr, hh, ⟨fun _ => none, hh, (fun _ _ h => by cases h), rfl, trivial, h1⟩, h2⟩

theorem Sat.os (h : Sat w0 L w) : w'.os = w.os → w'.os = w0.os := fun e => e.trans h.fr.os
theorem Sat.size (h : Sat w0 L w) : w0.heap.size ≤ w.heap.size := h.fr.size
theorem Sat.old (h : Sat w0 L w) {b : Nat} (hb : b < w0.heap.size) : w.heap[b]? = w0.heap[b]? := h.fr.blk b hb (by simp)
theorem Sat.drew (h : Sat w0 L w) : Sat w0 L w.drew := ⟨h.fr.trans (Fr.drew [] w) fun x hx => .inl hx, h.ex⟩
theorem Sat.undrew (h : Sat w0 L w.drew) : Sat w0 L w := ⟨⟨h.fr.os, h.fr.tape, h.fr.output, h.fr.size, h.fr.blk⟩, h.ex⟩
theorem Sat.same (h : Sat w0 L w) (e : w'.heap = w.heap) (e1 : w'.os = w.os) (e2 : w'.tape = w.tape) (e3 : w'.output = w.output) : Sat w0 L w' :=
  ⟨⟨e1.trans h.fr.os, e2.trans h.fr.tape, e3.trans h.fr.output, by rw [e]; exact h.fr.size, fun b hb hn => by rw [e]; exact h.fr.blk b hb hn⟩, by rw [e]; exact h.ex⟩

theorem Sat.blk {b : Nat} {o : Obj} (h : Sat w0 (Blk b o :: L) w) : w.heap[b]? = some o := by
  obtain ⟨_, hh, ⟨a, c, hd, rfl, hP, _⟩, h2⟩ := h
  exact (h2 b o (hOr_l hP)).2
theorem Sat.blk_ge {b : Nat} {o : Obj} (h : Sat w0 (Blk b o :: L) w) : w0.heap.size ≤ b := by
  obtain ⟨_, hh, ⟨a, c, hd, rfl, hP, _⟩, h2⟩ := h
  exact (h2 b o (hOr_l hP)).1
theorem Sat.cl {b : Nat} {c : Array Value} {ty : TypeId} (h : Sat w0 (Cl b c ty :: L) w) : w.heap[b]? = some (.cells c ty (0, 0)) := h.blk
theorem Sat.alloc (h : Sat w0 L w) (o : Obj) : Sat w0 (Blk w.heap.size o :: L) (w.alloc o) := by
  obtain ⟨hf, hh, h1, h2⟩ := h
  refine ⟨hf.trans (Fr.alloc [] w o) fun x hx => .inl hx, hOr (fun i => if i = w.heap.size then some o else none) hh, ⟨_, hh, ?_, rfl, by simp [Blk], h1⟩, ?_⟩
  · intro i o' hi
    by_cases e : i = w.heap.size
    · subst e
      cases hx : hh w.heap.size with
      | none => rfl
      | some x => have := lt_of_blk (h2 _ _ hx).2; omega
    · simp [e] at hi
  · intro i o' hi
    by_cases e : i = w.heap.size
    · subst e; simp [hOr] at hi; subst hi
      exact ⟨hf.size, heap_alloc_new _ _⟩
    · simp [hOr, e] at hi
      obtain ⟨g1, g2⟩ := h2 i o' hi
      exact ⟨g1, by rw [heap_alloc_lt _ _ (lt_of_blk g2)]; exact g2⟩
theorem Sat.set {b : Nat} {o : Obj} (h : Sat w0 (Blk b o :: L) w) (o' : Obj) : Sat w0 (Blk b o' :: L) (setBlk w b o') := by
  have hb := h.blk
  have hge := h.blk_ge
  obtain ⟨hf, hh, ⟨a, c, hd, rfl, hP, hL⟩, h2⟩ := h
  refine ⟨⟨hf.os, hf.tape, hf.output, by simpa using hf.size, fun x hx hn => by rw [setBlk_ne (by omega)]; exact hf.blk x hx hn⟩, hOr (fun i => if i = b then some o' else a i) c, ⟨_, c, ?_, rfl, by simp [Blk], hL⟩, ?_⟩
  · intro i x hi
    by_cases e : i = b
    · subst e; exact hd _ _ hP
    · simp [e] at hi; exact hd _ _ hi
  · intro i x hi
    by_cases e : i = b
    · subst e; simp [hOr] at hi; subst hi
      exact ⟨hge, setBlk_same hb⟩
    · have : hOr a c i = some x := by simpa [hOr, e] using hi
      obtain ⟨g1, g2⟩ := h2 i x this
      exact ⟨g1, by rw [setBlk_ne (by omega)]; exact g2⟩

/-- a part that is told by what it owns in a world -/
theorem Sat.own {es n : Nat} {ty : TypeId} {v : Value} {cs : List Value} (h : Sat w0 (SlH es ty v n cs :: L) w) :
    ∃ fp, Own w es ty fp v n cs ∧ ∀ (w' : World) (fp' : List Nat) (v' : Value) (n' : Nat) (cs' : List Value) (es' : Nat) (ty' : TypeId), Own w' es' ty' fp' v' n' cs' → Stp fp fp' w w' → Sat w0 (SlH es' ty' v' n' cs' :: L) w' := by
  obtain ⟨hf, hh, ⟨a, c, hd, rfl, hP, hL⟩, h2⟩ := h
  have key : ∀ fp : List Nat, (∀ b ∈ fp, ∃ o, a b = some o) → ∀ (w' : World) (fp' : List Nat) (v' : Value) (n' : Nat) (cs' : List Value) (es' : Nat) (ty' : TypeId), Own w' es' ty' fp' v' n' cs' → Stp fp fp' w w' → Sat w0 (SlH es' ty' v' n' cs' :: L) w' := by
    intro fp hfp w' fp' v' n' cs' es' ty' hO st
    have hge : ∀ b ∈ fp, w0.heap.size ≤ b := fun b hb => by obtain ⟨o, ho⟩ := hfp b hb; exact (h2 b o (hOr_l ho)).1
    have hc : ∀ i o, c i = some o → i ∉ fp ∧ i < w.heap.size ∧ w0.heap.size ≤ i ∧ w.heap[i]? = some o := fun i o hi => by
      obtain ⟨g1, g2⟩ := h2 i o (hOr_r hd hi)
      refine ⟨fun hm => ?_, lt_of_blk g2, g1, g2⟩
      obtain ⟨o', ho'⟩ := hfp i hm
      rw [hd i o' ho'] at hi; cases hi
    refine ⟨hf.trans st.fr fun x hx => .inr (hge x hx), hOr (fun i => if i ∈ fp' then w'.heap[i]? else none) c, ⟨_, c, ?_, rfl, ?_, hL⟩, ?_⟩
    · intro i o hi
      by_cases hm : i ∈ fp'
      · cases hci : c i with
        | none => rfl
        | some x =>
          obtain ⟨g1, g2, _, _⟩ := hc i x hci
          rcases st.ext i hm with h | h
          · exact absurd h g1
          · omega
      · simp [hm] at hi
    · cases hO with
      | nil => exact .inl ⟨rfl, rfl, rfl⟩
      | blk hb hn ha hc => exact .inr ⟨_, _, _, _, rfl, hn, ha, hc, by simpa using hb⟩
    · intro i o hi
      by_cases hm : i ∈ fp'
      · simp only [hOr, hm, if_true] at hi
        cases hw : w'.heap[i]? with
        | none => have := hO.lt i hm; simp [Array.getElem?_eq_none_iff] at hw; omega
        | some x =>
          rw [hw] at hi; simp at hi; subst hi
          refine ⟨?_, rfl⟩
          rcases st.ext i hm with h | h
          · exact hge i h
          · exact Nat.le_trans hf.size h
      · simp [hOr, hm] at hi
        obtain ⟨g1, g2, g3, g4⟩ := hc i o hi
        exact ⟨g3, (st.keep g2 g1).trans g4⟩
  rcases hP with ⟨rfl, rfl, rfl⟩ | ⟨b, o, cap, arr, rfl, hn, ha, hc, hb⟩
  · exact ⟨[], .nil, key [] (by simp)⟩
  · exact ⟨[b], .blk (h2 b _ (hOr_l hb)).2 hn ha hc, key [b] (by simpa using ⟨_, hb⟩)⟩
theorem Sat.rd {es n : Nat} {ty : TypeId} {v : Value} {cs : List Value} (h : Sat w0 (SlH es ty v n cs :: L) w) : Rd w es v n cs := by
  obtain ⟨fp, hO, _⟩ := h.own
  exact hO.rd
theorem Sat.ofOwn {es n : Nat} {ty : TypeId} {v : Value} {cs : List Value} {fp : List Nat} (h : Sat w0 L w) (hO : Own w' es ty fp v n cs) (st : Stp [] fp w w') : Sat w0 (SlH es ty v n cs :: L) w' := by
  have h0 : Sat w0 (SlH es ty (.slice none 0 0) 0 [] :: L) w := by
    have := Sat.em_iff.2 h
    exact this.mono fun _ _ => .inl ⟨rfl, rfl, rfl⟩
  obtain ⟨fp0, hO0, k⟩ := h0.own
  cases hO0
  exact k _ _ _ _ _ _ _ hO st
theorem Sat.nilsl {es : Nat} {ty : TypeId} (h : Sat w0 L w) : Sat w0 (SlH es ty (.slice none 0 0) 0 [] :: L) w := h.ofOwn .nil (.refl _ _)
theorem Sat.unsl {es n : Nat} {ty : TypeId} {v : Value} {cs : List Value} (h : Sat w0 (SlH es ty v n cs :: L) w) {v' : Value} {n' : Nat} {cs' : List Value} (hO : ∀ fp, Own w es ty fp v n cs → Own w es ty fp v' n' cs') : Sat w0 (SlH es ty v' n' cs' :: L) w := by
  obtain ⟨fp, h1, k⟩ := h.own
  exact k _ _ _ _ _ _ _ (hO _ h1) (.refl _ _)
theorem Rd.keepF {es n : Nat} {v : Value} {cs : List Value} (h : Rd w es v n cs) (hk : ∀ b, b < w.heap.size → w'.heap[b]? = w.heap[b]?) : Rd w' es v n cs := by
  cases h with
  | emp a cap => exact .emp a cap
  | blk hb hn ha hc => exact .blk (by rw [hk _ (lt_of_blk hb)]; exact hb) hn ha hc
theorem Rd.sat {es n : Nat} {v : Value} {cs : List Value} (h : Rd w0 es v n cs) (hs : Sat w0 L w) : Rd w es v n cs := h.keepF fun _ hb => hs.old hb
theorem Rd.heap {es n : Nat} {v : Value} {cs : List Value} (h : Rd w es v n cs) (e : w'.heap = w.heap) : Rd w' es v n cs := h.keepF fun _ _ => by rw [e]
theorem Sat.cellOld (h : Sat w0 L w) {a : Addr} {v : Value} (hv : w0.cell? a = some v) : w.cell? a = some v := by
  unfold World.cell? at *
  cases hb : w0.heap[a.block]? with
  | none => simp [hb] at hv
  | some o => rw [h.old (lt_of_blk hb), hb]; rwa [hb] at hv

/-! operations -/
theorem eBox_sat {t : TypeId} {v : Value} {K : Value → World → Prop} (h : Sat w0 L w) (hK : ∀ p w', Sat w0 (Cl p v.cells t :: L) w' → K (ptr p) w') : eBox t v w K := hK _ _ (h.alloc _)
theorem eAlloc_sat {Pg : Program} {t : TypeId} {z : Value} {K : Value → World → Prop} (h : Sat w0 L w) (hz : fZero Pg t = some z) (hK : ∀ p w', Sat w0 (Cl p z.cells t :: L) w' → K (ptr p) w') : eAlloc Pg t w K := by
  unfold eAlloc; rw [hz]; exact hK _ _ (h.alloc _)
theorem eBuildSl_sat {Pg : Program} {t el : TypeId} {es len : Nat} {parts : List (Nat × Value)} {K : Value → World → Prop} {c : Array Value} (h : Sat w0 L w) (hu : Pg.underlying t = some (.slice el))
    (hc : fBuildSl Pg el len parts = some c) (hs : c.size = len * es) (hK : ∀ s w', Sat w0 (SlH es el s len c.toList :: L) w' → K s w') : eBuildSl Pg t len parts w K :=
  eBuildSl_own hu hc hs fun w' s hO st => hK _ _ (h.ofOwn hO st)
theorem eMakeSl_sat {Pg : Program} {t el : TypeId} {es bytes : Nat} {l c : Nat} {K : Value → World → Prop} (h : Sat w0 L w) (T : SlT Pg t el es bytes) (hl : l ≤ c) (hc : c * bytes ≤ 281474976710656)
    (hK : ∀ s cs w', Sat w0 (SlH es el s l cs :: L) w' → K s w') : eMakeSl Pg t (.int .i64 l) (.int .i64 c) w K :=
  eMakeSl_own T hl hc fun w' s cs hO st => hK _ _ _ (h.ofOwn hO st)
theorem eAppend_sat {Pg : Program} {t xt el : TypeId} {es bytes n m : Nat} {s x : Value} {cs ds : List Value} {K : Value → World → Prop} (h : Sat w0 (SlH es el s n cs :: L) w) (T : SlT Pg t el es bytes) (hxt : isSS Pg xt = true)
    (hR : Rd w es x m ds) (hd : ds.all (·.oneCell') = true) (hb : (n + m) * bytes ≤ 140737488355328)
    (hK : ∀ s' w', Sat w0 (SlH es el s' (n + m) (cs ++ ds) :: L) w' → K s' w') : eAppend Pg t xt s x w K := by
  obtain ⟨fp, hO, k⟩ := h.own
  exact eAppend_own T hxt hO hR hd hb fun w' fp' s' hO' st => hK _ _ (k _ _ _ _ _ _ _ hO' st)
theorem eCopy_sat {Pg : Program} {t el : TypeId} {es bytes n : Nat} {d x : Value} {cs ds : List Value} {K : Value → World → Prop} (h : Sat w0 (SlH es el d n cs :: L) w) (T : SlT Pg t el es bytes)
    (hR : Rd w es x n ds) (hd : ds.all (·.oneCell') = true) (hK : ∀ w', Sat w0 (SlH es el d n ds :: L) w' → K (.int .i64 n) w') : eCopy Pg t d x w K := by
  obtain ⟨fp, hO, k⟩ := h.own
  exact eCopy_own T hO hR hd fun w' hO' st => hK _ (k _ _ _ _ _ _ _ hO' st)
theorem Sat.setc {b : Nat} {c : Array Value} {ty : TypeId} (h : Sat w0 (Cl b c ty :: L) w) (c' : Array Value) : Sat w0 (Cl b c' ty :: L) (setBlk w b (.cells c' ty (0, 0))) := h.set _
/-- a store of several cells -/
theorem st_cells {b o n : Nat} {c : Array Value} {ty : TypeId} (h : w.heap[b]? = some (.cells c ty (0, 0))) {x : Value} (hn : x.cells.size = n) (hv : x.cells.toList.all (·.oneCell') = true) (ho : o + n ≤ c.size) :
    st n (.pointer (some ⟨b, o, none⟩)) x w = some (setBlk w b (.cells (wr c o x.cells.toList) ty (0, 0))) := by
  simp only [st]
  rw [if_pos hn, stCells_ok h (by simp [hn, ho]) hv]
theorem ldN_of {b o n : Nat} {c : Array Value} {ty : TypeId} {fz : Nat × Nat} (h : w.heap[b]? = some (.cells c ty fz)) (ho : o + n ≤ c.size) : ldN n (.pointer (some ⟨b, o, none⟩)) w = some (.agg (c.extract o (o + n))) := by
  simp [ldN, h, ho]
end
end Go.Sx
