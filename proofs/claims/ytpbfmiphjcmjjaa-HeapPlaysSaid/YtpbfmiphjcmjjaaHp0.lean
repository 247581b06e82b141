/- A part of the proofs: what stands below it, told in lemmas. No condition. -/
import Derived.Test.YtpbfmiphjcmjjaaSz7
set_option linter.all false
namespace Go.Proofs.Gong
open Go.Sx
/-! deadlines as a heap: what is done to the list and to the places -/
abbrev It := Int × Int
def itLt (x y : It) : Bool := decide (x.2 < y.2) || (decide (x.2 = y.2) && decide (x.1 < y.1))
theorem itSWO : SWO itLt := by
  constructor
  · rintro ⟨a, b⟩ ⟨c, d⟩ h; simp [itLt] at *; omega
  · rintro ⟨a, b⟩ ⟨c, d⟩ ⟨e, f⟩ h1 h2; simp [itLt] at *; omega
theorem itTot (a b : It) (h1 : itLt a b = false) (h2 : itLt b a = false) : a = b := by
  rcases a with ⟨a1, a2⟩; rcases b with ⟨b1, b2⟩
  simp only [itLt, Bool.or_eq_false_iff, decide_eq_false_iff_not, Bool.and_eq_false_iff] at h1 h2
  have e1 : a2 = b2 := by omega
  have e2 : a1 = b1 := by omega
  rw [e1, e2]
abbrev Pl := List (Int × Int)
def upL (x : It) (l : List It) (m : Pl) (i : Nat) : List It × Pl :=
  if h : 0 < i then
    match l[(i - 1) / 2]? with
    | some y => if itLt x y then upL x (l.set i y) (aSet y.1 i m) ((i - 1) / 2) else (l.set i x, aSet x.1 i m)
    | none => (l.set i x, aSet x.1 i m)
  else (l.set i x, aSet x.1 i m)
termination_by i
decreasing_by omega
def kidOf (l : List It) (i : Nat) : Nat := match l[2 * i + 1]?, l[2 * i + 2]? with
  | some y, some z => if itLt z y then 2 * i + 2 else 2 * i + 1
  | _, _ => 2 * i + 1
theorem kidOf_gt (l : List It) (i : Nat) : i < kidOf l i := by unfold kidOf; split <;> (try split) <;> omega
def downL (x : It) (l : List It) (m : Pl) (i : Nat) : List It × Pl :=
  if h : 2 * i + 1 < l.length then
    match l[kidOf l i]? with
    | some y => if itLt y x then downL x (l.set i y) (aSet y.1 i m) (kidOf l i) else (l.set i x, aSet x.1 i m)
    | none => (l.set i x, aSet x.1 i m)
  else (l.set i x, aSet x.1 i m)
termination_by l.length - i
decreasing_by have := kidOf_gt l i; simp; omega

structure Idx (l : List It) (m : Pl) : Prop where
  a : ∀ id j, aGet id m = some j → ∃ (k : Nat) (t : Int), j = k ∧ l[k]? = some (id, t)
  b : ∀ (k : Nat) (x : It), l[k]? = some x → aGet x.1 m = some (k : Int)
theorem Idx.inj {l : List It} {m : Pl} (h : Idx l m) {i j : Nat} {x y : It} (hi : l[i]? = some x) (hj : l[j]? = some y) (e : x.1 = y.1) : i = j := by
  have h1 := h.b i x hi
  have h2 := h.b j y hj
  rw [e, h2] at h1
  simp at h1; omega
theorem Idx.ext {l : List It} {m m' : Pl} (h : Idx l m) (e : ∀ k, aGet k m' = aGet k m) : Idx l m' :=
  ⟨fun id j hj => h.a id j (by rw [← e]; exact hj), fun k x hx => by rw [e]; exact h.b k x hx⟩
/-- the members of two places change places -/
theorem Idx.move {l : List It} {m : Pl} {i a : Nat} {x y : It} (hi : i < l.length) (ha : l[a]? = some y) (hne : a ≠ i) (h : Idx (l.set i x) (aSet x.1 i m)) :
    Idx ((l.set i y).set a x) (aSet x.1 a (aSet y.1 i m)) := by
  have hal : a < l.length := (List.getElem?_eq_some_iff.1 ha).1
  have hxi : (l.set i x)[i]? = some x := by simp [hi]
  have hya : (l.set i x)[a]? = some y := by rw [List.getElem?_set_ne (Ne.symm hne)]; exact ha
  have hxy : x.1 ≠ y.1 := fun e => hne (h.inj hya hxi e.symm)
  have get : ∀ k, ((l.set i y).set a x)[k]? = if k = a then some x else if k = i then some y else l[k]? := by
    intro k
    simp only [List.getElem?_set, List.length_set]
    by_cases h1 : a = k
    · subst h1; simp [hal]
    · by_cases h2 : i = k
      · subst h2; simp [h1, hi, Ne.symm h1]
      · simp [h1, h2, Ne.symm h1, Ne.symm h2]
  have old : ∀ k, k ≠ i → (l.set i x)[k]? = l[k]? := fun k hk => List.getElem?_set_ne (Ne.symm hk)
  constructor
  · intro id j hj
    rw [aGet_set] at hj
    by_cases e1 : id = x.1
    · simp [e1] at hj; subst hj
      exact ⟨a, x.2, rfl, by rw [get]; simp [e1]⟩
    · simp only [e1, if_false] at hj
      rw [aGet_set] at hj
      by_cases e2 : id = y.1
      · simp [e2] at hj; subst hj
        exact ⟨i, y.2, rfl, by rw [get]; simp [Ne.symm hne, e2]⟩
      · simp only [e2, if_false] at hj
        obtain ⟨k, t, hk, hl⟩ := h.a id j (by rw [aGet_set]; simp [e1, hj])
        refine ⟨k, t, hk, ?_⟩
        have k1 : k ≠ a := fun e => by subst e; rw [hya] at hl; cases hl; exact e2 rfl
        have k2 : k ≠ i := fun e => by subst e; rw [hxi] at hl; cases hl; exact e1 rfl
        rw [get]; simp only [k1, k2, if_false]
        rw [← old k k2]; exact hl
  · intro k z hz
    rw [get] at hz
    by_cases k1 : k = a
    · simp [k1] at hz; subst hz; subst k1; rw [aGet_set]; simp
    · simp only [k1, if_false] at hz
      by_cases k2 : k = i
      · simp [k2] at hz; subst hz; subst k2; rw [aGet_set, aGet_set]; simp [Ne.symm hxy]
      · simp only [k2, if_false] at hz
        rw [← old k k2] at hz
        have e1 : z.1 ≠ x.1 := fun e => k2 (h.inj hz hxi e)
        have e2 : z.1 ≠ y.1 := fun e => k1 (h.inj hz hya e)
        have := h.b k z hz
        rw [aGet_set] at this ⊢
        simp only [e1, if_false] at this ⊢
        rw [aGet_set]; simp only [e2, if_false]; exact this
theorem set_move_perm {l : List It} {i a : Nat} {x y : It} (hi : i < l.length) (ha : l[a]? = some y) (hne : a ≠ i) : ((l.set i y).set a x).Perm (l.set i x) := by
  have hal : a < l.length := (List.getElem?_eq_some_iff.1 ha).1
  have e : (l.set i y).set a x = swapL (l.set i x) i a := by
    rw [swapL_eq (by simpa using hi) (by simpa using hal)]
    have h1 : (l.set i x)[a]'(by simpa using hal) = y := by
      have := (List.getElem?_eq_some_iff.1 ha).2
      rw [List.getElem_set_ne (Ne.symm hne)]; exact this
    have h2 : (l.set i x)[i]'(by simpa using hi) = x := by simp
    rw [h1, h2, List.set_set]
  rw [e]
  exact swapL_perm (by simpa using hi) (by simpa using hal)

/-- no member is less than the one above it -/
def okAt (l : List It) (k : Nat) : Prop := ∀ x y, l[k]? = some x → l[(k - 1) / 2]? = some y → itLt x y = false
structure Up (l : List It) (i : Nat) (x : It) : Prop where
  o : ∀ k, 0 < k → k ≠ i → (k - 1) / 2 ≠ i → okAt l k
  c : ∀ k y z, 0 < k → 0 < i → (k - 1) / 2 = i → l[k]? = some y → l[(i - 1) / 2]? = some z → itLt y z = false
structure Dn (l : List It) (i : Nat) (x : It) : Prop where
  o : ∀ k, 0 < k → k ≠ i → (k - 1) / 2 ≠ i → okAt l k
  p : ∀ y, 0 < i → l[(i - 1) / 2]? = some y → itLt x y = false
  c : ∀ k y z, 0 < k → 0 < i → (k - 1) / 2 = i → l[k]? = some y → l[(i - 1) / 2]? = some z → itLt y z = false
theorem get_set (l : List It) (i k : Nat) (x : It) (hi : i < l.length) : (l.set i x)[k]? = if k = i then some x else l[k]? := by
  rw [List.getElem?_set]
  by_cases h : i = k
  · subst h; simp [hi]
  · simp [h, Ne.symm h]
theorem up_ok : ∀ (i : Nat) (x : It) (l : List It) (m : Pl), i < l.length → Up l i x → Idx (l.set i x) (aSet x.1 i m) →
    ∃ p, (upL x l m i).1[p]? = some x ∧ Dn (upL x l m i).1 p x ∧ Idx (upL x l m i).1 (upL x l m i).2 ∧ (upL x l m i).1.Perm (l.set i x) := by
  intro i
  induction i using Nat.strongRecOn with
  | ind i ih =>
    intro x l m hi hU hI
    have stop : (∀ y, 0 < i → l[(i - 1) / 2]? = some y → itLt x y = false) → ∃ p, (l.set i x)[p]? = some x ∧ Dn (l.set i x) p x ∧ Idx (l.set i x) (aSet x.1 i m) ∧ (l.set i x).Perm (l.set i x) := by
      intro hp
      refine ⟨i, by simp [hi], ⟨?_, ?_, ?_⟩, hI, .refl _⟩
      · intro k h1 h2 h3 a b ha hb
        rw [get_set _ _ _ _ hi, if_neg h2] at ha
        rw [get_set _ _ _ _ hi, if_neg h3] at hb
        exact hU.o k h1 h2 h3 a b ha hb
      · intro y h0 hy
        rw [get_set _ _ _ _ hi, if_neg (by omega)] at hy
        exact hp y h0 hy
      · intro k y z h1 h0 h2 hy hz
        rw [get_set _ _ _ _ hi, if_neg (by omega)] at hy
        rw [get_set _ _ _ _ hi, if_neg (by omega)] at hz
        exact hU.c k y z h1 h0 h2 hy hz
    rw [upL]
    by_cases h0 : 0 < i
    · simp only [h0, dif_pos]
      have hal : (i - 1) / 2 < l.length := by omega
      have hy : l[(i - 1) / 2]? = some l[(i - 1) / 2] := List.getElem?_eq_getElem hal
      rw [hy]
      simp only
      generalize hyy : l[(i - 1) / 2] = y at hy
      by_cases hlt : itLt x y = true
      · rw [if_pos hlt]
        have hne : (i - 1) / 2 ≠ i := by omega
        have hU' : Up (l.set i y) ((i - 1) / 2) x := by
          refine ⟨?_, ?_⟩
          · intro k h1 h2 h3 a b ha hb
            rw [get_set _ _ _ _ hi] at ha hb
            by_cases k1 : k = i
            · subst k1; exact absurd rfl h3
            · rw [if_neg k1] at ha
              by_cases k2 : (k - 1) / 2 = i
              · rw [if_pos k2] at hb; cases hb
                exact hU.c k a _ h1 h0 k2 ha hy
              · rw [if_neg k2] at hb
                exact hU.o k h1 k1 k2 a b ha hb
          · intro k a b h1 h4 h2 ha hb
            rw [get_set _ _ _ _ hi] at ha hb
            rw [if_neg (by omega)] at hb
            by_cases k1 : k = i
            · rw [if_pos k1] at ha; cases ha
              exact hU.o ((i - 1) / 2) h4 hne (by omega) _ b hy hb
            · rw [if_neg k1] at ha
              have o1 := hU.o k h1 k1 (by omega) a y ha (by rw [h2]; exact hy)
              have o2 := hU.o ((i - 1) / 2) h4 hne (by omega) y b hy hb
              exact itSWO.tr b y a o2 o1
        obtain ⟨p, e1, e2, e3, e4⟩ := ih ((i - 1) / 2) (by omega) x (l.set i y) (aSet y.1 i m) (by simpa using hal) hU' (hI.move hi hy hne)
        exact ⟨p, e1, e2, e3, e4.trans (set_move_perm hi hy hne)⟩
      · rw [if_neg hlt]
        exact stop fun z _ hz => by rw [hy] at hz; cases hz; simpa using hlt
    · simp only [h0, dif_neg, not_false_eq_true]
      exact stop fun z h _ => absurd h h0
theorem kidOf_spec (l : List It) (i : Nat) (h : 2 * i + 1 < l.length) : ∃ y, l[kidOf l i]? = some y ∧ (kidOf l i - 1) / 2 = i ∧ 0 < kidOf l i ∧ ∀ k z, 0 < k → (k - 1) / 2 = i → l[k]? = some z → itLt z y = false := by
  have h1 : l[2 * i + 1]? = some l[2 * i + 1] := List.getElem?_eq_getElem h
  unfold kidOf
  rw [h1]
  by_cases h2 : 2 * i + 2 < l.length
  · have h3 : l[2 * i + 2]? = some l[2 * i + 2] := List.getElem?_eq_getElem h2
    rw [h3]
    simp only
    by_cases hlt : itLt l[2 * i + 2] l[2 * i + 1] = true
    · rw [if_pos hlt]
      refine ⟨_, h3, by omega, by omega, fun k z hk0 hk hz => ?_⟩
      have : k = 2 * i + 1 ∨ k = 2 * i + 2 := by omega
      rcases this with rfl | rfl
      · rw [h1] at hz; cases hz; exact itSWO.asym _ _ hlt
      · rw [h3] at hz; cases hz; exact itSWO.irr _
    · rw [if_neg hlt]
      refine ⟨_, h1, by omega, by omega, fun k z hk0 hk hz => ?_⟩
      have : k = 2 * i + 1 ∨ k = 2 * i + 2 := by omega
      rcases this with rfl | rfl
      · rw [h1] at hz; cases hz; exact itSWO.irr _
      · rw [h3] at hz; cases hz; simpa using hlt
  · rw [List.getElem?_eq_none (l := l) (i := 2 * i + 2) (by omega)]
    simp only
    refine ⟨_, h1, by omega, by omega, fun k z hk0 hk hz => ?_⟩
    have := (List.getElem?_eq_some_iff.1 hz).1
    have : k = 2 * i + 1 := by omega
    subst this; rw [h1] at hz; cases hz; exact itSWO.irr _
def Hp (l : List It) : Prop := ∀ k, 0 < k → okAt l k
theorem down_ok : ∀ (d i : Nat) (x : It) (l : List It) (m : Pl), l.length - i < d → i < l.length → Dn l i x → Idx (l.set i x) (aSet x.1 i m) →
    Hp (downL x l m i).1 ∧ Idx (downL x l m i).1 (downL x l m i).2 ∧ (downL x l m i).1.Perm (l.set i x) := by
  intro d
  induction d with
  | zero => intro i x l m hd; omega
  | succ d ih =>
    intro i x l m hd hi hD hI
    have stop : (∀ k z, 0 < k → (k - 1) / 2 = i → l[k]? = some z → itLt z x = false) → Hp (l.set i x) ∧ Idx (l.set i x) (aSet x.1 i m) ∧ (l.set i x).Perm (l.set i x) := by
      intro hk
      refine ⟨fun k h0 a b ha hb => ?_, hI, .refl _⟩
      rw [get_set _ _ _ _ hi] at ha hb
      by_cases k1 : k = i
      · rw [if_pos k1] at ha; cases ha
        rw [if_neg (by omega)] at hb
        subst k1; exact hD.p b h0 hb
      · rw [if_neg k1] at ha
        by_cases k2 : (k - 1) / 2 = i
        · rw [if_pos k2] at hb; cases hb
          exact hk k a h0 k2 ha
        · rw [if_neg k2] at hb
          exact hD.o k h0 k1 k2 a b ha hb
    rw [downL]
    by_cases h : 2 * i + 1 < l.length
    · simp only [h, dif_pos]
      obtain ⟨y, hy, hc, hc0, hmin⟩ := kidOf_spec l i h
      have hgt := kidOf_gt l i
      rw [hy]; simp only
      generalize kidOf l i = c at *
      have hcl : c < l.length := (List.getElem?_eq_some_iff.1 hy).1
      by_cases hlt : itLt y x = true
      · rw [if_pos hlt]
        have hne : c ≠ i := by omega
        have hD' : Dn (l.set i y) c x := by
          refine ⟨?_, ?_, ?_⟩
          · intro k h1 h2 h3 a b ha hb
            rw [get_set _ _ _ _ hi] at ha hb
            by_cases k1 : k = i
            · rw [if_pos k1] at ha; cases ha
              rw [if_neg (by omega)] at hb
              exact hD.c c _ b hc0 (by omega) hc hy (by rw [← k1]; exact hb)
            · rw [if_neg k1] at ha
              by_cases k2 : (k - 1) / 2 = i
              · rw [if_pos k2] at hb; cases hb
                exact hmin k a h1 k2 ha
              · rw [if_neg k2] at hb
                exact hD.o k h1 k1 k2 a b ha hb
          · intro b h0 hb
            rw [get_set _ _ _ _ hi, hc, if_pos rfl] at hb; cases hb
            exact itSWO.asym _ _ hlt
          · intro k a b h1 h0 h2 ha hb
            rw [get_set _ _ _ _ hi, hc, if_pos rfl] at hb; cases hb
            rw [get_set _ _ _ _ hi, if_neg (by omega)] at ha
            exact hD.o k h1 (by omega) (by omega) a _ ha (by rw [h2]; exact hy)
        obtain ⟨e1, e2, e3⟩ := ih c x (l.set i y) (aSet y.1 i m) (by simp; omega) (by simpa using hcl) hD' (hI.move hi hy hne)
        exact ⟨e1, e2, e3.trans (set_move_perm hi hy hne)⟩
      · rw [if_neg hlt]
        refine stop fun k z h0 hk hz => ?_
        have := hmin k z h0 hk hz
        exact itSWO.tr _ _ _ (by simpa using hlt) this
    · simp only [h, dif_neg, not_false_eq_true]
      refine stop fun k z h0 hk hz => ?_
      have := (List.getElem?_eq_some_iff.1 hz).1
      omega
theorem upL_len : ∀ (i : Nat) (x : It) (l : List It) (m : Pl), (upL x l m i).1.length = l.length := by
  intro i
  induction i using Nat.strongRecOn with
  | ind i ih =>
    intro x l m
    rw [upL]
    split
    · split
      · split
        · rw [ih _ (by omega)]; simp
        · simp
      · simp
    · simp
/-- a member is put to a place, and moved to where it belongs -/
theorem fix_ok {l : List It} {m : Pl} {i : Nat} {x : It} (hi : l[i]? = some x) (hU : Up l i x) (hI : Idx l m) :
    ∃ p, p < l.length ∧ aGet x.1 (upL x l m i).2 = some (p : Int) ∧ (upL x l m i).1[p]? = some x ∧
      Hp (downL x (upL x l m i).1 (upL x l m i).2 p).1 ∧ Idx (downL x (upL x l m i).1 (upL x l m i).2 p).1 (downL x (upL x l m i).1 (upL x l m i).2 p).2 ∧ (downL x (upL x l m i).1 (upL x l m i).2 p).1.Perm l := by
  have hil : i < l.length := (List.getElem?_eq_some_iff.1 hi).1
  have es : ∀ (l : List It) (i : Nat), l[i]? = some x → l.set i x = l := fun l i h => by
    obtain ⟨h1, h2⟩ := List.getElem?_eq_some_iff.1 h
    rw [← h2]; simp
  have em : ∀ (m : Pl) (i : Nat), aGet x.1 m = some (i : Int) → ∀ k, aGet k (aSet x.1 (i : Int) m) = aGet k m := fun m i h k => by
    rw [aGet_set]; split
    · rename_i e; rw [e, h]
    · rfl
  obtain ⟨p, e1, e2, e3, e4⟩ := up_ok i x l m hil hU (by rw [es l i hi]; exact hI.ext (em m i (hI.b i x hi)))
  have hp : p < (upL x l m i).1.length := (List.getElem?_eq_some_iff.1 e1).1
  have hg := e3.b p x e1
  obtain ⟨g1, g2, g3⟩ := down_ok _ p x (upL x l m i).1 (upL x l m i).2 (Nat.lt_succ_self _) hp e2 (by rw [es _ p e1]; exact e3.ext (em _ p hg))
  refine ⟨p, by rw [upL_len] at hp; exact hp, hg, e1, g1, g2, g3.trans ?_⟩
  rw [es _ p e1]; rw [es l i hi] at e4; exact e4
end Go.Proofs.Gong
