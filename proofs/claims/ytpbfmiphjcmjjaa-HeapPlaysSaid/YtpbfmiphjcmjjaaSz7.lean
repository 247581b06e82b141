/- A part of the proofs: what stands below it, told in lemmas. No condition. -/
import Derived.Test.YtpbfmiphjcmjjaaSz6
set_option linter.all false
namespace Go.Sx
/-! sorting in place: what a list may become -/
section
variable {α : Type}
/-- l' has the members of l, and outside [a, b) the same ones -/
structure PermOn (a b : Nat) (l l' : List α) : Prop where
  perm : l'.Perm l
  out : ∀ i, (i < a ∨ b ≤ i) → l'[i]? = l[i]?
theorem PermOn.refl (a b : Nat) (l : List α) : PermOn a b l l := ⟨.refl _, fun _ _ => rfl⟩
theorem PermOn.trans {a b : Nat} {l m n : List α} (h : PermOn a b l m) (h' : PermOn a b m n) : PermOn a b l n := ⟨h'.perm.trans h.perm, fun i hi => (h'.out i hi).trans (h.out i hi)⟩
theorem PermOn.wide {a b a' b' : Nat} {l m : List α} (h : PermOn a b l m) (ha : a' ≤ a) (hb : b ≤ b') : PermOn a' b' l m := ⟨h.perm, fun i hi => h.out i (by omega)⟩
theorem PermOn.len {a b : Nat} {l m : List α} (h : PermOn a b l m) : m.length = l.length := h.perm.length_eq
theorem take_eq_of {l m : List α} {a : Nat} (h : ∀ i, i < a → m[i]? = l[i]?) : m.take a = l.take a := by
  apply List.ext_getElem?
  intro i
  simp only [List.getElem?_take]
  split
  · exact h i ‹_›
  · rfl
theorem drop_eq_of {l m : List α} {a : Nat} (h : ∀ i, a ≤ i → m[i]? = l[i]?) : m.drop a = l.drop a := by
  apply List.ext_getElem?
  intro i
  simp only [List.getElem?_drop]
  exact h _ (by omega)
theorem PermOn.mid {a b : Nat} {l m : List α} (h : PermOn a b l m) (hab : a ≤ b) : ((m.take b).drop a).Perm ((l.take b).drop a) := by
  have e : ∀ x : List α, x = x.take a ++ ((x.take b).drop a ++ x.drop b) := fun x => by
    have : x.take a = (x.take b).take a := by rw [List.take_take, Nat.min_eq_left hab]
    rw [this, ← List.append_assoc, List.take_append_drop, List.take_append_drop]
  have hp := h.perm
  rw [e m, e l, take_eq_of fun i hi => h.out i (.inl hi), drop_eq_of fun i hi => h.out i (.inr hi)] at hp
  have := (List.perm_append_left_iff _).1 hp
  exact (List.perm_append_right_iff _).1 this
/-- what holds of all members of a range goes on to hold -/
theorem PermOn.all {a b : Nat} {l m : List α} (h : PermOn a b l m) {p : α → Prop} (hp : ∀ i x, a ≤ i → i < b → l[i]? = some x → p x) : ∀ i x, a ≤ i → i < b → m[i]? = some x → p x := by
  intro i x ha hb hx
  have hm : x ∈ (m.take b).drop a := by
    apply List.mem_of_getElem? (i := i - a)
    rw [List.getElem?_drop, List.getElem?_take_of_lt (by omega), show a + (i - a) = i by omega, hx]
  have := (h.mid (by omega)).subset hm
  obtain ⟨j, hj⟩ := List.getElem?_of_mem this
  have hj' := hj
  rw [List.getElem?_drop, List.getElem?_take] at hj
  split at hj
  · exact hp (a + j) x (by omega) ‹_› hj
  · cases hj
def swapL (l : List α) (i j : Nat) : List α := match l[i]?, l[j]? with | some x, some y => (l.set i y).set j x | _, _ => l
theorem swapL_eq {l : List α} {i j : Nat} (hi : i < l.length) (hj : j < l.length) : swapL l i j = (l.set i l[j]).set j l[i] := by simp [swapL, hi, hj]
theorem swapL_get {l : List α} {i j : Nat} (hi : i < l.length) (hj : j < l.length) (k : Nat) : (swapL l i j)[k]? = if k = j then some l[i] else if k = i then some l[j] else l[k]? := by
  rw [swapL_eq hi hj]
  simp only [List.getElem?_set, List.length_set]
  by_cases h1 : j = k
  · subst h1; simp [hj]
  · by_cases h2 : i = k
    · subst h2; simp [h1, hi, Ne.symm h1]
    · simp [h1, h2, Ne.symm h1, Ne.symm h2]
theorem swapL_len (l : List α) (i j : Nat) : (swapL l i j).length = l.length := by
  unfold swapL; split <;> simp
theorem swapL_perm {l : List α} {i j : Nat} (hi : i < l.length) (hj : j < l.length) : (swapL l i j).Perm l := by
  have h := Array.swap_perm (xs := l.toArray) (i := i) (j := j) (by simpa using hi) (by simpa using hj)
  have e : (l.toArray.swap i j (by simpa using hi) (by simpa using hj)).toList = swapL l i j := by
    rw [swapL_eq hi hj]; simp [Array.swap]
  have := h.toList
  rw [e] at this
  exact this
theorem PermOn.swap {a b i j : Nat} {l : List α} (hi : a ≤ i ∧ i < b) (hj : a ≤ j ∧ j < b) (hb : b ≤ l.length) : PermOn a b l (swapL l i j) :=
  ⟨swapL_perm (by omega) (by omega), fun k hk => by
    rw [swapL_get (by omega) (by omega)]
    rw [if_neg (by omega), if_neg (by omega)]⟩

structure SWO (lt : α → α → Bool) : Prop where
  asym : ∀ a b, lt a b = true → lt b a = false
  tr : ∀ a b c, lt b a = false → lt c b = false → lt c a = false
variable {lt : α → α → Bool}
theorem SWO.lt_le {a b c : α} (S : SWO lt) (h : lt a b = true) (h' : lt c b = false) : lt a c = true := by
  cases h2 : lt a c with
  | true => rfl
  | false => have := S.tr b c a h' h2; rw [this] at h; cases h
theorem SWO.le_lt {a b c : α} (S : SWO lt) (h : lt b a = false) (h' : lt b c = true) : lt a c = true := by
  cases h2 : lt a c with
  | true => rfl
  | false => have := S.tr c a b h2 h; rw [this] at h'; cases h'
theorem SWO.irr (S : SWO lt) (a : α) : lt a a = false := by
  cases h : lt a a with
  | false => rfl
  | true => have := S.asym a a h; rw [this] at h; cases h
def SortOn (lt : α → α → Bool) (a b : Nat) (l : List α) : Prop := ∀ i j x y, a ≤ i → i < j → j < b → l[i]? = some x → l[j]? = some y → lt y x = false
theorem SortOn.small {a b : Nat} {l : List α} (h : b ≤ a + 1) : SortOn lt a b l := fun i j x y h1 h2 h3 => by omega
theorem SortOn.of_eq {a b : Nat} {l m : List α} (h : SortOn lt a b l) (e : ∀ i, a ≤ i → i < b → m[i]? = l[i]?) : SortOn lt a b m :=
  fun i j x y h1 h2 h3 hx hy => h i j x y h1 h2 h3 (by rw [← e i h1 (by omega)]; exact hx) (by rw [← e j (by omega) h3]; exact hy)
/-- sorted step by step -/
theorem SortOn.step (S : SWO lt) {a b : Nat} {l : List α} (h : ∀ i x y, a ≤ i → i + 1 < b → l[i]? = some x → l[i + 1]? = some y → lt y x = false) : SortOn lt a b l := by
  intro i j x y h1 h2 h3 hx hy
  induction j generalizing y with
  | zero => omega
  | succ j ih =>
    by_cases e : i = j
    · subst e; exact h i x y h1 h3 hx hy
    · have hj : j < l.length := by have := (List.getElem?_eq_some_iff.1 hy).1; omega
      have hz : l[j]? = some l[j] := List.getElem?_eq_getElem hj
      exact S.tr _ _ _ (ih l[j] (by omega) (by omega) hz) (h j l[j] y (by omega) h3 hz hy)
/-- a middle that is between -/
theorem SortOn.join (S : SWO lt) {a m b : Nat} {l : List α} {p : α} (hm : l[m]? = some p) (h1 : SortOn lt a m l) (h2 : SortOn lt (m + 1) b l)
    (hl : ∀ i x, a ≤ i → i < m → l[i]? = some x → lt p x = false) (hr : ∀ i x, m < i → i < b → l[i]? = some x → lt x p = false) : SortOn lt a b l := by
  intro i j x y g1 g2 g3 hx hy
  rcases Nat.lt_trichotomy j m with h | h | h
  · exact h1 i j x y g1 g2 h hx hy
  · subst h; rw [hm] at hy; cases hy; exact hl i x g1 g2 hx
  · rcases Nat.lt_trichotomy i m with g | g | g
    · exact S.tr _ _ _ (hl i x g1 g hx) (hr j y h g3 hy)
    · subst g; rw [hm] at hx; cases hx; exact hr j y h g3 hy
    · exact h2 i j x y (by omega) g2 g3 hx hy
theorem SortOn.sorted {l : List α} (h : SortOn lt 0 l.length l) : l.Pairwise fun x y => lt y x = false := by
  rw [List.pairwise_iff_getElem]
  intro i j hi hj hij
  exact h i j _ _ (by omega) hij hj (List.getElem?_eq_getElem hi) (List.getElem?_eq_getElem hj)
/-- two sorted lists of the same members are one, where the order is of all -/
theorem sorted_unique (ht : ∀ a b, lt a b = false → lt b a = false → a = b) {l m : List α} (hp : l.Perm m) (hl : l.Pairwise fun x y => lt y x = false) (hm : m.Pairwise fun x y => lt y x = false) : l = m :=
  hp.eq_of_pairwise (fun a b _ _ h1 h2 => ht a b h2 h1) hl hm
end
end Go.Sx
