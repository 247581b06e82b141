/- A part of the proofs: what stands below it, told in lemmas. No condition. -/
import Derived.Test.YtpbfmiphjcmjjaaHp0
set_option linter.all false
namespace Go.Proofs.Gong
open Go.Sx
/-! the same as one list in order -/
def Asc (M : List It) : Prop := M.Pairwise fun x y => itLt y x = false
def dropM (id : Int) (M : List It) : List It := M.filter fun x => decide (x.1 ≠ id)
def insM (x : It) (M : List It) : List It := M.takeWhile (fun y => itLt y x) ++ x :: M.dropWhile (fun y => itLt y x)
def getM (id : Int) (M : List It) : Option Int := (M.find? fun x => decide (x.1 = id)).map (·.2)
theorem insM_perm (x : It) (M : List It) : (insM x M).Perm (x :: M) := by
  unfold insM
  refine List.perm_middle.trans ?_
  rw [List.takeWhile_append_dropWhile]
theorem Asc.ins {M : List It} (h : Asc M) (x : It) : Asc (insM x M) := by
  induction M with
  | nil => simp [insM, Asc]
  | cons y M ih =>
    unfold Asc at h
    rw [List.pairwise_cons] at h
    obtain ⟨h1, h2⟩ := h
    by_cases hlt : itLt y x = true
    · have e : insM x (y :: M) = y :: insM x M := by simp [insM, hlt]
      rw [e]
      unfold Asc
      rw [List.pairwise_cons]
      refine ⟨fun z hz => ?_, ih h2⟩
      rcases List.mem_cons.1 ((insM_perm x M).subset hz) with rfl | hz
      · exact itSWO.asym _ _ hlt
      · exact h1 z hz
    · have e : insM x (y :: M) = x :: y :: M := by simp [insM, hlt]
      rw [e]
      unfold Asc
      rw [List.pairwise_cons]
      refine ⟨fun z hz => ?_, List.pairwise_cons.2 ⟨h1, h2⟩⟩
      rcases List.mem_cons.1 hz with rfl | hz
      · simpa using hlt
      · exact itSWO.tr _ _ _ (by simpa using hlt) (h1 z hz)
theorem Asc.drop {M : List It} (h : Asc M) (id : Int) : Asc (dropM id M) := List.Pairwise.sublist List.filter_sublist h
theorem Asc.eq {M N : List It} (h : Asc M) (h' : Asc N) (p : M.Perm N) : M = N := sorted_unique (lt := itLt) (fun a b h1 h2 => itTot a b h1 h2) p h h'
structure HRep (l : List It) (m : Pl) (M : List It) : Prop where
  i : Idx l m
  h : Hp l
  p : l.Perm M
  s : Asc M
theorem Hp.first {l : List It} (h : Hp l) {x : It} (hx : l[0]? = some x) : ∀ y ∈ l, itLt y x = false := by
  have key : ∀ (k : Nat) (y : It), l[k]? = some y → itLt y x = false := by
    intro k
    induction k using Nat.strongRecOn with
    | ind k ih =>
      intro y hy
      by_cases h0 : 0 < k
      · have hk : k < l.length := (List.getElem?_eq_some_iff.1 hy).1
        have hz : l[(k - 1) / 2]? = some l[(k - 1) / 2] := List.getElem?_eq_getElem (by omega)
        exact itSWO.tr _ _ _ (ih _ (by omega) _ hz) (h k h0 y _ hy hz)
      · have : k = 0 := by omega
        subst this; rw [hx] at hy; cases hy; exact itSWO.irr _
  intro y hy
  obtain ⟨k, hk⟩ := List.getElem?_of_mem hy
  exact key k y hk
theorem HRep.first {l : List It} {m : Pl} {M : List It} (R : HRep l m M) : l.head? = M.head? := by
  cases l with
  | nil => have := R.p.length_eq; simp at this; rw [List.eq_nil_of_length_eq_zero this.symm]
  | cons x l =>
    cases M with
    | nil => have := R.p.length_eq; simp at this
    | cons y M =>
      have h1 := R.h.first (x := x) rfl y (R.p.symm.subset (by simp))
      have h2 : itLt x y = false := by
        rcases List.mem_cons.1 (R.p.subset (show x ∈ x :: l by simp)) with e | e
        · rw [e]; exact itSWO.irr _
        · exact (List.pairwise_cons.1 R.s).1 x e
      have := itTot x y h2 h1
      simp [this]
theorem HRep.ids {l : List It} {m : Pl} {M : List It} (R : HRep l m M) : (M.map (·.1)).Nodup := by
  have : (l.map (·.1)).Nodup := by
    rw [List.nodup_iff_pairwise_ne, List.pairwise_iff_getElem]
    intro i j hi hj hij e
    simp at hi hj e
    have := R.i.inj (List.getElem?_eq_getElem hi) (List.getElem?_eq_getElem hj) e
    omega
  exact (R.p.map _).nodup this
theorem find_of {M : List It} {id t : Int} (hn : (M.map (·.1)).Nodup) (hm : (id, t) ∈ M) : getM id M = some t := by
  induction M with
  | nil => simp at hm
  | cons x M ih =>
    simp only [List.map_cons, List.nodup_cons] at hn
    rcases List.mem_cons.1 hm with rfl | hm
    · simp [getM]
    · have : x.1 ≠ id := fun e => hn.1 (by rw [e]; exact List.mem_map_of_mem (f := (·.1)) hm)
      have := ih hn.2 hm
      unfold getM at *
      rw [List.find?_cons, decide_eq_false ‹x.1 ≠ id›]
      exact this
theorem find_none {M : List It} {id : Int} (h : ∀ t, (id, t) ∉ M) : getM id M = none := by
  unfold getM
  rw [Option.map_eq_none_iff, List.find?_eq_none]
  intro x hx
  simp
  intro e
  exact h x.2 (by rw [← e]; exact hx)
theorem HRep.get {l : List It} {m : Pl} {M : List It} (R : HRep l m M) (id : Int) :
    (∃ (k : Nat) (t : Int), aGet id m = some (k : Int) ∧ l[k]? = some (id, t) ∧ getM id M = some t) ∨ (aGet id m = none ∧ getM id M = none ∧ ∀ t, (id, t) ∉ M) := by
  cases h : aGet id m with
  | some j =>
    obtain ⟨k, t, rfl, hl⟩ := R.i.a id j h
    exact .inl ⟨k, t, rfl, hl, find_of R.ids (R.p.subset (List.mem_of_getElem? hl))⟩
  | none =>
    have hn : ∀ t, (id, t) ∉ M := by
      intro t ht
      obtain ⟨k, hk⟩ := List.getElem?_of_mem (R.p.symm.subset ht)
      have := R.i.b k _ hk
      simp [h] at this
    exact .inr ⟨rfl, find_none hn, hn⟩
theorem drop_absent {M : List It} {id : Int} (h : ∀ t, (id, t) ∉ M) : dropM id M = M := by
  unfold dropM
  rw [List.filter_eq_self]
  intro x hx
  simp
  intro e
  exact h x.2 (by rw [← e]; exact hx)
theorem drop_perm {M : List It} {id t : Int} (hn : (M.map (·.1)).Nodup) (hm : (id, t) ∈ M) : ((id, t) :: dropM id M).Perm M := by
  induction M with
  | nil => simp at hm
  | cons x M ih =>
    simp only [List.map_cons, List.nodup_cons] at hn
    rcases List.mem_cons.1 hm with rfl | hm'
    · have : dropM id ((id, t) :: M) = dropM id M := by simp [dropM]
      rw [this, drop_absent fun t' h => hn.1 (List.mem_map_of_mem (f := (·.1)) h)]
    · have hne : x.1 ≠ id := fun e => hn.1 (by rw [e]; exact List.mem_map_of_mem (f := (·.1)) hm')
      have : dropM id (x :: M) = x :: dropM id M := by simp [dropM, hne]
      rw [this]
      exact (List.Perm.swap _ _ _).trans ((ih hn.2 hm').cons x)
end Go.Proofs.Gong
