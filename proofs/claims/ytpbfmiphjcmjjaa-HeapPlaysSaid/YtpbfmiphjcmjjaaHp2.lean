/- A part of the proofs: what stands below it, told in lemmas. No condition. -/
import Derived.Test.YtpbfmiphjcmjjaaHp1
set_option linter.all false
namespace Go.Proofs.Gong
open Go.Sx
def setM (id t : Int) (M : List It) : List It := insM (id, t) (dropM id M)
theorem set_perm {l : List It} {k : Nat} {x y : It} (hk : l[k]? = some y) : (y :: l.set k x).Perm (x :: l) := by
  obtain ⟨h1, h2⟩ := List.getElem?_eq_some_iff.1 hk
  have e1 : l = l.take k ++ y :: l.drop (k + 1) := by rw [← h2, List.getElem_cons_drop, List.take_append_drop]
  have e2 : l.set k x = l.take k ++ x :: l.drop (k + 1) := by rw [List.set_eq_take_append_cons_drop, if_pos h1]
  rw [e2]
  refine (List.perm_middle.cons y).trans ?_
  refine (List.Perm.swap _ _ _).trans ?_
  refine List.Perm.cons x ?_
  refine List.perm_middle.symm.trans ?_
  rw [← e1]
theorem Hp.up_set {l : List It} (h : Hp l) {k : Nat} {x : It} (hk : k < l.length) : Up (l.set k x) k x := by
  have hy : l[k]? = some l[k] := List.getElem?_eq_getElem hk
  constructor
  · intro j h0 h1 h2 a b ha hb
    rw [get_set _ _ _ _ hk, if_neg h1] at ha
    rw [get_set _ _ _ _ hk, if_neg h2] at hb
    exact h j h0 a b ha hb
  · intro j y z h0 h1 h2 hy' hz
    rw [get_set _ _ _ _ hk, if_neg (by omega)] at hy'
    rw [get_set _ _ _ _ hk, if_neg (by omega)] at hz
    have a1 := h j h0 y l[k] hy' (by rw [h2]; exact hy)
    have a2 := h k h1 l[k] z hy hz
    exact itSWO.tr _ _ _ a2 a1
theorem aSet_same {m : Pl} {id : Int} {j : Int} (h : aGet id m = some j) (k : Int) : aGet k (aSet id j m) = aGet k m := by
  rw [aGet_set]; split
  · rename_i e; rw [e, h]
  · rfl
theorem HRep.put {l : List It} {m : Pl} {M : List It} (R : HRep l m M) {k : Nat} {id t t' : Int} (hl : l[k]? = some (id, t)) :
    Up (l.set k (id, t')) k (id, t') ∧ Idx (l.set k (id, t')) (aSet id k m) ∧ (l.set k (id, t')).Perm (setM id t' M) := by
  have hk : k < l.length := (List.getElem?_eq_some_iff.1 hl).1
  refine ⟨R.h.up_set hk, ?_, ?_⟩
  · have h0 := R.i
    have hg := R.i.b k _ hl
    constructor
    · intro id' j hj
      rw [aSet_same hg] at hj
      obtain ⟨k', t'', rfl, h2⟩ := h0.a id' j hj
      by_cases e : k' = k
      · subst e; rw [hl] at h2; cases h2
        exact ⟨k', t', rfl, by simp [hk]⟩
      · exact ⟨k', t'', rfl, by rw [get_set _ _ _ _ hk, if_neg e]; exact h2⟩
    · intro j y hy
      rw [aSet_same hg]
      rw [get_set _ _ _ _ hk] at hy
      by_cases e : j = k
      · rw [if_pos e] at hy; cases hy; subst e; exact hg
      · rw [if_neg e] at hy; exact h0.b j y hy
  · have h1 := set_perm (x := (id, t')) hl
    have hm : (id, t) ∈ M := R.p.subset (List.mem_of_getElem? hl)
    have h2 : ((id, t') :: l).Perm ((id, t) :: (id, t') :: dropM id M) := ((R.p.trans (drop_perm R.ids hm).symm).cons _).trans (List.Perm.swap _ _ _)
    have h3 := (h1.trans h2).cons_inv
    exact h3.trans (insM_perm _ _).symm
theorem HRep.add {l : List It} {m : Pl} {M : List It} (R : HRep l m M) {id t' : Int} (hn : aGet id m = none) :
    Up (l ++ [(id, t')]) l.length (id, t') ∧ Idx (l ++ [(id, t')]) (aSet id l.length m) ∧ (l ++ [(id, t')]).Perm (setM id t' M) := by
  have hnm : ∀ t, (id, t) ∉ M := by
    rcases R.get id with ⟨k, t, h, _⟩ | ⟨_, _, h⟩
    · rw [hn] at h; cases h
    · exact h
  have get : ∀ k, (l ++ [(id, t')])[k]? = if k = l.length then some (id, t') else l[k]? := by
    intro k
    rw [List.getElem?_append]
    by_cases h1 : k < l.length
    · rw [if_pos h1, if_neg (by omega)]
    · rw [if_neg h1]
      by_cases h2 : k = l.length
      · simp [h2]
      · rw [if_neg h2, List.getElem?_eq_none (by simp; omega), List.getElem?_eq_none (by omega)]
  refine ⟨⟨?_, ?_⟩, ⟨?_, ?_⟩, ?_⟩
  · intro k h0 h1 h2 a b ha hb
    rw [get, if_neg h1] at ha
    rw [get, if_neg h2] at hb
    exact R.h k h0 a b ha hb
  · intro k y z h0 h1 h2 hy hz
    rw [get, if_neg (by omega)] at hy
    have := (List.getElem?_eq_some_iff.1 hy).1
    omega
  · intro id' j hj
    rw [aGet_set] at hj
    by_cases e : id' = id
    · simp [e] at hj; subst hj
      exact ⟨l.length, t', rfl, by rw [get]; simp [e]⟩
    · simp only [e, if_false] at hj
      obtain ⟨k, t, rfl, hk⟩ := R.i.a id' j hj
      have := (List.getElem?_eq_some_iff.1 hk).1
      exact ⟨k, t, rfl, by rw [get, if_neg (by omega)]; exact hk⟩
  · intro k x hx
    rw [get] at hx
    rw [aGet_set]
    by_cases e : k = l.length
    · rw [if_pos e] at hx; cases hx; simp [e]
    · rw [if_neg e] at hx
      have h1 := R.i.b k x hx
      have : x.1 ≠ id := fun e => by rw [e, hn] at h1; cases h1
      rw [if_neg this]; exact h1
  · refine List.Perm.trans ?_ (insM_perm _ _).symm
    rw [drop_absent hnm]
    exact List.perm_append_comm.trans (R.p.cons _)
theorem aGet_del {κ ν : Type} [DecidableEq κ] (k k' : κ) : ∀ {m : List (κ × ν)}, (m.map Prod.fst).Nodup → aGet k (aDel k' m) = if k = k' then none else aGet k m
  | [], _ => by simp [aDel, aGet]
  | y :: r, h => by
    simp only [List.map_cons, List.nodup_cons] at h
    by_cases h' : k' = y.1
    · have hn : aGet y.1 r = none := by
        cases hx : aGet y.1 r with
        | none => rfl
        | some v => exact absurd (List.mem_map_of_mem (f := Prod.fst) (aGet_mem hx)) h.1
      by_cases h1 : k = k'
      · simp [aDel, h', h1, hn]
      · have : ¬ k = y.1 := fun e => h1 (e.trans h'.symm)
        simp [aDel, aGet, h', this]
    · by_cases h1 : k = y.1
      · have : ¬ k = k' := fun e => h' (e.symm.trans h1)
        have : ¬ y.1 = k' := fun e => h' e.symm
        simp [aDel, aGet, h', h1, this]
      · simp [aDel, aGet, h', h1, aGet_del k k' h.2]
theorem dropLast_get (l : List It) (k : Nat) : l.dropLast[k]? = if k + 1 < l.length then l[k]? else none := by
  rw [List.dropLast_eq_take, List.getElem?_take]
  by_cases h : k < l.length - 1
  · rw [if_pos h, if_pos (by omega)]
  · rw [if_neg h, if_neg (by omega)]
/-- the last one is dropped -/
theorem HRep.dropLast {l : List It} {m : Pl} {M : List It} (R : HRep l m M) (hd : (m.map Prod.fst).Nodup) {id t : Int} (hl : l[l.length - 1]? = some (id, t)) : HRep l.dropLast (aDel id m) (dropM id M) := by
  have hlen : 0 < l.length := by have := (List.getElem?_eq_some_iff.1 hl).1; omega
  have hm : (id, t) ∈ M := R.p.subset (List.mem_of_getElem? hl)
  refine ⟨⟨?_, ?_⟩, ?_, ?_, R.s.drop id⟩
  · intro id' j hj
    rw [aGet_del _ _ hd] at hj
    by_cases e : id' = id
    · simp [e] at hj
    · simp only [e, if_false] at hj
      obtain ⟨k, t', rfl, hk⟩ := R.i.a id' j hj
      refine ⟨k, t', rfl, ?_⟩
      have := (List.getElem?_eq_some_iff.1 hk).1
      have hne : k ≠ l.length - 1 := fun e' => by subst e'; rw [hl] at hk; cases hk; exact e rfl
      rw [dropLast_get, if_pos (by omega)]; exact hk
  · intro k x hx
    rw [dropLast_get] at hx
    split at hx
    · rename_i h1
      have h2 := R.i.b k x hx
      have : x.1 ≠ id := fun e => by have := R.i.inj hx hl e; omega
      rw [aGet_del _ _ hd, if_neg this]; exact h2
    · cases hx
  · intro k h0 a b ha hb
    rw [dropLast_get] at ha hb
    split at ha
    · split at hb
      · exact R.h k h0 a b ha hb
      · cases hb
    · cases ha
  · have e : l = l.dropLast ++ [(id, t)] := by
      have hne : l ≠ [] := fun e => by simp [e] at hlen
      have := List.dropLast_concat_getLast hne
      rw [List.getLast_eq_getElem] at this
      have h2 := (List.getElem?_eq_some_iff.1 hl).2
      rw [h2] at this; exact this.symm
    have h1 : ((id, t) :: l.dropLast).Perm ((id, t) :: dropM id M) := by
      refine List.Perm.trans ?_ (R.p.trans (drop_perm R.ids hm).symm)
      conv => rhs; rw [e]
      exact (List.perm_append_comm (l₁ := [(id, t)]) (l₂ := l.dropLast))
    exact h1.cons_inv
/-- another one is dropped, and the last one comes to its place -/
theorem HRep.dropAt {l : List It} {m : Pl} {M : List It} (R : HRep l m M) (hd : (m.map Prod.fst).Nodup) {id t : Int} {i : Nat} {x : It} (hi : l[i]? = some (id, t)) (hx : l[l.length - 1]? = some x) (hlt : i + 1 < l.length) :
    Up (l.dropLast.set i x) i x ∧ Idx (l.dropLast.set i x) (aSet x.1 i (aDel id m)) ∧ (l.dropLast.set i x).Perm (dropM id M) := by
  have hm : (id, t) ∈ M := R.p.subset (List.mem_of_getElem? hi)
  have hil : i < l.dropLast.length := by simp; omega
  have hxid : x.1 ≠ id := fun e => by have := R.i.inj hx hi e; omega
  have hi' : l.dropLast[i]? = some (id, t) := by rw [dropLast_get, if_pos hlt]; exact hi
  have hh : Hp l.dropLast := by
    intro k h0 a b ha hb
    rw [dropLast_get] at ha hb
    split at ha
    · split at hb
      · exact R.h k h0 a b ha hb
      · cases hb
    · cases ha
  refine ⟨hh.up_set hil, ⟨?_, ?_⟩, ?_⟩
  · intro id' j hj
    rw [aGet_set] at hj
    by_cases e1 : id' = x.1
    · simp [e1] at hj; subst hj
      exact ⟨i, x.2, rfl, by rw [get_set _ _ _ _ hil]; simp [e1]⟩
    · simp only [e1, if_false] at hj
      rw [aGet_del _ _ hd] at hj
      by_cases e : id' = id
      · simp [e] at hj
      · simp only [e, if_false] at hj
        obtain ⟨k, t', rfl, hk⟩ := R.i.a id' j hj
        refine ⟨k, t', rfl, ?_⟩
        have := (List.getElem?_eq_some_iff.1 hk).1
        have h1 : k ≠ l.length - 1 := fun e' => by subst e'; rw [hx] at hk; cases hk; exact e1 rfl
        have h2 : k ≠ i := fun e' => by subst e'; rw [hi] at hk; cases hk; exact e rfl
        rw [get_set _ _ _ _ hil, if_neg h2, dropLast_get, if_pos (by omega)]; exact hk
  · intro k y hy
    rw [get_set _ _ _ _ hil] at hy
    rw [aGet_set]
    by_cases e : k = i
    · rw [if_pos e] at hy; cases hy; simp [e]
    · rw [if_neg e, dropLast_get] at hy
      split at hy
      · rename_i h1
        have h2 := R.i.b k y hy
        have n1 : y.1 ≠ x.1 := fun e' => by have := R.i.inj hy hx e'; omega
        have n2 : y.1 ≠ id := fun e' => by have := R.i.inj hy hi e'; omega
        rw [if_neg n1, aGet_del _ _ hd, if_neg n2]; exact h2
      · cases hy
  · have e : l = l.dropLast ++ [x] := by
      have hne : l ≠ [] := fun e => by simp [e] at hlt
      have := List.dropLast_concat_getLast hne
      rw [List.getLast_eq_getElem] at this
      have h2 := (List.getElem?_eq_some_iff.1 hx).2
      rw [h2] at this; exact this.symm
    have h1 := set_perm (x := x) hi'
    have h2 : (x :: l.dropLast).Perm ((id, t) :: dropM id M) := by
      refine List.Perm.trans ?_ (R.p.trans (drop_perm R.ids hm).symm)
      conv => rhs; rw [e]
      exact (List.perm_append_comm (l₁ := [x]) (l₂ := l.dropLast))
    exact (h1.trans h2).cons_inv
theorem HRep.ofPerm {l : List It} {m : Pl} {M : List It} (hi : Idx l m) (hh : Hp l) (hp : l.Perm M) (hs : Asc M) : HRep l m M := ⟨hi, hh, hp, hs⟩
end Go.Proofs.Gong
