/- A part of the proofs: what stands below it, told in lemmas. No condition. -/
import Derived.Test.YtbebhjcjncjooaaP0
import Derived.Laws.Externs
import Derived.SizedLaws
import Derived.Shelf.SlSortCmp.WholeK
import Derived.Shelf.SlSortCmp.NoneTotal
import Derived.Shelf.SlIterI.Nil
import Derived.Shelf.SlIter.Nil
import Derived.Shelf.SortM.Plain
import Derived.Shelf.SortM.SortNone
import Derived.RangeFuncLeaves
import Derived.RangeFuncBound
import Derived.RangeFuncCalls
import Derived.OwnWalkIn
import Derived.TacticsIn
import Derived.Test.YtbebhjcjncjooaaProg
set_option linter.all false

/- Sz5 -/
namespace Go.Sx
section
variable {κ ν : Type}
structure MapOk (ek : κ → Value) (ev : ν → Value) (es : Array MapEntry) (clock : Nat) (m : List (κ × ν)) : Prop where
  kv : es.toList.map (fun e => (e.key, e.val)) = m.map (fun x => (ek x.1, ev x.2))
  nd : (es.toList.map (·.born)).Nodup
  lt : ∀ e ∈ es.toList, e.born < clock
  kd : (m.map Prod.fst).Nodup
def MapH (ek : κ → Value) (ev : ν → Value) (v : Value) (m : List (κ × ν)) : HP := HEx fun r => HEx fun es => HEx fun clock => HPr (v = .map (some r) ∧ MapOk ek ev es clock m) (Blk r (.map es clock))
variable {ek : κ → Value} {ev : ν → Value} {m : List (κ × ν)} {w0 w : World} {L : List HP} {v : Value}
theorem map_iff : Sat w0 (MapH ek ev v m :: L) w ↔ ∃ r es clock, (v = .map (some r) ∧ MapOk ek ev es clock m) ∧ Sat w0 (Blk r (.map es clock) :: L) w := by
  simp only [MapH, Sat.ex_iff, Sat.pr_iff]
def ItH (ek : κ → Value) (ev : ν → Value) (it v : Value) (m rem : List (κ × ν)) : HP := HEx fun q => HEx fun r => HEx fun es => HEx fun clock => HEx fun seen =>
  HPr (it = ptr q ∧ v = .map (some r) ∧ MapOk ek ev es clock m ∧ (es.toList.filter (fun e => !seen.contains e.born)).map (fun e => (e.key, e.val)) = rem.map (fun x => (ek x.1, ev x.2)) ∧ rem.Sublist m)
    (HSt (Blk q (.mapIter (some r) clock seen clock)) (Blk r (.map es clock)))
theorem it_iff {it : Value} {rem : List (κ × ν)} : Sat w0 (ItH ek ev it v m rem :: L) w ↔ ∃ q r es clock seen, (it = ptr q ∧ v = .map (some r) ∧ MapOk ek ev es clock m ∧ (es.toList.filter (fun e => !seen.contains e.born)).map (fun e => (e.key, e.val)) = rem.map (fun x => (ek x.1, ev x.2)) ∧ rem.Sublist m) ∧
    Sat w0 (Blk q (.mapIter (some r) clock seen clock) :: Blk r (.map es clock) :: L) w := by
  simp only [ItH, Sat.ex_iff, Sat.pr_iff, Sat.star_iff]
theorem map_one (h : Sat w0 (MapH ek ev v m :: L) w) : OneV v := by
  obtain ⟨r, es, c, ⟨rfl, _⟩, _⟩ := map_iff.1 h; infer_instance
theorem it_map {it : Value} {rem : List (κ × ν)} (h : Sat w0 (ItH ek ev it v m rem :: L) w) : Sat w0 (MapH ek ev v m :: L) w := by
  obtain ⟨q, r, es, clock, seen, ⟨_, h2, h3, _⟩, h5⟩ := it_iff.1 h
  exact map_iff.2 ⟨r, es, clock, ⟨h2, h3⟩, h5.drop⟩
theorem map_eraseIdx' {α β : Type} (f : α → β) : ∀ (l : List α) (j : Nat), (l.eraseIdx j).map f = (l.map f).eraseIdx j
  | [], _ => by simp
  | _ :: _, 0 => by simp
  | a :: l, j + 1 => by simp [map_eraseIdx' f l j]
theorem eMakeMap_sat {K : Value → World → Prop} (ek : κ → Value) (ev : ν → Value) (h : Sat w0 L w) (hK : ∀ v w', Sat w0 (MapH ek ev v ([] : List (κ × ν)) :: L) w' → K v w') : eMakeMap none w K :=
  hK _ _ (map_iff.2 ⟨_, _, _, ⟨rfl, ⟨by simp, by simp, by simp, by simp⟩⟩, h.alloc _⟩)
theorem eRange_sat {P : Program} {kt : TypeId} {K : Value → World → Prop} (h : Sat w0 (MapH ek ev v m :: L) w) {t et : TypeId} (hu : P.underlying t = some (.map kt et))
    (hK : ∀ it w', Sat w0 (ItH ek ev it v m m :: L) w' → K it w') : eRange P t v w K := by
  obtain ⟨r, es, clock, ⟨rfl, hm⟩, hs⟩ := map_iff.1 h
  simp only [eRange, hu, hs.blk]
  exact hK _ _ (it_iff.2 ⟨_, r, es, clock, #[], ⟨rfl, rfl, hm, by rw [List.filter_eq_self.2 (by simp)]; exact hm.kv, List.Sublist.refl _⟩, hs.alloc _⟩)
end
section
variable {κ ν : Type} [DecidableEq κ]
def aGet (k : κ) : List (κ × ν) → Option ν
  | [] => none
  | x :: r => if k = x.1 then some x.2 else aGet k r
def aSet (k : κ) (v : ν) : List (κ × ν) → List (κ × ν)
  | [] => [(k, v)]
  | x :: r => if k = x.1 then (k, v) :: r else x :: aSet k v r
def aDel (k : κ) : List (κ × ν) → List (κ × ν)
  | [] => []
  | x :: r => if k = x.1 then r else x :: aDel k r
def aFind (ev : ν → Value) (k : κ) : List (κ × ν) → Nat → Option (Nat × Value)
  | [], _ => none
  | x :: r, i => if k = x.1 then some (i, ev x.2) else aFind ev k r (i + 1)
structure KeyT (P : Program) (kt : TypeId) (ek : κ → Value) : Prop where
  u : (P.underlying kt).isSome = true
  ck : ∀ k, ckv P 10000 kt (ek k) = true
  eq : ∀ a b, eqv P Op.maxDepth kt (ek a) (ek b) = some (decide (a = b))
  sb : ∀ a, Instr.sameBits 10000 (ek a) (ek a) = true
variable {P : Program} {kt : TypeId} {ek : κ → Value} {ev : ν → Value} {m : List (κ × ν)} {k : κ}
theorem aFind_some {j i : Nat} {val : Value} : ∀ {m : List (κ × ν)} {i : Nat}, aFind ev k m i = some (j, val) → ∃ b, i ≤ j ∧ m[j - i]? = some (k, b) ∧ val = ev b ∧ aGet k m = some b ∧ (∀ x, aSet k x m = m.set (j - i) (k, x)) ∧ aDel k m = m.eraseIdx (j - i) := by
  intro m
  induction m with
  | nil => intro i h; simp [aFind] at h
  | cons y r ih =>
    intro i h
    unfold aFind at h
    by_cases hk : k = y.1
    · simp [hk] at h
      obtain ⟨rfl, rfl⟩ := h
      exact ⟨y.2, Nat.le_refl _, by simp [hk], rfl, by simp [aGet, hk], by simp [aSet, hk], by simp [aDel, hk]⟩
    · simp only [hk, if_false] at h
      obtain ⟨b, h1, h2, h3, h4, h5, h6⟩ := ih h
      have e : j - i = j - (i + 1) + 1 := by omega
      exact ⟨b, by omega, by rw [e]; simpa using h2, h3, by simp [aGet, hk, h4], fun x => by rw [e]; simp [aSet, hk, h5], by rw [e]; simp [aDel, hk, h6]⟩
theorem aFind_none : ∀ {m : List (κ × ν)} {i : Nat}, aFind ev k m i = none → aGet k m = none ∧ (∀ x, aSet k x m = m ++ [(k, x)]) ∧ aDel k m = m ∧ k ∉ m.map Prod.fst := by
  intro m
  induction m with
  | nil => intro i _; simp [aGet, aSet, aDel]
  | cons y r ih =>
    intro i h
    unfold aFind at h
    by_cases hk : k = y.1
    · simp [hk] at h
    · simp only [hk, if_false] at h
      obtain ⟨h1, h2, h3, h4⟩ := ih h
      refine ⟨by simp [aGet, hk, h1], fun x => by simp [aSet, hk, h2], by simp [aDel, hk, h3], ?_⟩
      rw [List.map_cons, List.mem_cons]; rintro (h | h)
      · exact hk h
      · exact h4 h
theorem mFind_al (K : KeyT P kt ek) : ∀ (l : List MapEntry) (m : List (κ × ν)) (i : Nat), l.map (fun e => (e.key, e.val)) = m.map (fun x => (ek x.1, ev x.2)) → mFind (eqv P Op.maxDepth kt (ek k)) l i = some (aFind ev k m i) := by
  intro l
  induction l with
  | nil => intro m i h; cases m with | nil => rfl | cons => simp at h
  | cons e l ih =>
    intro m i h
    cases m with
    | nil => simp at h
    | cons x m =>
      simp only [List.map_cons, List.cons.injEq, Prod.mk.injEq] at h
      obtain ⟨⟨h1, h2⟩, h3⟩ := h
      unfold mFind aFind
      rw [h1, K.eq]
      by_cases hk : k = x.1
      · simp [hk, h2]
      · simp [hk, ih _ _ h3]
theorem aGet_mem {k : κ} {x : ν} : ∀ {m : List (κ × ν)}, aGet k m = some x → (k, x) ∈ m
  | [], h => by simp [aGet] at h
  | y :: r, h => by
    unfold aGet at h
    by_cases hk : k = y.1
    · simp [hk] at h; subst h; subst hk; simp
    · simp only [hk, if_false] at h; exact List.mem_cons_of_mem _ (aGet_mem h)
theorem mem_aGet {k : κ} {x : ν} : ∀ {m : List (κ × ν)}, (m.map Prod.fst).Nodup → (k, x) ∈ m → aGet k m = some x
  | [], _, h => by simp at h
  | y :: r, hn, h => by
    simp only [List.map_cons, List.nodup_cons] at hn
    unfold aGet
    rcases List.mem_cons.1 h with rfl | h
    · simp
    · have : ¬ k = y.1 := fun e => hn.1 (by rw [← e]; exact List.mem_map_of_mem (f := Prod.fst) h)
      simp only [this, if_false]; exact mem_aGet hn.2 h
section
variable {w0 w : World} {L : List HP} {v : Value}
theorem look_map (h : Sat w0 (MapH ek ev v m :: L) w) (K : KeyT P kt ek) {t et : TypeId} {z : Value} (hu : P.underlying t = some (.map kt et)) (hz : fZero P et = some z) (ok : Bool) (k : κ) :
    fLook P t v (ek k) ok w = some (if ok then .tuple #[(aGet k m).elim z ev, .bool (aGet k m).isSome] else (aGet k m).elim z ev) := by
  obtain ⟨r, es, clock, ⟨rfl, hm⟩, hs⟩ := map_iff.1 h
  simp only [fLook, hu, mapOf, hs.blk]
  rw [if_pos ⟨K.ck k, K.u⟩, mFind_al K _ _ 0 hm.kv]
  cases hf : aFind ev k m 0 with
  | none => simp [(aFind_none hf).1, hz]
  | some x =>
    obtain ⟨j, val⟩ := x
    obtain ⟨b, _, _, rfl, h4, _⟩ := aFind_some (i := 0) hf
    simp [h4]
theorem look1 (h : Sat w0 (MapH ek ev v m :: L) w) (K : KeyT P kt ek) {t et : TypeId} {z : Value} (hu : P.underlying t = some (.map kt et)) (hz : fZero P et = some z) (k : κ) : fLook P t v (ek k) false w = some ((aGet k m).elim z ev) := by
  rw [look_map h K hu hz]; rfl
theorem look2 (h : Sat w0 (MapH ek ev v m :: L) w) (K : KeyT P kt ek) {t et : TypeId} {z : Value} (hu : P.underlying t = some (.map kt et)) (hz : fZero P et = some z) (k : κ) : fLook P t v (ek k) true w = some (.tuple #[(aGet k m).elim z ev, .bool (aGet k m).isSome]) := by
  rw [look_map h K hu hz]; rfl
theorem aSet_keys {x : ν} (h : (m.map Prod.fst).Nodup) : ((aSet k x m).map Prod.fst).Nodup := by
  cases hf : aFind (fun _ : ν => Value.int .i64 0) k m 0 with
  | none =>
    obtain ⟨_, h2, _, h4⟩ := aFind_none hf
    rw [h2, List.map_append, List.nodup_append]
    refine ⟨h, by simp, fun a ha b hb => ?_⟩
    simp at hb; subst hb; intro e; subst e; exact h4 ha
  | some y =>
    obtain ⟨j, val⟩ := y
    obtain ⟨b, _, h2, _, _, h5, _⟩ := aFind_some (i := 0) hf
    rw [h5, List.map_set]
    have : (m.map Prod.fst).set (j - 0) k = m.map Prod.fst := by
      apply List.ext_getElem?
      intro i
      rw [List.getElem?_set]
      split
      · rename_i hi; subst hi
        split
        · simp at h2; simp [h2]
        · rename_i hn; have := (List.getElem?_eq_some_iff.1 h2).1; simp at hn; omega
      · rfl
    rw [this]; exact h
theorem eMapSet_sat {K : Value → World → Prop} (h : Sat w0 (MapH ek ev v m :: L) w) (T : KeyT P kt ek) {t et : TypeId} (hu : P.underlying t = some (.map kt et)) (k : κ) (x : ν)
    (hK : ∀ w', Sat w0 (MapH ek ev v (aSet k x m) :: L) w' → K unit w') : eMapSet P t v (ek k) (ev x) w K := by
  obtain ⟨r, es, clock, ⟨rfl, hm⟩, hs⟩ := map_iff.1 h
  simp only [eMapSet, hu, hs.blk]
  refine ⟨⟨T.ck k, T.u⟩, ?_⟩
  rw [mFind_al T _ _ 0 hm.kv]
  have kd := aSet_keys (k := k) (x := x) hm.kd
  cases hf : aFind ev k m 0 with
  | none =>
    obtain ⟨_, h2, _, h4⟩ := aFind_none hf
    refine hK _ (map_iff.2 ⟨r, _, _, ⟨rfl, ?_, ?_, ?_, kd⟩, hs.set _⟩)
    · rw [h2]; simp [hm.kv]
    · simp only [Array.toList_push, List.map_append, List.nodup_append]
      refine ⟨hm.nd, by simp, fun a ha b hb => ?_⟩
      simp at hb; subst hb
      obtain ⟨e, he, rfl⟩ := List.mem_map.1 ha
      have := hm.lt e he; omega
    · intro e he
      simp only [Array.toList_push, List.mem_append, List.mem_singleton] at he
      rcases he with he | rfl
      · have := hm.lt e he; omega
      · simp
  | some y =>
    obtain ⟨j, val⟩ := y
    obtain ⟨b, _, h2, _, _, h5, _⟩ := aFind_some (i := 0) hf
    simp only [Nat.sub_zero] at h2 h5
    have hj : j < m.length := by
      rcases Nat.lt_or_ge j m.length with h | h
      · exact h
      · rw [List.getElem?_eq_none h] at h2; cases h2
    have hlen := congrArg List.length hm.kv
    simp at hlen
    have hje : j < es.size := by omega
    have hkey : es[j].key = ek k := by
      have := congrArg (fun l => l[j]?) hm.kv
      simp [hje, h2] at this
      exact this.1
    refine ⟨?_, hK _ (map_iff.2 ⟨r, _, _, ⟨rfl, ?_, ?_, ?_, kd⟩, hs.set _⟩)⟩
    · simp [hje, hkey, T.sb]
    · rw [h5, List.map_set]
      apply List.ext_getElem?
      intro i
      have := congrArg (fun l => l[i]?) hm.kv
      simp only [List.getElem?_map, Array.getElem?_toList, Array.getElem?_modify, List.getElem?_set] at this ⊢
      by_cases hi : j = i
      · subst hi; simp [hje, hj]
      · simp [hi]; simpa using this
    · have : (es.modify j fun e => { e with key := ek k, val := ev x }).toList.map (·.born) = es.toList.map (·.born) := by
        apply List.ext_getElem?
        intro i
        simp only [List.getElem?_map, Array.getElem?_toList, Array.getElem?_modify]
        split
        · cases es[i]? <;> simp
        · rfl
      rw [this]; exact hm.nd
    · intro e he
      obtain ⟨i, hi, rfl⟩ := List.getElem_of_mem he
      simp at hi
      simp only [Array.getElem_toList, Array.getElem_modify]
      have := hm.lt es[i] (by simp)
      split <;> exact this
end
end
theorem KeyT.int {P : Program} {kt : TypeId} (h : P.underlying kt = some (.int .i64)) : KeyT P kt (fun n : Int => Value.int .i64 n) where
  u := by simp [h]
  ck := fun k => by simp [ckv, h]
  eq := fun a b => by simp [eqv, Op.maxDepth, h]; rw [Bool.eq_iff_iff]; simp
  sb := fun a => by simp [Instr.sameBits]
theorem KeyT.str {P : Program} {kt : TypeId} (h : P.underlying kt = some .string) : KeyT P kt (fun n : ByteArray => Value.string n) where
  u := by simp [h]
  ck := fun k => by simp [ckv, h]
  eq := fun a b => by simp [eqv, Op.maxDepth, h, sEq_eq]
  sb := fun a => by simp [Instr.sameBits]
end Go.Sx

/- Sz6 -/
namespace Go.Sx
structure Cod {α : Type} (f : α → List Value) (es : Nat) : Prop where
  len : ∀ x, (f x).length = es
  one : ∀ x, (f x).all (·.oneCell') = true
  pos : 0 < es
def LsH {α : Type} (f : α → List Value) (es : Nat) (ty : TypeId) (v : Value) (l : List α) : HP := SlH es ty v l.length (l.flatMap f)
def elP (es : Nat) (v : Value) (i : Int) : Value := (pIndexL es v (.int .i64 i)).getD undef
section
variable {α : Type} {f : α → List Value} {es : Nat} {ty : TypeId} {v : Value} {l : List α} {w0 w : World} {L : List HP}
theorem flat_len (C : Cod f es) (l : List α) : (l.flatMap f).length = l.length * es := by
  induction l with
  | nil => simp
  | cons x l ih => simp [ih, C.len, Nat.add_mul, Nat.add_comm]
theorem ls_rd (h : Sat w0 (LsH f es ty v l :: L) w) : Rd w es v l.length (l.flatMap f) := Sat.rd h
theorem rd_ix {n : Nat} {cs : List Value} (h : Rd w es v n cs) {i : Nat} (hi : i < n) : ∃ b o, pIndexL es v (.int .i64 i) = some (.pointer (some ⟨b, o, none⟩)) ∧ elP es v i = .pointer (some ⟨b, o, none⟩) := by
  cases h with
  | emp => omega
  | blk hb hn ha hc =>
    rename_i b o cap a ty fz
    have e : pIndexL es (.slice (some ⟨b, o, none⟩) n cap) (.int .i64 i) = some (.pointer (some ⟨b, o + i * es, none⟩)) := by
      simp only [pIndexL]; rw [if_pos ⟨by omega, by omega⟩]; simp
    exact ⟨b, o + i * es, e, by simp [elP, e]⟩
theorem ix_el {n : Nat} {cs : List Value} (h : Rd w es v n cs) {i : Nat} (hi : i < n) : pIndexL es v (.int .i64 i) = some (elP es v i) := by
  obtain ⟨b, o, h1, h2⟩ := rd_ix h hi
  rw [h1, h2]
theorem rd_ld (C : Cod f es) (h : Rd w es v l.length (l.flatMap f)) {i : Nat} (hi : i < l.length) : ldN es (elP es v i) w = some (.agg (f l[i]).toArray) := by
  obtain ⟨b, o, h1, h2, _⟩ := h.elem C.len rfl hi (j := .i64)
  have : elP es v i = .pointer (some ⟨b, o, none⟩) := by simp [elP, h1]
  rw [this, h2]
theorem rd_fld (C : Cod f es) (h : Rd w es v l.length (l.flatMap f)) {i k : Nat} (hi : i < l.length) (hk : k < es) : ∃ a, pFieldAddr k (elP es v i) = some (.pointer (some a)) ∧ w.cell? a = (f l[i])[k]? := by
  obtain ⟨b, o, h1, _, h3⟩ := h.elem C.len rfl hi (j := .i64)
  have : elP es v i = .pointer (some ⟨b, o, none⟩) := by simp [elP, h1]
  rw [this]
  refine ⟨⟨b, o + k, none⟩, rfl, ?_⟩
  rcases h3 k with h | h
  · exact h
  · omega
theorem ls_lit {P : Program} {t : TypeId} {m : List α} {parts : List (Nat × Value)} {K : Value → World → Prop} {c : Array Value} (C : Cod f es) (h : Sat w0 L w) (hu : P.underlying t = some (.slice ty)) (hc : fBuildSl P ty m.length parts = some c) (hm : c.toList = m.flatMap f)
    (hK : ∀ s w', Sat w0 (LsH f es ty s m :: L) w' → K s w') : eBuildSl P t m.length parts w K := by
  refine eBuildSl_sat (es := es) h hu hc ?_ fun s w' h' => hK s w' ?_
  · have := congrArg List.length hm
    rw [flat_len C] at this; simpa using this
  · unfold LsH; rw [← hm]; exact h'
end
def cI (n : Int) : List Value := [.int .i64 n]
theorem CI : Cod cI 1 := ⟨fun _ => rfl, fun _ => rfl, by omega⟩
end Go.Sx

/- Sz7 -/
namespace Go.Sx
section
variable {α : Type}
structure PermOn (a b : Nat) (l l' : List α) : Prop where
  perm : l'.Perm l
  out : ∀ i, (i < a ∨ b ≤ i) → l'[i]? = l[i]?
theorem PermOn.refl (a b : Nat) (l : List α) : PermOn a b l l := ⟨.refl _, fun _ _ => rfl⟩
theorem PermOn.trans {a b : Nat} {l m n : List α} (h : PermOn a b l m) (h' : PermOn a b m n) : PermOn a b l n := ⟨h'.perm.trans h.perm, fun i hi => (h'.out i hi).trans (h.out i hi)⟩
theorem PermOn.wide {a b a' b' : Nat} {l m : List α} (h : PermOn a b l m) (ha : a' ≤ a) (hb : b ≤ b') : PermOn a' b' l m := ⟨h.perm, fun i hi => h.out i (by omega)⟩
theorem PermOn.len {a b : Nat} {l m : List α} (h : PermOn a b l m) : m.length = l.length := h.perm.length_eq
theorem take_eq_of {l m : List α} {a : Nat} (h : ∀ i, i < a → m[i]? = l[i]?) : m.take a = l.take a := by
  apply List.ext_getElem?
  intro i
  simp only [List.getElem?_take]
  split
  · exact h i ‹_›
  · rfl
theorem drop_eq_of {l m : List α} {a : Nat} (h : ∀ i, a ≤ i → m[i]? = l[i]?) : m.drop a = l.drop a := by
  apply List.ext_getElem?
  intro i
  simp only [List.getElem?_drop]
  exact h _ (by omega)
theorem PermOn.mid {a b : Nat} {l m : List α} (h : PermOn a b l m) (hab : a ≤ b) : ((m.take b).drop a).Perm ((l.take b).drop a) := by
  have e : ∀ x : List α, x = x.take a ++ ((x.take b).drop a ++ x.drop b) := fun x => by
    have : x.take a = (x.take b).take a := by rw [List.take_take, Nat.min_eq_left hab]
    rw [this, ← List.append_assoc, List.take_append_drop, List.take_append_drop]
  have hp := h.perm
  rw [e m, e l, take_eq_of fun i hi => h.out i (.inl hi), drop_eq_of fun i hi => h.out i (.inr hi)] at hp
  have := (List.perm_append_left_iff _).1 hp
  exact (List.perm_append_right_iff _).1 this
theorem PermOn.all {a b : Nat} {l m : List α} (h : PermOn a b l m) {p : α → Prop} (hp : ∀ i x, a ≤ i → i < b → l[i]? = some x → p x) : ∀ i x, a ≤ i → i < b → m[i]? = some x → p x := by
  intro i x ha hb hx
  have hm : x ∈ (m.take b).drop a := by
    apply List.mem_of_getElem? (i := i - a)
    rw [List.getElem?_drop, List.getElem?_take_of_lt (by omega), show a + (i - a) = i by omega, hx]
  have := (h.mid (by omega)).subset hm
  obtain ⟨j, hj⟩ := List.getElem?_of_mem this
  have hj' := hj
  rw [List.getElem?_drop, List.getElem?_take] at hj
  split at hj
  · exact hp (a + j) x (by omega) ‹_› hj
  · cases hj
def swapL (l : List α) (i j : Nat) : List α := match l[i]?, l[j]? with | some x, some y => (l.set i y).set j x | _, _ => l
theorem swapL_eq {l : List α} {i j : Nat} (hi : i < l.length) (hj : j < l.length) : swapL l i j = (l.set i l[j]).set j l[i] := by simp [swapL, hi, hj]
theorem swapL_get {l : List α} {i j : Nat} (hi : i < l.length) (hj : j < l.length) (k : Nat) : (swapL l i j)[k]? = if k = j then some l[i] else if k = i then some l[j] else l[k]? := by
  rw [swapL_eq hi hj]
  simp only [List.getElem?_set, List.length_set]
  by_cases h1 : j = k
  · subst h1; simp [hj]
  · by_cases h2 : i = k
    · subst h2; simp [h1, hi, Ne.symm h1]
    · simp [h1, h2, Ne.symm h1, Ne.symm h2]
theorem swapL_perm {l : List α} {i j : Nat} (hi : i < l.length) (hj : j < l.length) : (swapL l i j).Perm l := by
  have h := Array.swap_perm (xs := l.toArray) (i := i) (j := j) (by simpa using hi) (by simpa using hj)
  have e : (l.toArray.swap i j (by simpa using hi) (by simpa using hj)).toList = swapL l i j := by
    rw [swapL_eq hi hj]; simp [Array.swap]
  have := h.toList
  rw [e] at this
  exact this
theorem PermOn.swap {a b i j : Nat} {l : List α} (hi : a ≤ i ∧ i < b) (hj : a ≤ j ∧ j < b) (hb : b ≤ l.length) : PermOn a b l (swapL l i j) :=
  ⟨swapL_perm (by omega) (by omega), fun k hk => by
    rw [swapL_get (by omega) (by omega)]
    rw [if_neg (by omega), if_neg (by omega)]⟩
structure SWO (lt : α → α → Bool) : Prop where
  asym : ∀ a b, lt a b = true → lt b a = false
  tr : ∀ a b c, lt b a = false → lt c b = false → lt c a = false
variable {lt : α → α → Bool}
theorem SWO.irr (S : SWO lt) (a : α) : lt a a = false := by
  cases h : lt a a with
  | false => rfl
  | true => have := S.asym a a h; rw [this] at h; cases h
def SortOn (lt : α → α → Bool) (a b : Nat) (l : List α) : Prop := ∀ i j x y, a ≤ i → i < j → j < b → l[i]? = some x → l[j]? = some y → lt y x = false
theorem SortOn.of_eq {a b : Nat} {l m : List α} (h : SortOn lt a b l) (e : ∀ i, a ≤ i → i < b → m[i]? = l[i]?) : SortOn lt a b m :=
  fun i j x y h1 h2 h3 hx hy => h i j x y h1 h2 h3 (by rw [← e i h1 (by omega)]; exact hx) (by rw [← e j (by omega) h3]; exact hy)
theorem SortOn.step (S : SWO lt) {a b : Nat} {l : List α} (h : ∀ i x y, a ≤ i → i + 1 < b → l[i]? = some x → l[i + 1]? = some y → lt y x = false) : SortOn lt a b l := by
  intro i j x y h1 h2 h3 hx hy
  induction j generalizing y with
  | zero => omega
  | succ j ih =>
    by_cases e : i = j
    · subst e; exact h i x y h1 h3 hx hy
    · have hj : j < l.length := by have := (List.getElem?_eq_some_iff.1 hy).1; omega
      have hz : l[j]? = some l[j] := List.getElem?_eq_getElem hj
      exact S.tr _ _ _ (ih l[j] (by omega) (by omega) hz) (h j l[j] y (by omega) h3 hz hy)
theorem SortOn.sorted {l : List α} (h : SortOn lt 0 l.length l) : l.Pairwise fun x y => lt y x = false := by
  rw [List.pairwise_iff_getElem]
  intro i j hi hj hij
  exact h i j _ _ (by omega) hij hj (List.getElem?_eq_getElem hi) (List.getElem?_eq_getElem hj)
end
end Go.Sx

/- Sz8 -/
namespace Go.Sx
def gClone : FnT := fun args w K => match args with
  | [.iface t (.map (some r))] => match w.heap[r]? with
    | some (.map es clock) => K (.iface t (.map (some w.heap.size))) (w.alloc (.map es clock))
    | _ => False
  | _ => False
theorem okClone {P : Program} {i : Nat} {fn : Func} (hf : P.funcs[i]? = some fn) (hname : (fn.name == "runtime.NumGoroutine") = false) (hb : fn.body.isNone = true) (hn : Extern.findNext fn = none) (he : Extern.find fn = some Extern.MapsClone.clone) : OkF P i gClone := by
  intro args w K h
  unfold gClone at h
  split at h
  · rename_i t r
    split at h
    · rename_i es clock hb'
      refine .inr ⟨_, _, ?_, h⟩
      rw [run_callFunc_extern hf hname hb hn he]
      have e : Extern.MapsClone.clone [Value.iface t (.map (some r))].toArray = (getObj r >>= fun o => match o with
        | .map entries clock => (newObj (.map entries clock) >>= fun n => pure (.iface t (.map (some n))))
        | _ => stuck "maps.clone: a map expected") := rfl
      rw [e]
      have g : (getObj r).run P w = .ok (.map es clock) w := by simp [getObj, Sem.run, hb']
      simp only [Sem.run_bind, g, Result.andThen_ok]
      rfl
    · exact h.elim
  · exact h.elim
section
variable {κ ν : Type} {ek : κ → Value} {ev : ν → Value} {m : List (κ × ν)} {w0 w : World} {L : List HP} {v : Value}
theorem gClone_sat {K : Value → World → Prop} {t : TypeId} (h : Sat w0 (MapH ek ev v m :: L) w) (hK : ∀ v' w', Sat w0 (MapH ek ev v' m :: MapH ek ev v m :: L) w' → K (.iface t v') w') : callP gClone [.iface t v] w K := by
  obtain ⟨r, es, clock, ⟨rfl, hm⟩, hs⟩ := map_iff.1 h
  refine callP_intro ?_
  simp only [gClone, hs.blk]
  refine hK _ _ (map_iff.2 ⟨_, es, clock, ⟨rfl, hm⟩, ?_⟩)
  exact (Sat.alloc h _)
end
section
variable {P : Program} {t : TypeId} {x y : Operand}
theorem bEq_nilm {k e : TypeId} (h : P.underlying t = some (.map k e)) (a : Option Nat) : bEq P t x y (.map a) (.map none) = some (.bool a.isNone) := by
  cases a <;> simp [bEq, bEqv, eqPlain, eqv, Op.maxDepth, h]
theorem fMkI_of {d : TypeDesc} (h : P.underlying t = some d) (hd : ∀ m, d ≠ .interface m) (v : Value) : fMkI P t v = some (.iface t v) := by
  unfold fMkI; rw [h]; cases d <;> first | (exact absurd rfl (hd _)) | rfl
theorem fAssert_of {d : TypeDesc} (h : P.underlying t = some d) (hd : ∀ m, d ≠ .interface m) (v : Value) : fAssert P (.iface t v) t false = some v := by
  unfold fAssert; rw [h]; cases d <;> first | (exact absurd rfl (hd _)) | simp
end
end Go.Sx

/- Sz9 -/
namespace Go.Sx
def bs (l : List UInt8) : ByteArray := ⟨l.toArray⟩
theorem mk_bs (l : List UInt8) : ByteArray.mk l.toArray = bs l := by unfold bs; rfl
theorem bs_of (s : ByteArray) : s = bs s.data.toList := by cases s; simp [bs]
@[simp] theorem bs_size (l : List UInt8) : (bs l).size = l.length := by simp [bs, ByteArray.size]
@[simp] theorem bs_data (l : List UInt8) : (bs l).data.toList = l := by simp [bs]
@[simp] theorem bs_append (a b : List UInt8) : bs a ++ bs b = bs (a ++ b) := by
  apply ByteArray.ext; simp [bs, ByteArray.data_append]
@[simp] theorem bs_inj {a b : List UInt8} : bs a = bs b ↔ a = b := by simp [bs]
@[simp] theorem bs_extract (l : List UInt8) (i j : Nat) : (bs l).extract i j = bs ((l.take j).drop i) := by
  apply ByteArray.ext
  rw [ByteArray.data_extract]
  simp only [bs, List.extract_toArray, List.extract_eq_take_drop]
  rw [List.drop_take]
@[simp] theorem bs_get (l : List UInt8) (i : Nat) : (bs l)[i]? = l[i]? := by
  by_cases h : i < l.length
  · rw [List.getElem?_eq_getElem h, getElem?_pos (bs l) i (by simpa using h)]
    simp [bs, ByteArray.getElem_eq_getElem_data]
  · rw [List.getElem?_eq_none (by omega), getElem?_neg (bs l) i (by simpa using h)]
theorem sub_to {l : List UInt8} {i : Nat} {j : IntKind} (h : i ≤ l.length) : pSliceS (.string (bs l)) none (some (.int j i)) = some (.string (bs (l.take i))) := by
  simp [pSliceS, hiB, bnd]
  rw [if_pos (by omega)]
theorem add_txt {a b : List UInt8} (h : a.length + b.length ≤ 9223372036854775807) : bAdd (.string (bs a)) (.string (bs b)) = some (.string (bs (a ++ b))) := by
  have e : IntKind.i64.max = 9223372036854775807 := by decide
  simp only [bAdd, bs_size, e]
  rw [if_neg (by omega), bs_append]
section
variable {w0 w : World} {L : List HP}
end
end Go.Sx

/- Sz10 -/
namespace Go.Sx
open Go.ChangeShapes Go.WideShapes Go.RowKit
section
variable {H : Type} {enc : TypeId × Value → H} {P : Program} {w : World} {base : Nat} {held : Bool}
end
theorem str_bs {s : ByteArray} : ∃ l : List UInt8, s = bs l ∧ l.length = s.size := ⟨s.data.toList, bs_of s, by rw [Array.length_toList]; rfl⟩
theorem on0_mk {p : Prop} (h : p) : on0 p [] := h
theorem on1_mk {p : Value → Prop} {a : Value} (h : p a) : on1 p [a] := h
theorem on2_mk {p : Value → Value → Prop} {a b : Value} (h : p a b) : on2 p [a, b] := h
theorem on3_mk {p : Value → Value → Value → Prop} {a b c : Value} (h : p a b c) : on3 p [a, b, c] := h
end Go.Sx

/- Sz11 -/
namespace Go.Sx
inductive Rep (A B : HP) : List HP → List HP → Prop
  | here {L : List HP} : Rep A B (A :: L) (B :: L)
  | there {X : HP} {L L' : List HP} : Rep A B L L' → Rep A B (X :: L) (X :: L')
inductive Fnt (A : HP) : List HP → List HP → Prop
  | here {L : List HP} : Fnt A (A :: L) L
  | there {X : HP} {L M : List HP} : Fnt A L M → Fnt A (X :: L) (X :: M)
inductive Get : List HP → List HP → Prop
  | done {L : List HP} : Get L L
  | skip {X : HP} {L L' : List HP} : Get L L' → Get (X :: L) L'
  | pick {A : HP} {L M L' : List HP} : Fnt A L M → Get M L' → Get L (A :: L')
theorem Fnt.perm {A : HP} {L M : List HP} (f : Fnt A L M) : L.Perm (A :: M) := by
  induction f with
  | here => exact .refl _
  | there _ ih => exact (ih.cons _).trans (.swap _ _ _)
theorem Rep.split {A B : HP} {L L' : List HP} (r : Rep A B L L') : ∃ M, L.Perm (A :: M) ∧ (B :: M).Perm L' := by
  induction r with
  | here => exact ⟨_, .refl _, .refl _⟩
  | there _ ih => obtain ⟨M, h1, h2⟩ := ih; exact ⟨_ :: M, (h1.cons _).trans (.swap _ _ _), (List.Perm.swap _ _ _).trans (h2.cons _)⟩
class Nth (l : List Value) (i : Nat) (v : outParam Value) : Prop where
  get : l[i]? = some v
instance {a : Value} {l : List Value} : Nth (a :: l) 0 a := ⟨rfl⟩
instance {a b : Value} {l : List Value} {n : Nat} [h : Nth l n a] : Nth (b :: l) (n + 1) a := ⟨by simpa using h.get⟩
class Upd (l : List Value) (i : Nat) (y : Value) (l' : outParam (List Value)) : Prop where
  lt : i < l.length
  eq : l.set i y = l'
instance {a y : Value} {l : List Value} : Upd (a :: l) 0 y (y :: l) := ⟨by simp, rfl⟩
instance {y b : Value} {l l' : List Value} {n : Nat} [h : Upd l n y l'] : Upd (b :: l) (n + 1) y (b :: l') := ⟨by simpa using h.lt, by simp [h.eq]⟩
class Part (l : List Value) (o n : Nat) (l' : outParam (List Value)) : Prop where
  le : o + n ≤ l.length
  eq : (l.drop o).take n = l'
instance {l : List Value} : Part l 0 0 [] := ⟨by simp, by simp⟩
instance {a : Value} {l l' : List Value} {n : Nat} [h : Part l 0 n l'] : Part (a :: l) 0 (n + 1) (a :: l') := ⟨by have := h.le; simp; omega, by simpa using h.eq⟩
instance {a : Value} {l l' : List Value} {o n : Nat} [h : Part l o n l'] : Part (a :: l) (o + 1) n l' := ⟨by have := h.le; simp; omega, by simpa using h.eq⟩
theorem Part.all (l : List Value) : Part l 0 l.length l := ⟨by simp, by simp⟩
class Ups (l : List Value) (o : Nat) (ys : List Value) (l' : outParam (List Value)) : Prop where
  le : o + ys.length ≤ l.length
  eq : l.take o ++ (ys ++ l.drop (o + ys.length)) = l'
instance {l : List Value} : Ups l 0 [] l := ⟨by simp, by simp⟩
instance {a y : Value} {l ys l' : List Value} [h : Ups l 0 ys l'] : Ups (a :: l) 0 (y :: ys) (y :: l') := ⟨by have := h.le; simp at *; omega, by simpa using h.eq⟩
instance {a : Value} {l ys l' : List Value} {o : Nat} [h : Ups l o ys l'] : Ups (a :: l) (o + 1) ys (a :: l') := ⟨by have := h.le; simp; omega, by rw [Nat.add_right_comm]; simpa using h.eq⟩
theorem Ups.all {l ys : List Value} (h : l.length = ys.length) : Ups l 0 ys ys := ⟨by omega, by simp; omega⟩
class CellIn (p : Nat) (l : outParam (List Value)) (ty : outParam TypeId) (L : List HP) : Prop where
  mem : Cl p l.toArray ty ∈ L
instance {p : Nat} {l : List Value} {ty : TypeId} {L : List HP} : CellIn p l ty (Cl p l.toArray ty :: L) := ⟨.head _⟩
instance (priority := low) {p : Nat} {l : List Value} {ty : TypeId} {X : HP} {L : List HP} [h : CellIn p l ty L] : CellIn p l ty (X :: L) := ⟨.tail _ h.mem⟩
class Rp (p : Nat) (l' : List Value) (l : outParam (List Value)) (ty : outParam TypeId) (L : List HP) (L' : outParam (List HP)) : Prop where
  rep : Rep (Cl p l.toArray ty) (Cl p l'.toArray ty) L L'
instance {p : Nat} {l l' : List Value} {ty : TypeId} {L : List HP} : Rp p l' l ty (Cl p l.toArray ty :: L) (Cl p l'.toArray ty :: L) := ⟨.here⟩
instance (priority := low) {p : Nat} {l l' : List Value} {ty : TypeId} {X : HP} {L L' : List HP} [h : Rp p l' l ty L L'] : Rp p l' l ty (X :: L) (X :: L') := ⟨.there h.rep⟩
class LsIn (v : Value) (L : List HP) (α : outParam Type) (f : outParam (α → List Value)) (es : outParam Nat) (ty : outParam TypeId) (l : outParam (List α)) : Prop where
  fnt : ∃ M, Fnt (LsH f es ty v l) L M
instance {v : Value} {L : List HP} {α : Type} {f : α → List Value} {es : Nat} {ty : TypeId} {l : List α} : LsIn v (LsH f es ty v l :: L) α f es ty l := ⟨_, .here⟩
instance (priority := low) {v : Value} {X : HP} {L : List HP} {α : Type} {f : α → List Value} {es : Nat} {ty : TypeId} {l : List α} [h : LsIn v L α f es ty l] : LsIn v (X :: L) α f es ty l := ⟨h.fnt.elim fun M h => ⟨X :: M, .there h⟩⟩
class CodC {α : Type} (f : α → List Value) (es : outParam Nat) : Prop where
  cod : Cod f es
class SameC (w w' : World) : Prop where
  same : Same w w'
instance {w : World} : SameC w w := ⟨.refl _⟩
instance {w w' : World} [h : SameC w w'] : SameC w w'.drew := ⟨h.same.trans (.drew _)⟩
def elF (es : Nat) (v : Value) (i : Int) (k : Nat) : Value := (pFieldAddr k (elP es v i)).getD undef
section
variable {w0 w : World} {L L' M : List HP} {A B : HP} {k : Value → Prop} {K : Value → World → Prop}
theorem Sat.front (h : Sat w0 L w) (f : Fnt A L M) : Sat w0 (A :: M) w := h.perm f.perm
theorem Sat.get (h : Sat w0 L w) (g : Get L L') : Sat w0 L' w := by
  obtain ⟨hf, hh, h1, h2⟩ := h
  have key : ∀ {L L' : List HP}, Get L L' → ∀ {a : Hp}, SepL L a → ∃ b, SepL L' b ∧ ∀ i o, b i = some o → a i = some o := by
    intro L L' g
    induction g with
    | done => exact fun h => ⟨_, h, fun _ _ h => h⟩
    | skip _ ih =>
      intro a h
      obtain ⟨b, hb, h3⟩ := h.drop
      obtain ⟨c, hc, h4⟩ := ih hb
      exact ⟨c, hc, fun i o h => h3 i o (h4 i o h)⟩
    | pick f _ ih =>
      intro a h
      obtain ⟨x, y, hd, rfl, hP, hL⟩ := h.perm f.perm
      obtain ⟨c, hc, h4⟩ := ih hL
      refine ⟨hOr x c, ⟨x, c, fun i o hx => ?_, rfl, hP, hc⟩, fun i o h => ?_⟩
      · cases hci : c i with
        | none => rfl
        | some z => have h6 := h4 i z hci; rw [hd i o hx] at h6; cases h6
      · unfold hOr at h
        cases hx : x i with
        | some z => rw [hx] at h; simp at h; subst h; exact hOr_l hx
        | none => rw [hx] at h; simp at h; exact hOr_r hd (h4 i o h)
  obtain ⟨b, hb, h3⟩ := key g h1
  exact ⟨hf, b, hb, fun i o h => h2 i o (h3 i o h)⟩
theorem Sat.mem {b : Nat} {o : Obj} (h : Sat w0 L w) (hm : Blk b o ∈ L) : w.heap[b]? = some o := by
  obtain ⟨X, Y, rfl⟩ := List.append_of_mem hm
  exact (h.perm List.perm_middle).blk
theorem Sat.memc {b : Nat} {c : Array Value} {ty : TypeId} (h : Sat w0 L w) (hm : Cl b c ty ∈ L) : w.heap[b]? = some (.cells c ty (0, 0)) := h.mem hm
theorem Sat.rep {w' : World} (h : Sat w0 L w) (r : Rep A B L L') (f : ∀ M, Sat w0 (A :: M) w → Sat w0 (B :: M) w') : Sat w0 L' w' := by
  obtain ⟨M, h1, h2⟩ := r.split
  exact (f M (h.perm h1)).perm h2
theorem go_cell {p i : Nat} {c : Array Value} {ty : TypeId} {v : Value} (h : Sat w0 L w) (hm : Cl p c ty ∈ L) (hc : c[i]? = some v) : w.cell? ⟨p, i, none⟩ = some v := by
  rw [cell_of (h.memc hm), hc]
theorem ld1_cells {p i : Nat} {l : List Value} {ty : TypeId} {v : Value} {w1 : World} (h : Sat w0 L w) [e : SameC w w1] [hm : CellIn p l ty L] [hc : Nth l i v] : ld1 (.pointer (some ⟨p, i, none⟩)) w1 = some v := by
  rw [ld1_ptr]; exact go_cell (h.to e.same) hm.mem (by rw [List.getElem?_toArray]; exact hc.get)
theorem ld_part {p o n : Nat} {l l' : List Value} {ty : TypeId} {w1 : World} (h : Sat w0 L w) (e : Same w w1) (hm : Cl p l.toArray ty ∈ L) (hc : Part l o n l') : ldN n (.pointer (some ⟨p, o, none⟩)) w1 = some (.agg l'.toArray) := by
  rw [ldN_of ((h.to e).memc hm) (by simpa using hc.le)]
  congr 2
  apply Array.ext'
  rw [Array.toList_extract, List.extract_eq_take_drop]
  simpa using hc.eq
theorem go_some {o : Option Value} {v : Value} (h : o = some v) (hk : k v) : bindP o k := by rw [h, bindP_some]; exact hk
theorem go_ld1 {p i : Nat} {l : List Value} {ty : TypeId} {v : Value} {w1 : World} (h : Sat w0 L w) [SameC w w1] [CellIn p l ty L] [Nth l i v] (hk : k v) : bindP (ld1 (.pointer (some ⟨p, i, none⟩)) w1) k :=
  go_some (ld1_cells h) hk
theorem go_ldN {p o n : Nat} {l l' : List Value} {ty : TypeId} {w1 : World} (h : Sat w0 L w) [e : SameC w w1] [hm : CellIn p l ty L] [hc : Part l o n l'] (hk : k (.agg l'.toArray)) : bindP (ldN n (.pointer (some ⟨p, o, none⟩)) w1) k :=
  go_some (ld_part h e.same hm.mem hc) hk
theorem go_ldA {p n : Nat} {l : List Value} {ty : TypeId} {w1 : World} (h : Sat w0 L w) [e : SameC w w1] [hm : CellIn p l ty L] (hc : l.length = n) (hk : k (.agg l.toArray)) : bindP (ldN n (.pointer (some ⟨p, 0, none⟩)) w1) k :=
  go_some (ld_part h e.same hm.mem (hc ▸ Part.all l)) hk
theorem go_st {p i : Nat} {l l' m : List Value} {ty ty' : TypeId} {y : Value} [OneV y] {k : World → Prop} {w1 : World} (h : Sat w0 L w) [e : SameC w w1] [hm : CellIn p l ty L] [hc : Upd l i y l'] [r : Rp p l' m ty' L L']
    (hk : ∀ w', Sat w0 L' w' → k w') : bindW (st 1 (.pointer (some ⟨p, i, none⟩)) y w1) k := by
  have h := h.to e.same
  have hb := h.memc hm.mem
  rw [st_at hb y (by simpa using hc.lt)]
  rw [bindW_some]
  refine hk _ (h.rep r.rep fun M h => ?_)
  have h2 := h.cl
  rw [hb] at h2
  simp only [Option.some.injEq, Obj.cells.injEq, and_true] at h2
  obtain ⟨e1, rfl⟩ := h2
  obtain rfl : l = m := by simpa using congrArg Array.toList e1
  rw [List.setIfInBounds_toArray, hc.eq]; exact h.setc _
theorem go_stW {p o n : Nat} {l ys l' m : List Value} {ty ty' : TypeId} {k : World → Prop} {w1 : World} (h : Sat w0 L w) (e : Same w w1) (hm : Cl p l.toArray ty ∈ L) (hn : ys.length = n) (h1 : ys.all (·.oneCell') = true) (hc : Ups l o ys l') (r : Rep (Cl p m.toArray ty') (Cl p l'.toArray ty') L L')
    (hk : ∀ w', Sat w0 L' w' → k w') : bindW (st n (.pointer (some ⟨p, o, none⟩)) (.agg ys.toArray) w1) k := by
  have h := h.to e
  have hb := h.memc hm
  have hle := hc.le
  rw [st_cells hb (by simpa using hn) (by simpa using h1) (by simp; omega), bindW_some]
  refine hk _ (h.rep r fun M h => ?_)
  have h2 := h.cl
  rw [hb] at h2
  simp only [Option.some.injEq, Obj.cells.injEq, and_true] at h2
  obtain ⟨e1, rfl⟩ := h2
  obtain rfl : l = m := by simpa using congrArg Array.toList e1
  have e : wr l.toArray o (Value.agg ys.toArray).cells.toList = l'.toArray := by
    apply Array.ext'
    rw [wr_toList _ _ _ (by simp; omega)]
    simpa using hc.eq
  rw [e]; exact h.setc _
theorem go_stN {p o n : Nat} {l ys l' m : List Value} {ty ty' : TypeId} {k : World → Prop} {w1 : World} (h : Sat w0 L w) [e : SameC w w1] [hm : CellIn p l ty L] [hc : Ups l o ys l'] [r : Rp p l' m ty' L L'] (hn : ys.length = n) (h1 : ys.all (·.oneCell') = true)
    (hk : ∀ w', Sat w0 L' w' → k w') : bindW (st n (.pointer (some ⟨p, o, none⟩)) (.agg ys.toArray) w1) k :=
  go_stW h e.same hm.mem hn h1 hc r.rep hk
theorem go_stA {p n : Nat} {l ys m : List Value} {ty ty' : TypeId} {k : World → Prop} {w1 : World} (h : Sat w0 L w) [e : SameC w w1] [hm : CellIn p l ty L] [r : Rp p ys m ty' L L'] (hl : l.length = n) (hn : ys.length = n) (h1 : ys.all (·.oneCell') = true)
    (hk : ∀ w', Sat w0 L' w' → k w') : bindW (st n (.pointer (some ⟨p, 0, none⟩)) (.agg ys.toArray) w1) k :=
  go_stW h e.same hm.mem hn h1 (Ups.all (by omega)) r.rep hk
theorem go_box {t : TypeId} {v : Value} {l : List Value} {w1 : World} (h : Sat w0 L w) [e : SameC w w1] (hc : v.cells = l.toArray) (hK : ∀ p w', Sat w0 (Cl p l.toArray t :: L) w' → K (.pointer (some ⟨p, 0, none⟩)) w') : eBox t v w1 K := by
  refine eBox_sat (h.to e.same) fun p w' h' => hK p w' ?_
  rw [← hc]; exact h'
theorem go_alloc {Pg : Program} {t : TypeId} {z : Value} {l : List Value} {w1 : World} (h : Sat w0 L w) [e : SameC w w1] (hz : fZero Pg t = some z) (hc : z.cells = l.toArray) (hK : ∀ p w', Sat w0 (Cl p l.toArray t :: L) w' → K (.pointer (some ⟨p, 0, none⟩)) w') : eAlloc Pg t w1 K := by
  refine eAlloc_sat (h.to e.same) hz fun p w' h' => hK p w' ?_
  rw [← hc]; exact h'
theorem go_rd {p i : Nat} {l : List Value} {ty : TypeId} {v v' : Value} {X : Prop} {w1 : World} (h : Sat w0 L w) [e : SameC w w1] [hm : CellIn p l ty L] [hc : Nth l i v] (hv : v = v') (hX : X) : fok true (ld1 (.pointer (some ⟨p, i, none⟩)) w1) v' ∧ X := by
  subst hv
  exact ⟨by rw [fok_true]; exact ld1_cells h, hX⟩
theorem go_rdN {p o n : Nat} {l l' : List Value} {ty : TypeId} {v' : Value} {X : Prop} {w1 : World} (h : Sat w0 L w) [e : SameC w w1] [hm : CellIn p l ty L] [hc : Part l o n l'] (hv : .agg l'.toArray = v') (hX : X) : fok true (ldN n (.pointer (some ⟨p, o, none⟩)) w1) v' ∧ X := by
  subst hv
  exact ⟨by rw [fok_true]; exact ld_part h e.same hm.mem hc, hX⟩
theorem go_look1 {Pg : Program} {κ ν : Type} [DecidableEq κ] {ek : κ → Value} {ev : ν → Value} {v : Value} {m : List (κ × ν)} {kt t et : TypeId} {z : Value} {w1 : World} (h : Sat w0 L w) [e : SameC w w1] (hm : Fnt (MapH ek ev v m) L M) (T : KeyT Pg kt ek)
    (hu : Pg.underlying t = some (.map kt et)) (hz : fZero Pg et = some z) (q : κ) (hk : k ((aGet q m).elim z ev)) : bindP (fLook Pg t v (ek q) false w1) k :=
  go_some (look1 ((h.to e.same).front hm) T hu hz q) hk
theorem go_look2 {Pg : Program} {κ ν : Type} [DecidableEq κ] {ek : κ → Value} {ev : ν → Value} {v : Value} {m : List (κ × ν)} {kt t et : TypeId} {z : Value} {w1 : World} (h : Sat w0 L w) [e : SameC w w1] (hm : Fnt (MapH ek ev v m) L M) (T : KeyT Pg kt ek)
    (hu : Pg.underlying t = some (.map kt et)) (hz : fZero Pg et = some z) (q : κ) (hk : k (.tuple #[(aGet q m).elim z ev, .bool (aGet q m).isSome])) : bindP (fLook Pg t v (ek q) true w1) k :=
  go_some (look2 ((h.to e.same).front hm) T hu hz q) hk
theorem ls_of {α : Type} {f : α → List Value} {es : Nat} {ty : TypeId} {v : Value} {l : List α} {w1 : World} (h : Sat w0 L w) (e : Same w w1) (m : LsIn v L α f es ty l) : Rd w1 es v l.length (l.flatMap f) := by
  obtain ⟨M, hm⟩ := m.fnt
  exact ls_rd ((h.to e).front hm)
theorem rd_fa {α : Type} {f : α → List Value} {es i j : Nat} {v : Value} {l : List α} (C : Cod f es) (h : Rd w es v l.length (l.flatMap f)) (hi : i < l.length) (hj : j < es) : pFieldAddr j (elP es v i) = some (elF es v i j) := by
  obtain ⟨a, h1, _⟩ := rd_fld C h hi hj
  unfold elF; rw [h1]; rfl
theorem rd_f1 {α : Type} {f : α → List Value} {es i j : Nat} {v x : Value} {l : List α} (C : Cod f es) (h : Rd w es v l.length (l.flatMap f)) (hi : i < l.length) (hx : Nth (f l[i]) j x) : ld1 (elF es v i j) w = some x := by
  have hj : j < es := by
    have := (List.getElem?_eq_some_iff.1 hx.get).1
    rwa [C.len] at this
  obtain ⟨a, h1, h2⟩ := rd_fld C h hi hj
  have : elF es v i j = .pointer (some a) := by unfold elF; rw [h1]; rfl
  rw [this, ld1_ptr, h2, hx.get]
theorem go_lenL {α : Type} {f : α → List Value} {es : Nat} {ty : TypeId} {v : Value} {l : List α} (h : Sat w0 L w) [m : LsIn v L α f es ty l] (hk : k (.int .i64 l.length)) : bindP (lenL v) k :=
  go_some (ls_of h (.refl _) m).len hk
theorem go_ix {α : Type} {f : α → List Value} {es i : Nat} {ty : TypeId} {v : Value} {l : List α} (h : Sat w0 L w) [m : LsIn v L α f es ty l] (hi : i < l.length) (hk : k (elP es v i)) : bindP (pIndexL es v (.int .i64 i)) k :=
  go_some (ix_el (ls_of h (.refl _) m) hi) hk
theorem go_elN {α : Type} {f : α → List Value} {es i : Nat} {ty : TypeId} {v : Value} {l : List α} {w1 : World} (h : Sat w0 L w) [e : SameC w w1] [m : LsIn v L α f es ty l] [C : CodC f es] (hi : i < l.length) (hk : k (.agg (f l[i]).toArray)) : bindP (ldN es (elP es v i) w1) k :=
  go_some (rd_ld C.cod (ls_of h e.same m) hi) hk
theorem go_fa {α : Type} {f : α → List Value} {es i j : Nat} {ty : TypeId} {v : Value} {l : List α} (h : Sat w0 L w) [m : LsIn v L α f es ty l] [C : CodC f es] (hi : i < l.length) (hj : j < es) (hk : k (elF es v i j)) : bindP (pFieldAddr j (elP es v i)) k :=
  go_some (rd_fa C.cod (ls_of h (.refl _) m) hi hj) hk
theorem go_f1 {α : Type} {f : α → List Value} {es i j : Nat} {ty : TypeId} {v x : Value} {l : List α} {w1 : World} (h : Sat w0 L w) [e : SameC w w1] [m : LsIn v L α f es ty l] [C : CodC f es] (hi : i < l.length) (hx : Nth (f l[i]) j x) (hk : k x) : bindP (ld1 (elF es v i j) w1) k :=
  go_some (rd_f1 C.cod (ls_of h e.same m) hi hx) hk
theorem go_rf1 {α : Type} {f : α → List Value} {es i j : Nat} {ty : TypeId} {v x x' : Value} {l : List α} {X : Prop} {w1 : World} (h : Sat w0 L w) [e : SameC w w1] [m : LsIn v L α f es ty l] [C : CodC f es] (hi : i < l.length) (hx : Nth (f l[i]) j x) (hv : x = x') (hX : X) : fok true (ld1 (elF es v i j) w1) x' ∧ X := by
  subst hv
  exact ⟨by rw [fok_true]; exact rd_f1 C.cod (ls_of h e.same m) hi hx, hX⟩
theorem go_rel {α : Type} {f : α → List Value} {es i : Nat} {ty : TypeId} {v x' : Value} {l : List α} {X : Prop} {w1 : World} (h : Sat w0 L w) [e : SameC w w1] [m : LsIn v L α f es ty l] [C : CodC f es] (hi : i < l.length) (hv : .agg (f l[i]).toArray = x') (hX : X) : fok true (ldN es (elP es v i) w1) x' ∧ X := by
  subst hv
  exact ⟨by rw [fok_true]; exact rd_ld C.cod (ls_of h e.same m) hi, hX⟩
theorem go_rlen {α : Type} {f : α → List Value} {es : Nat} {ty : TypeId} {v x' : Value} {l : List α} {X : Prop} (h : Sat w0 L w) [m : LsIn v L α f es ty l] (hv : .int .i64 l.length = x') (hX : X) : fok true (lenL v) x' ∧ X := by
  subst hv
  exact ⟨by rw [fok_true]; exact (ls_of h (.refl _) m).len, hX⟩
theorem bAdd_i64 {a b : Int} (h : -9223372036854775808 ≤ a + b ∧ a + b ≤ 9223372036854775807) : bAdd (.int .i64 a) (.int .i64 b) = some (.int .i64 (a + b)) := by rw [bAdd_int, wrap_id h]
theorem bSub_i64 {a b : Int} (h : -9223372036854775808 ≤ a - b ∧ a - b ≤ 9223372036854775807) : bSub (.int .i64 a) (.int .i64 b) = some (.int .i64 (a - b)) := by rw [bSub_int, wrap_id h]
theorem pMin_int {j : IntKind} {a b : Int} : pMin (.int j a) (.int j b) = some (.int j (min a b)) := by
  simp only [pMin]; congr 2; rw [Int.min_def]; split <;> split <;> omega
theorem pMax_int {j : IntKind} {a b : Int} : pMax (.int j a) (.int j b) = some (.int j (max a b)) := by
  simp only [pMax]; congr 2; rw [Int.max_def]; split <;> split <;> omega
end
theorem evA : (∀ (v : Value) (k : Value → Prop), bindP (some v) k = k v) ∧ (∀ (o : Option Value) (k : Value → Prop), Sx.stepG true o k = bindP o k) ∧ (∀ (o : Option Value) (k : Value → Prop), Sx.stepG false o k = k undef) ∧
    (∀ (v : Value) (k : Value → Prop), stepM true v k = k v) ∧ (∀ (v : Value) (k : Value → Prop), stepM false v k = k undef) ∧
    (∀ (E : (Value → World → Prop) → Prop) (w : World) (K : Value → World → Prop), stepE true E w K = E K) ∧ (∀ (E : (Value → World → Prop) → Prop) (w : World) (K : Value → World → Prop), stepE false E w K = K undef w) ∧
    (∀ (w : World) (q : World → Prop), bindW (some w) q = q w) ∧ (∀ a b : Prop, ifB (.bool true) a b = a) ∧ (∀ a b : Prop, ifB (.bool false) a b = b) ∧ (∀ b : Bool, gd true (.bool b) = b) ∧ (∀ b : Bool, gd false (.bool b) = !b) ∧
    (∀ a b : Value, pPick (.bool true) a b = some a) ∧ (∀ a b : Value, pPick (.bool false) a b = some b) ∧ (∀ a : Addr, pNil (.pointer (some a)) = some (.pointer (some a))) ∧ (∀ off b o : Nat, pFieldAddr off (.pointer (some ⟨b, o, none⟩)) = some (.pointer (some ⟨b, o + off, none⟩))) ∧
    (∀ b : Bool, uNot (.bool b) = some (.bool !b)) ∧ (∀ b : Bool, gd b undef = false) :=
  ⟨fun _ _ => bindP_some _, fun _ _ => stepG_true _, fun _ _ => stepG_false _, fun _ _ => stepM_true _, fun _ _ => stepM_false _, fun _ _ _ => stepE_true _, fun _ _ _ => stepE_false _, fun _ _ => bindW_some _, fun _ _ => ifB_true, fun _ _ => ifB_false, gd_true, gd_false, pPick_true, pPick_false, pNil_ptr, pFieldAddr_ptr, uNot_bool, fun b => by cases b <;> rfl⟩
theorem evB : (∀ j (a b : Int), bLt (.int j a) (.int j b) = some (.bool (a < b))) ∧ (∀ j (a b : Int), bLe (.int j a) (.int j b) = some (.bool (a ≤ b))) ∧ (∀ j (a b : Int), bGt (.int j a) (.int j b) = some (.bool (a > b))) ∧ (∀ j (a b : Int), bGe (.int j a) (.int j b) = some (.bool (a ≥ b))) ∧
    (∀ P t x y j (a b : Int), bEq P t x y (.int j a) (.int j b) = some (.bool (decide (a = b)))) ∧ (∀ P t x y j (a b : Int), bNe P t x y (.int j a) (.int j b) = some (.bool (!decide (a = b)))) ∧
    (∀ P t x y (a b : ByteArray), bEq P t x y (.string a) (.string b) = some (.bool (decide (a = b)))) ∧ (∀ P t x y (a b : ByteArray), bNe P t x y (.string a) (.string b) = some (.bool (!decide (a = b)))) ∧
    (∀ (l : List Value) i, pTuple (.tuple l.toArray) i = l[i]?) ∧ (∀ (a : Value) (l : List Value), (a :: l)[0]? = some a) ∧ (∀ (a : Value) (l : List Value) i, (a :: l)[i + 1]? = l[i]?) ∧
    (∀ a n c, lenL (.slice a n c) = some (.int .i64 (n : Nat))) ∧ (∀ s : ByteArray, lenS (.string s) = some (.int .i64 s.size)) ∧ (∀ l : List UInt8, (bs l).size = l.length) ∧ (∀ j (a b : Int), pMin (.int j a) (.int j b) = some (.int j (min a b))) ∧ (∀ j (a b : Int), pMax (.int j a) (.int j b) = some (.int j (max a b))) ∧
    (∀ l : List UInt8, ByteArray.mk l.toArray = bs l) ∧ (∀ a b : List UInt8, (bs a = bs b) = (a = b)) ∧
    (∀ v w, ld1 v w.drew = ld1 v w) ∧ (∀ n v w, ldN n v w.drew = ldN n v w) ∧ (∀ v w, lenM v w.drew = lenM v w) ∧ (∀ v w, cBytes v w.drew = cBytes v w) ∧ (∀ P t m k b w, fLook P t m k b w.drew = fLook P t m k b w) ∧ (∀ v, fok true (some v) v = True) :=
  ⟨bLt_int, bLe_int, bGt_int, bGe_int, fun _ _ _ _ => bEq_int, fun _ _ _ _ => bNe_int, fun _ _ _ _ _ _ => by rw [bEq_str, bs_beq], fun _ _ _ _ _ _ => by rw [bNe_str, bs_beq], pTuple_mk, fun _ _ => List.getElem?_cons_zero, fun _ _ _ => List.getElem?_cons_succ, lenL_mk, lenS_mk, bs_size, fun _ _ _ => pMin_int, fun _ _ _ => pMax_int, mk_bs, fun _ _ => by rw [bs_inj], fun _ _ => rfl, fun _ _ _ => rfl, fun _ _ => rfl, fun _ _ => rfl, fun _ _ _ _ _ _ => rfl, fun _ => by rw [fok_true]; simp⟩
theorem evC : (∀ p, ptr p = .pointer (some ⟨p, 0, none⟩)) ∧ (∀ n : Nat, 0 + n = n) ∧ ((!true) = false) ∧ ((!false) = true) ∧ (∀ (α : Type) (a : α), (some a).isNone = false) ∧ (∀ α : Type, (none : Option α).isNone = true) ∧ (∀ (α : Type) (a : α), (some a).isSome = true) ∧ (∀ α : Type, (none : Option α).isSome = false) ∧
    (∀ [i : Decidable True], @decide True i = true) ∧ (∀ [i : Decidable False], @decide False i = false) ∧ (∀ (α : Type) (a : α), (a = a) = True) ∧ (∀ p : Prop, (True ∧ p) = p) ∧ (∀ a b c : Prop, ((a ∧ b) ∧ c) = (a ∧ b ∧ c)) :=
  ⟨fun _ => rfl, Nat.zero_add, rfl, rfl, fun _ _ => rfl, fun _ => rfl, fun _ _ => rfl, fun _ => rfl, fun {_} => by simp, fun {_} => by simp, fun _ _ => by simp, fun _ => by simp, fun _ _ _ => propext and_assoc⟩
theorem Sat.frt {A : HP} {w0 w : World} {L M : List HP} (h : Sat w0 L w) (f : Fnt A L M := by repeat (first | exact .here | apply Fnt.there)) : Sat w0 (A :: M) w := h.front f
theorem Sat.got {w0 w : World} {L L' : List HP} (h : Sat w0 L w) (g : Get L L' := by repeat (first | exact .done | (refine .pick (by repeat (first | exact .here | apply Fnt.there)) ?_) | refine .skip ?_)) : Sat w0 L' w := h.get g
end Go.Sx

/- Sz12 -/
namespace Go.Sx
open Go.ChangeShapes Go.WideShapes Go.RowKit
inductive CK2 where
  | int (k : IntKind)
  | str
  | bool
  | sl (es : Nat) (ks : List CK2)
mutual
def Fit2 (w : World) (B : Nat) : CK2 → Value → Prop
  | .int k, v => ∃ n, v = .int k n ∧ (Lit.int k n).wf = true
  | .str, v => ∃ s, v = .string s ∧ s.size ≤ B
  | .bool, v => ∃ b, v = .bool b
  | .sl es ks, v => ∃ n cs, Rd w es v n cs ∧ n ≤ B ∧ ∀ i, i < n → FitL2 w B ks ((cs.drop (i * es)).take es)
def FitL2 (w : World) (B : Nat) : List CK2 → List Value → Prop
  | [], vs => vs = []
  | c :: cs, vs => ∃ v r, vs = v :: r ∧ Fit2 w B c v ∧ FitL2 w B cs r
end
section
variable {w : World} {B : Nat}
theorem FitL2.append : ∀ {a b : List CK2} {x y : List Value}, FitL2 w B a x → FitL2 w B b y → FitL2 w B (a ++ b) (x ++ y)
  | [], _, x, _, h, h' => by simp only [FitL2] at h; subst h; exact h'
  | _ :: _, _, x, _, h, h' => by
    simp only [FitL2] at h
    obtain ⟨v, r, rfl, h1, h2⟩ := h
    simp only [List.cons_append, FitL2]
    exact ⟨v, _, rfl, h1, h2.append h'⟩
theorem FitL2.length : ∀ {a : List CK2} {x : List Value}, FitL2 w B a x → x.length = a.length
  | [], x, h => by simp only [FitL2] at h; subst h; rfl
  | _ :: _, x, h => by
    simp only [FitL2] at h
    obtain ⟨v, r, rfl, _, h2⟩ := h
    simp [h2.length]
theorem fitL2_nil {cs : List Value} (h : FitL2 w B [] cs) : cs = [] := by simpa only [FitL2] using h
theorem fitL2_int {k : IntKind} {ks : List CK2} {cs : List Value} (h : FitL2 w B (.int k :: ks) cs) : ∃ (n : Int) (vs : List Value), cs = .int k n :: vs ∧ (Lit.int k n).wf = true ∧ FitL2 w B ks vs := by
  simp only [FitL2, Fit2] at h
  obtain ⟨v, r, rfl, ⟨n, rfl, hn⟩, h2⟩ := h
  exact ⟨n, r, rfl, hn, h2⟩
theorem fitL2_str {ks : List CK2} {cs : List Value} (h : FitL2 w B (.str :: ks) cs) : ∃ (l : List UInt8) (vs : List Value), cs = .string (bs l) :: vs ∧ l.length ≤ B ∧ FitL2 w B ks vs := by
  simp only [FitL2, Fit2] at h
  obtain ⟨v, r, rfl, ⟨s, rfl, hs⟩, h2⟩ := h
  obtain ⟨l, rfl, hl⟩ := str_bs (s := s)
  exact ⟨l, r, rfl, by omega, h2⟩
theorem fitL2_sl {es : Nat} {k ks : List CK2} {cs : List Value} (h : FitL2 w B (.sl es k :: ks) cs) : ∃ (v : Value) (vs : List Value), cs = v :: vs ∧ (∃ n ds, Rd w es v n ds ∧ n ≤ B ∧ ∀ i, i < n → FitL2 w B k ((ds.drop (i * es)).take es)) ∧ FitL2 w B ks vs := by
  simp only [FitL2, Fit2] at h
  obtain ⟨v, r, rfl, h1, h2⟩ := h
  exact ⟨v, r, rfl, h1, h2⟩
end
def scal2F (P : Program) (r : TypeId → Option (List CK2)) : List Field → Nat → Option (List CK2)
  | [], _ => some []
  | f :: fs, off => match f.offset == off, r f.type with
    | true, some ks => match ks.length == P.cellsOf f.type, scal2F P r fs (off + ks.length) with
      | true, some l => some (ks ++ l)
      | _, _ => none
    | _, _ => none
def repCK2 (ks : List CK2) : Nat → List CK2
  | 0 => []
  | n + 1 => ks ++ repCK2 ks n
def scal2 (P : Program) : Nat → TypeId → Option (List CK2)
  | 0, _ => none
  | d + 1, t => match P.underlying t with
    | some .bool => some [.bool]
    | some (.int k) => some [.int k]
    | some .string => some [.str]
    | some (.slice e) => match scal2 P d e with
      | some ks => if 0 < P.cellsOf e ∧ 0 < P.bytesOf e then some [.sl (P.cellsOf e) ks] else none
      | none => none
    | some (.struct fs) => match scal2F P (scal2 P d) fs.toList 0 with
      | some ks => if ks.length = P.cellsOf t then some ks else none
      | none => none
    | some (.array n e) => match scal2 P d e with
      | some ks => if ks.length = P.cellsOf e ∧ n * ks.length = P.cellsOf t then some (repCK2 ks n) else none
      | none => none
    | _ => none
section
variable {H : Type} {enc : TypeId × Value → H} {P : Program} {w : World} {base : Nat} {held : Bool} {B : Nat}
theorem weightsAll_mem {e : TypeId} : ∀ {l : List (DataW H)} {d : DataW H}, d ∈ l → ∀ n ∈ d.weights P e, n ∈ DataW.weightsAll P e l
  | x :: l, d, hd, n, hn => by
    simp only [DataW.weightsAll, List.mem_append]
    rcases List.mem_cons.1 hd with rfl | hd
    · exact .inl hn
    · exact .inr (weightsAll_mem hd n hn)
  | [], _, hd, _, _ => by simp at hd
theorem scal2F_ok {r : TypeId → Option (List CK2)} {R : TypeId → List Value → Option (DataW H × List MemPlace)} {cs : List Value} (hr : ∀ t ks c x, r t = some ks → R t c = some x → (∀ n ∈ x.1.weights P t, n ≤ B) → FitL2 w B ks c) :
    ∀ (fs : List Field) (off : Nat) (ks : List CK2) (xs : List (DataW H × List MemPlace)), scal2F P r fs off = some ks → fs.mapM (fun f => R f.type ((cs.drop f.offset).take (P.cellsOf f.type))) = some xs →
      (∀ n ∈ DataW.weightsEach P (fs.map (·.type)) (xs.map (·.1)), n ≤ B) → FitL2 w B ks ((cs.drop off).take ks.length) := by
  intro fs
  induction fs with
  | nil => intro off ks xs h _ _; simp [scal2F] at h; subst h; simp [FitL2]
  | cons f fs ih =>
    intro off ks xs h hm hw
    unfold scal2F at h
    split at h
    · rename_i ks1 ho hks
      split at h
      · rename_i l hl hk
        simp only [Option.some.injEq] at h; subst h
        simp only [beq_iff_eq] at ho hl
        simp only [List.mapM_cons, Option.bind_eq_bind, Option.bind_eq_some_iff] at hm
        obtain ⟨x, hx, ys, hys, he⟩ := hm
        simp only [Option.pure_def, Option.some.injEq] at he; subst he
        simp only [List.map_cons, DataW.weightsEach, List.mem_append] at hw
        have f1 := hr _ _ _ _ hks hx fun n hn => hw n (.inl hn)
        have f2 := ih _ _ _ hk hys fun n hn => hw n (.inr hn)
        rw [ho, ← hl] at f1
        have := f1.append f2
        rw [List.length_append, List.take_add, List.drop_drop]
        exact this
      · cases h
    · cases h
theorem rep2_ok {ks : List CK2} {cs : List Value} : ∀ (n o : Nat), (∀ i, i < n → FitL2 w B ks ((cs.drop (o + i * ks.length)).take ks.length)) → FitL2 w B (repCK2 ks n) ((cs.drop o).take (n * ks.length)) := by
  intro n
  induction n with
  | zero => intro o _; simp [repCK2, FitL2]
  | succ n ih =>
    intro o h
    have h0 := h 0 (by omega)
    simp only [Nat.zero_mul, Nat.add_zero] at h0
    have h1 := ih (o + ks.length) fun i hi => by
      have := h (i + 1) (by omega)
      rwa [Nat.add_mul, Nat.one_mul, Nat.add_comm (i * ks.length), ← Nat.add_assoc] at this
    have := h0.append h1
    rw [show (n + 1) * ks.length = ks.length + n * ks.length by rw [Nat.add_mul]; omega, List.take_add, List.drop_drop]
    exact this
theorem mapM_mem {α β : Type} {f : α → Option β} : ∀ {l : List α} {r : List β}, l.mapM f = some r → ∀ x ∈ l, ∃ y ∈ r, f x = some y := by
  intro l
  induction l with
  | nil => intro r _ x hx; simp at hx
  | cons a l ih =>
    intro r h x hx
    simp only [List.mapM_cons, Option.bind_eq_bind, Option.bind_eq_some_iff] at h
    obtain ⟨y, hy, ys, hys, he⟩ := h
    simp only [Option.pure_def, Option.some.injEq] at he; subst he
    rcases List.mem_cons.1 hx with rfl | hx
    · exact ⟨y, by simp, hy⟩
    · obtain ⟨z, hz, h2⟩ := ih hys x hx; exact ⟨z, by simp [hz], h2⟩
theorem rd_of_slice {e : TypeId} {es : Nat} {a : Addr} {len cap m : Nat} {R : Nat → List Value → Prop} (he : P.cellsOf e = es) (hpos : 0 < es) (hlc : len ≤ cap) (hm : m = cap)
    (hel : ∀ i, i < m → ∃ cs', w.cells? base (a.add (i * es)) es = some cs' ∧ R i cs') :
    ∃ cs, Rd w es (.slice (some a) len cap) len cs ∧ ∀ i, i < len → R i ((cs.drop (i * es)).take es) := by
  subst hm
  by_cases hc0 : m = 0
  · have : len = 0 := by omega
    subst this
    exact ⟨[], .emp _ _, fun i hi => by omega⟩
  have cell : ∀ k, k < m * es → ∃ u, w.cell? (a.add k) = some u := by
    intro k hk
    have hi : k / es < m := by rw [Nat.div_lt_iff_lt_mul hpos]; exact hk
    obtain ⟨cs', h1, _⟩ := hel _ hi
    obtain ⟨_, h2, h3⟩ := World.cells?_some h1
    have hm := Nat.mod_lt k hpos
    have h4 := h3 (k % es) hm
    rw [add_add, show k / es * es + k % es = k by rw [Nat.mul_comm]; exact Nat.div_add_mod k es] at h4
    exact ⟨cs'[k % es]'(by omega), by rw [h4, List.getElem?_eq_getElem]⟩
  have hpos2 : 0 < m * es := Nat.mul_pos (by omega) hpos
  obtain ⟨b, o, spot⟩ := a
  have hspot : spot = none ∧ ∃ arr ty fz, w.heap[b]? = some (.cells arr ty fz) := by
    obtain ⟨u, hu⟩ := cell 0 hpos2
    simp only [Addr.add, if_true, World.cell?] at hu
    split at hu
    · rename_i arr ty fz hb'
      cases spot with
      | none => exact ⟨rfl, _, _, _, hb'⟩
      | some s => simp at hu
    · cases hu
  obtain ⟨rfl, arr, ty, fz, hb'⟩ := hspot
  have cell2 : ∀ k, k < m * es → o + k < arr.size := by
    intro k hk
    obtain ⟨u, hu⟩ := cell k hk
    rw [addr_add, cell_of hb'] at hu
    rcases Nat.lt_or_ge (o + k) arr.size with h | h
    · exact h
    · rw [Array.getElem?_eq_none h] at hu; cases hu
  have hsz := cell2 (m * es - 1) (by omega)
  have hle := Nat.mul_le_mul_right es hlc
  refine ⟨_, .blk hb' hlc (by omega) rfl, fun i hi => ?_⟩
  obtain ⟨cs', h1, h2⟩ := hel i (by omega)
  obtain ⟨_, h4, h5⟩ := World.cells?_some h1
  have hi2 : i * es + es ≤ len * es := by
    have := Nat.mul_le_mul_right es (show i + 1 ≤ len by omega)
    rw [Nat.add_mul] at this; omega
  have : (((arr.toList.drop o).take (len * es)).drop (i * es)).take es = cs' := by
    apply List.ext_getElem
    · simp; omega
    · intro j j1 j2
      have := h5 j (by omega)
      rw [addr_add, addr_add, cell_of hb', List.getElem?_eq_getElem j2, Array.getElem?_eq_getElem (cell2 (i * es + j) (by omega) |> fun h => by omega)] at this
      simp only [Option.some.injEq] at this
      rw [← this]
      simp [Nat.add_assoc]
  rw [this]; exact h2
theorem scal2_ok : ∀ (d : Nat) (t : TypeId) (ks : List CK2), scal2 P d t = some ks → ∀ (fuel : Nat) (cs : List Value) (x : DataW H × List MemPlace), DataW.trod enc P w base (fun _ => true) held fuel t cs = some x → (∀ n ∈ x.1.weights P t, n ≤ B) → FitL2 w B ks cs := by
  intro d
  induction d with
  | zero => intro t ks h; simp [scal2] at h
  | succ d ih =>
    intro t ks h fuel cs x hx hw
    cases fuel with
    | zero => simp [DataW.trod] at hx
    | succ fuel =>
    unfold scal2 at h
    split at h
    · rename_i hu
      simp only [Option.some.injEq] at h; subst h
      unfold DataW.trod at hx
      rw [hu] at hx
      split at hx <;> first | (simp_all; done) | (exact (by simp only [FitL2, Fit2]; exact ⟨_, _, rfl, ⟨_, rfl⟩, rfl⟩)) | (rename_i h1; simp at h1)
    · rename_i k hu
      simp only [Option.some.injEq] at h; subst h
      unfold DataW.trod at hx
      rw [hu] at hx
      split at hx
      all_goals first | (rename_i h1; simp at h1; done) | skip
      all_goals first | (simp at hx; done) | skip
      all_goals
        rename_i h1
        simp at h1
        subst h1
        split at hx
        · rename_i h2; obtain ⟨rfl, h3⟩ := h2; simp only [FitL2, Fit2]; exact ⟨_, _, rfl, ⟨_, rfl, h3⟩, rfl⟩
        · simp at hx
    · rename_i hu
      simp only [Option.some.injEq] at h; subst h
      unfold DataW.trod at hx
      rw [hu] at hx
      split at hx
      all_goals first | (rename_i h1; simp at h1; done) | skip
      all_goals first | (simp at hx; done) | skip
      all_goals
        split at hx
        · simp only [Option.some.injEq] at hx; subst hx
          rename_i s _ _
          have := hw s.size (by simp [DataW.weights])
          simp only [FitL2, Fit2]; exact ⟨_, _, rfl, ⟨_, rfl, this⟩, rfl⟩
        · simp at hx
    · rename_i e hu
      split at h
      · rename_i ks' hks
        split at h
        · rename_i hcell
          simp only [Option.some.injEq] at h; subst h
          rcases Go.Deep.open_slice hu hx with ⟨rfl, rfl⟩ | ⟨a, len, cap, m, n, D, Pl, rfl, hb, hlc, hcm, hm, rfl, hel⟩
          · simp only [FitL2, Fit2]
            exact ⟨_, _, rfl, ⟨0, [], .emp _ _, Nat.zero_le _, fun i hi => by omega⟩, rfl⟩
          · simp only [if_true] at hm
            simp only [DataW.weights, hu, List.mem_cons, List.mem_append, List.length_map, List.length_range] at hw
            have hn : len ≤ B := by
              have := hw _ (.inl rfl)
              have h3 := Nat.le_mul_of_pos_right (len + (m - len)) hcell.2
              omega
            obtain ⟨cs, hr, hR⟩ := rd_of_slice (R := fun i cs' => i < len → FitL2 w B ks' cs') rfl hcell.1 hlc hm fun i hi => by
              obtain ⟨cs', h1, h2⟩ := hel i hi
              refine ⟨cs', h1, fun hi2 => ih _ _ hks _ _ _ h2 fun n hn => hw n (.inr (.inl (weightsAll_mem (d := D i) ?_ n hn)))⟩
              exact List.mem_map.2 ⟨i, by simpa using hi2, rfl⟩
            simp only [FitL2, Fit2]
            exact ⟨_, _, rfl, ⟨len, cs, hr, hn, fun i hi => hR i hi hi⟩, rfl⟩
        · cases h
      · cases h
    · rename_i fs hu
      split at h
      · rename_i ks' hks
        split at h
        · rename_i hlen
          simp only [Option.some.injEq] at h; subst h
          have : cs.length = P.cellsOf t ∧ ∃ xs, fs.toList.mapM (fun f => DataW.trod enc P w base (fun _ => true) held fuel f.type ((cs.drop f.offset).take (P.cellsOf f.type))) = some xs ∧ x.1 = .agg (xs.map (·.1)) := by
            unfold DataW.trod at hx
            rw [hu] at hx
            split at hx
            all_goals first | (rename_i h1; simp at h1; done) | skip
            all_goals first | (simp at hx; done) | skip
            all_goals first | exact (‹∀ (fs_1 : Array Field), some (TypeDesc.struct fs) = some (TypeDesc.struct fs_1) → False› fs rfl).elim | skip
            all_goals
              have h1 := ‹some (TypeDesc.struct fs) = some (TypeDesc.struct _)›
              cases h1
              split at hx
              · rename_i hl
                simp only [Option.map_eq_some_iff] at hx
                obtain ⟨xs, hxs, rfl⟩ := hx
                exact ⟨hl, xs, hxs, rfl⟩
              · simp at hx
          obtain ⟨hl, xs, hxs, hx1⟩ := this
          rw [hx1] at hw
          simp only [DataW.weights, hu] at hw
          have := scal2F_ok (R := DataW.trod enc P w base (fun _ => true) held fuel) (fun t ks c x h1 h2 h3 => ih t ks h1 fuel c x h2 h3) fs.toList 0 ks' xs hks hxs hw
          rw [List.drop_zero, List.take_of_length_le (by omega)] at this
          exact this
        · cases h
      · cases h
    · rename_i n e hu
      split at h
      · rename_i ks' hks
        split at h
        · rename_i hlen
          simp only [Option.some.injEq] at h; subst h
          have : cs.length = P.cellsOf t ∧ ∃ xs, (List.range n).mapM (fun i => DataW.trod enc P w base (fun _ => true) held fuel e ((cs.drop (i * P.cellsOf e)).take (P.cellsOf e))) = some xs ∧ x.1 = .agg (xs.map (·.1)) := by
            unfold DataW.trod at hx
            rw [hu] at hx
            split at hx
            all_goals first | (rename_i h1; simp at h1; done) | skip
            all_goals first | (simp at hx; done) | skip
            all_goals first | exact (‹∀ (n_1 : Nat) (e_1 : TypeId), some (TypeDesc.array n e) = some (TypeDesc.array n_1 e_1) → False› n e rfl).elim | skip
            all_goals
              have h1 := ‹some (TypeDesc.array n e) = some (TypeDesc.array _ _)›
              cases h1
              split at hx
              · rename_i hl
                simp only [Option.map_eq_some_iff] at hx
                obtain ⟨xs, hxs, rfl⟩ := hx
                exact ⟨hl, xs, hxs, rfl⟩
              · simp at hx
          obtain ⟨hl, xs, hxs, hx1⟩ := this
          rw [hx1] at hw
          simp only [DataW.weights, hu] at hw
          have := rep2_ok (w := w) (B := B) (ks := ks') (cs := cs) n 0 fun i hi => by
            obtain ⟨y, hym, hy⟩ := mapM_mem hxs i (by simpa using hi)
            have := ih _ _ hks _ _ _ hy fun n hn => hw n (weightsAll_mem (List.mem_map.2 ⟨y, hym, rfl⟩) n hn)
            rw [Nat.zero_add, hlen.1]; exact this
          rw [List.drop_zero, List.take_of_length_le (by omega)] at this
          exact this
        · cases h
      · cases h
    · cases h
theorem arg_any {t : TypeId} {ks : List CK2} {v : Value} {d : DataW H} {ps : List MemPlace} {n0 : Nat} (hks : scal2 P n0 t = some ks)
    (hd : DataW.Trod enc P w base (fun _ => true) held t v d ps) (hw : ∀ n ∈ d.weights P t, n ≤ B) : FitL2 w B ks v.cells.toList := by
  obtain ⟨fuel, hx⟩ := hd
  exact scal2_ok _ _ _ hks _ _ _ hx hw
theorem arg_sl {t e : TypeId} {v : Value} {r : _root_.Go.Reach} {b0 : Nat} (ht : P.underlying t = some (.slice e)) (hval : Value.okWide P w r b0 t v) : v.cells.toList = [v] := by
  simp only [Value.okWide, ht, Cell.okWide, Cell.ok] at hval
  split at hval <;> first | rfl | (exact hval.elim) | simp_all [Value.cells]
end
theorem fit_list2 {α : Type} {f : α → List Value} {good : α → Prop} {Q : List Value → Prop} {es : Nat} (hf : ∀ c, Q c → ∃ x, c = f x ∧ good x) : ∀ (n : Nat) (cs : List Value), cs.length = n * es → (∀ i, i < n → Q ((cs.drop (i * es)).take es)) →
    ∃ l : List α, l.length = n ∧ cs = l.flatMap f ∧ ∀ x ∈ l, good x := by
  intro n
  induction n with
  | zero => intro cs h _; exact ⟨[], rfl, by simpa using h, by simp⟩
  | succ n ih =>
    intro cs h hx
    obtain ⟨x, e1, g1⟩ := hf _ (hx 0 (by omega))
    obtain ⟨l, e2, e3, g2⟩ := ih (cs.drop es) (by simp [h, Nat.add_mul]) fun i hi => by
      have := hx (i + 1) (by omega)
      rwa [Nat.add_mul, Nat.one_mul, Nat.add_comm (i * es), ← List.drop_drop] at this
    refine ⟨x :: l, by simp [e2], ?_, by simpa using ⟨g1, g2⟩⟩
    rw [List.flatMap_cons, ← e3, ← e1]
    simp
section
variable {w0 w : World} {L : List HP} {k : Value → Prop} {K : Value → World → Prop} {α : Type} {f : α → List Value} {es i : Nat} {ty : TypeId} {v : Value} {l : List α}
theorem go_lit1 {P : Program} {t : TypeId} {x : α} {y : Value} {c : Array Value} {w1 : World} (C : Cod f es) (h : Sat w0 L w) [e : SameC w w1] (hu : P.underlying t = some (.slice ty)) (hc : fBuildSl P ty 1 [(0, y)] = some c) (hm : c.toList = f x)
    (hK : ∀ s w', Sat w0 (LsH f es ty s [x] :: L) w' → K s w') : eBuildSl P t 1 [(0, y)] w1 K :=
  ls_lit (m := [x]) C (h.to e.same) hu hc (by simp [hm]) hK
end
end Go.Sx

/- Sz13 -/
namespace Go.Sx
section
variable {w0 w w1 : World} {L M : List HP} {k : Value → Prop} {K : Value → World → Prop} {α : Type} {f : α → List Value} {es i j n : Nat} {ty : TypeId} {v : Value} {l : List α} {l' : List Value}
theorem rd_fN (C : Cod f es) (h : Rd w es v l.length (l.flatMap f)) (hi : i < l.length) (hp : Part (f l[i]) j n l') : ldN n (elF es v i j) w = some (.agg l'.toArray) := by
  generalize hcs : l.flatMap f = cs at h
  obtain ⟨m, hm⟩ : ∃ m, m = l.length := ⟨_, rfl⟩
  rw [← hm] at h
  cases h with
  | emp => omega
  | blk hb hn ha hc =>
    rename_i b o cap a ty fz
    have hlen := C.len l[i]
    have hle := hp.le
    have e : elF es (.slice (some ⟨b, o, none⟩) m cap) i j = .pointer (some ⟨b, o + i * es + j, none⟩) := by
      unfold elF elP
      simp only [pIndexL]
      rw [if_pos ⟨by omega, by omega⟩]
      simp [pFieldAddr]
    have him : i * es + es ≤ m * es := by
      have := Nat.mul_le_mul_right es (show i + 1 ≤ m by omega)
      rw [Nat.add_mul] at this; omega
    rw [e, ldN_of hb (by omega)]
    congr 2
    apply Array.ext'
    rw [Array.toList_extract, List.extract_eq_take_drop]
    have hf := flat_at C.len l i (by omega)
    rw [hcs, hc] at hf
    rw [show o + i * es + j + n - (o + i * es + j) = n from by omega]
    rw [← hp.eq, ← hf]
    simp only [List.drop_take, List.take_take, List.drop_drop, List.toList_toArray]
    congr 1
    omega
end
class RdIn (w0 : World) (L : List HP) (v : Value) (α : outParam Type) (f : outParam (α → List Value)) (es : outParam Nat) (l : outParam (List α)) : Prop where
  rd : ∀ w, Sat w0 L w → Rd w es v l.length (l.flatMap f)
instance {w0 : World} {L : List HP} {v : Value} {α : Type} {f : α → List Value} {es : Nat} {ty : TypeId} {l : List α} : RdIn w0 (LsH f es ty v l :: L) v α f es l := ⟨fun _ h => ls_rd h⟩
instance (priority := low) {w0 : World} {L : List HP} {X : HP} {v : Value} {α : Type} {f : α → List Value} {es : Nat} {l : List α} [m : RdIn w0 L v α f es l] : RdIn w0 (X :: L) v α f es l := ⟨fun w h => m.rd w h.drop⟩
theorem RdIn.arg {w0 : World} {L : List HP} {v : Value} {α : Type} {f : α → List Value} {es : Nat} {l : List α} (h : Rd w0 es v l.length (l.flatMap f)) : RdIn w0 L v α f es l := ⟨fun _ hs => h.sat hs⟩
section
variable {w0 w w1 : World} {L M : List HP} {k : Value → Prop} {K : Value → World → Prop} {α : Type} {f : α → List Value} {es i j n : Nat} {ty : TypeId} {v x : Value} {l : List α} {l' : List Value}
theorem go_lenR (h : Sat w0 L w) [m : RdIn w0 L v α f es l] (hk : k (.int .i64 l.length)) : bindP (lenL v) k := go_some (m.rd w h).len hk
theorem go_ixR (h : Sat w0 L w) [m : RdIn w0 L v α f es l] (hi : i < l.length) (hk : k (elP es v i)) : bindP (pIndexL es v (.int .i64 i)) k := go_some (ix_el (m.rd w h) hi) hk
theorem go_elR (h : Sat w0 L w) [e : SameC w w1] [m : RdIn w0 L v α f es l] (hc : CodC f es) (hi : i < l.length) (hk : k (.agg (f l[i]).toArray)) : bindP (ldN es (elP es v i) w1) k := go_some (rd_ld hc.cod (m.rd _ (h.to e.same)) hi) hk
theorem go_faR (h : Sat w0 L w) [m : RdIn w0 L v α f es l] (hc : CodC f es) (hi : i < l.length) (hj : j < es) (hk : k (elF es v i j)) : bindP (pFieldAddr j (elP es v i)) k := go_some (rd_fa hc.cod (m.rd w h) hi hj) hk
theorem go_f1R (h : Sat w0 L w) [e : SameC w w1] [m : RdIn w0 L v α f es l] (hc : CodC f es) (hi : i < l.length) (hx : Nth (f l[i]) j x) (hk : k x) : bindP (ld1 (elF es v i j) w1) k := go_some (rd_f1 hc.cod (m.rd _ (h.to e.same)) hi hx) hk
theorem go_fNR (h : Sat w0 L w) [e : SameC w w1] [m : RdIn w0 L v α f es l] (hc : CodC f es) (hi : i < l.length) (hp : Part (f l[i]) j n l') (hk : k (.agg l'.toArray)) : bindP (ldN n (elF es v i j) w1) k := go_some (rd_fN hc.cod (m.rd _ (h.to e.same)) hi hp) hk
theorem go_rf1R {x' : Value} {X : Prop} (h : Sat w0 L w) [e : SameC w w1] [m : RdIn w0 L v α f es l] (hc : CodC f es) (hi : i < l.length) (hx : Nth (f l[i]) j x) (hv : x = x') (hX : X) : fok true (ld1 (elF es v i j) w1) x' ∧ X := by
  subst hv; exact ⟨by rw [fok_true]; exact rd_f1 hc.cod (m.rd _ (h.to e.same)) hi hx, hX⟩
theorem go_relR {x' : Value} {X : Prop} (h : Sat w0 L w) [e : SameC w w1] [m : RdIn w0 L v α f es l] (hc : CodC f es) (hi : i < l.length) (hv : .agg (f l[i]).toArray = x') (hX : X) : fok true (ldN es (elP es v i) w1) x' ∧ X := by
  subst hv; exact ⟨by rw [fok_true]; exact rd_ld hc.cod (m.rd _ (h.to e.same)) hi, hX⟩
theorem go_rlenR {x' : Value} {X : Prop} (h : Sat w0 L w) [m : RdIn w0 L v α f es l] (hv : .int .i64 l.length = x') (hX : X) : fok true (lenL v) x' ∧ X := by
  subst hv; exact ⟨by rw [fok_true]; exact (m.rd w h).len, hX⟩
theorem rd_e1 (C : Cod f 1) (h : Rd w 1 v l.length (l.flatMap f)) (hi : i < l.length) (hx : Nth (f l[i]) 0 x) : ld1 (elP 1 v i) w = some x := by
  obtain ⟨b, o, h1, _, h3⟩ := h.elem C.len rfl hi (j := .i64)
  have e : elP 1 v i = .pointer (some ⟨b, o, none⟩) := by simp [elP, h1]
  rw [e, ld1_ptr]
  rcases h3 0 with h | h
  · rw [show o + 0 = o from rfl] at h
    rw [h]; exact hx.get
  · omega
theorem go_e1R (h : Sat w0 L w) [e : SameC w w1] [m : RdIn w0 L v α f 1 l] (hc : CodC f 1) (hi : i < l.length) (hx : Nth (f l[i]) 0 x) (hk : k x) : bindP (ld1 (elP 1 v i) w1) k := go_some (rd_e1 hc.cod (m.rd _ (h.to e.same)) hi hx) hk
theorem go_re1R {x' : Value} {X : Prop} (h : Sat w0 L w) [e : SameC w w1] [m : RdIn w0 L v α f 1 l] (hc : CodC f 1) (hi : i < l.length) (hx : Nth (f l[i]) 0 x) (hv : x = x') (hX : X) : fok true (ld1 (elP 1 v i) w1) x' ∧ X := by
  subst hv; exact ⟨by rw [fok_true]; exact rd_e1 hc.cod (m.rd _ (h.to e.same)) hi hx, hX⟩
end
end Go.Sx

/- So1 -/
namespace Go.Sx
open Go.Proofs (CmpLays)
section
variable {α : Type} [Inhabited α] {f : α → List Value} {es : Nat}
end
def Gr (W W' : World) : Prop := ∃ q os', W' = Go.Sort.grow (W.drewN q) os'
theorem Gr.refl (W : World) : Gr W W := ⟨0, #[], by rw [Go.Sort.grow_empty]; rfl⟩
theorem Gr.alloc {W W' : World} (h : Gr W W') (o : Obj) : Gr W (W'.alloc o) := by
  obtain ⟨q, os, rfl⟩ := h
  exact ⟨q, os ++ #[o], by rw [Go.Sort.alloc_eq_grow, Go.Sort.grow_grow]⟩
theorem Gr.drew {W W' : World} (h : Gr W W') : Gr W W'.drew := by
  obtain ⟨q, os, rfl⟩ := h
  exact ⟨q + 1, os, rfl⟩
section
variable {w0 w W : World} {L : List HP} {K : Value → World → Prop}
end
section
variable {α : Type} [Inhabited α] {f : α → List Value} {es : Nat}
end
end Go.Sx

/- So2 -/
set_option linter.all false
namespace Go.Sx
open Go.Proofs Go.Maps
abbrev Rany : Value → Option (DataW Unit × List MemPlace) := fun _ => some (.nil, [])
section
variable {κ ν : Type} {ek : κ → Value} {ev : ν → Value} {m : List (κ × ν)} {w0 w : World} {L : List HP} {v : Value} {P : Program} {k : TypeId}
theorem map_own (kl : κ → Lit) (hk : ∀ x ∈ m, keyOf P k (ek x.1) = some (kl x.1)) (hinj : ∀ x y, ek x = ek y → x = y) (h : Sat w0 (MapH ek ev v m :: L) w) (hl : m.length ≤ maxLen) :
    ∃ b D, v = .map (some b) ∧ b < w.heap.size ∧ w.ownsMap P k Rany b m.length D ∧ (∃ es, D = .map es ∧ (es.map Prod.fst).Perm (m.map fun x => kl x.1)) := by
  obtain ⟨r, es, clock, ⟨rfl, hm⟩, hs⟩ := map_iff.1 h
  have hlen : es.size = m.length := by
    have := congrArg List.length hm.kv
    simpa using this
  have hkeys : es.toList.map (·.key) = m.map fun x => ek x.1 := by
    have := congrArg (List.map Prod.fst) hm.kv
    simpa [List.map_map, Function.comp_def] using this
  have hkd : ((m.map Prod.fst).map ek).Nodup := by
    refine List.pairwise_map.2 (hm.kd.imp fun hne e => hne (hinj _ _ e))
  have hrd : ∀ x ∈ es.toList, ∃ y ∈ m, x.key = ek y.1 := by
    intro x hx
    have : x.key ∈ es.toList.map (·.key) := List.mem_map.2 ⟨x, hx, rfl⟩
    rw [hkeys] at this
    obtain ⟨y, hy, e⟩ := List.mem_map.1 this
    exact ⟨y, hy, e.symm⟩
  have hrg : ∀ x ∈ es.toList, ∀ y ∈ m, x.key = ek y.1 → WideElems.rd P k Rany x = some (kl y.1, (.nil : DataW Unit)) := by
    intro x hx y hy e
    simp [WideElems.rd, e, hk y hy, Rany]
  refine ⟨r, _, rfl, lt_of_blk hs.blk, ⟨es, clock, hs.blk, ⟨by omega, ⟨hm.lt, hm.nd, ?_⟩, ?_⟩, by omega, rfl⟩, _, rfl, ?_⟩
  · rw [hkeys]
    simpa [List.map_map, Function.comp_def] using hkd
  · intro x hx
    obtain ⟨y, hy, e⟩ := hrd x hx
    exact ⟨_, hrg x hx y hy e⟩
  · have h1 : ((es.toList.map (WideElems.rg P k Rany)).foldr DataW.insert []).Perm (es.toList.map (WideElems.rg P k Rany)) := WideShapes.sorted_perm _
    refine (h1.map Prod.fst).trans ?_
    have h2 : (es.toList.map (WideElems.rg P k Rany)).map Prod.fst = m.map fun x => kl x.1 := by
      rw [List.map_map]
      have h3 : ∀ (l : List MapEntry) (n : List (κ × ν)), (∀ x ∈ l, x ∈ es.toList) → (∀ y ∈ n, y ∈ m) → l.map (·.key) = n.map (fun x => ek x.1) → l.map (Prod.fst ∘ WideElems.rg P k Rany) = n.map fun x => kl x.1 := by
        intro l
        induction l with
        | nil => intro n _ _ e; cases n with
          | nil => rfl
          | cons a n => simp at e
        | cons x l ih =>
          intro n hx hn e
          cases n with
          | nil => simp at e
          | cons y n =>
            simp only [List.map_cons, List.cons.injEq] at e ⊢
            refine ⟨?_, ih n (fun z hz => hx z (List.mem_cons_of_mem _ hz)) (fun z hz => hn z (List.mem_cons_of_mem _ hz)) e.2⟩
            simp [WideElems.rg, hrg x (hx x (by simp)) y (hn y (by simp)) e.1]
      exact h3 _ _ (fun _ h => h) (fun _ h => h) hkeys
    rw [h2]
end
theorem stp_of_below {w w' : World} (h : RowKit.Below w.heap.size w w') (fp : List Nat) (hf : ∀ b ∈ fp, w.heap.size ≤ b) : Stp [] fp w w' :=
  ⟨⟨h.os, h.tape, h.output, h.size, fun b hb _ => h.block b hb⟩, fun x hx => .inr (hf x hx)⟩
theorem Sat.row {w0 w w' : World} {L : List HP} {ty : TypeId} {es n : Nat} {v : Value} {xs : List Value} (h : Sat w0 L w) (hb : RowKit.Below w.heap.size w w') (hr : w'.ownsRow w.heap.size ty es v n xs) : Sat w0 (SlH es ty v n xs :: L) w' := by
  rcases hr with ⟨hx, ⟨rfl, rfl⟩ | ⟨g, cap, cur, rfl, hg, hc, h1, h2, h3, h4⟩⟩
  · obtain rfl : xs = [] := List.eq_nil_of_length_eq_zero (by simpa using hx)
    exact h.ofOwn .nil (stp_of_below hb [] (by simp))
  · exact h.ofOwn (.blk (b := g) (o := 0) (cap := cap) hc h1 (by omega) (by simpa using h4.symm)) (stp_of_below hb [g] (by simpa using hg))
abbrev kSt (s : List UInt8) : Value := .string (bs s)
abbrev cSt (s : List UInt8) : List Value := [.string (bs s)]
def gSortedS (g : Nat) (ty : TypeId) : FnT := fun args w K => ∃ (ν : Type) (ev : ν → Value) (m : List (List UInt8 × ν)) (mv : Value) (bx : Nat) (mt : TypeId) (w0 : World) (L : List HP),
  args = [.func (.func g) #[] #[ptr bx]] ∧ Sat w0 (Cl bx #[mv] mt :: MapH kSt ev mv m :: L) w ∧ (∀ x ∈ m, x.1.length ≤ maxLen) ∧ m.length ≤ 8796093022208 ∧
  ∀ l v w', l.Perm (m.map Prod.fst) → l.Pairwise (· ≤ ·) → Sat w0 (LsH cSt 1 ty v l :: Cl bx #[mv] mt :: MapH kSt ev mv m :: L) w' → K v w'
theorem okSortedS {P : Program} {ρk ρs ρt : Go.Shelf.Ren} {f g : Nat} {ty : TypeId} (Kl : SlLaysZ.n7 P ρk) (S : SlLaysZ.n6 P ρs) (T : SlLaysM.n6 P ρt) (hf : ρs.f 6 = f) (hg : ρk.f 10 = g) (ht : ρs.t 26 = ty) (hst : ρs.f 9 = ρt.f 6)
    (ef : ∀ args w, (callFunc f args).run P w = .ok (.enter f args) w) (e9 : ∀ args w, (callFunc (ρt.f 6) args).run P w = .ok (.enter (ρt.f 6) args) w) (eg : ∀ args w, (callFunc g args).run P w = .ok (.enter g args) w) : OkF P f (gSortedS g ty) := by
  subst hf hg ht
  intro args w K ⟨ν, ev, m, mv, bx, mt, w0, L, ha, hs, hr, hl, hk⟩
  subst ha
  refine .inl ⟨ef _ _, ?_⟩
  have hml : m.length ≤ maxLen := by unfold maxLen; omega
  have hs2 := hs.drop
  obtain ⟨b, D, rfl, hb, hown, es, rfl, hp⟩ := map_own (P := P) (k := ρk.t 26) (fun x => .string x) (fun x hx => by
    have := hr x hx
    simp [keyOf, Kl.t26, mapKey, bs, ByteArray.size, this]) (fun x y e => by simpa using e) hs2 hml
  have hsz : Maps.size (.map es : DataW Unit) = m.length := by
    have := hp.length_eq
    simpa [Maps.size] using this
  have hik : strKeys (.map es : DataW Unit) = (es.map Prod.fst).map strOf := by simp [strKeys]
  have hpk : (strKeys (.map es : DataW Unit)).Perm (m.map Prod.fst) := by
    rw [hik]
    refine (hp.map strOf).trans ?_
    rw [List.map_map]
    exact List.Perm.of_eq (List.map_congr_left fun x _ => rfl)
  have hcell : w.cell? ⟨bx, 0, none⟩ = some (.map (some b)) := by rw [cell_of hs.cl]; rfl
  have hseq := AnyZ.keys_gives (ρ := ρk) { Kl with } Fence.wide 2 trivial rfl (by omega) bx b m.length (.map es) w (lt_of_blk hs.cl) hcell hown
  have hsort : AnyZ.SortsIn P ρs Fence.wide (5 - 1) := by
    constructor
    · intro blk off cap ss W hH hblk hsz
      rw [hst]
      exact callsIn_wide.2 (AnyM.slices_Sort_string T blk off cap ss W hH hblk hsz)
    · intro p cap W
      rw [hst]
      exact callsIn_wide.2 (AnyM.slices_Sort_string_none T p cap W)
  have hcon := callsIn_wide.1 (AnyZ.sorted_in S Fence.wide 5 trivial trivial trivial trivial rfl (by omega) hsort (by rw [hst]; exact e9) (ρk.f 10) #[.pointer (some ⟨bx, 0, none⟩)] trivial eg _ _ (by rw [hsz]; exact hml) (by rw [hsz]; omega) w hseq)
  refine hcon.mono ?_
  rintro e w' ⟨v, ss, rfl, hS, hrow, _, hbl⟩
  refine ⟨_, rfl, hk (ss.mergeSort fun x y => decide (x ≤ y)) v w' (((List.mergeSort_perm ss _).trans hS).trans hpk) ?_ ?_⟩
  · have := List.pairwise_mergeSort (le := fun x y : List UInt8 => decide (x ≤ y)) (fun a b c h1 h2 => by simp only [decide_eq_true_eq] at *; exact List.le_trans h1 h2) (fun a b => by simp only [Bool.or_eq_true, decide_eq_true_eq]; exact List.le_total a b) ss
    exact this.imp fun h => by simpa using h
  · have := hs.row hbl hrow
    unfold LsH
    have e1 : (ss.mergeSort fun x y => decide (x ≤ y)).flatMap cSt = (ss.mergeSort fun x y => decide (x ≤ y)).map encStr := by
      induction (ss.mergeSort fun x y => decide (x ≤ y)) with
      | nil => rfl
      | cons a l ih => simp only [List.flatMap_cons, List.map_cons, ih]; rfl
    rw [e1, List.length_mergeSort]
    exact this
theorem sortedS_sat {g : Nat} {ty : TypeId} {ν : Type} {ev : ν → Value} {m : List (List UInt8 × ν)} {mv : Value} {bx : Nat} {mt : TypeId} {w0 w : World} {L : List HP} {K : Value → World → Prop} (h : Sat w0 (Cl bx #[mv] mt :: MapH kSt ev mv m :: L) w)
    (hr : ∀ x ∈ m, x.1.length ≤ maxLen) (hl : m.length ≤ 8796093022208)
    (hK : ∀ l v w', l.Perm (m.map Prod.fst) → l.Pairwise (· ≤ ·) → Sat w0 (LsH cSt 1 ty v l :: Cl bx #[mv] mt :: MapH kSt ev mv m :: L) w' → K v w') : callP (gSortedS g ty) [.func (.func g) #[] #[ptr bx]] w K :=
  callP_intro ⟨ν, ev, m, mv, bx, mt, w0, L, rfl, h, hr, hl, hK⟩
end Go.Sx

/- So3 -/
set_option linter.all false
namespace Go.Sx
open Go.Proofs
section
variable {P : Program} {w : World}
structure Wid (P : Program) (F : Fence) : Prop where
  fn : ∀ f, F.fn f
  dp : F.depth = none
  calls : ∀ n f args w R, Calls P f args w R → CallsIn F n P f args w R
theorem Wid.wide : Wid P Fence.wide := ⟨fun _ => trivial, rfl, fun _ _ _ _ _ h => callsIn_wide.2 h⟩
structure RelD (nt : Nat) (ds : List Deferred) (e : Env) (a : Act) : Prop where
  sz : a.tmps.size = nt
  df : a.defers = ds
  v : ∀ t, val a t = e t
theorem RelD.put {nt : Nat} {ds : List Deferred} {e : Env} {a : Act} (h : RelD nt ds e a) (d : Option Tmp) (v : Value) : RelD nt ds (Sx.put nt e d v) (a.put d v) := by
  have h2 : Rel nt e { a with defers := [] } := ⟨h.sz, rfl, h.v⟩
  have h3 := h2.put d v
  refine ⟨by rw [size_put, h.sz], by rw [dfr_put, h.df], fun t => ?_⟩
  have := h3.v t
  cases d <;> exact this
end
theorem born_inj : ∀ {l : List MapEntry}, (l.map (·.born)).Nodup → ∀ {a b : MapEntry}, a ∈ l → b ∈ l → a.born = b.born → a = b
  | [], _, _, _, h, _, _ => by simp at h
  | x :: l, hn, a, b, ha, hb, e => by
    simp only [List.map_cons, List.nodup_cons] at hn
    rcases List.mem_cons.1 ha with rfl | ha'
    · rcases List.mem_cons.1 hb with rfl | hb'
      · rfl
      · exact absurd (by rw [e]; exact List.mem_map_of_mem (f := (·.born)) hb') hn.1
    · rcases List.mem_cons.1 hb with rfl | hb'
      · exact absurd (by rw [← e]; exact List.mem_map_of_mem (f := (·.born)) ha') hn.1
      · exact born_inj hn.2 ha' hb' e
section
variable {κ ν : Type} {ek : κ → Value} {ev : ν → Value} {m : List (κ × ν)} {w0 w : World} {L : List HP} {v : Value}
theorem eNext_sat2 {K : Value → World → Prop} {it : Value} {rem : List (κ × ν)} (h : Sat w0 (ItH ek ev it v m rem :: L) w)
    (h0 : rem = [] → ∀ w', Sat w0 (ItH ek ev it v m [] :: L) w' → K over w')
    (h1 : ∀ (x : κ × ν) (r1 r2 : List (κ × ν)) (w' : World), rem = r1 ++ x :: r2 → Sat w0 (ItH ek ev it v m (r1 ++ r2) :: L) w' → fEntry it w' = some (.tuple #[ek x.1, ev x.2]) → K (.tuple #[.bool true, ek x.1, ev x.2]) w') : eNext it false w K := by
  obtain ⟨q, r, es, clock, seen, ⟨rfl, rfl, hm, hrem, hsub⟩, hs⟩ := it_iff.1 h
  simp only [eNext, ptr, hs.blk, hs.f1.blk]
  have hall : ∀ e ∈ es.toList, e.born < clock := hm.lt
  have hold : (es.filter fun e => !seen.contains e.born).filter (fun e => decide (e.born < clock)) = es.filter fun e => !seen.contains e.born := by
    apply Array.ext'
    simp only [Array.toList_filter]
    exact List.filter_eq_self.2 fun e he => by simpa using hall e (List.mem_filter.1 he).1
  have hnew : (es.filter fun e => !seen.contains e.born).filter (fun e => decide (e.born ≥ clock)) = #[] := by
    apply Array.ext'
    simp only [Array.toList_filter]
    refine List.filter_eq_nil_iff.2 fun e he => ?_
    have := hall e (List.mem_filter.1 he).1
    simp; omega
  have hC : nextC es clock seen = (if (es.filter fun e => !seen.contains e.born).isEmpty then #[none] else #[]) ++ (es.filter fun e => !seen.contains e.born).map some := by
    simp only [nextC, hold, hnew, Array.append_empty]
  refine ⟨?_, ?_⟩
  · cases hes : es.toList with
    | nil => have : es = #[] := by apply Array.ext'; simpa using hes
             subst this; simp
    | cons e l =>
      have : e.born < clock := hall e (by rw [hes]; simp)
      have h3 : es.all (fun x => decide (x.born ≥ clock)) = false := by
        rw [Bool.eq_false_iff]
        intro hx
        rw [Array.all_eq_true_iff_forall_mem] at hx
        have := hx e (by rw [← Array.mem_toList_iff, hes]; simp)
        simp at this; omega
      simp [h3]
  · intro j w1 hw1 hj
    have hs1 : Sat w0 (Blk q (.mapIter (some r) clock seen clock) :: Blk r (.map es clock) :: L) w1 := by
      rcases hw1 with rfl | rfl
      · exact hs
      · exact hs.drew
    rw [hC] at hj ⊢
    generalize hl : (es.filter fun e => !seen.contains e.born) = left at *
    have hleft : left.toList = es.toList.filter fun e => !seen.contains e.born := by rw [← hl]; simp
    rw [← hleft] at hrem
    by_cases hemp : left.toList = []
    · have : left = #[] := Array.ext' (by simpa using hemp)
      subst this
      simp at hj ⊢
      subst hj
      simp
      have hr0 : rem = [] := by simpa using hrem
      subst hr0
      exact h0 rfl _ (it_iff.2 ⟨q, r, es, clock, seen, ⟨rfl, rfl, hm, by rw [← hleft]; simp, hsub⟩, hs1⟩)
    · have hne : left.isEmpty = false := by
        rw [Bool.eq_false_iff]; intro hx
        simp at hx; exact hemp (by simp [hx])
      simp [hne] at hj ⊢
      have hlen := congrArg List.length hrem
      simp at hlen
      have hjr : j < rem.length := by omega
      simp [hj]
      have hkv := congrArg (fun l => l[j]?) hrem
      simp [hj, hjr] at hkv
      have split : rem = rem.take j ++ rem[j] :: rem.drop (j + 1) := by
        rw [List.getElem_cons_drop, List.take_append_drop]
      have := h1 rem[j] (rem.take j) (rem.drop (j + 1)) (setBlk w1 q (.mapIter (some r) clock (seen.push left[j].born) clock)) split ?_ ?_
      · rw [← hkv.1, ← hkv.2] at this; exact this
      · refine it_iff.2 ⟨q, r, es, clock, seen.push left[j].born, ⟨rfl, rfl, hm, ?_, ?_⟩, hs1.set _⟩
        · have hnd : (left.toList.map (·.born)).Nodup := by
            rw [hleft]; exact hm.nd.sublist (List.filter_sublist.map _)
          have e1 : es.toList.filter (fun e => !(seen.push left[j].born).contains e.born) = left.toList.eraseIdx j := by
            have e2 : es.toList.filter (fun e => !(seen.push left[j].born).contains e.born) = left.toList.filter (fun e => decide (e.born ≠ left[j].born)) := by
              rw [hleft, List.filter_filter]
              congr 1; funext e
              rw [Bool.eq_iff_iff]; simp; 
              constructor
              · rintro ⟨a, b⟩; exact ⟨b, a⟩
              · rintro ⟨a, b⟩; exact ⟨b, a⟩
            rw [e2]
            have key : ∀ (l : List MapEntry) (j : Nat) (hj : j < l.length), (l.map (·.born)).Nodup → l.filter (fun e => decide (e.born ≠ l[j].born)) = l.eraseIdx j := by
              intro l
              induction l with
              | nil => intro j hj; simp at hj
              | cons a l ih =>
                intro j hj hn
                simp only [List.map_cons, List.nodup_cons] at hn
                cases j with
                | zero =>
                  simp
                  intro x hx e
                  exact hn.1 (by rw [← e]; exact List.mem_map_of_mem hx)
                | succ j =>
                  simp only [List.length_cons, Nat.add_lt_add_iff_right] at hj
                  have : a.born ≠ l[j].born := fun e => hn.1 (by rw [e]; exact List.mem_map_of_mem (List.getElem_mem hj))
                  simp [this]
                  simpa using ih j hj hn.2
            exact key left.toList j (by simpa using hj) hnd
          rw [e1, map_eraseIdx', hrem, ← map_eraseIdx', List.eraseIdx_eq_take_drop_succ]
        · rw [← List.eraseIdx_eq_take_drop_succ]; exact (List.eraseIdx_sublist _ _).trans hsub
      · have hs2 := hs1.set (.mapIter (some r) clock (seen.push left[j].born) clock)
        have hlm : left[j] ∈ es.toList := by
          have : left[j] ∈ left.toList := by rw [← Array.getElem_toList]; exact List.getElem_mem _
          rw [hleft] at this
          exact (List.mem_filter.1 this).1
        have hfd : es.find? (fun e => e.born == left[j].born) = some left[j] := by
          rw [← Array.find?_toList]
          cases hf : es.toList.find? (fun e => e.born == left[j].born) with
          | none =>
            rw [List.find?_eq_none] at hf
            have := hf _ hlm
            simp at this
          | some e =>
            have h3 := List.mem_of_find?_eq_some hf
            have h4 := List.find?_some hf
            simp only [beq_iff_eq] at h4
            rw [born_inj hm.nd h3 hlm h4]
        simp [fEntry, ptr, hs2.blk, hs2.f1.blk, hfd, hkv.1, hkv.2]
end
section
variable {κ ν : Type} {ek : κ → Value} {ev : ν → Value} {m : List (κ × ν)} {w0 w : World} {L : List HP} {mv : Value} {P : Program}
end
section
variable {ν : Type} {fv : ν → List Value} {w0 w : World} {L : List HP} {P : Program}
end
end Go.Sx

/- Ty -/
namespace Go.Proofs.Gong
open Go Go.Sx Go.Proofs
set_option linter.all false
set_option maxRecDepth 100000
variable {kn kr : ET} {ke : JT}
theorem mixed : Try.prog.follows .mixedOrders = true := by kernel_rfl
theorem z3 : fZero Try.prog 3 = some (.int .i64 0) := by kernel_rfl
theorem z4 : fZero Try.prog 4 = some (.bool false) := by kernel_rfl
theorem z5 : fZero Try.prog 5 = some (.int .u8 0) := by kernel_rfl
theorem z9 : fZero Try.prog 9 = some (.string ⟨#[]⟩) := by kernel_rfl
theorem u22 : Try.prog.underlying 22 = some (.slice 3) := by kernel_rfl
theorem up23 : Try.prog.underlying 23 = some (.pointer 80) := by kernel_rfl
theorem z23 : fZero Try.prog 23 = some (.pointer none) := by kernel_rfl
theorem z24 : fZero Try.prog 24 = some (.int .i64 0) := by kernel_rfl
theorem u33 : Try.prog.underlying 33 = some (.slice 9) := by kernel_rfl
theorem z33 : fZero Try.prog 33 = some (.slice none 0 0) := by kernel_rfl
theorem z53 : fZero Try.prog 53 = some (.agg #[(.string ⟨#[]⟩), (.string ⟨#[]⟩), (.string ⟨#[]⟩), (.int .i64 0), (.string ⟨#[]⟩)]) := by kernel_rfl
theorem z57 : fZero Try.prog 57 = some (.slice none 0 0) := by kernel_rfl
theorem z63 : fZero Try.prog 63 = some (.agg #[(.int .i64 0), (.int .i64 0), (.int .i64 0), (.string ⟨#[]⟩), (.string ⟨#[]⟩), (.string ⟨#[]⟩), (.int .i64 0), (.string ⟨#[]⟩), (.int .i64 0), (.int .i64 0), (.int .i64 0), (.bool false), (.string ⟨#[]⟩)]) := by kernel_rfl
theorem um78 : Try.prog.underlying 78 = some (.map 9 86) := by kernel_rfl
theorem z80 : fZero Try.prog 80 = some (.agg #[(.int .i64 0), (.map none), (.bool false), (.int .i64 0)]) := by kernel_rfl
theorem z86 : fZero Try.prog 86 = some (.agg #[(.string ⟨#[]⟩), (.int .i64 0)]) := by kernel_rfl
end Go.Proofs.Gong

/- Al0 -/
namespace Go.Proofs.Gong
open Go Go.Sx Go.Proofs
set_option maxRecDepth 100000
section
variable {κ ν : Type} [DecidableEq κ] {k : κ} {x : ν} {m : List (κ × ν)}
theorem aGet_none_of {k : κ} {m : List (κ × ν)} (h : ∀ y, (k, y) ∉ m) : aGet k m = none := by
  cases hg : aGet k m with
  | none => rfl
  | some y => exact absurd (aGet_mem hg) (h y)
theorem aSet_new {k : κ} {x : ν} : ∀ {m : List (κ × ν)}, aGet k m = none → aSet k x m = m ++ [(k, x)]
  | [], _ => rfl
  | z :: r, h => by
    unfold aGet at h
    by_cases hk : k = z.1
    · simp [hk] at h
    · simp only [hk, if_false] at h
      simp [aSet, hk, aSet_new h]
theorem aDel_perm {k : κ} {x : ν} : ∀ {m : List (κ × ν)}, aGet k m = some x → ((k, x) :: aDel k m).Perm m
  | [], h => by simp [aGet] at h
  | z :: r, h => by
    unfold aGet at h
    by_cases hk : k = z.1
    · simp only [hk, if_true, Option.some.injEq] at h
      subst h
      simp [aDel, hk]
    · simp only [hk, if_false] at h
      simp only [aDel, hk, if_false]
      exact (List.Perm.swap _ _ _).trans ((aDel_perm h).cons z)
theorem aSet_perm {k : κ} {x y : ν} : ∀ {m : List (κ × ν)}, aGet k m = some y → (aSet k x m).Perm ((k, x) :: aDel k m)
  | [], h => by simp [aGet] at h
  | z :: r, h => by
    unfold aGet at h
    by_cases hk : k = z.1
    · simp [aSet, aDel, hk]
    · simp only [hk, if_false] at h
      simp only [aDel, aSet, hk, if_false]
      exact ((aSet_perm h).cons z).trans (List.Perm.swap _ _ _)
end
end Go.Proofs.Gong

/- Ks0 -/
namespace Go.Proofs.Gong
open Go Go.Sx Go.Proofs
theorem aDel_no {κ ν : Type} [DecidableEq κ] {k : κ} : ∀ {m : List (κ × ν)}, aGet k m = none → aDel k m = m
  | [], _ => rfl
  | z :: r, h => by
    unfold aGet at h
    by_cases hk : k = z.1
    · simp [hk] at h
    · simp only [hk, if_false] at h
      simp [aDel, hk, aDel_no h]
structure STO {κ : Type} (lt : κ → κ → Bool) : Prop where
  irr : ∀ a, lt a a = false
  trans : ∀ {a b c}, lt a b = true → lt b c = true → lt a c = true
  tot : ∀ {a b}, lt a b = false → lt b a = false → a = b
section
variable {α κ ν : Type} [DecidableEq κ] (lt : κ → κ → Bool) (key : α → κ) (val : α → ν)
def kGet (k : κ) (l : List α) : Option α := l.find? fun x => decide (key x = k)
def kDel (k : κ) (l : List α) : List α := l.filter fun x => decide (key x ≠ k)
def kIns (x : α) (l : List α) : List α := l.takeWhile (fun d => lt (key d) (key x)) ++ x :: l.dropWhile (fun d => lt (key d) (key x))
def kPut (x : α) (l : List α) : List α := kIns lt key x (kDel key (key x) l)
def kRep (x : α) (l : List α) : List α := l.map fun d => if key d = key x then x else d
def KAsc (l : List α) : Prop := l.Pairwise fun a b => lt (key a) (key b) = true
structure KInv (M : List (κ × ν)) (l : List α) : Prop where
  pm : M.Perm (l.map fun x => (key x, val x))
  asc : KAsc lt key l
variable {lt key val}
theorem KAsc.ne (S : STO lt) {l : List α} (h : KAsc lt key l) : l.Pairwise fun a b => key a ≠ key b :=
  h.imp fun h e => by rw [e, S.irr] at h; cases h
theorem kasc_nd (S : STO lt) {l : List α} (h : KAsc lt key l) : (l.map key).Nodup := List.pairwise_map.2 (h.ne S)
theorem kasc_split (S : STO lt) {l : List α} {x : α} (h : KAsc lt key l) (hx : x ∈ l) : ∃ a b, l = a ++ x :: b ∧ (∀ d ∈ a, key d ≠ key x) ∧ (∀ d ∈ b, key d ≠ key x) := by
  obtain ⟨a, b, rfl⟩ := List.append_of_mem hx
  have h2 := h.ne S
  rw [List.pairwise_append] at h2
  exact ⟨a, b, rfl, fun d hd => h2.2.2 d hd x (by simp), fun d hd e => (List.pairwise_cons.1 h2.2.1).1 d hd e.symm⟩
theorem kasc_eq (S : STO lt) {l : List α} {x y : α} (h : KAsc lt key l) (hx : x ∈ l) (hy : y ∈ l) (e : key x = key y) : x = y := by
  obtain ⟨a, b, rfl, h1, h2⟩ := kasc_split S h hx
  rcases List.mem_append.1 hy with g | g
  · exact absurd e.symm (h1 y g)
  · rcases List.mem_cons.1 g with rfl | g
    · rfl
    · exact absurd e.symm (h2 y g)
theorem kGet_mem {l : List α} {k : κ} {x : α} (h : kGet key k l = some x) : x ∈ l ∧ key x = k := by
  unfold kGet at h
  exact ⟨List.mem_of_find?_eq_some h, by simpa using List.find?_some h⟩
theorem kGet_none {l : List α} {k : κ} : kGet key k l = none ↔ ∀ x ∈ l, key x ≠ k := by
  unfold kGet
  rw [List.find?_eq_none]
  simp
theorem kGet_of (S : STO lt) {l : List α} {x : α} (h : KAsc lt key l) (hx : x ∈ l) : kGet key (key x) l = some x := by
  cases hg : kGet key (key x) l with
  | none => exact absurd rfl (kGet_none.1 hg x hx)
  | some y =>
    obtain ⟨h1, h2⟩ := kGet_mem hg
    rw [kasc_eq S h h1 hx h2]
theorem kIns_perm (x : α) (l : List α) : (kIns lt key x l).Perm (x :: l) := by
  unfold kIns
  exact List.perm_middle.trans (by rw [List.takeWhile_append_dropWhile])
theorem kIns_asc (S : STO lt) {x : α} : ∀ {l : List α}, KAsc lt key l → (∀ d ∈ l, key d ≠ key x) → KAsc lt key (kIns lt key x l)
  | [], _, _ => by simp [kIns, KAsc]
  | d :: r, h, hn => by
    obtain ⟨h1, h2⟩ := List.pairwise_cons.1 h
    by_cases g : lt (key d) (key x) = true
    · have e : kIns lt key x (d :: r) = d :: kIns lt key x r := by simp [kIns, g]
      rw [e]
      refine List.pairwise_cons.2 ⟨fun y hy => ?_, kIns_asc S h2 fun y hy => hn y (List.mem_cons_of_mem _ hy)⟩
      rcases List.mem_cons.1 ((kIns_perm x r).mem_iff.1 hy) with rfl | hy
      · exact g
      · exact h1 y hy
    · have g2 : lt (key d) (key x) = false := by simpa using g
      have e : kIns lt key x (d :: r) = x :: d :: r := by simp [kIns, g2]
      rw [e]
      have hxd : lt (key x) (key d) = true := by
        cases hh : lt (key x) (key d) with
        | true => rfl
        | false => exact absurd (S.tot g2 hh) (hn d (by simp))
      refine List.pairwise_cons.2 ⟨fun y hy => ?_, h⟩
      rcases List.mem_cons.1 hy with rfl | hy
      · exact hxd
      · exact S.trans hxd (h1 y hy)
theorem kDel_asc {l : List α} {k : κ} (h : KAsc lt key l) : KAsc lt key (kDel key k l) := h.filter _
theorem kDel_no {l : List α} {k : κ} : ∀ d ∈ kDel key k l, key d ≠ k := fun d hd => by simpa using (List.mem_filter.1 hd).2
theorem kDel_id {l : List α} {k : κ} (h : ∀ d ∈ l, key d ≠ k) : kDel key k l = l := List.filter_eq_self.2 fun d hd => by simpa using h d hd
theorem kDel_split {l r : List α} {x : α} (h1 : ∀ d ∈ l, key d ≠ key x) (h2 : ∀ d ∈ r, key d ≠ key x) : kDel key (key x) (l ++ x :: r) = l ++ r := by
  unfold kDel
  rw [List.filter_append, List.filter_cons, List.filter_eq_self.2 (fun d hd => by simpa using h1 d hd), List.filter_eq_self.2 (fun d hd => by simpa using h2 d hd)]
  simp
theorem kPut_asc (S : STO lt) {l : List α} {x : α} (h : KAsc lt key l) : KAsc lt key (kPut lt key x l) := kIns_asc S (kDel_asc h) kDel_no
theorem kPut_perm (l : List α) (x : α) : (kPut lt key x l).Perm (x :: kDel key (key x) l) := kIns_perm _ _
theorem kPut_mem {l : List α} {x d : α} : d ∈ kPut lt key x l ↔ d = x ∨ (d ∈ l ∧ key d ≠ key x) := by
  rw [(kPut_perm l x).mem_iff, List.mem_cons]
  simp [kDel, List.mem_filter]
theorem kasc_unique (S : STO lt) {l m : List α} (h1 : KAsc lt key l) (h2 : KAsc lt key m) (hp : l.Perm m) : l = m :=
  List.Perm.eq_of_pairwise (le := fun a b : α => lt (key a) (key b) = true) (fun a b _ _ h1 h2 => by have := S.trans h1 h2; rw [S.irr] at this; cases this) h1 h2 hp
theorem kRep_split {l r : List α} {b x : α} (e : key b = key x) (h1 : ∀ d ∈ l, key d ≠ key x) (h2 : ∀ d ∈ r, key d ≠ key x) : kRep key x (l ++ b :: r) = l ++ x :: r := by
  unfold kRep
  rw [List.map_append, List.map_cons, if_pos e]
  congr 1
  · conv => rhs; rw [← List.map_id l]
    exact List.map_congr_left fun d hd => by rw [if_neg (h1 d hd)]; rfl
  · congr 1
    conv => rhs; rw [← List.map_id r]
    exact List.map_congr_left fun d hd => by rw [if_neg (h2 d hd)]; rfl
theorem kPut_rep (S : STO lt) {l : List α} {x b : α} (h : KAsc lt key l) (hb : b ∈ l) (e : key b = key x) : kPut lt key x l = kRep key x l := by
  obtain ⟨a, r, rfl, h1, h2⟩ := kasc_split S h hb
  rw [e] at h1 h2
  rw [kRep_split e h1 h2]
  refine kasc_unique S (kPut_asc S h) ?_ ?_
  · unfold KAsc at h ⊢
    rw [List.pairwise_append, List.pairwise_cons] at h ⊢
    refine ⟨h.1, ⟨fun y hy => by rw [← e]; exact h.2.1.1 y hy, h.2.1.2⟩, fun y hy z hz => ?_⟩
    rcases List.mem_cons.1 hz with rfl | hz
    · rw [← e]; exact h.2.2 y hy b (by simp)
    · exact h.2.2 y hy z (by simp [hz])
  · refine (kPut_perm _ _).trans ?_
    rw [show kDel key (key x) (a ++ b :: r) = a ++ r from by rw [← e]; exact kDel_split (by rw [e]; exact h1) (by rw [e]; exact h2)]
    exact List.perm_middle.symm
section
variable {M : List (κ × ν)} {l : List α}
theorem KInv.nil : KInv lt key val ([] : List (κ × ν)) [] := ⟨.nil, .nil⟩
variable (H : KInv lt key val M l) (S : STO lt)
include H
theorem KInv.len : M.length = l.length := by have := H.pm.length_eq; simpa using this
include S
theorem KInv.keys : (M.map Prod.fst).Nodup := by
  refine ((H.pm.map Prod.fst).nodup_iff).2 ?_
  rw [List.map_map]
  exact kasc_nd S H.asc
theorem KInv.get (k : κ) : aGet k M = (kGet key k l).map val := by
  cases hg : kGet key k l with
  | none =>
    refine aGet_none_of fun y hy => ?_
    obtain ⟨x, hx, e⟩ := List.mem_map.1 (H.pm.mem_iff.1 hy)
    simp only [Prod.mk.injEq] at e
    exact kGet_none.1 hg x hx e.1
  | some x =>
    obtain ⟨h1, rfl⟩ := kGet_mem hg
    exact mem_aGet (H.keys S) (H.pm.mem_iff.2 (List.mem_map.2 ⟨x, h1, rfl⟩))
theorem KInv.del (k : κ) : KInv lt key val (aDel k M) (kDel key k l) := by
  refine ⟨?_, kDel_asc H.asc⟩
  cases hg : kGet key k l with
  | none =>
    rw [kDel_id (kGet_none.1 hg)]
    have : aGet k M = none := by rw [H.get S, hg]; rfl
    rw [aDel_no this]
    exact H.pm
  | some x =>
    obtain ⟨h1, rfl⟩ := kGet_mem hg
    have hv : aGet (key x) M = some (val x) := by rw [H.get S, hg]; rfl
    obtain ⟨a, b, rfl, h2, h3⟩ := kasc_split S H.asc h1
    rw [kDel_split h2 h3]
    have := ((aDel_perm hv).trans H.pm)
    rw [List.map_append, List.map_cons] at this
    rw [List.map_append]
    exact List.Perm.cons_inv (this.trans List.perm_middle)
theorem KInv.put (x : α) : KInv lt key val (aSet (key x) (val x) M) (kPut lt key x l) := by
  refine ⟨?_, kPut_asc S H.asc⟩
  have hp := ((kPut_perm (lt := lt) (key := key) l x).map fun x => (key x, val x))
  rw [List.map_cons] at hp
  refine .trans ?_ hp.symm
  have hd := (H.del S (key x)).pm
  cases hg : kGet key (key x) l with
  | none =>
    have h0 : aGet (key x) M = none := by rw [H.get S, hg]; rfl
    rw [aSet_new h0]
    rw [aDel_no h0] at hd
    exact List.perm_append_comm.trans (hd.cons _)
  | some y =>
    obtain ⟨h1, e⟩ := kGet_mem hg
    have hv : aGet (key x) M = some (val y) := by rw [H.get S, hg]; rfl
    exact (aSet_perm hv).trans (hd.cons _)
theorem KInv.sorted {ks : List κ} (hp : ks.Perm (M.map Prod.fst)) (hs : ks.Pairwise fun a b => lt b a = false) : ks = l.map key := by
  have h2 : ks.Perm (l.map key) := by
    refine hp.trans ((H.pm.map Prod.fst).trans ?_)
    rw [List.map_map]; exact .refl _
  refine List.Perm.eq_of_pairwise (le := fun a b : κ => lt b a = false) (fun a b _ _ h1 h2 => S.tot h2 h1) hs ?_ h2
  refine List.pairwise_map.2 (H.asc.imp fun {a b} h => ?_)
  cases hh : lt (key b) (key a) with
  | false => rfl
  | true => have := S.trans h hh; rw [S.irr] at this; cases this
end
end
def ltI (a b : Int) : Bool := decide (a < b)
theorem STO.int : STO ltI := ⟨fun a => by simp [ltI], fun h1 h2 => by simp [ltI] at *; omega, fun h1 h2 => by simp [ltI] at *; omega⟩
def ltS (a b : List UInt8) : Bool := decide (a < b)
theorem STO.txt : STO ltS := ⟨fun a => by simp [ltS, List.lt_irrefl], fun h1 h2 => by simp only [ltS, decide_eq_true_eq] at *; exact List.lt_trans h1 h2, fun h1 h2 => by
  simp only [ltS, decide_eq_false_iff_not] at *
  exact List.le_antisymm (List.not_lt.1 h2) (List.not_lt.1 h1)⟩
end Go.Proofs.Gong

/- Book -/
namespace Go.Proofs.Gong
open Go Go.Sx Go.Proofs
set_option linter.all false
set_option maxRecDepth 100000
variable {kn kr : ET} {ke : JT}
def T10 : List (Nat × FnT) := []
def F10 (x0 x1 : Value) (w : World) (K : V1) : Prop :=
bindP (bRem x0 x1) fun v1 =>
bindP (bAdd v1 x1) fun v2 =>
bindP (bRem v2 x1) fun v3 =>
K v3 w
def G10 : FnT := fun args w K => on2 (fun x0 x1 => F10 x0 x1 w K) args
theorem c10 {x0 x1 : Value} {w : World} {K : V1} (h : F10 x0 x1 w K) : callP G10 [x0, x1] w K := callP_intro (on2_mk (p := fun x0 x1 => F10 x0 x1 w K) h)
theorem ok10 : OkF Try.prog 10 G10 := by
  refine okF_of (tab_ok (l := T10) trivial) mixed (n := fuel) Try.func10 Try.call10 fun args w K h => ?_
  obtain ⟨x0, x1, rfl, hh⟩ := of_on2 h
  exact fnD_list (c := bodyOf Try.f10) (by kernel_rfl) (by kernel_rfl) (Eq.mp (by kernel_rfl) hh)
end Go.Proofs.Gong

/- Bk0 -/
namespace Go.Proofs.Gong
open Go Go.Sx Go.Proofs
def bel (x n : Int) : Int := (x.tmod n + n).tmod n
section
variable {w : World} {K : Value → World → Prop}
theorem Below_spec {x n : Int} (hn : 0 < n) (hn2 : n ≤ 4611686018427387904) (hK : ∀ r : Int, 0 ≤ r → r < n → r = bel x n → K (.int .i64 r) w) : callP G10 [.int .i64 x, .int .i64 n] w K := by
  refine c10 ?_
  unfold F10
  have h1 := Int.tmod_lt_of_pos x hn
  have h2 : -n < x.tmod n := by
    have := Int.lt_tmod_of_pos x hn
    omega
  have h3 := Int.tmod_nonneg n (show (0 : Int) ≤ x.tmod n + n by omega)
  have h4 := Int.tmod_lt_of_pos (x.tmod n + n) hn
  simp [bRem_int _ _ _ (show n ≠ 0 by omega), wrap_id (show -9223372036854775808 ≤ x.tmod n + n ∧ x.tmod n + n ≤ 9223372036854775807 by omega)]
  exact hK _ h3 h4 rfl
end
end Go.Proofs.Gong

/- Dk0 -/
namespace Go.Proofs.Gong
open Go Go.Sx Go.Proofs
structure Fil where
  name : List UInt8
  s : List UInt8
  safe : Nat
structure Dk where
  room : Int
  stop : Bool
  left : Int
  fs : List Fil
abbrev fKey (f : Fil) : List UInt8 := f.name
abbrev fVal (f : Fil) : List UInt8 × Nat := (f.s, f.safe)
abbrev fGet (n : List UInt8) (fs : List Fil) : Option Fil := kGet fKey n fs
abbrev fPut (f : Fil) (fs : List Fil) : List Fil := kPut ltS fKey f fs
abbrev fDel (n : List UInt8) (fs : List Fil) : List Fil := kDel fKey n fs
def usedF (fs : List Fil) : Nat := (fs.map fun f => f.s.length).sum
def nameOk (s : List UInt8) : Bool := decide (1 ≤ s.length) && decide (s.length ≤ 64)
def useD (d : Dk) : Option Dk := if d.stop = true then (if d.left = 0 then none else some { d with left := d.left - 1 }) else some d
def turnD (d : Dk) (f : Fil) : Int × Dk := match useD d with
  | none => (251, d)
  | some e => (0, { e with fs := fPut f e.fs })
def makeD (n : List UInt8) (d : Dk) : Int × Dk := if nameOk n = false then (1, d) else if (fGet n d.fs).isSome = true then (6, d) else turnD d ⟨n, [], 0⟩
def appD (n x : List UInt8) (d : Dk) : Int × Dk := match fGet n d.fs with
  | none => (5, d)
  | some f => if d.room - usedF d.fs < (x.length : Int) then (250, d) else turnD d { f with s := f.s ++ x }
def syncD (n : List UInt8) (d : Dk) : Int × Dk := match fGet n d.fs with
  | none => (5, d)
  | some f => turnD d { f with safe := f.s.length }
def keptN (k : Int) (many : Nat) : Nat := (k % ((many : Int) + 1)).toNat
def crLong (keep : List Int) (i : Nat) (f : Fil) : Nat := match keep[i]? with | none => f.safe | some k => f.safe + keptN k (f.s.length - f.safe)
def crFil (keep : List Int) (i : Nat) (f : Fil) : Fil := { f with s := f.s.take (crLong keep i f), safe := crLong keep i f }
def crF (keep : List Int) : Nat → List Fil → List Fil
  | _, [] => []
  | i, f :: r => crFil keep i f :: crF keep (i + 1) r
def crashD (keep : List Int) (d : Dk) : Dk := { d with stop := false, left := 0, fs := crF keep 0 d.fs }
def stoppedD (d : Dk) : Bool := d.stop && decide (d.left = 0)
def FOk (f : Fil) : Prop := f.safe ≤ f.s.length ∧ f.name.length ≤ 64
structure DOk (d : Dk) : Prop where
  room : 0 ≤ d.room ∧ d.room ≤ 1099511627776
  used : (usedF d.fs : Int) ≤ d.room
  asc : KAsc ltS fKey d.fs
  ok : ∀ f ∈ d.fs, FOk f
  left : 0 ≤ d.left ∧ d.left ≤ 9223372036854775807
def newD (room : Int) : Dk := ⟨room, false, 0, []⟩
theorem newD_ok {room : Int} (h : 0 ≤ room ∧ room ≤ 1099511627776) : DOk (newD room) := ⟨h, by simp [newD, usedF]; omega, .nil, by simp [newD], by simp [newD]⟩
theorem usedF_perm {a b : List Fil} (h : a.Perm b) : usedF a = usedF b := by
  unfold usedF
  exact (h.map _).sum_nat
theorem usedF_cons {f : Fil} {l : List Fil} : usedF (f :: l) = f.s.length + usedF l := by simp [usedF]
theorem usedF_put {f : Fil} {l : List Fil} : usedF (fPut f l) = f.s.length + usedF (fDel f.name l) := by
  rw [usedF_perm (kPut_perm l f), usedF_cons]
theorem usedF_del_le {n : List UInt8} {l : List Fil} : usedF (fDel n l) ≤ usedF l := by
  induction l with
  | nil => simp [kDel]
  | cons f l ih =>
    unfold fDel kDel at *
    rw [List.filter_cons]
    split
    · rw [usedF_cons, usedF_cons]; omega
    · rw [usedF_cons]; omega
theorem usedF_del {f : Fil} {l : List Fil} (h : KAsc ltS fKey l) (hf : f ∈ l) : usedF l = f.s.length + usedF (fDel f.name l) := by
  obtain ⟨a, b, rfl, h1, h2⟩ := kasc_split STO.txt h hf
  rw [show fDel f.name (a ++ f :: b) = a ++ b from kDel_split (key := fKey) h1 h2]
  simp [usedF]; omega
theorem usedF_mem {f : Fil} {l : List Fil} (hf : f ∈ l) : f.s.length ≤ usedF l := by
  induction l with
  | nil => simp at hf
  | cons g l ih =>
    rw [usedF_cons]
    rcases List.mem_cons.1 hf with rfl | hf
    · omega
    · have := ih hf; omega
theorem useD_some {d e : Dk} (h : useD d = some e) : e.room = d.room ∧ e.stop = d.stop ∧ e.fs = d.fs ∧ (d.left = e.left ∨ (d.stop = true ∧ d.left ≠ 0 ∧ e.left = d.left - 1)) := by
  unfold useD at h
  split at h
  · split at h
    · cases h
    · cases h; rename_i h1 h2; exact ⟨rfl, rfl, rfl, .inr ⟨h1, h2, rfl⟩⟩
  · cases h; exact ⟨rfl, rfl, rfl, .inl rfl⟩
theorem useD_ok {d e : Dk} (hd : DOk d) (h : useD d = some e) : DOk e := by
  obtain ⟨h1, h2, h3, h4⟩ := useD_some h
  exact ⟨by rw [h1]; exact hd.room, by rw [h3, h1]; exact hd.used, by rw [h3]; exact hd.asc, by rw [h3]; exact hd.ok, by have := hd.left; omega⟩
section
variable {d : Dk} (hd : DOk d)
include hd
theorem put_ok {f : Fil} (hf : FOk f) (hu : ((f.s.length + usedF (fDel f.name d.fs) : Nat) : Int) ≤ d.room) : DOk { d with fs := fPut f d.fs } :=
  ⟨hd.room, by show ((usedF (fPut f d.fs) : Nat) : Int) ≤ d.room; rw [usedF_put]; exact hu, kPut_asc STO.txt hd.asc, fun g hg => by
    rcases kPut_mem.1 hg with rfl | ⟨hg, _⟩
    · exact hf
    · exact hd.ok g hg, hd.left⟩
theorem turnD_ok {f : Fil} (hf : FOk f) (hu : ((f.s.length + usedF (fDel f.name d.fs) : Nat) : Int) ≤ d.room) : DOk (turnD d f).2 := by
  unfold turnD
  cases h : useD d with
  | none => exact hd
  | some e =>
    obtain ⟨h1, h2, h3, h4⟩ := useD_some h
    exact put_ok (useD_ok hd h) hf (by rw [h3, h1]; exact hu)
omit hd in
theorem get_ok {n : List UInt8} {f : Fil} (hd : DOk d) (h : fGet n d.fs = some f) : f ∈ d.fs ∧ f.name = n ∧ FOk f ∧ usedF d.fs = f.s.length + usedF (fDel f.name d.fs) := by
  obtain ⟨h1, h2⟩ := kGet_mem h
  exact ⟨h1, h2, hd.ok f h1, usedF_del hd.asc h1⟩
theorem makeD_ok (n : List UInt8) : DOk (makeD n d).2 := by
  unfold makeD
  split
  · exact hd
  split
  · exact hd
  · rename_i h _
    refine turnD_ok hd ⟨by simp, ?_⟩ ?_
    · simp [nameOk] at h; exact h.2
    · have := hd.used
      have := usedF_del_le (n := n) (l := d.fs)
      simp; omega
theorem appD_ok (n x : List UInt8) : DOk (appD n x d).2 := by
  unfold appD
  split
  · exact hd
  · rename_i f h
    obtain ⟨h1, h2, h3, h4⟩ := get_ok hd h
    split
    · exact hd
    · refine turnD_ok hd ⟨by have := h3.1; simp; omega, h3.2⟩ ?_
      simp at h4 ⊢; omega
theorem syncD_ok (n : List UInt8) : DOk (syncD n d).2 := by
  unfold syncD
  split
  · exact hd
  · rename_i f h
    obtain ⟨h1, h2, h3, h4⟩ := get_ok hd h
    refine turnD_ok hd ⟨by simp, h3.2⟩ ?_
    have := hd.used
    simp at h4 ⊢; omega
end
theorem keptN_le (k : Int) (many : Nat) : keptN k many ≤ many := by
  unfold keptN
  have h1 := Int.emod_nonneg k (b := (many : Int) + 1) (by omega)
  have h2 := Int.emod_lt_of_pos k (b := (many : Int) + 1) (by omega)
  omega
theorem crLong_le {keep : List Int} {i : Nat} {f : Fil} (h : FOk f) : f.safe ≤ crLong keep i f ∧ crLong keep i f ≤ f.s.length := by
  unfold crLong
  have := h.1
  split
  · omega
  · rename_i k _
    have := keptN_le k (f.s.length - f.safe); omega
theorem crF_get {keep : List Int} : ∀ {i : Nat} {l : List Fil} {j : Nat}, (crF keep i l)[j]? = l[j]?.map (crFil keep (i + j))
  | i, [], j => by simp [crF]
  | i, f :: r, 0 => by simp [crF]
  | i, f :: r, j + 1 => by
    have := crF_get (keep := keep) (i := i + 1) (l := r) (j := j)
    simp only [crF, List.getElem?_cons_succ, this]
    rw [show i + 1 + j = i + (j + 1) from by omega]
theorem crF_len {keep : List Int} : ∀ {i : Nat} {l : List Fil}, (crF keep i l).length = l.length
  | i, [] => rfl
  | i, f :: r => by simp [crF, crF_len]
theorem crF_keys {keep : List Int} : ∀ {i : Nat} {l : List Fil}, (crF keep i l).map fKey = l.map fKey
  | i, [] => rfl
  | i, f :: r => by simp [crF, crF_keys, crFil, fKey]
theorem crF_used {keep : List Int} : ∀ {i : Nat} {l : List Fil}, usedF (crF keep i l) ≤ usedF l
  | i, [] => by simp [crF]
  | i, f :: r => by
    have := crF_used (keep := keep) (i := i + 1) (l := r)
    simp only [crF, usedF_cons, crFil, List.length_take]
    omega
theorem crF_ok {keep : List Int} : ∀ {i : Nat} {l : List Fil}, (∀ f ∈ l, FOk f) → ∀ f ∈ crF keep i l, FOk f
  | i, [], _, f, hf => by simp [crF] at hf
  | i, g :: r, h, f, hf => by
    simp only [crF, List.mem_cons] at hf
    rcases hf with rfl | hf
    · have hg := h g (by simp)
      have := crLong_le (keep := keep) (i := i) hg
      refine ⟨?_, hg.2⟩
      simp [crFil]; omega
    · exact crF_ok (fun x hx => h x (List.mem_cons_of_mem _ hx)) f hf
theorem kasc_keys {l : List Fil} : KAsc ltS fKey l ↔ (l.map fKey).Pairwise fun a b => ltS a b = true := by
  unfold KAsc; rw [List.pairwise_map]
theorem crashD_ok {d : Dk} (hd : DOk d) (keep : List Int) : DOk (crashD keep d) :=
  ⟨hd.room, by
    have := crF_used (keep := keep) (i := 0) (l := d.fs)
    have := hd.used
    show ((usedF (crF keep 0 d.fs) : Nat) : Int) ≤ d.room
    omega, by show KAsc ltS fKey (crF keep 0 d.fs); rw [kasc_keys, crF_keys, ← kasc_keys]; exact hd.asc, crF_ok hd.ok, by simp [crashD]⟩
end Go.Proofs.Gong

/- Dk5 -/
namespace Go.Proofs.Gong
open Go Go.Sx Go.Proofs
end Go.Proofs.Gong

/- Dk6 -/
namespace Go.Proofs.Gong
open Go Go.Sx Go.Proofs
def abc : List (List UInt8) := [[97], [98], [99]]
structure Abc (d : Dk) (u : Nat) : Prop where
  names : d.fs.map fKey = abc
  stop : d.stop = false
  room : d.room = 1048576
  used : usedF d.fs ≤ u
theorem abc_asc {fs : List Fil} (h : fs.map fKey = abc) : KAsc ltS fKey fs := by
  rw [kasc_keys, h]; decide
theorem abc_get {fs : List Fil} (h : fs.map fKey = abc) {n : List UInt8} (hn : n ∈ abc) : ∃ f, fGet n fs = some f ∧ f ∈ fs ∧ f.name = n := by
  rw [← h] at hn
  obtain ⟨f, hf, e⟩ := List.mem_map.1 hn
  exact ⟨f, by rw [← e]; exact kGet_of STO.txt (abc_asc h) hf, hf, e⟩
theorem rep_keys {fs : List Fil} {f : Fil} : (kRep fKey f fs).map fKey = fs.map fKey := by
  unfold kRep
  rw [List.map_map]
  exact List.map_congr_left fun d _ => by
    simp only [Function.comp_apply]
    split
    · rename_i h; exact h.symm
    · rfl
theorem turn_abc {d : Dk} {u : Nat} (H : Abc d u) {f g : Fil} (hg : fGet g.name d.fs = some g) (hf : f.name = g.name) : ∃ fs', turnD d f = (0, { d with fs := fs' }) ∧ fs'.map fKey = abc ∧ usedF fs' + g.s.length = usedF d.fs + f.s.length := by
  obtain ⟨h1, _⟩ := kGet_mem hg
  have ha := abc_asc H.names
  refine ⟨fPut f d.fs, by simp [turnD, useD, H.stop], ?_, ?_⟩
  · rw [show fPut f d.fs = kRep fKey f d.fs from kPut_rep STO.txt ha h1 hf.symm, rep_keys]
    exact H.names
  · rw [usedF_put, hf]
    have := usedF_del ha h1
    omega
theorem app_abc {d : Dk} {u : Nat} (H : Abc d u) {n x : List UInt8} (hn : n ∈ abc) (hx : u + x.length ≤ 1048576) : ∃ fs', appD n x d = (0, { d with fs := fs' }) ∧ Abc { d with fs := fs' } (u + x.length) := by
  obtain ⟨f, h1, h2, h3⟩ := abc_get H.names hn
  obtain ⟨fs', e1, e2, e3⟩ := turn_abc H (f := { f with s := f.s ++ x }) (g := f) (by rw [h3]; exact h1) rfl
  have hu := H.used
  refine ⟨fs', ?_, e2, H.stop, H.room, ?_⟩
  · unfold appD
    rw [h1]
    simp only
    rw [if_neg (by rw [H.room]; omega), e1]
  · simp at e3 ⊢; omega
theorem sync_abc {d : Dk} {u : Nat} (H : Abc d u) {n : List UInt8} (hn : n ∈ abc) : ∃ fs', syncD n d = (0, { d with fs := fs' }) ∧ Abc { d with fs := fs' } u := by
  obtain ⟨f, h1, h2, h3⟩ := abc_get H.names hn
  obtain ⟨fs', e1, e2, e3⟩ := turn_abc H (f := { f with safe := f.s.length }) (g := f) (by rw [h3]; exact h1) rfl
  have hu := H.used
  refine ⟨fs', ?_, e2, H.stop, H.room, ?_⟩
  · unfold syncD
    rw [h1]; exact e1
  · simp at e3 ⊢; omega
theorem make_abc : makeD [97] (newD 1048576) = (0, { newD 1048576 with fs := [⟨[97], [], 0⟩] }) ∧ makeD [98] { newD 1048576 with fs := [⟨[97], [], 0⟩] } = (0, { newD 1048576 with fs := [⟨[97], [], 0⟩, ⟨[98], [], 0⟩] }) ∧
    makeD [99] { newD 1048576 with fs := [⟨[97], [], 0⟩, ⟨[98], [], 0⟩] } = (0, { newD 1048576 with fs := [⟨[97], [], 0⟩, ⟨[98], [], 0⟩, ⟨[99], [], 0⟩] }) := by
  refine ⟨by rfl, by rfl, by rfl⟩
theorem made_abc : Abc { newD 1048576 with fs := [⟨[97], [], 0⟩, ⟨[98], [], 0⟩, ⟨[99], [], 0⟩] } 0 := ⟨by rfl, by rfl, by rfl, by decide⟩
end Go.Proofs.Gong

/- Disk -/
namespace Go.Proofs.Gong
open Go Go.Sx Go.Proofs
set_option linter.all false
set_option maxRecDepth 100000
variable {kn kr : ET} {ke : JT}
def T8 : List (Nat × FnT) := []
def F8 (x0 : Value) (w : World) (K : V1) : Prop :=
bindP (bLt x0 (.int .i64 0)) fun v1 =>
stepM (gd false v1) x0 fun v2 =>
Sx.stepG (gd false v1) (bGt v2 (.int .i64 1099511627776)) fun v3 =>
bindP (pPick v1 (.bool true) v3) fun v4 =>
ifB v4 (
K (.tuple #[(.pointer none), (.int .i64 1)]) w) (
eMakeMap none w fun v6 w5 =>
bindP (fBuild Try.prog 80 [(0, x0), (1, v6)]) fun v7 =>
eBox 80 v7 w5 fun v9 w8 =>
K (.tuple #[v9, (.int .i64 0)]) w8)
def G8 : FnT := fun args w K => on1 (fun x0 => F8 x0 w K) args
theorem c8 {x0 : Value} {w : World} {K : V1} (h : F8 x0 w K) : callP G8 [x0] w K := callP_intro (on1_mk (p := fun x0 => F8 x0 w K) h)
theorem ok8 : OkF Try.prog 8 G8 := by
  refine okF_of (tab_ok (l := T8) trivial) mixed (n := fuel) Try.func8 Try.call8 fun args w K h => ?_
  obtain ⟨x0, rfl, hh⟩ := of_on1 h
  exact fnD_list (c := bodyOf Try.f8) (by kernel_rfl) (by kernel_rfl) (Eq.mp (by kernel_rfl) hh)
def LayK43_ren : Go.Shelf.Ren := ⟨fun | 7 => 43 | 10 => 71 | n => n, fun | 23 => 78 | 26 => 9 | 3 => 86 | 28 => 83 | 0 => 0 | 27 => 82 | 33 => 87 | 4 => 4 | n => n, fun | n => n⟩
theorem LayK43 : Go.Proofs.SlLaysZ.n7 Try.prog LayK43_ren := {
  mixed := by kernel_rfl
  f7 := ⟨Try.f43.name, by decide, Try.func43.trans (congrArg some (by kernel_rfl))⟩
  f10 := ⟨Try.f71.name, by decide, Try.func71.trans (congrArg some (by kernel_rfl))⟩
  t0 := Try.underlying0
  a0 := Try.isAgg0
  z0 := Try.sizeOf0
  v0 := Try.zeroValue0
  t4 := Try.underlying4
  a4 := Try.isAgg4
  z4 := Try.sizeOf4
  v4 := Try.zeroValue4
  t23 := Try.underlying78
  a23 := Try.isAgg78
  z23 := Try.sizeOf78
  v23 := Try.zeroValue78
  t26 := Try.underlying9
  a26 := Try.isAgg9
  z26 := Try.sizeOf9
  v26 := Try.zeroValue9
  t27 := Try.underlying82
  a27 := Try.isAgg82
  z27 := Try.sizeOf82
  v27 := Try.zeroValue82
  t28 := Try.underlying83
  a28 := Try.isAgg83
  z28 := Try.sizeOf83
  v28 := Try.zeroValue83
  t33 := Try.underlying87
  a33 := Try.isAgg87
  z33 := Try.sizeOf87
  v33 := Try.zeroValue87 }
def LayS42_ren : Go.Shelf.Ren := ⟨fun | 6 => 42 | 8 => 69 | 9 => 70 | 11 => 83 | 13 => 85 | 12 => 84 | 23 => 99 | 24 => 100 | 14 => 90 | 15 => 91 | 16 => 92 | 17 => 93 | 18 => 94 | 19 => 95 | 20 => 96 | 21 => 97 | 22 => 98 | 25 => 106 | 26 => 107 | 27 => 108 | 28 => 109 | 29 => 110 | 30 => 111 | 31 => 123 | n => n, fun | 26 => 9 | 28 => 83 | 24 => 33 | 0 => 0 | 3 => 3 | 37 => 121 | 48 => 131 | 50 => 133 | 4 => 4 | 40 => 125 | 39 => 124 | 45 => 60 | 5 => 5 | 9 => 9 | 51 => 139 | 55 => 143 | 57 => 154 | 58 => 155 | 33 => 87 | n => n, fun | n => n⟩
theorem LayS42 : Go.Proofs.SlLaysZ.n6 Try.prog LayS42_ren := {
  mixed := by kernel_rfl
  f6 := ⟨Try.f42.name, by decide, Try.func42.trans (congrArg some (by kernel_rfl))⟩
  f8 := ⟨Try.f69.name, by decide, Try.func69.trans (congrArg some (by kernel_rfl))⟩
  f11 := ⟨Try.f83.name, by decide, Try.func83.trans (congrArg some (by kernel_rfl))⟩
  t0 := Try.underlying0
  a0 := Try.isAgg0
  z0 := Try.sizeOf0
  v0 := Try.zeroValue0
  t24 := Try.underlying33
  a24 := Try.isAgg33
  z24 := Try.sizeOf33
  v24 := Try.zeroValue33
  t26 := Try.underlying9
  a26 := Try.isAgg9
  z26 := Try.sizeOf9
  v26 := Try.zeroValue9
  t28 := Try.underlying83
  a28 := Try.isAgg83
  z28 := Try.sizeOf83
  v28 := Try.zeroValue83
  i26 := by kernel_rfl }
def LayM70_ren : Go.Shelf.Ren := ⟨fun | 6 => 70 | 8 => 85 | 9 => 84 | 19 => 99 | 20 => 100 | 21 => 90 | 22 => 91 | 23 => 92 | 24 => 93 | 25 => 94 | 26 => 95 | 27 => 96 | 28 => 97 | 29 => 98 | 36 => 106 | 31 => 107 | 32 => 108 | 37 => 109 | 38 => 110 | 39 => 111 | 41 => 123 | n => n, fun | 27 => 33 | 29 => 9 | 3 => 3 | 32 => 121 | 26 => 33 | 0 => 0 | 44 => 131 | 46 => 133 | 4 => 4 | 36 => 125 | 35 => 124 | 41 => 60 | 5 => 5 | 9 => 9 | 53 => 139 | 57 => 143 | 63 => 154 | 64 => 155 | n => n, fun | n => n⟩
theorem LayM70 : Go.Proofs.SlLaysM.n6 Try.prog LayM70_ren := {
  mixed := by kernel_rfl
  f6 := ⟨Try.f70.name, by decide, Try.func70.trans (congrArg some (by kernel_rfl))⟩
  f8 := Try.func85.trans (congrArg some (by kernel_rfl))
  f9 := ⟨Try.f84.name, by decide, Try.func84.trans (congrArg some (by kernel_rfl))⟩
  f19 := Try.func99.trans (congrArg some (by kernel_rfl))
  f20 := Try.func100.trans (congrArg some (by kernel_rfl))
  f21 := ⟨Try.f90.name, by decide, Try.func90.trans (congrArg some (by kernel_rfl))⟩
  f22 := ⟨Try.f91.name, by decide, Try.func91.trans (congrArg some (by kernel_rfl))⟩
  f23 := ⟨Try.f92.name, by decide, Try.func92.trans (congrArg some (by kernel_rfl))⟩
  f24 := ⟨Try.f93.name, by decide, Try.func93.trans (congrArg some (by kernel_rfl))⟩
  f25 := ⟨Try.f94.name, by decide, Try.func94.trans (congrArg some (by kernel_rfl))⟩
  f26 := ⟨Try.f95.name, by decide, Try.func95.trans (congrArg some (by kernel_rfl))⟩
  f27 := ⟨Try.f96.name, by decide, Try.func96.trans (congrArg some (by kernel_rfl))⟩
  f28 := ⟨Try.f97.name, by decide, Try.func97.trans (congrArg some (by kernel_rfl))⟩
  f29 := ⟨Try.f98.name, by decide, Try.func98.trans (congrArg some (by kernel_rfl))⟩
  f31 := Try.func107.trans (congrArg some (by kernel_rfl))
  f32 := Try.func108.trans (congrArg some (by kernel_rfl))
  f36 := ⟨Try.f106.name, by decide, Try.func106.trans (congrArg some (by kernel_rfl))⟩
  f37 := ⟨Try.f109.name, by decide, Try.func109.trans (congrArg some (by kernel_rfl))⟩
  f38 := ⟨Try.f110.name, by decide, Try.func110.trans (congrArg some (by kernel_rfl))⟩
  f39 := ⟨Try.f111.name, by decide, Try.func111.trans (congrArg some (by kernel_rfl))⟩
  f41 := ⟨Try.f123.name, by decide, Try.func123.trans (congrArg some (by kernel_rfl))⟩
  t0 := Try.underlying0
  a0 := Try.isAgg0
  z0 := Try.sizeOf0
  v0 := Try.zeroValue0
  t3 := Try.underlying3
  a3 := Try.isAgg3
  z3 := Try.sizeOf3
  v3 := Try.zeroValue3
  t4 := Try.underlying4
  a4 := Try.isAgg4
  z4 := Try.sizeOf4
  v4 := Try.zeroValue4
  t5 := Try.underlying5
  a5 := Try.isAgg5
  z5 := Try.sizeOf5
  v5 := Try.zeroValue5
  t9 := Try.underlying9
  a9 := Try.isAgg9
  z9 := Try.sizeOf9
  v9 := Try.zeroValue9
  t26 := Try.underlying33
  a26 := Try.isAgg33
  z26 := Try.sizeOf33
  v26 := Try.zeroValue33
  t27 := Try.underlying33
  a27 := Try.isAgg33
  z27 := Try.sizeOf33
  v27 := Try.zeroValue33
  t29 := Try.underlying9
  a29 := Try.isAgg9
  z29 := Try.sizeOf9
  v29 := Try.zeroValue9
  t32 := Try.underlying121
  a32 := Try.isAgg121
  z32 := Try.sizeOf121
  v32 := Try.zeroValue121
  t35 := Try.underlying124
  a35 := Try.isAgg124
  z35 := Try.sizeOf124
  v35 := Try.zeroValue124
  t36 := Try.underlying125
  a36 := Try.isAgg125
  z36 := Try.sizeOf125
  v36 := Try.zeroValue125
  t41 := Try.underlying60
  a41 := Try.isAgg60
  z41 := Try.sizeOf60
  v41 := Try.zeroValue60
  t44 := Try.underlying131
  a44 := Try.isAgg131
  z44 := Try.sizeOf131
  v44 := Try.zeroValue131
  t46 := Try.underlying133
  a46 := Try.isAgg133
  z46 := Try.sizeOf133
  v46 := Try.zeroValue133
  t53 := Try.underlying139
  a53 := Try.isAgg139
  z53 := Try.sizeOf139
  v53 := Try.zeroValue139
  t57 := Try.underlying143
  a57 := Try.isAgg143
  z57 := Try.sizeOf143
  v57 := Try.zeroValue143
  t63 := Try.underlying154
  a63 := Try.isAgg154
  z63 := Try.sizeOf154
  v63 := Try.zeroValue154
  t64 := Try.underlying155
  a64 := Try.isAgg155
  z64 := Try.sizeOf155
  v64 := Try.zeroValue155 }
def G42 : FnT := gSortedS 71 9
theorem ok42 : OkF Try.prog 42 G42 := okSortedS (f := 42) (g := 71) (ty := 9) LayK43 LayS42 LayM70 rfl rfl rfl rfl Try.call42 Try.call70 Try.call71
def T43 : List (Nat × FnT) := []
def F43 (x0 : Value) (w : World) (K : V1) : Prop :=
eBox 78 x0 w fun v2 w1 =>
bindP (some (.func (.func 71) #[] #[v2])) fun v3 =>
K v3 w1
def G43 : FnT := fun args w K => on1 (fun x0 => F43 x0 w K) args
theorem c43 {x0 : Value} {w : World} {K : V1} (h : F43 x0 w K) : callP G43 [x0] w K := callP_intro (on1_mk (p := fun x0 => F43 x0 w K) h)
theorem ok43 : OkF Try.prog 43 G43 := by
  refine okF_of (tab_ok (l := T43) trivial) mixed (n := fuel) Try.func43 Try.call43 fun args w K h => ?_
  obtain ⟨x0, rfl, hh⟩ := of_on1 h
  exact fnD_list (c := bodyOf Try.f43) (by kernel_rfl) (by kernel_rfl) (Eq.mp (by kernel_rfl) hh)
def T15 : List (Nat × FnT) := [(42, G42), (43, G43)]
def F15 (x0 : Value) (w : World) (K : V1) : Prop :=
bindP (pNil x0) fun v1 =>
bindP (pFieldAddr 1 v1) fun v2 =>
bindP (ld1 v2 w) fun v3 =>
callP G43 [v3] w fun v5 w4 =>
callP G42 [v5] w4 fun v7 w6 =>
K v7 w6
def G15 : FnT := fun args w K => on1 (fun x0 => F15 x0 w K) args
theorem c15 {x0 : Value} {w : World} {K : V1} (h : F15 x0 w K) : callP G15 [x0] w K := callP_intro (on1_mk (p := fun x0 => F15 x0 w K) h)
theorem ok15 : OkF Try.prog 15 G15 := by
  refine okF_of (tab_ok (l := T15) ⟨ok42, ok43, trivial⟩) mixed (n := fuel) Try.func15 Try.call15 fun args w K h => ?_
  obtain ⟨x0, rfl, hh⟩ := of_on1 h
  exact fnD_list (c := bodyOf Try.f15) (by kernel_rfl) (by kernel_rfl) (Eq.mp (by kernel_rfl) hh)
def T44 : List (Nat × FnT) := []
def F44_2b (s0 : Value) (w : World) (K : V1) : Prop :=
K s0 w
def F44_2 (s0 : Value) (w : World) (K : V1) : Prop := F44_2b s0 w K
theorem ok44_2 {K : V1}
    (hn : HN (fun e w => K (e 4) w) kn) (hr : HR Try.prog [.tmp 4] K kr) (he : HE noE ke) :
    ∀ e w, F44_2 (e 0) w K → denL Try.prog (tabOf T44) 16 fuel ((flat (bodyOf Try.f44)).drop 4) e w kn kr ke := by
  intro e w h
  unfold F44_2 at h
  have e1 : ∀ (_ : Unit), F44_2b (e 0) w K = denL Try.prog (tabOf T44) 16 fuel ((flat (bodyOf Try.f44)).drop 4) e w (fun e w => K (e 4) w) (endD Try.prog [.tmp 4] K) noE := by intro _; kernel_rfl
  exact seg_end (Eq.mp (e1 ()) h) hn hr he
def F44_1b (s0 s1 : Value) (w : World) (_K : V1) (Y0 : V1) : Prop :=
bindP (bAdd s1 (.int .i64 1)) fun v1 =>
bindP (bRem s0 v1) fun v2 =>
bindP (bLt v2 (.int .i64 0)) fun v3 =>
ifB v3 (
bindP (bAdd s1 (.int .i64 1)) fun v4 =>
bindP (bAdd v2 v4) fun v5 =>
Y0 v5 w) (
Y0 v2 w)
def F44_1 (s0 s1 : Value) (w : World) (K : V1) : Prop := F44_1b s0 s1 w K (fun a0 w => F44_2 a0 w K)
theorem ok44_1 {K : V1}
    (hn : HN (fun e w => K (e 4) w) kn) (hr : HR Try.prog [.tmp 4] K kr) (he : HE noE ke) :
    ∀ e w, F44_1 (e 0) (e 1) w K → denL Try.prog (tabOf T44) 16 fuel ((flat (bodyOf Try.f44)).drop 0) e w kn kr ke := by
  intro e w h
  unfold F44_1 at h
  have e1 : ∀ (Y0 : V1), F44_1b (e 0) (e 1) w K Y0 = denL Try.prog (tabOf T44) 16 fuel (((flat (bodyOf Try.f44)).drop 0).take 4) e w (fun e w => Y0 (e 0) w) (endD Try.prog [.tmp 4] K) noE := by intro Y0; kernel_rfl
  exact seg 4 (Eq.mp (e1 (fun a0 w => F44_2 a0 w K)) h) (fun e w h => ok44_2 hn hr he e w h) hr he
def F44 (x0 x1 : Value) (w : World) (K : V1) : Prop := F44_1 x0 x1 w K
def G44 : FnT := fun args w K => on2 (fun x0 x1 => F44 x0 x1 w K) args
theorem c44 {x0 x1 : Value} {w : World} {K : V1} (h : F44 x0 x1 w K) : callP G44 [x0, x1] w K := callP_intro (on2_mk (p := fun x0 x1 => F44 x0 x1 w K) h)
theorem ok44 : OkF Try.prog 44 G44 := by
  refine okF_of (tab_ok (l := T44) trivial) mixed (n := fuel) Try.func44 Try.call44 fun args w K h => ?_
  obtain ⟨x0, x1, rfl, hh⟩ := of_on2 h
  unfold F44 at hh
  exact fnD_list (c := bodyOf Try.f44) (by kernel_rfl) (by kernel_rfl) (ok44_1 (fun _ _ h => h) (fun _ _ h => h) (fun _ _ _ h => h) (initE [x0, x1]) w hh)
def T17 : List (Nat × FnT) := [(15, G15), (44, G44)]
def F17_3b (s0 : Value) (w : World) (K : V1) : Prop :=
bindP (pNil s0) fun v1 =>
bindP (pFieldAddr 2 v1) fun v2 =>
bindW (st 1 v2 (.bool false) w) fun w3 =>
bindP (pNil s0) fun v5 =>
bindP (pFieldAddr 3 v5) fun v6 =>
bindW (st 1 v6 (.int .i64 0) w3) fun w7 =>
K (.tuple #[]) w7
def F17_3 (s0 : Value) (w : World) (K : V1) : Prop := F17_3b s0 w K
theorem ok17_3 {K : V1}
    (hn : HN (fun e w => K (.tuple #[]) w) kn) (hr : HR Try.prog [] K kr) (he : HE noE ke) :
    ∀ e w, F17_3 (e 0) w K → denL Try.prog (tabOf T17) 59 fuel ((flat (bodyOf Try.f17)).drop 2) e w kn kr ke := by
  intro e w h
  unfold F17_3 at h
  have e1 : ∀ (_ : Unit), F17_3b (e 0) w K = denL Try.prog (tabOf T17) 59 fuel ((flat (bodyOf Try.f17)).drop 2) e w (fun e w => K (.tuple #[]) w) (endD Try.prog [] K) noE := by intro _; kernel_rfl
  exact seg_end (Eq.mp (e1 ()) h) hn hr he
def F17_6b (s0 s1 s9 s10 s11 : Value) (w : World) (_K : V1) (R3 : V5) : Prop :=
bindP (bAdd s11 (.int .i64 1)) fun v9 =>
R3 s0 s1 s9 s10 v9 w
def F17_6 (s0 s1 s9 s10 s11 : Value) (w : World) (K : V1) (R3 : V5) : Prop := F17_6b s0 s1 s9 s10 s11 w K R3
theorem ok17_6 (R3 : V5) {K : V1}
    (hn : HN (fun e w => R3 (e 0) (e 1) (e 9) (e 10) (e 11) w) kn) (hr : HR Try.prog [] K kr) (he : HE (blkK 0 (fun e w => F17_3 (e 0) w K) noE) ke) :
    ∀ e w, F17_6 (e 0) (e 1) (e 9) (e 10) (e 11) w K R3 → denL Try.prog (tabOf T17) 59 fuel ((flat (loopB (blkB (nthC (flat (bodyOf Try.f17)) 1)))).drop 3) e w kn kr ke := by
  intro e w h
  unfold F17_6 at h
  have e1 : ∀ (_ : Unit), F17_6b (e 0) (e 1) (e 9) (e 10) (e 11) w K R3 = denL Try.prog (tabOf T17) 59 fuel ((flat (loopB (blkB (nthC (flat (bodyOf Try.f17)) 1)))).drop 3) e w (fun e w => R3 (e 0) (e 1) (e 9) (e 10) (e 11) w) (endD Try.prog [] K) (blkK 0 (fun e w => F17_3 (e 0) w K) noE) := by intro _; kernel_rfl
  exact seg_end (Eq.mp (e1 ()) h) hn hr he
def F17_8b (s0 s1 s5 s6 s7 s9 s10 s11 : Value) (w : World) (_K : V1) (R3 : V5) (Y0 : V5) : Prop :=
bindP (pNil s0) fun v10 =>
bindP (pFieldAddr 1 v10) fun v11 =>
bindP (ld1 v11 w.drew) fun v12 =>
bindP (pFieldAddr 0 s6) fun v13 =>
bindP (ld1 v13 w.drew) fun v14 =>
bindP (pSliceS v14 none (some s7)) fun v15 =>
bindP (fBuild Try.prog 86 [(0, v15), (1, s7)]) fun v16 =>
eMapSet Try.prog 78 v12 s5 v16 w.drew fun _ w17 =>
Y0 s0 s1 s9 s10 s11 w17
def F17_8 (s0 s1 s5 s6 s7 s9 s10 s11 : Value) (w : World) (K : V1) (R3 : V5) : Prop := F17_8b s0 s1 s5 s6 s7 s9 s10 s11 w K R3 (fun a0 a1 a9 a10 a11 w => F17_6 a0 a1 a9 a10 a11 w K R3)
theorem ok17_8 (R3 : V5) {K : V1}
    (hn : HN (fun e w => F17_6 (e 0) (e 1) (e 9) (e 10) (e 11) w K R3) kn) (hr : HR Try.prog [] K kr) (he : HE (blkK 1 (fun e w => F17_6 (e 0) (e 1) (e 9) (e 10) (e 11) w K R3) (blkK 0 (fun e w => F17_3 (e 0) w K) noE)) ke) :
    ∀ e w, F17_8 (e 0) (e 1) (e 5) (e 6) (e 7) (e 9) (e 10) (e 11) w K R3 → denL Try.prog (tabOf T17) 59 fuel ((flat (blkB (nthC (flat (loopB (blkB (nthC (flat (bodyOf Try.f17)) 1)))) 2))).drop 5) e w kn kr ke := by
  intro e w h
  unfold F17_8 at h
  have e1 : ∀ (Y0 : V5), F17_8b (e 0) (e 1) (e 5) (e 6) (e 7) (e 9) (e 10) (e 11) w K R3 Y0 = denL Try.prog (tabOf T17) 59 fuel ((flat (blkB (nthC (flat (loopB (blkB (nthC (flat (bodyOf Try.f17)) 1)))) 2))).drop 5) e w (fun e w => Y0 (e 0) (e 1) (e 9) (e 10) (e 11) w) (endD Try.prog [] K) (blkK 1 (fun e w => Y0 (e 0) (e 1) (e 9) (e 10) (e 11) w) (blkK 0 (fun e w => F17_3 (e 0) w K) noE)) := by intro Y0; kernel_rfl
  exact seg_end (Eq.mp (e1 (fun a0 a1 a9 a10 a11 w => F17_6 a0 a1 a9 a10 a11 w K R3)) h) hn hr he
def F17_7b (s0 s1 s9 s10 s11 : Value) (w : World) (_K : V1) (R3 : V5) (Y0 : V8) : Prop :=
bindP (pIndexL 1 s9 s11) fun v19 =>
bindP (ld1 v19 w) fun v20 =>
bindP (pNil s0) fun v21 =>
bindP (pFieldAddr 1 v21) fun v22 =>
bindP (ld1 v22 w) fun v23 =>
bindP (fLook Try.prog 78 v23 v20 false w) fun v24 =>
eAlloc Try.prog 86 w fun v26 w25 =>
bindW (st 2 v26 v24 w25) fun w27 =>
bindP (pFieldAddr 1 v26) fun v29 =>
bindP (ld1 v29 w27) fun v30 =>
bindP (lenL s1) fun v31 =>
bindP (bLt s11 v31) fun v32 =>
ifB v32 (
bindP (pIndexL 1 s1 s11) fun v33 =>
bindP (ld1 v33 w27.drew) fun v34 =>
bindP (pFieldAddr 0 v26) fun v35 =>
bindP (ld1 v35 w27.drew) fun v36 =>
bindP (lenS v36) fun v37 =>
bindP (pFieldAddr 1 v26) fun v38 =>
bindP (ld1 v38 w27.drew) fun v39 =>
bindP (bSub v37 v39) fun v40 =>
callP G44 [v34, v40] w27.drew fun v42 w41 =>
bindP (bAdd v30 v42) fun v43 =>
Y0 s0 s1 v20 v26 v43 s9 s10 s11 w41) (
Y0 s0 s1 v20 v26 v30 s9 s10 s11 w27)
def F17_7 (s0 s1 s9 s10 s11 : Value) (w : World) (K : V1) (R3 : V5) : Prop := F17_7b s0 s1 s9 s10 s11 w K R3 (fun a0 a1 a5 a6 a7 a9 a10 a11 w => F17_8 a0 a1 a5 a6 a7 a9 a10 a11 w K R3)
theorem ok17_7 (R3 : V5) {K : V1}
    (hn : HN (fun e w => F17_6 (e 0) (e 1) (e 9) (e 10) (e 11) w K R3) kn) (hr : HR Try.prog [] K kr) (he : HE (blkK 1 (fun e w => F17_6 (e 0) (e 1) (e 9) (e 10) (e 11) w K R3) (blkK 0 (fun e w => F17_3 (e 0) w K) noE)) ke) :
    ∀ e w, F17_7 (e 0) (e 1) (e 9) (e 10) (e 11) w K R3 → denL Try.prog (tabOf T17) 59 fuel ((flat (blkB (nthC (flat (loopB (blkB (nthC (flat (bodyOf Try.f17)) 1)))) 2))).drop 0) e w kn kr ke := by
  intro e w h
  unfold F17_7 at h
  have e1 : ∀ (Y0 : V8), F17_7b (e 0) (e 1) (e 9) (e 10) (e 11) w K R3 Y0 = denL Try.prog (tabOf T17) 59 fuel (((flat (blkB (nthC (flat (loopB (blkB (nthC (flat (bodyOf Try.f17)) 1)))) 2))).drop 0).take 5) e w (fun e w => Y0 (e 0) (e 1) (e 5) (e 6) (e 7) (e 9) (e 10) (e 11) w) (endD Try.prog [] K) (blkK 1 (fun e w => F17_6 (e 0) (e 1) (e 9) (e 10) (e 11) w K R3) (blkK 0 (fun e w => F17_3 (e 0) w K) noE)) := by intro Y0; kernel_rfl
  exact seg 5 (Eq.mp (e1 (fun a0 a1 a5 a6 a7 a9 a10 a11 w => F17_8 a0 a1 a5 a6 a7 a9 a10 a11 w K R3)) h) (fun e w h => ok17_8 R3 hn hr he e w h) hr he
def F17_5 (s0 s1 s9 s10 s11 : Value) (w : World) (K : V1) (R3 : V5) : Prop := F17_7 s0 s1 s9 s10 s11 w K R3
theorem ok17_5 (R3 : V5) {K : V1}
    (hn : HN (fun e w => R3 (e 0) (e 1) (e 9) (e 10) (e 11) w) kn) (hr : HR Try.prog [] K kr) (he : HE (blkK 0 (fun e w => F17_3 (e 0) w K) noE) ke) :
    ∀ e w, F17_5 (e 0) (e 1) (e 9) (e 10) (e 11) w K R3 → denL Try.prog (tabOf T17) 59 fuel ((flat (loopB (blkB (nthC (flat (bodyOf Try.f17)) 1)))).drop 2) e w kn kr ke := by
  intro e w h
  unfold F17_5 at h
  refine seg_block (id := 1) (body := (blkB (nthC (flat (loopB (blkB (nthC (flat (bodyOf Try.f17)) 1)))) 2))) (l2 := (flat (loopB (blkB (nthC (flat (bodyOf Try.f17)) 1)))).drop 3) (by kernel_rfl) ?_
  exact ok17_7 R3 (fun e w h => ok17_6 R3 hn hr he e w h) hr (blkK_mono (fun e w h => ok17_6 R3 hn hr he e w h) he) e w h
def F17_4b (s0 s1 s9 s10 s11 : Value) (w : World) (_K : V1) (R3 : V5) (Y0 : V5) (Y1 : V1) : Prop :=
bindP (bLt s11 s10) fun v44 =>
ifB v44 (
Y0 s0 s1 s9 s10 s11 w) (
Y1 s0 w)
def F17_4 (s0 s1 s9 s10 s11 : Value) (w : World) (K : V1) (R3 : V5) : Prop := F17_4b s0 s1 s9 s10 s11 w K R3 (fun a0 a1 a9 a10 a11 w => F17_5 a0 a1 a9 a10 a11 w K R3) (fun a0 w => F17_3 a0 w K)
theorem ok17_4 (R3 : V5) {K : V1}
    (hn : HN (fun e w => R3 (e 0) (e 1) (e 9) (e 10) (e 11) w) kn) (hr : HR Try.prog [] K kr) (he : HE (blkK 0 (fun e w => F17_3 (e 0) w K) noE) ke) :
    ∀ e w, F17_4 (e 0) (e 1) (e 9) (e 10) (e 11) w K R3 → denL Try.prog (tabOf T17) 59 fuel ((flat (loopB (blkB (nthC (flat (bodyOf Try.f17)) 1)))).drop 0) e w kn kr ke := by
  intro e w h
  unfold F17_4 at h
  have e1 : ∀ (Y0 : V5) (Y1 : V1), F17_4b (e 0) (e 1) (e 9) (e 10) (e 11) w K R3 Y0 Y1 = denL Try.prog (tabOf T17) 59 fuel (((flat (loopB (blkB (nthC (flat (bodyOf Try.f17)) 1)))).drop 0).take 2) e w (fun e w => Y0 (e 0) (e 1) (e 9) (e 10) (e 11) w) (endD Try.prog [] K) (blkK 0 (fun e w => Y1 (e 0) w) noE) := by intro Y0 Y1; kernel_rfl
  exact seg 2 (Eq.mp (e1 (fun a0 a1 a9 a10 a11 w => F17_5 a0 a1 a9 a10 a11 w K R3) (fun a0 w => F17_3 a0 w K)) h) (fun e w h => ok17_5 R3 hn hr he e w h) hr he
def F17_2L : Nat → Value → Value → Value → Value → Value → World → (V1) → Prop
  | 0, _, _, _, _, _, _, _ => False
  | n + 1, s0, s1, s9, s10, s11, w, K => F17_4 s0 s1 s9 s10 s11 w K (fun a0 a1 a9 a10 a11 w => F17_2L n a0 a1 a9 a10 a11 w K)
def F17_2 (s0 s1 s9 s10 s11 : Value) (w : World) (K : V1) : Prop := F17_2L fuel s0 s1 s9 s10 s11 w K
theorem ok17_2 {K : V1}
    (hn : HN (fun e w => K (.tuple #[]) w) kn) (hr : HR Try.prog [] K kr) (he : HE noE ke) :
    ∀ e w, F17_2 (e 0) (e 1) (e 9) (e 10) (e 11) w K → denL Try.prog (tabOf T17) 59 fuel ((flat (bodyOf Try.f17)).drop 1) e w kn kr ke := by
  intro e w h
  unfold F17_2 at h
  refine seg_loop (id := 0) (body := (loopB (blkB (nthC (flat (bodyOf Try.f17)) 1)))) (l2 := (flat (bodyOf Try.f17)).drop 2) (by kernel_rfl) ?_
  refine loop_ok (FL := fun m e w => F17_2L m (e 0) (e 1) (e 9) (e 10) (e 11) w K) (fr := endD Try.prog [] K) (fe := (blkK 0 (fun e w => F17_3 (e 0) w K) noE)) (fun _ _ h => h) ?_ hr (blkK_mono (fun e w h => ok17_3 hn hr he e w h) he) fuel e w h
  intro m e w h
  have h : F17_2L (m + 1) (e 0) (e 1) (e 9) (e 10) (e 11) w K := h
  rw [F17_2L] at h
  exact ok17_4 (fun a0 a1 a9 a10 a11 w => F17_2L m a0 a1 a9 a10 a11 w K) (fun _ _ h => h) (fun _ _ h => h) (fun _ _ _ h => h) e w h
def F17_1b (s0 s1 : Value) (w : World) (_K : V1) (Y0 : V5) : Prop :=
callP G15 [s0] w fun v46 w45 =>
bindP (lenL v46) fun v47 =>
Y0 s0 s1 v46 v47 (.int .i64 0) w45
def F17_1 (s0 s1 : Value) (w : World) (K : V1) : Prop := F17_1b s0 s1 w K (fun a0 a1 a9 a10 a11 w => F17_2 a0 a1 a9 a10 a11 w K)
theorem ok17_1 {K : V1}
    (hn : HN (fun e w => K (.tuple #[]) w) kn) (hr : HR Try.prog [] K kr) (he : HE noE ke) :
    ∀ e w, F17_1 (e 0) (e 1) w K → denL Try.prog (tabOf T17) 59 fuel ((flat (bodyOf Try.f17)).drop 0) e w kn kr ke := by
  intro e w h
  unfold F17_1 at h
  have e1 : ∀ (Y0 : V5), F17_1b (e 0) (e 1) w K Y0 = denL Try.prog (tabOf T17) 59 fuel (((flat (bodyOf Try.f17)).drop 0).take 1) e w (fun e w => Y0 (e 0) (e 1) (e 9) (e 10) (e 11) w) (endD Try.prog [] K) noE := by intro Y0; kernel_rfl
  exact seg 1 (Eq.mp (e1 (fun a0 a1 a9 a10 a11 w => F17_2 a0 a1 a9 a10 a11 w K)) h) (fun e w h => ok17_2 hn hr he e w h) hr he
def F17 (x0 x1 : Value) (w : World) (K : V1) : Prop := F17_1 x0 x1 w K
def G17 : FnT := fun args w K => on2 (fun x0 x1 => F17 x0 x1 w K) args
theorem c17 {x0 x1 : Value} {w : World} {K : V1} (h : F17 x0 x1 w K) : callP G17 [x0, x1] w K := callP_intro (on2_mk (p := fun x0 x1 => F17 x0 x1 w K) h)
theorem ok17 : OkF Try.prog 17 G17 := by
  refine okF_of (tab_ok (l := T17) ⟨ok15, ok44, trivial⟩) mixed (n := fuel) Try.func17 Try.call17 fun args w K h => ?_
  obtain ⟨x0, x1, rfl, hh⟩ := of_on2 h
  unfold F17 at hh
  exact fnD_list (c := bodyOf Try.f17) (by kernel_rfl) (by kernel_rfl) (ok17_1 (fun _ _ h => h) (fun _ _ h => h) (fun _ _ _ h => h) (initE [x0, x1]) w hh)
def T45 : List (Nat × FnT) := []
def F45 (x0 : Value) (w : World) (K : V1) : Prop :=
bindP (bNe Try.prog 9 (.tmp 3) (.const (.string ⟨#[]⟩)) x0 (.string ⟨#[]⟩)) fun v1 =>
stepM (gd true v1) x0 fun v2 =>
Sx.stepG (gd true v1) (lenS v2) fun v3 =>
Sx.stepG (gd true v1) (bLe v3 (.int .i64 64)) fun v4 =>
bindP (pPick v1 v4 (.bool false)) fun v5 =>
K v5 w
def G45 : FnT := fun args w K => on1 (fun x0 => F45 x0 w K) args
theorem c45 {x0 : Value} {w : World} {K : V1} (h : F45 x0 w K) : callP G45 [x0] w K := callP_intro (on1_mk (p := fun x0 => F45 x0 w K) h)
theorem ok45 : OkF Try.prog 45 G45 := by
  refine okF_of (tab_ok (l := T45) trivial) mixed (n := fuel) Try.func45 Try.call45 fun args w K h => ?_
  obtain ⟨x0, rfl, hh⟩ := of_on1 h
  exact fnD_list (c := bodyOf Try.f45) (by kernel_rfl) (by kernel_rfl) (Eq.mp (by kernel_rfl) hh)
def T13 : List (Nat × FnT) := []
def F13 (x0 : Value) (w : World) (K : V1) : Prop :=
bindP (pNil x0) fun v1 =>
bindP (pFieldAddr 2 v1) fun v2 =>
bindP (ld1 v2 w) fun v3 =>
stepM (gd true v3) x0 fun v4 =>
Sx.stepG (gd true v3) (pNil v4) fun v5 =>
Sx.stepG (gd true v3) (pFieldAddr 3 v5) fun v6 =>
Sx.stepG (gd true v3) (ld1 v6 w) fun v7 =>
Sx.stepG (gd true v3) (bEq Try.prog 3 (.tmp 11) (.const (.int .i64 0)) v7 (.int .i64 0)) fun v8 =>
bindP (pPick v3 v8 (.bool false)) fun v9 =>
K v9 w
def G13 : FnT := fun args w K => on1 (fun x0 => F13 x0 w K) args
theorem c13 {x0 : Value} {w : World} {K : V1} (h : F13 x0 w K) : callP G13 [x0] w K := callP_intro (on1_mk (p := fun x0 => F13 x0 w K) h)
theorem ok13 : OkF Try.prog 13 G13 := by
  refine okF_of (tab_ok (l := T13) trivial) mixed (n := fuel) Try.func13 Try.call13 fun args w K h => ?_
  obtain ⟨x0, rfl, hh⟩ := of_on1 h
  exact fnD_list (c := bodyOf Try.f13) (by kernel_rfl) (by kernel_rfl) (Eq.mp (by kernel_rfl) hh)
def T68 : List (Nat × FnT) := [(13, G13)]
def F68_2b (w : World) (K : V1) : Prop :=
K (.bool true) w
def F68_2 (w : World) (K : V1) : Prop := F68_2b w K
theorem ok68_2 {K : V1}
    (hn : HN (fun e w => K (e 2) w) kn) (hr : HR Try.prog [.tmp 2] K kr) (he : HE noE ke) :
    ∀ e w, F68_2 w K → denL Try.prog (tabOf T68) 16 fuel ((flat (bodyOf Try.f68)).drop 5) e w kn kr ke := by
  intro e w h
  unfold F68_2 at h
  have e1 : ∀ (_ : Unit), F68_2b w K = denL Try.prog (tabOf T68) 16 fuel ((flat (bodyOf Try.f68)).drop 5) e w (fun e w => K (e 2) w) (endD Try.prog [.tmp 2] K) noE := by intro _; kernel_rfl
  exact seg_end (Eq.mp (e1 ()) h) hn hr he
def F68_1b (s0 : Value) (w : World) (K : V1) (Y0 : V0) : Prop :=
callP G13 [s0] w fun v2 w1 =>
ifB v2 (
K (.bool false) w1) (
bindP (pNil s0) fun v3 =>
bindP (pFieldAddr 2 v3) fun v4 =>
bindP (ld1 v4 w1) fun v5 =>
ifB v5 (
bindP (pNil s0) fun v6 =>
bindP (pFieldAddr 3 v6) fun v7 =>
bindP (ld1 v7 w1) fun v8 =>
bindP (bSub v8 (.int .i64 1)) fun v9 =>
bindP (pNil s0) fun v10 =>
bindP (pFieldAddr 3 v10) fun v11 =>
bindW (st 1 v11 v9 w1) fun w12 =>
Y0 w12) (
Y0 w1))
def F68_1 (s0 : Value) (w : World) (K : V1) : Prop := F68_1b s0 w K (fun w => F68_2 w K)
theorem ok68_1 {K : V1}
    (hn : HN (fun e w => K (e 2) w) kn) (hr : HR Try.prog [.tmp 2] K kr) (he : HE noE ke) :
    ∀ e w, F68_1 (e 0) w K → denL Try.prog (tabOf T68) 16 fuel ((flat (bodyOf Try.f68)).drop 0) e w kn kr ke := by
  intro e w h
  unfold F68_1 at h
  have e1 : ∀ (Y0 : V0), F68_1b (e 0) w K Y0 = denL Try.prog (tabOf T68) 16 fuel (((flat (bodyOf Try.f68)).drop 0).take 5) e w (fun e w => Y0 w) (endD Try.prog [.tmp 2] K) noE := by intro Y0; kernel_rfl
  exact seg 5 (Eq.mp (e1 (fun w => F68_2 w K)) h) (fun e w h => ok68_2 hn hr he e w h) hr he
def F68 (x0 : Value) (w : World) (K : V1) : Prop := F68_1 x0 w K
def G68 : FnT := fun args w K => on1 (fun x0 => F68 x0 w K) args
theorem c68 {x0 : Value} {w : World} {K : V1} (h : F68 x0 w K) : callP G68 [x0] w K := callP_intro (on1_mk (p := fun x0 => F68 x0 w K) h)
theorem ok68 : OkF Try.prog 68 G68 := by
  refine okF_of (tab_ok (l := T68) ⟨ok13, trivial⟩) mixed (n := fuel) Try.func68 Try.call68 fun args w K h => ?_
  obtain ⟨x0, rfl, hh⟩ := of_on1 h
  unfold F68 at hh
  exact fnD_list (c := bodyOf Try.f68) (by kernel_rfl) (by kernel_rfl) (ok68_1 (fun _ _ h => h) (fun _ _ h => h) (fun _ _ _ h => h) (initE [x0]) w hh)
def T46 : List (Nat × FnT) := [(68, G68)]
def F46 (x0 x1 x2 : Value) (w : World) (K : V1) : Prop :=
eBox 86 x2 w fun v2 w1 =>
callP G68 [x0] w1 fun v4 w3 =>
bindP (uNot v4) fun v5 =>
ifB v5 (
K (.int .i64 251) w3) (
bindP (pNil x0) fun v6 =>
bindP (pFieldAddr 1 v6) fun v7 =>
bindP (ld1 v7 w3.drew) fun v8 =>
bindP (ldN 2 v2 w3.drew) fun v9 =>
eMapSet Try.prog 78 v8 x1 v9 w3.drew fun _ w10 =>
K (.int .i64 0) w10)
def G46 : FnT := fun args w K => on3 (fun x0 x1 x2 => F46 x0 x1 x2 w K) args
theorem c46 {x0 x1 x2 : Value} {w : World} {K : V1} (h : F46 x0 x1 x2 w K) : callP G46 [x0, x1, x2] w K := callP_intro (on3_mk (p := fun x0 x1 x2 => F46 x0 x1 x2 w K) h)
theorem ok46 : OkF Try.prog 46 G46 := by
  refine okF_of (tab_ok (l := T46) ⟨ok68, trivial⟩) mixed (n := fuel) Try.func46 Try.call46 fun args w K h => ?_
  obtain ⟨x0, x1, x2, rfl, hh⟩ := of_on3 h
  exact fnD_list (c := bodyOf Try.f46) (by kernel_rfl) (by kernel_rfl) (Eq.mp (by kernel_rfl) hh)
def T18 : List (Nat × FnT) := [(45, G45), (46, G46)]
def F18 (x0 x1 : Value) (w : World) (K : V1) : Prop :=
callP G45 [x1] w fun v2 w1 =>
bindP (uNot v2) fun v3 =>
ifB v3 (
K (.int .i64 1) w1) (
bindP (pNil x0) fun v4 =>
bindP (pFieldAddr 1 v4) fun v5 =>
bindP (ld1 v5 w1) fun v6 =>
bindP (fLook Try.prog 78 v6 x1 true w1) fun v7 =>
bindP (pTuple v7 0) fun v8 =>
bindP (pTuple v7 1) fun v9 =>
eAlloc Try.prog 86 w1 fun v11 w10 =>
bindW (st 2 v11 v8 w10) fun w12 =>
ifB v9 (
K (.int .i64 6) w12) (
bindP (fBuild Try.prog 86 []) fun v14 =>
callP G46 [x0, x1, v14] w12 fun v16 w15 =>
K v16 w15))
def G18 : FnT := fun args w K => on2 (fun x0 x1 => F18 x0 x1 w K) args
theorem c18 {x0 x1 : Value} {w : World} {K : V1} (h : F18 x0 x1 w K) : callP G18 [x0, x1] w K := callP_intro (on2_mk (p := fun x0 x1 => F18 x0 x1 w K) h)
theorem ok18 : OkF Try.prog 18 G18 := by
  refine okF_of (tab_ok (l := T18) ⟨ok45, ok46, trivial⟩) mixed (n := fuel) Try.func18 Try.call18 fun args w K h => ?_
  obtain ⟨x0, x1, rfl, hh⟩ := of_on2 h
  exact fnD_list (c := bodyOf Try.f18) (by kernel_rfl) (by kernel_rfl) (Eq.mp (by kernel_rfl) hh)
def T16 : List (Nat × FnT) := []
def F16_3b (s3 : Value) (w : World) (K : V1) : Prop :=
K s3 w
def F16_3 (s3 : Value) (w : World) (K : V1) : Prop := F16_3b s3 w K
theorem ok16_3 {K : V1}
    (hn : HN (fun e w => K (e 2) w) kn) (hr : HR Try.prog [.tmp 2] K kr) (he : HE noE ke) :
    ∀ e w, F16_3 (e 3) w K → denL Try.prog (tabOf T16) 21 fuel ((flat (bodyOf Try.f16)).drop 4) e w kn kr ke := by
  intro e w h
  unfold F16_3 at h
  have e1 : ∀ (_ : Unit), F16_3b (e 3) w K = denL Try.prog (tabOf T16) 21 fuel ((flat (bodyOf Try.f16)).drop 4) e w (fun e w => K (e 2) w) (endD Try.prog [.tmp 2] K) noE := by intro _; kernel_rfl
  exact seg_end (Eq.mp (e1 ()) h) hn hr he
def F16_2b (s3 s10 : Value) (w : World) (_K : V1) (Y0 : V2) (Y1 : V1) : Prop :=
eNext s10 false w fun v2 w1 =>
bindP (pTuple v2 0) fun v3 =>
ifB v3 (
bindP (fEntry s10 w1) fun v4 =>
bindP (pTuple v4 1) fun v5 =>
eAlloc Try.prog 86 w1 fun v7 w6 =>
bindW (st 2 v7 v5 w6) fun w8 =>
bindP (pFieldAddr 0 v7) fun v10 =>
bindP (ld1 v10 w8) fun v11 =>
bindP (lenS v11) fun v12 =>
bindP (bAdd s3 v12) fun v13 =>
Y0 v13 s10 w8) (
Y1 s3 w1)
def F16_2L : Nat → Value → Value → World → (V1) → Prop
  | 0, _, _, _, _ => False
  | n + 1, s3, s10, w, K => F16_2b s3 s10 w K (fun a3 a10 w => F16_2L n a3 a10 w K) (fun a3 w => F16_3 a3 w K)
def F16_2 (s3 s10 : Value) (w : World) (K : V1) : Prop := F16_2L fuel s3 s10 w K
theorem ok16_2 {K : V1}
    (hn : HN (fun e w => K (e 2) w) kn) (hr : HR Try.prog [.tmp 2] K kr) (he : HE noE ke) :
    ∀ e w, F16_2 (e 3) (e 10) w K → denL Try.prog (tabOf T16) 21 fuel ((flat (bodyOf Try.f16)).drop 3) e w kn kr ke := by
  intro e w h
  unfold F16_2 at h
  refine seg_loop (id := 0) (body := (loopB (blkB (nthC (flat (bodyOf Try.f16)) 3)))) (l2 := (flat (bodyOf Try.f16)).drop 4) (by kernel_rfl) ?_
  refine loop_ok (FL := fun m e w => F16_2L m (e 3) (e 10) w K) (fr := endD Try.prog [.tmp 2] K) (fe := (blkK 0 (fun e w => F16_3 (e 3) w K) noE)) (fun _ _ h => h) ?_ hr (blkK_mono (fun e w h => ok16_3 hn hr he e w h) he) fuel e w h
  intro m e w h
  have h : F16_2L (m + 1) (e 3) (e 10) w K := h
  rw [F16_2L] at h
  have e1 : ∀ (Y0 : V2) (Y1 : V1), F16_2b (e 3) (e 10) w K Y0 Y1 = denL Try.prog (tabOf T16) 21 fuel (flat (loopB (blkB (nthC (flat (bodyOf Try.f16)) 3)))) e w (fun e w => Y0 (e 3) (e 10) w) (endD Try.prog [.tmp 2] K) (blkK 0 (fun e w => Y1 (e 3) w) noE) := by intro Y0 Y1; kernel_rfl
  exact Eq.mp (e1 (fun a3 a10 w => F16_2L m a3 a10 w K) (fun a3 w => F16_3 a3 w K)) h
def F16_1b (s0 : Value) (w : World) (_K : V1) (Y0 : V2) : Prop :=
bindP (pNil s0) fun v14 =>
bindP (pFieldAddr 1 v14) fun v15 =>
bindP (ld1 v15 w) fun v16 =>
eRange Try.prog 78 v16 w fun v18 w17 =>
Y0 (.int .i64 0) v18 w17
def F16_1 (s0 : Value) (w : World) (K : V1) : Prop := F16_1b s0 w K (fun a3 a10 w => F16_2 a3 a10 w K)
theorem ok16_1 {K : V1}
    (hn : HN (fun e w => K (e 2) w) kn) (hr : HR Try.prog [.tmp 2] K kr) (he : HE noE ke) :
    ∀ e w, F16_1 (e 0) w K → denL Try.prog (tabOf T16) 21 fuel ((flat (bodyOf Try.f16)).drop 0) e w kn kr ke := by
  intro e w h
  unfold F16_1 at h
  have e1 : ∀ (Y0 : V2), F16_1b (e 0) w K Y0 = denL Try.prog (tabOf T16) 21 fuel (((flat (bodyOf Try.f16)).drop 0).take 3) e w (fun e w => Y0 (e 3) (e 10) w) (endD Try.prog [.tmp 2] K) noE := by intro Y0; kernel_rfl
  exact seg 3 (Eq.mp (e1 (fun a3 a10 w => F16_2 a3 a10 w K)) h) (fun e w h => ok16_2 hn hr he e w h) hr he
def F16 (x0 : Value) (w : World) (K : V1) : Prop := F16_1 x0 w K
def G16 : FnT := fun args w K => on1 (fun x0 => F16 x0 w K) args
theorem c16 {x0 : Value} {w : World} {K : V1} (h : F16 x0 w K) : callP G16 [x0] w K := callP_intro (on1_mk (p := fun x0 => F16 x0 w K) h)
theorem ok16 : OkF Try.prog 16 G16 := by
  refine okF_of (tab_ok (l := T16) trivial) mixed (n := fuel) Try.func16 Try.call16 fun args w K h => ?_
  obtain ⟨x0, rfl, hh⟩ := of_on1 h
  unfold F16 at hh
  exact fnD_list (c := bodyOf Try.f16) (by kernel_rfl) (by kernel_rfl) (ok16_1 (fun _ _ h => h) (fun _ _ h => h) (fun _ _ _ h => h) (initE [x0]) w hh)
def T19 : List (Nat × FnT) := [(16, G16), (46, G46)]
def F19 (x0 x1 x2 : Value) (w : World) (K : V1) : Prop :=
bindP (pNil x0) fun v1 =>
bindP (pFieldAddr 1 v1) fun v2 =>
bindP (ld1 v2 w) fun v3 =>
bindP (fLook Try.prog 78 v3 x1 true w) fun v4 =>
bindP (pTuple v4 0) fun v5 =>
bindP (pTuple v4 1) fun v6 =>
eAlloc Try.prog 86 w fun v8 w7 =>
bindW (st 2 v8 v5 w7) fun w9 =>
bindP (uNot v6) fun v11 =>
ifB v11 (
K (.int .i64 5) w9) (
bindP (lenS x2) fun v12 =>
bindP (pNil x0) fun v13 =>
bindP (pFieldAddr 0 v13) fun v14 =>
bindP (ld1 v14 w9.drew) fun v15 =>
callP G16 [x0] w9.drew fun v17 w16 =>
(fok true (lenS x2) v12 ∧ fok true (ld1 v14 w16) v15) ∧ (bindP (bSub v15 v17) fun v18 =>
bindP (bGt v12 v18) fun v19 =>
ifB v19 (
K (.int .i64 250) w16) (
bindP (pFieldAddr 0 v8) fun v20 =>
bindP (ld1 v20 w16) fun v21 =>
bindP (bAdd v21 x2) fun v22 =>
bindP (pFieldAddr 0 v8) fun v23 =>
bindW (st 1 v23 v22 w16) fun w24 =>
bindP (ldN 2 v8 w24) fun v26 =>
callP G46 [x0, x1, v26] w24 fun v28 w27 =>
K v28 w27)))
def G19 : FnT := fun args w K => on3 (fun x0 x1 x2 => F19 x0 x1 x2 w K) args
theorem c19 {x0 x1 x2 : Value} {w : World} {K : V1} (h : F19 x0 x1 x2 w K) : callP G19 [x0, x1, x2] w K := callP_intro (on3_mk (p := fun x0 x1 x2 => F19 x0 x1 x2 w K) h)
theorem ok19 : OkF Try.prog 19 G19 := by
  refine okF_of (tab_ok (l := T19) ⟨ok16, ok46, trivial⟩) mixed (n := fuel) Try.func19 Try.call19 fun args w K h => ?_
  obtain ⟨x0, x1, x2, rfl, hh⟩ := of_on3 h
  exact fnD_list (c := bodyOf Try.f19) (by kernel_rfl) (by kernel_rfl) (Eq.mp (by kernel_rfl) hh)
def T21 : List (Nat × FnT) := [(46, G46)]
def F21 (x0 x1 : Value) (w : World) (K : V1) : Prop :=
bindP (pNil x0) fun v1 =>
bindP (pFieldAddr 1 v1) fun v2 =>
bindP (ld1 v2 w) fun v3 =>
bindP (fLook Try.prog 78 v3 x1 true w) fun v4 =>
bindP (pTuple v4 0) fun v5 =>
bindP (pTuple v4 1) fun v6 =>
eAlloc Try.prog 86 w fun v8 w7 =>
bindW (st 2 v8 v5 w7) fun w9 =>
bindP (uNot v6) fun v11 =>
ifB v11 (
K (.int .i64 5) w9) (
bindP (pFieldAddr 0 v8) fun v12 =>
bindP (ld1 v12 w9) fun v13 =>
bindP (lenS v13) fun v14 =>
bindP (pFieldAddr 1 v8) fun v15 =>
bindW (st 1 v15 v14 w9) fun w16 =>
bindP (ldN 2 v8 w16) fun v18 =>
callP G46 [x0, x1, v18] w16 fun v20 w19 =>
K v20 w19)
def G21 : FnT := fun args w K => on2 (fun x0 x1 => F21 x0 x1 w K) args
theorem c21 {x0 x1 : Value} {w : World} {K : V1} (h : F21 x0 x1 w K) : callP G21 [x0, x1] w K := callP_intro (on2_mk (p := fun x0 x1 => F21 x0 x1 w K) h)
theorem ok21 : OkF Try.prog 21 G21 := by
  refine okF_of (tab_ok (l := T21) ⟨ok46, trivial⟩) mixed (n := fuel) Try.func21 Try.call21 fun args w K h => ?_
  obtain ⟨x0, x1, rfl, hh⟩ := of_on2 h
  exact fnD_list (c := bodyOf Try.f21) (by kernel_rfl) (by kernel_rfl) (Eq.mp (by kernel_rfl) hh)
def T23 : List (Nat × FnT) := []
def F23 (x0 x1 : Value) (w : World) (K : V1) : Prop :=
bindP (pNil x0) fun v1 =>
bindP (pFieldAddr 1 v1) fun v2 =>
bindP (ld1 v2 w) fun v3 =>
bindP (fLook Try.prog 78 v3 x1 true w) fun v4 =>
bindP (pTuple v4 0) fun v5 =>
bindP (pTuple v4 1) fun v6 =>
eAlloc Try.prog 86 w fun v8 w7 =>
bindW (st 2 v8 v5 w7) fun w9 =>
bindP (uNot v6) fun v11 =>
ifB v11 (
K (.tuple #[(.string ⟨#[]⟩), (.int .i64 5)]) w9) (
bindP (pFieldAddr 0 v8) fun v12 =>
bindP (ld1 v12 w9) fun v13 =>
K (.tuple #[v13, (.int .i64 0)]) w9)
def G23 : FnT := fun args w K => on2 (fun x0 x1 => F23 x0 x1 w K) args
theorem c23 {x0 x1 : Value} {w : World} {K : V1} (h : F23 x0 x1 w K) : callP G23 [x0, x1] w K := callP_intro (on2_mk (p := fun x0 x1 => F23 x0 x1 w K) h)
theorem ok23 : OkF Try.prog 23 G23 := by
  refine okF_of (tab_ok (l := T23) trivial) mixed (n := fuel) Try.func23 Try.call23 fun args w K h => ?_
  obtain ⟨x0, x1, rfl, hh⟩ := of_on2 h
  exact fnD_list (c := bodyOf Try.f23) (by kernel_rfl) (by kernel_rfl) (Eq.mp (by kernel_rfl) hh)
def T9 : List (Nat × FnT) := [(8, G8), (17, G17), (18, G18), (19, G19), (21, G21), (23, G23)]
def F9 (w : World) (K : V1) : Prop :=
callP G8 [(.int .i64 100)] w fun v2 w1 =>
bindP (pTuple v2 0) fun v3 =>
bindP (pTuple v2 1) fun v4 =>
bindP (bEq Try.prog 23 (.tmp 8) (.const (.pointer none)) v3 (.pointer none)) fun v5 =>
stepM (gd false v5) v4 fun v6 =>
Sx.stepG (gd false v5) (bNe Try.prog 24 (.tmp 11) (.const (.int .i64 0)) v6 (.int .i64 0)) fun v7 =>
bindP (pPick v5 (.bool true) v7) fun v8 =>
stepM (gd false v8) v3 fun v9 =>
stepE (gd false v8) (fun k => callP G18 [v9, (.string ⟨#[102]⟩)] w1 k) w1 fun v11 w10 =>
Sx.stepG (gd false v8) (bNe Try.prog 24 (.tmp 16) (.const (.int .i64 0)) v11 (.int .i64 0)) fun v12 =>
bindP (pPick v8 (.bool true) v12) fun v13 =>
stepM (gd false v13) v3 fun v14 =>
stepE (gd false v13) (fun k => callP G19 [v14, (.string ⟨#[102]⟩), (.string ⟨#[97, 98, 99]⟩)] w10 k) w10 fun v16 w15 =>
Sx.stepG (gd false v13) (bNe Try.prog 24 (.tmp 21) (.const (.int .i64 0)) v16 (.int .i64 0)) fun v17 =>
bindP (pPick v13 (.bool true) v17) fun v18 =>
stepM (gd false v18) v3 fun v19 =>
stepE (gd false v18) (fun k => callP G21 [v19, (.string ⟨#[102]⟩)] w15 k) w15 fun v21 w20 =>
Sx.stepG (gd false v18) (bNe Try.prog 24 (.tmp 26) (.const (.int .i64 0)) v21 (.int .i64 0)) fun v22 =>
bindP (pPick v18 (.bool true) v22) fun v23 =>
stepM (gd false v23) v3 fun v24 =>
stepE (gd false v23) (fun k => callP G19 [v24, (.string ⟨#[102]⟩), (.string ⟨#[100, 101, 102]⟩)] w20 k) w20 fun v26 w25 =>
Sx.stepG (gd false v23) (bNe Try.prog 24 (.tmp 31) (.const (.int .i64 0)) v26 (.int .i64 0)) fun v27 =>
bindP (pPick v23 (.bool true) v27) fun v28 =>
ifB v28 (
K (.bool false) w25) (
eBuildSl Try.prog 22 1 [(0, (.int .i64 1))] w25 fun v30 w29 =>
callP G17 [v3, v30] w29 fun _ w31 =>
callP G23 [v3, (.string ⟨#[102]⟩)] w31 fun v34 w33 =>
bindP (pTuple v34 0) fun v35 =>
bindP (pTuple v34 1) fun v36 =>
bindP (bEq Try.prog 9 (.tmp 42) (.const (.string ⟨#[97, 98, 99, 100]⟩)) v35 (.string ⟨#[97, 98, 99, 100]⟩)) fun v37 =>
stepM (gd true v37) v36 fun v38 =>
Sx.stepG (gd true v37) (bEq Try.prog 24 (.tmp 45) (.const (.int .i64 0)) v38 (.int .i64 0)) fun v39 =>
bindP (pPick v37 v39 (.bool false)) fun v40 =>
K v40 w33)
def G9 : FnT := fun args w K => on0 (F9 w K) args
theorem c9 {w : World} {K : V1} (h : F9 w K) : callP G9 [] w K := callP_intro (on0_mk (p := F9 w K) h)
theorem ok9 : OkF Try.prog 9 G9 := by
  refine okF_of (tab_ok (l := T9) ⟨ok8, ok17, ok18, ok19, ok21, ok23, trivial⟩) mixed (n := fuel) Try.func9 Try.call9 fun args w K h => ?_
  obtain ⟨rfl, hh⟩ := of_on0 h
  exact fnD_list (c := bodyOf Try.f9) (by kernel_rfl) (by kernel_rfl) (Eq.mp (by kernel_rfl) hh)
def F11 (x0 x1 : Value) (w : World) (K : V1) : Prop :=
bindP (bLt x1 (.int .i64 0)) fun v1 =>
ifB v1 (
K (.int .i64 1) w) (
bindP (pNil x0) fun v2 =>
bindP (pFieldAddr 2 v2) fun v3 =>
bindW (st 1 v3 (.bool true) w) fun w4 =>
bindP (pNil x0) fun v6 =>
bindP (pFieldAddr 3 v6) fun v7 =>
bindW (st 1 v7 x1 w4) fun w8 =>
K (.int .i64 0) w8)
def G11 : FnT := fun args w K => on2 (fun x0 x1 => F11 x0 x1 w K) args
def F41 (x0 x1 x2 : Value) (w : World) (K : V1) : Prop :=
bindP (pNil x0) fun v1 =>
bindP (pFieldAddr 1 v1) fun v2 =>
bindP (ld1 v2 w) fun v3 =>
bindP (fLook Try.prog 78 v3 x1 true w) fun v4 =>
bindP (pTuple v4 0) fun v5 =>
bindP (pTuple v4 1) fun v6 =>
eAlloc Try.prog 86 w fun v8 w7 =>
bindW (st 2 v8 v5 w7) fun w9 =>
bindP (uNot v6) fun v11 =>
ifB v11 (
K (.int .i64 5) w9) (
callP G45 [x2] w9 fun v13 w12 =>
bindP (uNot v13) fun v14 =>
ifB v14 (
K (.int .i64 1) w12) (
callP G68 [x0] w12 fun v16 w15 =>
bindP (uNot v16) fun v17 =>
ifB v17 (
K (.int .i64 251) w15) (
bindP (pNil x0) fun v18 =>
bindP (pFieldAddr 1 v18) fun v19 =>
bindP (ld1 v19 w15) fun v20 =>
eDelete Try.prog 78 v20 x1 w15 fun _ w21 =>
bindP (pNil x0) fun v23 =>
bindP (pFieldAddr 1 v23) fun v24 =>
bindP (ld1 v24 w21.drew) fun v25 =>
bindP (ldN 2 v8 w21.drew) fun v26 =>
eMapSet Try.prog 78 v25 x2 v26 w21.drew fun _ w27 =>
K (.int .i64 0) w27)))
def G41 : FnT := fun args w K => on3 (fun x0 x1 x2 => F41 x0 x1 x2 w K) args
def F14_3b (s5 : Value) (w : World) (K : V1) : Prop :=
K s5 w
def F14_3 (s5 : Value) (w : World) (K : V1) : Prop := F14_3b s5 w K
def F14_2b (s0 s1 s5 s6 : Value) (w : World) (_K : V1) (Y0 : V4) (Y1 : V1) : Prop :=
stepM (gd true s5) s6 fun v1 =>
stepM (gd true s5) s0 fun v2 =>
Sx.stepG (gd true s5) (lenL v2) fun v3 =>
Sx.stepG (gd true s5) (bLt v1 v3) fun v4 =>
bindP (pPick s5 v4 (.bool false)) fun v5 =>
ifB v5 (
bindP (pIndexL 1 s0 s6) fun v6 =>
bindP (ld1 v6 w.drew) fun v7 =>
bindP (pIndexL 1 s1 s6) fun v8 =>
bindP (ld1 v8 w.drew) fun v9 =>
bindP (bEq Try.prog 9 (.tmp 24) (.tmp 28) v7 v9) fun v10 =>
bindP (bAdd s6 (.int .i64 1)) fun v11 =>
Y0 s0 s1 v10 v11 w.drew) (
Y1 s5 w)
def F14_2L : Nat → Value → Value → Value → Value → World → (V1) → Prop
  | 0, _, _, _, _, _, _ => False
  | n + 1, s0, s1, s5, s6, w, K => F14_2b s0 s1 s5 s6 w K (fun a0 a1 a5 a6 w => F14_2L n a0 a1 a5 a6 w K) (fun a5 w => F14_3 a5 w K)
def F14_2 (s0 s1 s5 s6 : Value) (w : World) (K : V1) : Prop := F14_2L fuel s0 s1 s5 s6 w K
def F14_1b (s0 s1 : Value) (w : World) (_K : V1) (Y0 : V4) : Prop :=
bindP (lenL s0) fun v12 =>
bindP (lenL s1) fun v13 =>
bindP (bEq Try.prog 3 (.tmp 8) (.tmp 10) v12 v13) fun v14 =>
Y0 s0 s1 v14 (.int .i64 0) w
def F14_1 (s0 s1 : Value) (w : World) (K : V1) : Prop := F14_1b s0 s1 w K (fun a0 a1 a5 a6 w => F14_2 a0 a1 a5 a6 w K)
def F14 (x0 x1 : Value) (w : World) (K : V1) : Prop := F14_1 x0 x1 w K
def G14 : FnT := fun args w K => on2 (fun x0 x1 => F14 x0 x1 w K) args
def T20 : List (Nat × FnT) := []
def F20 (x0 x1 : Value) (w : World) (K : V1) : Prop :=
bindP (lenS x0) fun v1 =>
bindP (bGt v1 x1) fun v2 =>
ifB v2 (
bindP (pSliceS x0 none (some x1)) fun v3 =>
K v3 w) (
K x0 w)
def G20 : FnT := fun args w K => on2 (fun x0 x1 => F20 x0 x1 w K) args
theorem c20 {x0 x1 : Value} {w : World} {K : V1} (h : F20 x0 x1 w K) : callP G20 [x0, x1] w K := callP_intro (on2_mk (p := fun x0 x1 => F20 x0 x1 w K) h)
theorem ok20 : OkF Try.prog 20 G20 := by
  refine okF_of (tab_ok (l := T20) trivial) mixed (n := fuel) Try.func20 Try.call20 fun args w K h => ?_
  obtain ⟨x0, x1, rfl, hh⟩ := of_on2 h
  exact fnD_list (c := bodyOf Try.f20) (by kernel_rfl) (by kernel_rfl) (Eq.mp (by kernel_rfl) hh)
def G72 : FnT := gClone
theorem ok72 : OkF Try.prog 72 G72 := okClone Try.func72 (by kernel_rfl) (by kernel_rfl) (by kernel_rfl) (by kernel_rfl)
def T47 : List (Nat × FnT) := [(72, G72)]
def F47 (x0 : Value) (w : World) (K : V1) : Prop :=
bindP (bEq Try.prog 78 (.tmp 3) (.const (.map none)) x0 (.map none)) fun v1 =>
ifB v1 (
K (.map none) w) (
bindP (fMkI Try.prog 78 x0) fun v2 =>
callP G72 [v2] w fun v4 w3 =>
bindP (fAssert Try.prog v4 78 false) fun v5 =>
K v5 w3)
def G47 : FnT := fun args w K => on1 (fun x0 => F47 x0 w K) args
theorem c47 {x0 : Value} {w : World} {K : V1} (h : F47 x0 w K) : callP G47 [x0] w K := callP_intro (on1_mk (p := fun x0 => F47 x0 w K) h)
theorem ok47 : OkF Try.prog 47 G47 := by
  refine okF_of (tab_ok (l := T47) ⟨ok72, trivial⟩) mixed (n := fuel) Try.func47 Try.call47 fun args w K h => ?_
  obtain ⟨x0, rfl, hh⟩ := of_on1 h
  exact fnD_list (c := bodyOf Try.f47) (by kernel_rfl) (by kernel_rfl) (Eq.mp (by kernel_rfl) hh)
def T22 : List (Nat × FnT) := [(47, G47)]
def F22 (x0 : Value) (w : World) (K : V1) : Prop :=
bindP (pNil x0) fun v1 =>
bindP (ldN 4 v1 w) fun v2 =>
eAlloc Try.prog 80 w fun v4 w3 =>
bindW (st 4 v4 v2 w3) fun w5 =>
bindP (pNil x0) fun v7 =>
bindP (pFieldAddr 1 v7) fun v8 =>
bindP (ld1 v8 w5) fun v9 =>
callP G47 [v9] w5 fun v11 w10 =>
bindP (pFieldAddr 1 v4) fun v12 =>
bindW (st 1 v12 v11 w10) fun w13 =>
K v4 w13
def G22 : FnT := fun args w K => on1 (fun x0 => F22 x0 w K) args
theorem c22 {x0 : Value} {w : World} {K : V1} (h : F22 x0 w K) : callP G22 [x0] w K := callP_intro (on1_mk (p := fun x0 => F22 x0 w K) h)
theorem ok22 : OkF Try.prog 22 G22 := by
  refine okF_of (tab_ok (l := T22) ⟨ok47, trivial⟩) mixed (n := fuel) Try.func22 Try.call22 fun args w K h => ?_
  obtain ⟨x0, rfl, hh⟩ := of_on1 h
  exact fnD_list (c := bodyOf Try.f22) (by kernel_rfl) (by kernel_rfl) (Eq.mp (by kernel_rfl) hh)
def T24 : List (Nat × FnT) := []
def F24 (x0 x1 : Value) (w : World) (K : V1) : Prop :=
bindP (pNil x0) fun v1 =>
bindP (pFieldAddr 1 v1) fun v2 =>
bindP (ld1 v2 w) fun v3 =>
bindP (fLook Try.prog 78 v3 x1 true w) fun v4 =>
bindP (pTuple v4 0) fun v5 =>
bindP (pTuple v4 1) fun v6 =>
eAlloc Try.prog 86 w fun v8 w7 =>
bindW (st 2 v8 v5 w7) fun w9 =>
bindP (uNot v6) fun v11 =>
ifB v11 (
K (.tuple #[(.int .i64 0), (.int .i64 5)]) w9) (
bindP (pFieldAddr 1 v8) fun v12 =>
bindP (ld1 v12 w9) fun v13 =>
K (.tuple #[v13, (.int .i64 0)]) w9)
def G24 : FnT := fun args w K => on2 (fun x0 x1 => F24 x0 x1 w K) args
theorem c24 {x0 x1 : Value} {w : World} {K : V1} (h : F24 x0 x1 w K) : callP G24 [x0, x1] w K := callP_intro (on2_mk (p := fun x0 x1 => F24 x0 x1 w K) h)
theorem ok24 : OkF Try.prog 24 G24 := by
  refine okF_of (tab_ok (l := T24) trivial) mixed (n := fuel) Try.func24 Try.call24 fun args w K h => ?_
  obtain ⟨x0, x1, rfl, hh⟩ := of_on2 h
  exact fnD_list (c := bodyOf Try.f24) (by kernel_rfl) (by kernel_rfl) (Eq.mp (by kernel_rfl) hh)
def T48 : List (Nat × FnT) := []
def F48 (x0 x1 : Value) (w : World) (K : V1) : Prop :=
bindP (lenS x0) fun v1 =>
bindP (lenS x1) fun v2 =>
bindP (bGe v1 v2) fun v3 =>
stepM (gd true v3) x0 fun v4 =>
stepM (gd true v3) x1 fun v5 =>
Sx.stepG (gd true v3) (lenS v5) fun v6 =>
Sx.stepG (gd true v3) (pSliceS v4 none (some v6)) fun v7 =>
stepM (gd true v3) x1 fun v8 =>
Sx.stepG (gd true v3) (bEq Try.prog 9 (.tmp 14) (.tmp 15) v7 v8) fun v9 =>
bindP (pPick v3 v9 (.bool false)) fun v10 =>
K v10 w
def G48 : FnT := fun args w K => on2 (fun x0 x1 => F48 x0 x1 w K) args
theorem c48 {x0 x1 : Value} {w : World} {K : V1} (h : F48 x0 x1 w K) : callP G48 [x0, x1] w K := callP_intro (on2_mk (p := fun x0 x1 => F48 x0 x1 w K) h)
theorem ok48 : OkF Try.prog 48 G48 := by
  refine okF_of (tab_ok (l := T48) trivial) mixed (n := fuel) Try.func48 Try.call48 fun args w K h => ?_
  obtain ⟨x0, x1, rfl, hh⟩ := of_on2 h
  exact fnD_list (c := bodyOf Try.f48) (by kernel_rfl) (by kernel_rfl) (Eq.mp (by kernel_rfl) hh)
def T25 : List (Nat × FnT) := [(48, G48)]
def F25 (x0 x1 : Value) (w : World) (K : V1) : Prop :=
callP G48 [x0, x1] w fun v2 w1 =>
K v2 w1
def G25 : FnT := fun args w K => on2 (fun x0 x1 => F25 x0 x1 w K) args
theorem c25 {x0 x1 : Value} {w : World} {K : V1} (h : F25 x0 x1 w K) : callP G25 [x0, x1] w K := callP_intro (on2_mk (p := fun x0 x1 => F25 x0 x1 w K) h)
theorem ok25 : OkF Try.prog 25 G25 := by
  refine okF_of (tab_ok (l := T25) ⟨ok48, trivial⟩) mixed (n := fuel) Try.func25 Try.call25 fun args w K h => ?_
  obtain ⟨x0, x1, rfl, hh⟩ := of_on2 h
  exact fnD_list (c := bodyOf Try.f25) (by kernel_rfl) (by kernel_rfl) (Eq.mp (by kernel_rfl) hh)
def T4 : List (Nat × FnT) := [(8, G8), (9, G9), (10, G10), (16, G16), (17, G17), (18, G18), (19, G19), (20, G20), (21, G21), (22, G22), (23, G23), (24, G24), (25, G25)]
def F4_7b (s14 s15 : Value) (w : World) (K : V1) : Prop :=
callP G16 [s14] w fun v2 w1 =>
bindP (bEq Try.prog 3 (.tmp 179) (.tmp 180) v2 s15) fun v3 =>
K v3 w1
def F4_7 (s14 s15 : Value) (w : World) (K : V1) : Prop := F4_7b s14 s15 w K
theorem ok4_7 {K : V1}
    (hn : HN (fun e w => K (e 6) w) kn) (hr : HR Try.prog [.tmp 6] K kr) (he : HE noE ke) :
    ∀ e w, F4_7 (e 14) (e 15) w K → denL Try.prog (tabOf T4) 182 fuel ((flat (bodyOf Try.f4)).drop 16) e w kn kr ke := by
  intro e w h
  unfold F4_7 at h
  have e1 : ∀ (_ : Unit), F4_7b (e 14) (e 15) w K = denL Try.prog (tabOf T4) 182 fuel ((flat (bodyOf Try.f4)).drop 16) e w (fun e w => K (e 6) w) (endD Try.prog [.tmp 6] K) noE := by intro _; kernel_rfl
  exact seg_end (Eq.mp (e1 ()) h) hn hr he
def F4_6b (s2 s7 s14 s15 s106 s107 s108 : Value) (w : World) (K : V1) (Y0 : V7) (Y1 : V2) : Prop :=
bindP (bLt s108 s107) fun v4 =>
ifB v4 (
bindP (pIndexL 1 s106 s108) fun v5 =>
bindP (ld1 v5 w) fun v6 =>
callP G23 [s7, v6] w fun v8 w7 =>
bindP (pTuple v8 0) fun v9 =>
bindP (pTuple v8 1) fun _ =>
callP G24 [s7, v6] w7 fun v12 w11 =>
bindP (pTuple v12 0) fun v13 =>
bindP (pTuple v12 1) fun _ =>
callP G23 [s14, v6] w11 fun v16 w15 =>
bindP (pTuple v16 0) fun v17 =>
bindP (pTuple v16 1) fun v18 =>
callP G24 [s14, v6] w15 fun v20 w19 =>
bindP (pTuple v20 0) fun v21 =>
bindP (pTuple v20 1) fun v22 =>
bindP (bNe Try.prog 24 (.tmp 137) (.const (.int .i64 0)) v18 (.int .i64 0)) fun v23 =>
stepM (gd false v23) v22 fun v24 =>
Sx.stepG (gd false v23) (bNe Try.prog 24 (.tmp 140) (.const (.int .i64 0)) v24 (.int .i64 0)) fun v25 =>
bindP (pPick v23 (.bool true) v25) fun v26 =>
stepM (gd false v26) v17 fun v27 =>
Sx.stepG (gd false v26) (lenS v27) fun v28 =>
stepM (gd false v26) v13 fun v29 =>
Sx.stepG (gd false v26) (bLt v28 v29) fun v30 =>
bindP (pPick v26 (.bool true) v30) fun v31 =>
stepM (gd false v31) v9 fun v32 =>
stepM (gd false v31) v17 fun v33 =>
stepE (gd false v31) (fun k => callP G25 [v32, v33] w19 k) w19 fun v35 w34 =>
Sx.stepG (gd false v31) (uNot v35) fun v36 =>
bindP (pPick v31 (.bool true) v36) fun v37 =>
stepM (gd false v37) v21 fun v38 =>
stepM (gd false v37) v17 fun v39 =>
Sx.stepG (gd false v37) (lenS v39) fun v40 =>
Sx.stepG (gd false v37) (bNe Try.prog 3 (.tmp 156) (.tmp 158) v38 v40) fun v41 =>
bindP (pPick v37 (.bool true) v41) fun v42 =>
stepM (gd false v42) s108 fun v43 =>
stepM (gd false v42) s2 fun v44 =>
Sx.stepG (gd false v42) (lenL v44) fun v45 =>
Sx.stepG (gd false v42) (bGe v43 v45) fun v46 =>
stepM (gd false v42) v46 fun v47 =>
stepM (gd true v47) v17 fun v48 =>
Sx.stepG (gd true v47) (lenS v48) fun v49 =>
stepM (gd true v47) v13 fun v50 =>
Sx.stepG (gd true v47) (bNe Try.prog 3 (.tmp 168) (.tmp 169) v49 v50) fun v51 =>
Sx.stepG (gd false v42) (pPick v47 v51 (.bool false)) fun v52 =>
bindP (pPick v42 (.bool true) v52) fun v53 =>
ifB v53 (
K (.bool false) w34) (
bindP (lenS v17) fun v54 =>
bindP (bAdd s15 v54) fun v55 =>
bindP (bAdd s108 (.int .i64 1)) fun v56 =>
Y0 s2 s7 s14 v55 s106 s107 v56 w34)) (
Y1 s14 s15 w)
def F4_6L : Nat → Value → Value → Value → Value → Value → Value → Value → World → (V1) → Prop
  | 0, _, _, _, _, _, _, _, _, _ => False
  | n + 1, s2, s7, s14, s15, s106, s107, s108, w, K => F4_6b s2 s7 s14 s15 s106 s107 s108 w K (fun a2 a7 a14 a15 a106 a107 a108 w => F4_6L n a2 a7 a14 a15 a106 a107 a108 w K) (fun a14 a15 w => F4_7 a14 a15 w K)
def F4_6 (s2 s7 s14 s15 s106 s107 s108 : Value) (w : World) (K : V1) : Prop := F4_6L fuel s2 s7 s14 s15 s106 s107 s108 w K
theorem ok4_6 {K : V1}
    (hn : HN (fun e w => K (e 6) w) kn) (hr : HR Try.prog [.tmp 6] K kr) (he : HE noE ke) :
    ∀ e w, F4_6 (e 2) (e 7) (e 14) (e 15) (e 106) (e 107) (e 108) w K → denL Try.prog (tabOf T4) 182 fuel ((flat (bodyOf Try.f4)).drop 15) e w kn kr ke := by
  intro e w h
  unfold F4_6 at h
  refine seg_loop (id := 4) (body := (loopB (blkB (nthC (flat (bodyOf Try.f4)) 15)))) (l2 := (flat (bodyOf Try.f4)).drop 16) (by kernel_rfl) ?_
  refine loop_ok (FL := fun m e w => F4_6L m (e 2) (e 7) (e 14) (e 15) (e 106) (e 107) (e 108) w K) (fr := endD Try.prog [.tmp 6] K) (fe := (blkK 4 (fun e w => F4_7 (e 14) (e 15) w K) noE)) (fun _ _ h => h) ?_ hr (blkK_mono (fun e w h => ok4_7 hn hr he e w h) he) fuel e w h
  intro m e w h
  have h : F4_6L (m + 1) (e 2) (e 7) (e 14) (e 15) (e 106) (e 107) (e 108) w K := h
  rw [F4_6L] at h
  have e1 : ∀ (Y0 : V7) (Y1 : V2), F4_6b (e 2) (e 7) (e 14) (e 15) (e 106) (e 107) (e 108) w K Y0 Y1 = denL Try.prog (tabOf T4) 182 fuel (flat (loopB (blkB (nthC (flat (bodyOf Try.f4)) 15)))) e w (fun e w => Y0 (e 2) (e 7) (e 14) (e 15) (e 106) (e 107) (e 108) w) (endD Try.prog [.tmp 6] K) (blkK 4 (fun e w => Y1 (e 14) (e 15) w) noE) := by intro Y0 Y1; kernel_rfl
  exact Eq.mp (e1 (fun a2 a7 a14 a15 a106 a107 a108 w => F4_6L m a2 a7 a14 a15 a106 a107 a108 w K) (fun a14 a15 w => F4_7 a14 a15 w K)) h
def F4_5b (s2 s7 s9 : Value) (w : World) (K : V1) (Y0 : V7) : Prop :=
callP G22 [s7] w fun v58 w57 =>
bindP (bEq Try.prog 23 (.tmp 101) (.const (.pointer none)) v58 (.pointer none)) fun v59 =>
ifB v59 (
K (.bool false) w57) (
callP G17 [v58, s2] w57 fun _ w60 =>
bindP (lenL s9) fun v62 =>
Y0 s2 s7 v58 (.int .i64 0) s9 v62 (.int .i64 0) w60)
def F4_5 (s2 s7 s9 : Value) (w : World) (K : V1) : Prop := F4_5b s2 s7 s9 w K (fun a2 a7 a14 a15 a106 a107 a108 w => F4_6 a2 a7 a14 a15 a106 a107 a108 w K)
theorem ok4_5 {K : V1}
    (hn : HN (fun e w => K (e 6) w) kn) (hr : HR Try.prog [.tmp 6] K kr) (he : HE noE ke) :
    ∀ e w, F4_5 (e 2) (e 7) (e 9) w K → denL Try.prog (tabOf T4) 182 fuel ((flat (bodyOf Try.f4)).drop 9) e w kn kr ke := by
  intro e w h
  unfold F4_5 at h
  have e1 : ∀ (Y0 : V7), F4_5b (e 2) (e 7) (e 9) w K Y0 = denL Try.prog (tabOf T4) 182 fuel (((flat (bodyOf Try.f4)).drop 9).take 6) e w (fun e w => Y0 (e 2) (e 7) (e 14) (e 15) (e 106) (e 107) (e 108) w) (endD Try.prog [.tmp 6] K) noE := by intro Y0; kernel_rfl
  exact seg 6 (Eq.mp (e1 (fun a2 a7 a14 a15 a106 a107 a108 w => F4_6 a2 a7 a14 a15 a106 a107 a108 w K)) h) (fun e w h => ok4_6 hn hr he e w h) hr he
def F4_4b (s0 s1 s2 s7 s9 s12 : Value) (w : World) (K : V1) (Y0 : V6) (Y1 : V3) : Prop :=
bindP (lenL s0) fun v63 =>
bindP (bLt s12 v63) fun v64 =>
stepM (gd true v64) s12 fun v65 =>
Sx.stepG (gd true v64) (bLt v65 (.int .i64 60)) fun v66 =>
bindP (pPick v64 v66 (.bool false)) fun v67 =>
stepM (gd true v67) s12 fun v68 =>
stepM (gd true v67) s1 fun v69 =>
Sx.stepG (gd true v67) (lenL v69) fun v70 =>
Sx.stepG (gd true v67) (bLt v68 v70) fun v71 =>
bindP (pPick v67 v71 (.bool false)) fun v72 =>
ifB v72 (
bindP (pIndexL 1 s1 s12) fun v73 =>
bindP (ld1 v73 w) fun v74 =>
callP G10 [v74, (.int .i64 3)] w fun v76 w75 =>
bindP (pIndexL 1 s9 v76) fun v77 =>
bindP (ld1 v77 w75) fun v78 =>
bindP (pIndexL 1 s0 s12) fun v79 =>
bindP (ld1 v79 w75) fun v80 =>
callP G20 [v80, (.int .i64 100)] w75 fun v82 w81 =>
callP G19 [s7, v78, v82] w81 fun v84 w83 =>
bindP (bNe Try.prog 24 (.tmp 83) (.const (.int .i64 0)) v84 (.int .i64 0)) fun v85 =>
stepM (gd false v85) s1 fun v86 =>
stepM (gd false v85) s12 fun v87 =>
Sx.stepG (gd false v85) (pIndexL 1 v86 v87) fun v88 =>
Sx.stepG (gd false v85) (ld1 v88 w83) fun v89 =>
Sx.stepG (gd false v85) (bRem v89 (.int .i64 5)) fun v90 =>
Sx.stepG (gd false v85) (bEq Try.prog 3 (.tmp 90) (.const (.int .i64 0)) v90 (.int .i64 0)) fun v91 =>
stepM (gd false v85) v91 fun v92 =>
stepM (gd true v92) s7 fun v93 =>
stepM (gd true v92) v78 fun v94 =>
stepE (gd true v92) (fun k => callP G21 [v93, v94] w83 k) w83 fun v96 w95 =>
Sx.stepG (gd true v92) (bNe Try.prog 24 (.tmp 95) (.const (.int .i64 0)) v96 (.int .i64 0)) fun v97 =>
Sx.stepG (gd false v85) (pPick v92 v97 (.bool false)) fun v98 =>
bindP (pPick v85 (.bool true) v98) fun v99 =>
ifB v99 (
K (.bool false) w95) (
bindP (bAdd s12 (.int .i64 1)) fun v100 =>
Y0 s0 s1 s2 s7 s9 v100 w95)) (
Y1 s2 s7 s9 w)
def F4_4L : Nat → Value → Value → Value → Value → Value → Value → World → (V1) → Prop
  | 0, _, _, _, _, _, _, _, _ => False
  | n + 1, s0, s1, s2, s7, s9, s12, w, K => F4_4b s0 s1 s2 s7 s9 s12 w K (fun a0 a1 a2 a7 a9 a12 w => F4_4L n a0 a1 a2 a7 a9 a12 w K) (fun a2 a7 a9 w => F4_5 a2 a7 a9 w K)
def F4_4 (s0 s1 s2 s7 s9 s12 : Value) (w : World) (K : V1) : Prop := F4_4L fuel s0 s1 s2 s7 s9 s12 w K
theorem ok4_4 {K : V1}
    (hn : HN (fun e w => K (e 6) w) kn) (hr : HR Try.prog [.tmp 6] K kr) (he : HE noE ke) :
    ∀ e w, F4_4 (e 0) (e 1) (e 2) (e 7) (e 9) (e 12) w K → denL Try.prog (tabOf T4) 182 fuel ((flat (bodyOf Try.f4)).drop 8) e w kn kr ke := by
  intro e w h
  unfold F4_4 at h
  refine seg_loop (id := 2) (body := (loopB (blkB (nthC (flat (bodyOf Try.f4)) 8)))) (l2 := (flat (bodyOf Try.f4)).drop 9) (by kernel_rfl) ?_
  refine loop_ok (FL := fun m e w => F4_4L m (e 0) (e 1) (e 2) (e 7) (e 9) (e 12) w K) (fr := endD Try.prog [.tmp 6] K) (fe := (blkK 2 (fun e w => F4_5 (e 2) (e 7) (e 9) w K) noE)) (fun _ _ h => h) ?_ hr (blkK_mono (fun e w h => ok4_5 hn hr he e w h) he) fuel e w h
  intro m e w h
  have h : F4_4L (m + 1) (e 0) (e 1) (e 2) (e 7) (e 9) (e 12) w K := h
  rw [F4_4L] at h
  have e1 : ∀ (Y0 : V6) (Y1 : V3), F4_4b (e 0) (e 1) (e 2) (e 7) (e 9) (e 12) w K Y0 Y1 = denL Try.prog (tabOf T4) 182 fuel (flat (loopB (blkB (nthC (flat (bodyOf Try.f4)) 8)))) e w (fun e w => Y0 (e 0) (e 1) (e 2) (e 7) (e 9) (e 12) w) (endD Try.prog [.tmp 6] K) (blkK 2 (fun e w => Y1 (e 2) (e 7) (e 9) w) noE) := by intro Y0 Y1; kernel_rfl
  exact Eq.mp (e1 (fun a0 a1 a2 a7 a9 a12 w => F4_4L m a0 a1 a2 a7 a9 a12 w K) (fun a2 a7 a9 w => F4_5 a2 a7 a9 w K)) h
def F4_3b (s0 s1 s2 s7 s9 : Value) (w : World) (_K : V1) (Y0 : V6) : Prop :=
Y0 s0 s1 s2 s7 s9 (.int .i64 0) w
def F4_3 (s0 s1 s2 s7 s9 : Value) (w : World) (K : V1) : Prop := F4_3b s0 s1 s2 s7 s9 w K (fun a0 a1 a2 a7 a9 a12 w => F4_4 a0 a1 a2 a7 a9 a12 w K)
theorem ok4_3 {K : V1}
    (hn : HN (fun e w => K (e 6) w) kn) (hr : HR Try.prog [.tmp 6] K kr) (he : HE noE ke) :
    ∀ e w, F4_3 (e 0) (e 1) (e 2) (e 7) (e 9) w K → denL Try.prog (tabOf T4) 182 fuel ((flat (bodyOf Try.f4)).drop 7) e w kn kr ke := by
  intro e w h
  unfold F4_3 at h
  have e1 : ∀ (Y0 : V6), F4_3b (e 0) (e 1) (e 2) (e 7) (e 9) w K Y0 = denL Try.prog (tabOf T4) 182 fuel (((flat (bodyOf Try.f4)).drop 7).take 1) e w (fun e w => Y0 (e 0) (e 1) (e 2) (e 7) (e 9) (e 12) w) (endD Try.prog [.tmp 6] K) noE := by intro Y0; kernel_rfl
  exact seg 1 (Eq.mp (e1 (fun a0 a1 a2 a7 a9 a12 w => F4_4 a0 a1 a2 a7 a9 a12 w K)) h) (fun e w h => ok4_4 hn hr he e w h) hr he
def F4_2b (s0 s1 s2 s7 s9 s41 s42 s43 : Value) (w : World) (K : V1) (Y0 : V8) (Y1 : V5) : Prop :=
bindP (bLt s43 s42) fun v101 =>
ifB v101 (
bindP (pIndexL 1 s41 s43) fun v102 =>
bindP (ld1 v102 w) fun v103 =>
callP G18 [s7, v103] w fun v105 w104 =>
bindP (bNe Try.prog 24 (.tmp 49) (.const (.int .i64 0)) v105 (.int .i64 0)) fun v106 =>
ifB v106 (
K (.bool false) w104) (
bindP (bAdd s43 (.int .i64 1)) fun v107 =>
Y0 s0 s1 s2 s7 s9 s41 s42 v107 w104)) (
Y1 s0 s1 s2 s7 s9 w)
def F4_2L : Nat → Value → Value → Value → Value → Value → Value → Value → Value → World → (V1) → Prop
  | 0, _, _, _, _, _, _, _, _, _, _ => False
  | n + 1, s0, s1, s2, s7, s9, s41, s42, s43, w, K => F4_2b s0 s1 s2 s7 s9 s41 s42 s43 w K (fun a0 a1 a2 a7 a9 a41 a42 a43 w => F4_2L n a0 a1 a2 a7 a9 a41 a42 a43 w K) (fun a0 a1 a2 a7 a9 w => F4_3 a0 a1 a2 a7 a9 w K)
def F4_2 (s0 s1 s2 s7 s9 s41 s42 s43 : Value) (w : World) (K : V1) : Prop := F4_2L fuel s0 s1 s2 s7 s9 s41 s42 s43 w K
theorem ok4_2 {K : V1}
    (hn : HN (fun e w => K (e 6) w) kn) (hr : HR Try.prog [.tmp 6] K kr) (he : HE noE ke) :
    ∀ e w, F4_2 (e 0) (e 1) (e 2) (e 7) (e 9) (e 41) (e 42) (e 43) w K → denL Try.prog (tabOf T4) 182 fuel ((flat (bodyOf Try.f4)).drop 6) e w kn kr ke := by
  intro e w h
  unfold F4_2 at h
  refine seg_loop (id := 0) (body := (loopB (blkB (nthC (flat (bodyOf Try.f4)) 6)))) (l2 := (flat (bodyOf Try.f4)).drop 7) (by kernel_rfl) ?_
  refine loop_ok (FL := fun m e w => F4_2L m (e 0) (e 1) (e 2) (e 7) (e 9) (e 41) (e 42) (e 43) w K) (fr := endD Try.prog [.tmp 6] K) (fe := (blkK 0 (fun e w => F4_3 (e 0) (e 1) (e 2) (e 7) (e 9) w K) noE)) (fun _ _ h => h) ?_ hr (blkK_mono (fun e w h => ok4_3 hn hr he e w h) he) fuel e w h
  intro m e w h
  have h : F4_2L (m + 1) (e 0) (e 1) (e 2) (e 7) (e 9) (e 41) (e 42) (e 43) w K := h
  rw [F4_2L] at h
  have e1 : ∀ (Y0 : V8) (Y1 : V5), F4_2b (e 0) (e 1) (e 2) (e 7) (e 9) (e 41) (e 42) (e 43) w K Y0 Y1 = denL Try.prog (tabOf T4) 182 fuel (flat (loopB (blkB (nthC (flat (bodyOf Try.f4)) 6)))) e w (fun e w => Y0 (e 0) (e 1) (e 2) (e 7) (e 9) (e 41) (e 42) (e 43) w) (endD Try.prog [.tmp 6] K) (blkK 0 (fun e w => Y1 (e 0) (e 1) (e 2) (e 7) (e 9) w) noE) := by intro Y0 Y1; kernel_rfl
  exact Eq.mp (e1 (fun a0 a1 a2 a7 a9 a41 a42 a43 w => F4_2L m a0 a1 a2 a7 a9 a41 a42 a43 w K) (fun a0 a1 a2 a7 a9 w => F4_3 a0 a1 a2 a7 a9 w K)) h
def F4_1b (s0 s1 s2 : Value) (w : World) (K : V1) (Y0 : V8) : Prop :=
callP G8 [(.int .i64 1048576)] w fun v109 w108 =>
bindP (pTuple v109 0) fun v110 =>
bindP (pTuple v109 1) fun v111 =>
bindP (bEq Try.prog 23 (.tmp 30) (.const (.pointer none)) v110 (.pointer none)) fun v112 =>
stepM (gd false v112) v111 fun v113 =>
Sx.stepG (gd false v112) (bNe Try.prog 24 (.tmp 33) (.const (.int .i64 0)) v113 (.int .i64 0)) fun v114 =>
bindP (pPick v112 (.bool true) v114) fun v115 =>
stepE (gd false v115) (fun k => callP G9 [] w108 k) w108 fun v117 w116 =>
Sx.stepG (gd false v115) (uNot v117) fun v118 =>
bindP (pPick v115 (.bool true) v118) fun v119 =>
ifB v119 (
K (.bool false) w116) (
eBuildSl Try.prog 33 3 [(0, (.string ⟨#[97]⟩)), (1, (.string ⟨#[98]⟩)), (2, (.string ⟨#[99]⟩))] w116 fun v121 w120 =>
bindP (lenL v121) fun v122 =>
Y0 s0 s1 s2 v110 v121 v121 v122 (.int .i64 0) w120)
def F4_1 (s0 s1 s2 : Value) (w : World) (K : V1) : Prop := F4_1b s0 s1 s2 w K (fun a0 a1 a2 a7 a9 a41 a42 a43 w => F4_2 a0 a1 a2 a7 a9 a41 a42 a43 w K)
theorem ok4_1 {K : V1}
    (hn : HN (fun e w => K (e 6) w) kn) (hr : HR Try.prog [.tmp 6] K kr) (he : HE noE ke) :
    ∀ e w, F4_1 (e 0) (e 1) (e 2) w K → denL Try.prog (tabOf T4) 182 fuel ((flat (bodyOf Try.f4)).drop 0) e w kn kr ke := by
  intro e w h
  unfold F4_1 at h
  have e1 : ∀ (Y0 : V8), F4_1b (e 0) (e 1) (e 2) w K Y0 = denL Try.prog (tabOf T4) 182 fuel (((flat (bodyOf Try.f4)).drop 0).take 6) e w (fun e w => Y0 (e 0) (e 1) (e 2) (e 7) (e 9) (e 41) (e 42) (e 43) w) (endD Try.prog [.tmp 6] K) noE := by intro Y0; kernel_rfl
  exact seg 6 (Eq.mp (e1 (fun a0 a1 a2 a7 a9 a41 a42 a43 w => F4_2 a0 a1 a2 a7 a9 a41 a42 a43 w K)) h) (fun e w h => ok4_2 hn hr he e w h) hr he
def F4 (x0 x1 x2 : Value) (w : World) (K : V1) : Prop := F4_1 x0 x1 x2 w K
def G4 : FnT := fun args w K => on3 (fun x0 x1 x2 => F4 x0 x1 x2 w K) args
theorem c4 {x0 x1 x2 : Value} {w : World} {K : V1} (h : F4 x0 x1 x2 w K) : callP G4 [x0, x1, x2] w K := callP_intro (on3_mk (p := fun x0 x1 x2 => F4 x0 x1 x2 w K) h)
theorem ok4 : OkF Try.prog 4 G4 := by
  refine okF_of (tab_ok (l := T4) ⟨ok8, ok9, ok10, ok16, ok17, ok18, ok19, ok20, ok21, ok22, ok23, ok24, ok25, trivial⟩) mixed (n := fuel) Try.func4 Try.call4 fun args w K h => ?_
  obtain ⟨x0, x1, x2, rfl, hh⟩ := of_on3 h
  unfold F4 at hh
  exact fnD_list (c := bodyOf Try.f4) (by kernel_rfl) (by kernel_rfl) (ok4_1 (fun _ _ h => h) (fun _ _ h => h) (fun _ _ _ h => h) (initE [x0, x1, x2]) w hh)
def F34 (x0 : Value) (w : World) (K : V1) : Prop :=
bindP (bLt x0 (.int .i64 0)) fun v1 =>
stepM (gd false v1) x0 fun v2 =>
Sx.stepG (gd false v1) (bGt v2 (.int .i64 1099511627776)) fun v3 =>
bindP (pPick v1 (.bool true) v3) fun v4 =>
ifB v4 (
K (.tuple #[(.pointer none), (.int .i64 1)]) w) (
bindP (fBuild Try.prog 101 [(0, x0)]) fun v5 =>
eBox 101 v5 w fun v7 w6 =>
K (.tuple #[v7, (.int .i64 0)]) w6)
def G34 : FnT := fun args w K => on1 (fun x0 => F34 x0 w K) args
def F63_3b (s3 : Value) (w : World) (K : V1) : Prop :=
K s3 w
def F63_3 (s3 : Value) (w : World) (K : V1) : Prop := F63_3b s3 w K
def F63_2b (s0 s3 s4 : Value) (w : World) (_K : V1) (Y0 : V3) (Y1 : V1) : Prop :=
bindP (pNil s0) fun v1 =>
bindP (pFieldAddr 3 v1) fun v2 =>
bindP (ld1 v2 w) fun v3 =>
bindP (lenL v3) fun v4 =>
bindP (bLt s4 v4) fun v5 =>
ifB v5 (
bindP (pNil s0) fun v6 =>
bindP (pFieldAddr 3 v6) fun v7 =>
bindP (ld1 v7 w) fun v8 =>
bindP (pIndexL 3 v8 s4) fun v9 =>
bindP (pFieldAddr 0 v9) fun v10 =>
bindP (ld1 v10 w) fun v11 =>
eBuildSl Try.prog 33 1 [(0, v11)] w fun v13 w12 =>
eAppend Try.prog 33 33 s3 v13 w12 fun v15 w14 =>
bindP (bAdd s4 (.int .i64 1)) fun v16 =>
Y0 s0 v15 v16 w14) (
Y1 s3 w)
def F63_2L : Nat → Value → Value → Value → World → (V1) → Prop
  | 0, _, _, _, _, _ => False
  | n + 1, s0, s3, s4, w, K => F63_2b s0 s3 s4 w K (fun a0 a3 a4 w => F63_2L n a0 a3 a4 w K) (fun a3 w => F63_3 a3 w K)
def F63_2 (s0 s3 s4 : Value) (w : World) (K : V1) : Prop := F63_2L fuel s0 s3 s4 w K
def F63_1b (s0 : Value) (w : World) (_K : V1) (Y0 : V3) : Prop :=
Y0 s0 (.slice none 0 0) (.int .i64 0) w
def F63_1 (s0 : Value) (w : World) (K : V1) : Prop := F63_1b s0 w K (fun a0 a3 a4 w => F63_2 a0 a3 a4 w K)
def F63 (x0 : Value) (w : World) (K : V1) : Prop := F63_1 x0 w K
def G63 : FnT := fun args w K => on1 (fun x0 => F63 x0 w K) args
def F64_3b (s3 : Value) (w : World) (K : V1) : Prop :=
K s3 w
def F64_3 (s3 : Value) (w : World) (K : V1) : Prop := F64_3b s3 w K
def F64_2b (s0 s3 s4 : Value) (w : World) (_K : V1) (Y0 : V3) (Y1 : V1) : Prop :=
bindP (pNil s0) fun v1 =>
bindP (pFieldAddr 3 v1) fun v2 =>
bindP (ld1 v2 w) fun v3 =>
bindP (lenL v3) fun v4 =>
bindP (bLt s4 v4) fun v5 =>
ifB v5 (
bindP (pNil s0) fun v6 =>
bindP (pFieldAddr 3 v6) fun v7 =>
bindP (ld1 v7 w) fun v8 =>
bindP (pIndexL 3 v8 s4) fun v9 =>
bindP (pFieldAddr 1 v9) fun v10 =>
bindP (ld1 v10 w) fun v11 =>
bindP (lenS v11) fun v12 =>
bindP (bAdd s3 v12) fun v13 =>
bindP (bAdd s4 (.int .i64 1)) fun v14 =>
Y0 s0 v13 v14 w) (
Y1 s3 w)
def F64_2L : Nat → Value → Value → Value → World → (V1) → Prop
  | 0, _, _, _, _, _ => False
  | n + 1, s0, s3, s4, w, K => F64_2b s0 s3 s4 w K (fun a0 a3 a4 w => F64_2L n a0 a3 a4 w K) (fun a3 w => F64_3 a3 w K)
def F64_2 (s0 s3 s4 : Value) (w : World) (K : V1) : Prop := F64_2L fuel s0 s3 s4 w K
def F64_1b (s0 : Value) (w : World) (_K : V1) (Y0 : V3) : Prop :=
Y0 s0 (.int .i64 0) (.int .i64 0) w
def F64_1 (s0 : Value) (w : World) (K : V1) : Prop := F64_1b s0 w K (fun a0 a3 a4 w => F64_2 a0 a3 a4 w K)
def F64 (x0 : Value) (w : World) (K : V1) : Prop := F64_1 x0 w K
def G64 : FnT := fun args w K => on1 (fun x0 => F64 x0 w K) args
def F79_3b (w : World) (K : V1) : Prop :=
K (.int .i64 (-1)) w
def F79_3 (w : World) (K : V1) : Prop := F79_3b w K
def F79_2b (s0 s1 s5 : Value) (w : World) (K : V1) (Y0 : V3) (Y1 : V0) : Prop :=
bindP (pNil s0) fun v1 =>
bindP (pFieldAddr 3 v1) fun v2 =>
bindP (ld1 v2 w) fun v3 =>
bindP (lenL v3) fun v4 =>
bindP (bLt s5 v4) fun v5 =>
ifB v5 (
bindP (pNil s0) fun v6 =>
bindP (pFieldAddr 3 v6) fun v7 =>
bindP (ld1 v7 w) fun v8 =>
bindP (pIndexL 3 v8 s5) fun v9 =>
bindP (pFieldAddr 0 v9) fun v10 =>
bindP (ld1 v10 w) fun v11 =>
bindP (bEq Try.prog 9 (.tmp 22) (.tmp 23) v11 s1) fun v12 =>
ifB v12 (
K s5 w) (
bindP (bAdd s5 (.int .i64 1)) fun v13 =>
Y0 s0 s1 v13 w)) (
Y1 w)
def F79_2L : Nat → Value → Value → Value → World → (V1) → Prop
  | 0, _, _, _, _, _ => False
  | n + 1, s0, s1, s5, w, K => F79_2b s0 s1 s5 w K (fun a0 a1 a5 w => F79_2L n a0 a1 a5 w K) (fun w => F79_3 w K)
def F79_2 (s0 s1 s5 : Value) (w : World) (K : V1) : Prop := F79_2L fuel s0 s1 s5 w K
def F79_1b (s0 s1 : Value) (w : World) (_K : V1) (Y0 : V3) : Prop :=
Y0 s0 s1 (.int .i64 0) w
def F79_1 (s0 s1 : Value) (w : World) (K : V1) : Prop := F79_1b s0 s1 w K (fun a0 a1 a5 w => F79_2 a0 a1 a5 w K)
def F79 (x0 x1 : Value) (w : World) (K : V1) : Prop := F79_1 x0 x1 w K
def G79 : FnT := fun args w K => on2 (fun x0 x1 => F79 x0 x1 w K) args
def F65 (x0 x1 : Value) (w : World) (K : V1) : Prop :=
callP G79 [x0, x1] w fun v2 w1 =>
bindP (bLt v2 (.int .i64 0)) fun v3 =>
ifB v3 (
K (.tuple #[(.string ⟨#[]⟩), (.int .i64 5)]) w1) (
bindP (pNil x0) fun v4 =>
bindP (pFieldAddr 3 v4) fun v5 =>
bindP (ld1 v5 w1) fun v6 =>
bindP (pIndexL 3 v6 v2) fun v7 =>
bindP (pFieldAddr 1 v7) fun v8 =>
bindP (ld1 v8 w1) fun v9 =>
K (.tuple #[v9, (.int .i64 0)]) w1)
def G65 : FnT := fun args w K => on2 (fun x0 x1 => F65 x0 x1 w K) args
def F66 (x0 x1 : Value) (w : World) (K : V1) : Prop :=
callP G79 [x0, x1] w fun v2 w1 =>
bindP (bLt v2 (.int .i64 0)) fun v3 =>
ifB v3 (
K (.tuple #[(.int .i64 0), (.int .i64 5)]) w1) (
bindP (pNil x0) fun v4 =>
bindP (pFieldAddr 3 v4) fun v5 =>
bindP (ld1 v5 w1) fun v6 =>
bindP (pIndexL 3 v6 v2) fun v7 =>
bindP (pFieldAddr 2 v7) fun v8 =>
bindP (ld1 v8 w1) fun v9 =>
K (.tuple #[v9, (.int .i64 0)]) w1)
def G66 : FnT := fun args w K => on2 (fun x0 x1 => F66 x0 x1 w K) args
def F67_2b (s0 s2 : Value) (w : World) (K : V1) (Y0 : V2) : Prop :=
bindP (lenL s0) fun v1 =>
bindP (bLt s2 v1) fun v2 =>
ifB v2 (
bindP (pIndexL 1 s0 s2) fun v3 =>
bindW (st 1 v3 (.string ⟨#[97, 110, 111, 116, 104, 101, 114, 32, 111, 110, 101]⟩) w) fun w4 =>
bindP (bAdd s2 (.int .i64 1)) fun v6 =>
Y0 s0 v6 w4) (
K (.tuple #[]) w)
def F67_2L : Nat → Value → Value → World → (V1) → Prop
  | 0, _, _, _, _ => False
  | n + 1, s0, s2, w, K => F67_2b s0 s2 w K (fun a0 a2 w => F67_2L n a0 a2 w K)
def F67_2 (s0 s2 : Value) (w : World) (K : V1) : Prop := F67_2L fuel s0 s2 w K
def F67_1b (s0 : Value) (w : World) (_K : V1) (Y0 : V2) : Prop :=
Y0 s0 (.int .i64 0) w
def F67_1 (s0 : Value) (w : World) (K : V1) : Prop := F67_1b s0 w K (fun a0 a2 w => F67_2 a0 a2 w K)
def F67 (x0 : Value) (w : World) (K : V1) : Prop := F67_1 x0 w K
def G67 : FnT := fun args w K => on1 (fun x0 => F67 x0 w K) args
def F36_3b (s0 s1 s2 : Value) (w : World) (K : V1) : Prop :=
callP G23 [s0, s2] w fun v2 w1 =>
bindP (pTuple v2 0) fun v3 =>
bindP (pTuple v2 1) fun v4 =>
callP G65 [s1, s2] w1 fun v6 w5 =>
bindP (pTuple v6 0) fun v7 =>
bindP (pTuple v6 1) fun v8 =>
callP G24 [s0, s2] w5 fun v10 w9 =>
bindP (pTuple v10 0) fun v11 =>
bindP (pTuple v10 1) fun v12 =>
callP G66 [s1, s2] w9 fun v14 w13 =>
bindP (pTuple v14 0) fun v15 =>
bindP (pTuple v14 1) fun v16 =>
callP G15 [s0] w13 fun v18 w17 =>
callP G67 [v18] w17 fun _ w19 =>
bindP (bEq Try.prog 9 (.tmp 143) (.tmp 144) v3 v7) fun v21 =>
stepM (gd true v21) v4 fun v22 =>
stepM (gd true v21) v8 fun v23 =>
Sx.stepG (gd true v21) (bEq Try.prog 24 (.tmp 147) (.tmp 148) v22 v23) fun v24 =>
bindP (pPick v21 v24 (.bool false)) fun v25 =>
stepM (gd true v25) v11 fun v26 =>
stepM (gd true v25) v15 fun v27 =>
Sx.stepG (gd true v25) (bEq Try.prog 3 (.tmp 152) (.tmp 153) v26 v27) fun v28 =>
bindP (pPick v25 v28 (.bool false)) fun v29 =>
stepM (gd true v29) v12 fun v30 =>
stepM (gd true v29) v16 fun v31 =>
Sx.stepG (gd true v29) (bEq Try.prog 24 (.tmp 157) (.tmp 158) v30 v31) fun v32 =>
bindP (pPick v29 v32 (.bool false)) fun v33 =>
K v33 w19
def F36_3 (s0 s1 s2 : Value) (w : World) (K : V1) : Prop := F36_3b s0 s1 s2 w K
def F36_2b (s0 s1 s2 s7 : Value) (w : World) (K : V1) (Y0 : V4) (Y1 : V3) : Prop :=
bindP (pNil s1) fun v34 =>
bindP (pFieldAddr 3 v34) fun v35 =>
bindP (ld1 v35 w) fun v36 =>
bindP (lenL v36) fun v37 =>
bindP (bLt s7 v37) fun v38 =>
ifB v38 (
bindP (pNil s1) fun v39 =>
bindP (pFieldAddr 3 v39) fun v40 =>
bindP (ld1 v40 w) fun v41 =>
bindP (pIndexL 3 v41 s7) fun v42 =>
bindP (pFieldAddr 0 v42) fun v43 =>
bindP (ld1 v43 w) fun v44 =>
callP G23 [s0, v44] w fun v46 w45 =>
bindP (pTuple v46 0) fun v47 =>
bindP (pTuple v46 1) fun v48 =>
bindP (pNil s1) fun v49 =>
bindP (pFieldAddr 3 v49) fun v50 =>
bindP (ld1 v50 w45) fun v51 =>
bindP (pIndexL 3 v51 s7) fun v52 =>
bindP (pFieldAddr 0 v52) fun v53 =>
bindP (ld1 v53 w45) fun v54 =>
callP G24 [s0, v54] w45 fun v56 w55 =>
bindP (pTuple v56 0) fun v57 =>
bindP (pTuple v56 1) fun v58 =>
bindP (pNil s1) fun v59 =>
bindP (pFieldAddr 3 v59) fun v60 =>
bindP (ld1 v60 w55) fun v61 =>
bindP (pIndexL 3 v61 s7) fun v62 =>
bindP (pFieldAddr 1 v62) fun v63 =>
bindP (ld1 v63 w55) fun v64 =>
bindP (bNe Try.prog 9 (.tmp 85) (.tmp 93) v47 v64) fun v65 =>
stepM (gd false v65) v57 fun v66 =>
stepM (gd false v65) s1 fun v67 =>
Sx.stepG (gd false v65) (pNil v67) fun v68 =>
Sx.stepG (gd false v65) (pFieldAddr 3 v68) fun v69 =>
Sx.stepG (gd false v65) (ld1 v69 w55) fun v70 =>
stepM (gd false v65) s7 fun v71 =>
Sx.stepG (gd false v65) (pIndexL 3 v70 v71) fun v72 =>
Sx.stepG (gd false v65) (pFieldAddr 2 v72) fun v73 =>
Sx.stepG (gd false v65) (ld1 v73 w55) fun v74 =>
Sx.stepG (gd false v65) (bNe Try.prog 3 (.tmp 96) (.tmp 104) v66 v74) fun v75 =>
bindP (pPick v65 (.bool true) v75) fun v76 =>
stepM (gd false v76) v48 fun v77 =>
Sx.stepG (gd false v76) (bNe Try.prog 24 (.tmp 108) (.const (.int .i64 0)) v77 (.int .i64 0)) fun v78 =>
bindP (pPick v76 (.bool true) v78) fun v79 =>
stepM (gd false v79) v58 fun v80 =>
Sx.stepG (gd false v79) (bNe Try.prog 24 (.tmp 112) (.const (.int .i64 0)) v80 (.int .i64 0)) fun v81 =>
bindP (pPick v79 (.bool true) v81) fun v82 =>
ifB v82 (
K (.bool false) w55) (
bindP (bAdd s7 (.int .i64 1)) fun v83 =>
Y0 s0 s1 s2 v83 w55)) (
Y1 s0 s1 s2 w)
def F36_2L : Nat → Value → Value → Value → Value → World → (V1) → Prop
  | 0, _, _, _, _, _, _ => False
  | n + 1, s0, s1, s2, s7, w, K => F36_2b s0 s1 s2 s7 w K (fun a0 a1 a2 a7 w => F36_2L n a0 a1 a2 a7 w K) (fun a0 a1 a2 w => F36_3 a0 a1 a2 w K)
def F36_2 (s0 s1 s2 s7 : Value) (w : World) (K : V1) : Prop := F36_2L fuel s0 s1 s2 s7 w K
def F36_1b (s0 s1 s2 : Value) (w : World) (K : V1) (Y0 : V4) : Prop :=
callP G15 [s0] w.drew fun v85 w84 =>
callP G63 [s1] w84 fun v87 w86 =>
callP G14 [v85, v87] w86 fun v89 w88 =>
bindP (uNot v89) fun v90 =>
stepM (gd false v90) s0 fun v91 =>
stepM (gd false v90) s1 fun v92 =>
stepE (gd false v90) (fun k => callP G16 [v91] w88 k) w88 fun v94 w93 =>
stepE (gd false v90) (fun k => callP G64 [v92] w93 k) w93 fun v96 w95 =>
Sx.stepG (gd false v90) (bNe Try.prog 3 (.tmp 29) (.tmp 31) v94 v96) fun v97 =>
bindP (pPick v90 (.bool true) v97) fun v98 =>
stepM (gd false v98) s0 fun v99 =>
stepM (gd false v98) s1 fun v100 =>
Sx.stepG (gd false v98) (pNil v100) fun v101 =>
Sx.stepG (gd false v98) (pFieldAddr 1 v101) fun v102 =>
Sx.stepG (gd false v98) (ld1 v102 w95) fun v103 =>
stepE (gd false v98) (fun k => callP G13 [v99] w95 k) w95 fun v105 w104 =>
fok (gd false v98) (ld1 v102 w104) v103 ∧ (stepM (gd false v98) v103 fun v106 =>
stepM (gd true v106) s1 fun v107 =>
Sx.stepG (gd true v106) (pNil v107) fun v108 =>
Sx.stepG (gd true v106) (pFieldAddr 2 v108) fun v109 =>
Sx.stepG (gd true v106) (ld1 v109 w104) fun v110 =>
Sx.stepG (gd true v106) (bEq Try.prog 3 (.tmp 45) (.const (.int .i64 0)) v110 (.int .i64 0)) fun v111 =>
Sx.stepG (gd false v98) (pPick v106 v111 (.bool false)) fun v112 =>
Sx.stepG (gd false v98) (bNe Try.prog 4 (.tmp 36) (.tmp 47) v105 v112) fun v113 =>
bindP (pPick v98 (.bool true) v113) fun v114 =>
ifB v114 (
K (.bool false) w104) (
Y0 s0 s1 s2 (.int .i64 0) w104))
def F36_1 (s0 s1 s2 : Value) (w : World) (K : V1) : Prop := F36_1b s0 s1 s2 w K (fun a0 a1 a2 a7 w => F36_2 a0 a1 a2 a7 w K)
def F36 (x0 x1 x2 : Value) (w : World) (K : V1) : Prop := F36_1 x0 x1 x2 w K
def G36 : FnT := fun args w K => on3 (fun x0 x1 x2 => F36 x0 x1 x2 w K) args
def F78 (x0 : Value) (w : World) (K : V1) : Prop :=
bindP (lenS x0) fun v1 =>
bindP (bGe v1 (.int .i64 1)) fun v2 =>
stepM (gd true v2) x0 fun v3 =>
Sx.stepG (gd true v2) (lenS v3) fun v4 =>
Sx.stepG (gd true v2) (bLe v4 (.int .i64 64)) fun v5 =>
bindP (pPick v2 v5 (.bool false)) fun v6 =>
K v6 w
def G78 : FnT := fun args w K => on1 (fun x0 => F78 x0 w K) args
def F80 (x0 : Value) (w : World) (K : V1) : Prop :=
bindP (pNil x0) fun v1 =>
bindP (pFieldAddr 1 v1) fun v2 =>
bindP (ld1 v2 w) fun v3 =>
bindP (uNot v3) fun v4 =>
ifB v4 (
K (.bool true) w) (
bindP (pNil x0) fun v5 =>
bindP (pFieldAddr 2 v5) fun v6 =>
bindP (ld1 v6 w) fun v7 =>
bindP (bEq Try.prog 3 (.tmp 11) (.const (.int .i64 0)) v7 (.int .i64 0)) fun v8 =>
ifB v8 (
K (.bool false) w) (
bindP (pNil x0) fun v9 =>
bindP (pFieldAddr 2 v9) fun v10 =>
bindP (ld1 v10 w) fun v11 =>
bindP (bSub v11 (.int .i64 1)) fun v12 =>
bindP (pNil x0) fun v13 =>
bindP (pFieldAddr 2 v13) fun v14 =>
bindW (st 1 v14 v12 w) fun w15 =>
K (.bool true) w15))
def G80 : FnT := fun args w K => on1 (fun x0 => F80 x0 w K) args
def F82_3b (s0 s4 : Value) (w : World) (K : V1) : Prop :=
bindP (pNil s0) fun v1 =>
bindP (pFieldAddr 3 v1) fun v2 =>
bindW (st 1 v2 s4 w) fun w3 =>
K (.tuple #[]) w3
def F82_3 (s0 s4 : Value) (w : World) (K : V1) : Prop := F82_3b s0 s4 w K
def F82_5b (s0 s1 s4 s5 : Value) (w : World) (_K : V1) (R3 : V4) : Prop :=
bindP (bAdd s5 (.int .i64 1)) fun v5 =>
R3 s0 s1 s4 v5 w
def F82_5 (s0 s1 s4 s5 : Value) (w : World) (K : V1) (R3 : V4) : Prop := F82_5b s0 s1 s4 s5 w K R3
def F82_4b (s0 s1 s4 s5 : Value) (w : World) (_K : V1) (R3 : V4) (Y0 : V4) (Y1 : V2) : Prop :=
bindP (pNil s0) fun v6 =>
bindP (pFieldAddr 3 v6) fun v7 =>
bindP (ld1 v7 w) fun v8 =>
bindP (lenL v8) fun v9 =>
bindP (bLt s5 v9) fun v10 =>
ifB v10 (
bindP (pNil s0) fun v11 =>
bindP (pFieldAddr 3 v11) fun v12 =>
bindP (ld1 v12 w) fun v13 =>
bindP (pIndexL 3 v13 s5) fun v14 =>
bindP (pFieldAddr 0 v14) fun v15 =>
bindP (ld1 v15 w) fun v16 =>
bindP (bNe Try.prog 9 (.tmp 22) (.tmp 23) v16 s1) fun v17 =>
ifB v17 (
bindP (pNil s0) fun v18 =>
bindP (pFieldAddr 3 v18) fun v19 =>
bindP (ld1 v19 w) fun v20 =>
bindP (pIndexL 3 v20 s5) fun v21 =>
bindP (ldN 3 v21 w) fun v22 =>
eBuildSl Try.prog 99 1 [(0, v22)] w fun v24 w23 =>
eAppend Try.prog 99 99 s4 v24 w23 fun v26 w25 =>
Y0 s0 s1 v26 s5 w25) (
Y0 s0 s1 s4 s5 w)) (
Y1 s0 s4 w)
def F82_4 (s0 s1 s4 s5 : Value) (w : World) (K : V1) (R3 : V4) : Prop := F82_4b s0 s1 s4 s5 w K R3 (fun a0 a1 a4 a5 w => F82_5 a0 a1 a4 a5 w K R3) (fun a0 a4 w => F82_3 a0 a4 w K)
def F82_2L : Nat → Value → Value → Value → Value → World → (V1) → Prop
  | 0, _, _, _, _, _, _ => False
  | n + 1, s0, s1, s4, s5, w, K => F82_4 s0 s1 s4 s5 w K (fun a0 a1 a4 a5 w => F82_2L n a0 a1 a4 a5 w K)
def F82_2 (s0 s1 s4 s5 : Value) (w : World) (K : V1) : Prop := F82_2L fuel s0 s1 s4 s5 w K
def F82_1b (s0 s1 : Value) (w : World) (_K : V1) (Y0 : V4) : Prop :=
Y0 s0 s1 (.slice none 0 0) (.int .i64 0) w
def F82_1 (s0 s1 : Value) (w : World) (K : V1) : Prop := F82_1b s0 s1 w K (fun a0 a1 a4 a5 w => F82_2 a0 a1 a4 a5 w K)
def F82 (x0 x1 : Value) (w : World) (K : V1) : Prop := F82_1 x0 x1 w K
def G82 : FnT := fun args w K => on2 (fun x0 x1 => F82 x0 x1 w K) args
def F81_3b (s0 s3 s4 : Value) (w : World) (K : V1) : Prop :=
bindP (pNil s0) fun v1 =>
bindP (pFieldAddr 3 v1) fun v2 =>
bindP (ld1 v2 w) fun v3 =>
bindP (pSliceL 3 v3 none (some s4) none) fun v4 =>
eAppend Try.prog 99 99 (.slice none 0 0) v4 w fun v6 w5 =>
bindP (ldN 3 s3 w5) fun v7 =>
eBuildSl Try.prog 99 1 [(0, v7)] w5 fun v9 w8 =>
eAppend Try.prog 99 99 v6 v9 w8 fun v11 w10 =>
bindP (pNil s0) fun v12 =>
bindP (pFieldAddr 3 v12) fun v13 =>
bindP (ld1 v13 w10) fun v14 =>
bindP (pSliceL 3 v14 (some s4) none none) fun v15 =>
eAppend Try.prog 99 99 v11 v15 w10 fun v17 w16 =>
bindP (pNil s0) fun v18 =>
bindP (pFieldAddr 3 v18) fun v19 =>
bindW (st 1 v19 v17 w16) fun w20 =>
K (.tuple #[]) w20
def F81_3 (s0 s3 s4 : Value) (w : World) (K : V1) : Prop := F81_3b s0 s3 s4 w K
def F81_2b (s0 s3 s4 : Value) (w : World) (_K : V1) (Y0 : V3) (Y1 : V3) : Prop :=
bindP (pNil s0) fun v22 =>
bindP (pFieldAddr 3 v22) fun v23 =>
bindP (ld1 v23 w.drew) fun v24 =>
bindP (lenL v24) fun v25 =>
bindP (bLt s4 v25) fun v26 =>
stepM (gd true v26) s0 fun v27 =>
Sx.stepG (gd true v26) (pNil v27) fun v28 =>
Sx.stepG (gd true v26) (pFieldAddr 3 v28) fun v29 =>
Sx.stepG (gd true v26) (ld1 v29 w.drew) fun v30 =>
stepM (gd true v26) s4 fun v31 =>
Sx.stepG (gd true v26) (pIndexL 3 v30 v31) fun v32 =>
Sx.stepG (gd true v26) (pFieldAddr 0 v32) fun v33 =>
Sx.stepG (gd true v26) (ld1 v33 w.drew) fun v34 =>
Sx.stepG (gd true v26) (pFieldAddr 0 s3) fun v35 =>
Sx.stepG (gd true v26) (ld1 v35 w.drew) fun v36 =>
Sx.stepG (gd true v26) (bLt v34 v36) fun v37 =>
bindP (pPick v26 v37 (.bool false)) fun v38 =>
ifB v38 (
bindP (bAdd s4 (.int .i64 1)) fun v39 =>
Y0 s0 s3 v39 w.drew) (
Y1 s0 s3 s4 w.drew)
def F81_2L : Nat → Value → Value → Value → World → (V1) → Prop
  | 0, _, _, _, _, _ => False
  | n + 1, s0, s3, s4, w, K => F81_2b s0 s3 s4 w K (fun a0 a3 a4 w => F81_2L n a0 a3 a4 w K) (fun a0 a3 a4 w => F81_3 a0 a3 a4 w K)
def F81_2 (s0 s3 s4 : Value) (w : World) (K : V1) : Prop := F81_2L fuel s0 s3 s4 w K
def F81_1b (s0 s1 : Value) (w : World) (_K : V1) (Y0 : V3) : Prop :=
eBox 105 s1 w fun v41 w40 =>
bindP (pFieldAddr 0 v41) fun v42 =>
bindP (ld1 v42 w40) fun v43 =>
callP G82 [s0, v43] w40 fun _ w44 =>
Y0 s0 v41 (.int .i64 0) w44
def F81_1 (s0 s1 : Value) (w : World) (K : V1) : Prop := F81_1b s0 s1 w K (fun a0 a3 a4 w => F81_2 a0 a3 a4 w K)
def F81 (x0 x1 : Value) (w : World) (K : V1) : Prop := F81_1 x0 x1 w K
def G81 : FnT := fun args w K => on2 (fun x0 x1 => F81 x0 x1 w K) args
def F52 (x0 x1 : Value) (w : World) (K : V1) : Prop :=
callP G78 [x1] w fun v2 w1 =>
bindP (uNot v2) fun v3 =>
ifB v3 (
K (.int .i64 1) w1) (
callP G79 [x0, x1] w1 fun v5 w4 =>
bindP (bGe v5 (.int .i64 0)) fun v6 =>
ifB v6 (
K (.int .i64 6) w4) (
callP G80 [x0] w4 fun v8 w7 =>
bindP (uNot v8) fun v9 =>
ifB v9 (
K (.int .i64 251) w7) (
bindP (fBuild Try.prog 105 [(0, x1)]) fun v10 =>
callP G81 [x0, v10] w7 fun _ w11 =>
K (.int .i64 0) w11)))
def G52 : FnT := fun args w K => on2 (fun x0 x1 => F52 x0 x1 w K) args
def F53 (x0 x1 x2 : Value) (w : World) (K : V1) : Prop :=
callP G79 [x0, x1] w fun v2 w1 =>
bindP (bLt v2 (.int .i64 0)) fun v3 =>
ifB v3 (
K (.int .i64 5) w1) (
bindP (lenS x2) fun v4 =>
bindP (pNil x0) fun v5 =>
bindP (pFieldAddr 0 v5) fun v6 =>
bindP (ld1 v6 w1.drew) fun v7 =>
callP G64 [x0] w1.drew fun v9 w8 =>
(fok true (lenS x2) v4 ∧ fok true (ld1 v6 w8) v7) ∧ (bindP (bSub v7 v9) fun v10 =>
bindP (bGt v4 v10) fun v11 =>
ifB v11 (
K (.int .i64 250) w8) (
callP G80 [x0] w8 fun v13 w12 =>
bindP (uNot v13) fun v14 =>
ifB v14 (
K (.int .i64 251) w12) (
bindP (pNil x0) fun v15 =>
bindP (pFieldAddr 3 v15) fun v16 =>
bindP (ld1 v16 w12) fun v17 =>
bindP (pIndexL 3 v17 v2) fun v18 =>
bindP (ldN 3 v18 w12) fun v19 =>
eAlloc Try.prog 105 w12 fun v21 w20 =>
bindW (st 3 v21 v19 w20) fun w22 =>
bindP (pFieldAddr 1 v21) fun v24 =>
bindP (ld1 v24 w22) fun v25 =>
bindP (bAdd v25 x2) fun v26 =>
bindP (pFieldAddr 1 v21) fun v27 =>
bindW (st 1 v27 v26 w22) fun w28 =>
bindP (ldN 3 v21 w28) fun v30 =>
callP G81 [x0, v30] w28 fun _ w31 =>
K (.int .i64 0) w31))))
def G53 : FnT := fun args w K => on3 (fun x0 x1 x2 => F53 x0 x1 x2 w K) args
def F54 (x0 x1 : Value) (w : World) (K : V1) : Prop :=
callP G79 [x0, x1] w fun v2 w1 =>
bindP (bLt v2 (.int .i64 0)) fun v3 =>
ifB v3 (
K (.int .i64 5) w1) (
callP G80 [x0] w1 fun v5 w4 =>
bindP (uNot v5) fun v6 =>
ifB v6 (
K (.int .i64 251) w4) (
bindP (pNil x0) fun v7 =>
bindP (pFieldAddr 3 v7) fun v8 =>
bindP (ld1 v8 w4) fun v9 =>
bindP (pIndexL 3 v9 v2) fun v10 =>
bindP (ldN 3 v10 w4) fun v11 =>
eAlloc Try.prog 105 w4 fun v13 w12 =>
bindW (st 3 v13 v11 w12) fun w14 =>
bindP (pFieldAddr 1 v13) fun v16 =>
bindP (ld1 v16 w14) fun v17 =>
bindP (lenS v17) fun v18 =>
bindP (pFieldAddr 2 v13) fun v19 =>
bindW (st 1 v19 v18 w14) fun w20 =>
bindP (ldN 3 v13 w20) fun v22 =>
callP G81 [x0, v22] w20 fun _ w23 =>
K (.int .i64 0) w23))
def G54 : FnT := fun args w K => on2 (fun x0 x1 => F54 x0 x1 w K) args
def F55 (x0 x1 x2 : Value) (w : World) (K : V1) : Prop :=
callP G79 [x0, x1] w fun v2 w1 =>
bindP (bLt v2 (.int .i64 0)) fun v3 =>
ifB v3 (
K (.int .i64 5) w1) (
callP G78 [x2] w1 fun v5 w4 =>
bindP (uNot v5) fun v6 =>
ifB v6 (
K (.int .i64 1) w4) (
callP G80 [x0] w4 fun v8 w7 =>
bindP (uNot v8) fun v9 =>
ifB v9 (
K (.int .i64 251) w7) (
bindP (pNil x0) fun v10 =>
bindP (pFieldAddr 3 v10) fun v11 =>
bindP (ld1 v11 w7) fun v12 =>
bindP (pIndexL 3 v12 v2) fun v13 =>
bindP (ldN 3 v13 w7) fun v14 =>
eAlloc Try.prog 105 w7 fun v16 w15 =>
bindW (st 3 v16 v14 w15) fun w17 =>
callP G82 [x0, x1] w17 fun _ w19 =>
bindP (pFieldAddr 0 v16) fun v21 =>
bindW (st 1 v21 x2 w19) fun w22 =>
bindP (ldN 3 v16 w22) fun v24 =>
callP G81 [x0, v24] w22 fun _ w25 =>
K (.int .i64 0) w25)))
def G55 : FnT := fun args w K => on3 (fun x0 x1 x2 => F55 x0 x1 x2 w K) args
def F56 (x0 x1 x2 : Value) (w : World) (K : V1) : Prop :=
bindP (pNil x0) fun v1 =>
bindP (pFieldAddr 1 v1) fun v2 =>
bindP (ld1 v2 w) fun v3 =>
bindP (fLook Try.prog 78 v3 x1 true w) fun v4 =>
bindP (pTuple v4 0) fun v5 =>
bindP (pTuple v4 1) fun v6 =>
eAlloc Try.prog 86 w fun v8 w7 =>
bindW (st 2 v8 v5 w7) fun w9 =>
bindP (uNot v6) fun v11 =>
ifB v11 (
K (.int .i64 5) w9) (
bindP (bLt x2 (.int .i64 0)) fun v12 =>
stepM (gd false v12) x2 fun v13 =>
Sx.stepG (gd false v12) (pFieldAddr 0 v8) fun v14 =>
Sx.stepG (gd false v12) (ld1 v14 w9) fun v15 =>
Sx.stepG (gd false v12) (lenS v15) fun v16 =>
Sx.stepG (gd false v12) (bGt v13 v16) fun v17 =>
bindP (pPick v12 (.bool true) v17) fun v18 =>
ifB v18 (
K (.int .i64 1) w9) (
bindP (pFieldAddr 0 v8) fun v19 =>
bindP (ld1 v19 w9.drew) fun v20 =>
bindP (pSliceS v20 none (some x2)) fun v21 =>
bindP (pFieldAddr 1 v8) fun v22 =>
bindP (ld1 v22 w9.drew) fun v23 =>
bindP (pMin v23 x2) fun v24 =>
bindP (fBuild Try.prog 86 [(0, v21), (1, v24)]) fun v25 =>
callP G46 [x0, x1, v25] w9.drew fun v27 w26 =>
K v27 w26))
def G56 : FnT := fun args w K => on3 (fun x0 x1 x2 => F56 x0 x1 x2 w K) args
def F57 (x0 x1 x2 : Value) (w : World) (K : V1) : Prop :=
callP G79 [x0, x1] w fun v2 w1 =>
bindP (bLt v2 (.int .i64 0)) fun v3 =>
ifB v3 (
K (.int .i64 5) w1) (
bindP (pNil x0) fun v4 =>
bindP (pFieldAddr 3 v4) fun v5 =>
bindP (ld1 v5 w1) fun v6 =>
bindP (pIndexL 3 v6 v2) fun v7 =>
bindP (ldN 3 v7 w1) fun v8 =>
eAlloc Try.prog 105 w1 fun v10 w9 =>
bindW (st 3 v10 v8 w9) fun w11 =>
bindP (bLt x2 (.int .i64 0)) fun v13 =>
stepM (gd false v13) x2 fun v14 =>
Sx.stepG (gd false v13) (pFieldAddr 1 v10) fun v15 =>
Sx.stepG (gd false v13) (ld1 v15 w11) fun v16 =>
Sx.stepG (gd false v13) (lenS v16) fun v17 =>
Sx.stepG (gd false v13) (bGt v14 v17) fun v18 =>
bindP (pPick v13 (.bool true) v18) fun v19 =>
ifB v19 (
K (.int .i64 1) w11) (
callP G80 [x0] w11 fun v21 w20 =>
bindP (uNot v21) fun v22 =>
ifB v22 (
K (.int .i64 251) w20) (
bindP (pFieldAddr 1 v10) fun v23 =>
bindP (ld1 v23 w20) fun v24 =>
bindP (pSliceS v24 none (some x2)) fun v25 =>
bindP (pFieldAddr 1 v10) fun v26 =>
bindW (st 1 v26 v25 w20) fun w27 =>
bindP (pFieldAddr 2 v10) fun v29 =>
bindP (ld1 v29 w27) fun v30 =>
bindP (pMin v30 x2) fun v31 =>
bindP (pFieldAddr 2 v10) fun v32 =>
bindW (st 1 v32 v31 w27) fun w33 =>
bindP (ldN 3 v10 w33) fun v35 =>
callP G81 [x0, v35] w33 fun _ w36 =>
K (.int .i64 0) w36)))
def G57 : FnT := fun args w K => on3 (fun x0 x1 x2 => F57 x0 x1 x2 w K) args
def F58 (x0 x1 : Value) (w : World) (K : V1) : Prop :=
bindP (pNil x0) fun v1 =>
bindP (pFieldAddr 1 v1) fun v2 =>
bindP (ld1 v2 w) fun v3 =>
bindP (fLook Try.prog 78 v3 x1 true w) fun v4 =>
bindP (pTuple v4 0) fun v5 =>
bindP (pTuple v4 1) fun v6 =>
eAlloc Try.prog 86 w fun v8 w7 =>
bindW (st 2 v8 v5 w7) fun w9 =>
bindP (uNot v6) fun v11 =>
ifB v11 (
K (.int .i64 5) w9) (
callP G68 [x0] w9 fun v13 w12 =>
bindP (uNot v13) fun v14 =>
ifB v14 (
K (.int .i64 251) w12) (
bindP (pNil x0) fun v15 =>
bindP (pFieldAddr 1 v15) fun v16 =>
bindP (ld1 v16 w12) fun v17 =>
eDelete Try.prog 78 v17 x1 w12 fun _ w18 =>
K (.int .i64 0) w18))
def G58 : FnT := fun args w K => on2 (fun x0 x1 => F58 x0 x1 w K) args
def F59 (x0 x1 : Value) (w : World) (K : V1) : Prop :=
callP G79 [x0, x1] w fun v2 w1 =>
bindP (bLt v2 (.int .i64 0)) fun v3 =>
ifB v3 (
K (.int .i64 5) w1) (
callP G80 [x0] w1 fun v5 w4 =>
bindP (uNot v5) fun v6 =>
ifB v6 (
K (.int .i64 251) w4) (
callP G82 [x0, x1] w4 fun _ w7 =>
K (.int .i64 0) w7))
def G59 : FnT := fun args w K => on2 (fun x0 x1 => F59 x0 x1 w K) args
def F60_3b (s0 s4 : Value) (w : World) (K : V1) : Prop :=
bindP (pNil s0) fun v1 =>
bindP (pFieldAddr 3 v1) fun v2 =>
bindW (st 1 v2 s4 w) fun w3 =>
bindP (pNil s0) fun v5 =>
bindP (pFieldAddr 1 v5) fun v6 =>
bindW (st 1 v6 (.bool false) w3) fun w7 =>
bindP (pNil s0) fun v9 =>
bindP (pFieldAddr 2 v9) fun v10 =>
bindW (st 1 v10 (.int .i64 0) w7) fun w11 =>
K (.tuple #[]) w11
def F60_3 (s0 s4 : Value) (w : World) (K : V1) : Prop := F60_3b s0 s4 w K
def F60_6b (s0 s1 s4 s5 : Value) (w : World) (_K : V1) (R3 : V4) : Prop :=
bindP (bAdd s5 (.int .i64 1)) fun v13 =>
R3 s0 s1 s4 v13 w
def F60_6 (s0 s1 s4 s5 : Value) (w : World) (K : V1) (R3 : V4) : Prop := F60_6b s0 s1 s4 s5 w K R3
def F60_8b (s0 s1 s4 s5 s6 s7 : Value) (w : World) (_K : V1) (R3 : V4) (Y0 : V4) : Prop :=
bindP (pFieldAddr 1 s6) fun v14 =>
bindP (ld1 v14 w) fun v15 =>
bindP (pFieldAddr 2 s6) fun v16 =>
bindP (ld1 v16 w) fun v17 =>
bindP (bAdd v17 s7) fun v18 =>
bindP (pSliceS v15 none (some v18)) fun v19 =>
bindP (pFieldAddr 1 s6) fun v20 =>
bindW (st 1 v20 v19 w) fun w21 =>
bindP (pFieldAddr 1 s6) fun v23 =>
bindP (ld1 v23 w21) fun v24 =>
bindP (lenS v24) fun v25 =>
bindP (pFieldAddr 2 s6) fun v26 =>
bindW (st 1 v26 v25 w21) fun w27 =>
bindP (ldN 3 s6 w27) fun v29 =>
eBuildSl Try.prog 99 1 [(0, v29)] w27 fun v31 w30 =>
eAppend Try.prog 99 99 s4 v31 w30 fun v33 w32 =>
Y0 s0 s1 v33 s5 w32
def F60_8 (s0 s1 s4 s5 s6 s7 : Value) (w : World) (K : V1) (R3 : V4) : Prop := F60_8b s0 s1 s4 s5 s6 s7 w K R3 (fun a0 a1 a4 a5 w => F60_6 a0 a1 a4 a5 w K R3)
def F60_7b (s0 s1 s4 s5 : Value) (w : World) (_K : V1) (R3 : V4) (Y0 : V6) : Prop :=
bindP (pNil s0) fun v34 =>
bindP (pFieldAddr 3 v34) fun v35 =>
bindP (ld1 v35 w) fun v36 =>
bindP (pIndexL 3 v36 s5) fun v37 =>
bindP (ldN 3 v37 w) fun v38 =>
eAlloc Try.prog 105 w fun v40 w39 =>
bindW (st 3 v40 v38 w39) fun w41 =>
bindP (lenL s1) fun v43 =>
bindP (bLt s5 v43) fun v44 =>
ifB v44 (
bindP (pFieldAddr 1 v40) fun v45 =>
bindP (ld1 v45 w41) fun v46 =>
bindP (lenS v46) fun v47 =>
bindP (pFieldAddr 2 v40) fun v48 =>
bindP (ld1 v48 w41) fun v49 =>
bindP (bSub v47 v49) fun v50 =>
bindP (bAdd v50 (.int .i64 1)) fun v51 =>
bindP (pIndexL 1 s1 s5) fun v52 =>
bindP (ld1 v52 w41) fun v53 =>
bindP (bRem v53 v51) fun v54 =>
bindP (bAdd v54 v51) fun v55 =>
bindP (bRem v55 v51) fun v56 =>
Y0 s0 s1 s4 s5 v40 v56 w41) (
Y0 s0 s1 s4 s5 v40 (.int .i64 0) w41)
def F60_7 (s0 s1 s4 s5 : Value) (w : World) (K : V1) (R3 : V4) : Prop := F60_7b s0 s1 s4 s5 w K R3 (fun a0 a1 a4 a5 a6 a7 w => F60_8 a0 a1 a4 a5 a6 a7 w K R3)
def F60_5 (s0 s1 s4 s5 : Value) (w : World) (K : V1) (R3 : V4) : Prop := F60_7 s0 s1 s4 s5 w K R3
def F60_4b (s0 s1 s4 s5 : Value) (w : World) (_K : V1) (R3 : V4) (Y0 : V4) (Y1 : V2) : Prop :=
bindP (pNil s0) fun v57 =>
bindP (pFieldAddr 3 v57) fun v58 =>
bindP (ld1 v58 w) fun v59 =>
bindP (lenL v59) fun v60 =>
bindP (bLt s5 v60) fun v61 =>
ifB v61 (
Y0 s0 s1 s4 s5 w) (
Y1 s0 s4 w)
def F60_4 (s0 s1 s4 s5 : Value) (w : World) (K : V1) (R3 : V4) : Prop := F60_4b s0 s1 s4 s5 w K R3 (fun a0 a1 a4 a5 w => F60_5 a0 a1 a4 a5 w K R3) (fun a0 a4 w => F60_3 a0 a4 w K)
def F60_2L : Nat → Value → Value → Value → Value → World → (V1) → Prop
  | 0, _, _, _, _, _, _ => False
  | n + 1, s0, s1, s4, s5, w, K => F60_4 s0 s1 s4 s5 w K (fun a0 a1 a4 a5 w => F60_2L n a0 a1 a4 a5 w K)
def F60_2 (s0 s1 s4 s5 : Value) (w : World) (K : V1) : Prop := F60_2L fuel s0 s1 s4 s5 w K
def F60_1b (s0 s1 : Value) (w : World) (_K : V1) (Y0 : V4) : Prop :=
Y0 s0 s1 (.slice none 0 0) (.int .i64 0) w
def F60_1 (s0 s1 : Value) (w : World) (K : V1) : Prop := F60_1b s0 s1 w K (fun a0 a1 a4 a5 w => F60_2 a0 a1 a4 a5 w K)
def F60 (x0 x1 : Value) (w : World) (K : V1) : Prop := F60_1 x0 x1 w K
def G60 : FnT := fun args w K => on2 (fun x0 x1 => F60 x0 x1 w K) args
def F61_3b (s5 : Value) (w : World) (K : V1) : Prop :=
K s5 w
def F61_3 (s5 : Value) (w : World) (K : V1) : Prop := F61_3b s5 w K
def F61_2b (s0 s1 s5 s6 : Value) (w : World) (_K : V1) (Y0 : V4) (Y1 : V1) : Prop :=
stepM (gd true s5) s6 fun v1 =>
stepM (gd true s5) s0 fun v2 =>
Sx.stepG (gd true s5) (lenL v2) fun v3 =>
Sx.stepG (gd true s5) (bLt v1 v3) fun v4 =>
bindP (pPick s5 v4 (.bool false)) fun v5 =>
ifB v5 (
bindP (pIndexL 1 s0 s6) fun v6 =>
bindP (ld1 v6 w.drew) fun v7 =>
bindP (pIndexL 1 s1 s6) fun v8 =>
bindP (ld1 v8 w.drew) fun v9 =>
bindP (bEq Try.prog 3 (.tmp 24) (.tmp 28) v7 v9) fun v10 =>
bindP (bAdd s6 (.int .i64 1)) fun v11 =>
Y0 s0 s1 v10 v11 w.drew) (
Y1 s5 w)
def F61_2L : Nat → Value → Value → Value → Value → World → (V1) → Prop
  | 0, _, _, _, _, _, _ => False
  | n + 1, s0, s1, s5, s6, w, K => F61_2b s0 s1 s5 s6 w K (fun a0 a1 a5 a6 w => F61_2L n a0 a1 a5 a6 w K) (fun a5 w => F61_3 a5 w K)
def F61_2 (s0 s1 s5 s6 : Value) (w : World) (K : V1) : Prop := F61_2L fuel s0 s1 s5 s6 w K
def F61_1b (s0 s1 : Value) (w : World) (_K : V1) (Y0 : V4) : Prop :=
bindP (lenL s0) fun v12 =>
bindP (lenL s1) fun v13 =>
bindP (bEq Try.prog 3 (.tmp 8) (.tmp 10) v12 v13) fun v14 =>
Y0 s0 s1 v14 (.int .i64 0) w
def F61_1 (s0 s1 : Value) (w : World) (K : V1) : Prop := F61_1b s0 s1 w K (fun a0 a1 a5 a6 w => F61_2 a0 a1 a5 a6 w K)
def F61 (x0 x1 : Value) (w : World) (K : V1) : Prop := F61_1 x0 x1 w K
def G61 : FnT := fun args w K => on2 (fun x0 x1 => F61 x0 x1 w K) args
def F62 (x0 x1 : Value) (w : World) (K : V1) : Prop :=
bindP (bLt x1 (.int .i64 0)) fun v1 =>
ifB v1 (
K (.int .i64 1) w) (
bindP (pNil x0) fun v2 =>
bindP (pFieldAddr 1 v2) fun v3 =>
bindW (st 1 v3 (.bool true) w) fun w4 =>
bindP (pNil x0) fun v6 =>
bindP (pFieldAddr 2 v6) fun v7 =>
bindW (st 1 v7 x1 w4) fun w8 =>
K (.int .i64 0) w8)
def G62 : FnT := fun args w K => on2 (fun x0 x1 => F62 x0 x1 w K) args
def F35_5b (s0 s1 s5 : Value) (w : World) (K : V1) : Prop :=
bindP (pFieldAddr 1 s5) fun v1 =>
bindP (ld1 v1 w.drew) fun v2 =>
bindP (pFieldAddr 1 s5) fun v3 =>
bindP (ld1 v3 w.drew) fun v4 =>
callP G18 [s0, v2] w.drew fun v6 w5 =>
fok true (ld1 v3 w5) v4 ∧ (callP G52 [s1, v4] w5 fun v8 w7 =>
bindP (bEq Try.prog 24 (.tmp 37) (.tmp 41) v6 v8) fun v9 =>
K v9 w7)
def F35_5 (s0 s1 s5 : Value) (w : World) (K : V1) : Prop := F35_5b s0 s1 s5 w K
def F35_7b (s0 s1 s5 s11 s43 : Value) (w : World) (K : V1) : Prop :=
ifB s43 (
bindP (pFieldAddr 1 s5) fun v10 =>
bindP (ld1 v10 w.drew) fun v11 =>
bindP (pFieldAddr 3 s5) fun v12 =>
bindP (ld1 v12 w.drew) fun v13 =>
bindP (pFieldAddr 1 s5) fun v14 =>
bindP (ld1 v14 w.drew) fun v15 =>
bindP (pFieldAddr 3 s5) fun v16 =>
bindP (ld1 v16 w.drew) fun v17 =>
callP G19 [s0, v11, v13] w.drew fun v19 w18 =>
(fok true (ld1 v14 w18) v15 ∧ fok true (ld1 v16 w18) v17) ∧ (callP G53 [s1, v15, v17] w18 fun v21 w20 =>
bindP (bEq Try.prog 24 (.tmp 51) (.tmp 57) v19 v21) fun v22 =>
K v22 w20)) (
bindP (bEq Try.prog 3 (.tmp 11) (.const (.int .i64 3)) s11 (.int .i64 3)) fun v23 =>
ifB v23 (
bindP (pFieldAddr 1 s5) fun v24 =>
bindP (ld1 v24 w.drew) fun v25 =>
bindP (pFieldAddr 1 s5) fun v26 =>
bindP (ld1 v26 w.drew) fun v27 =>
callP G21 [s0, v25] w.drew fun v29 w28 =>
fok true (ld1 v26 w28) v27 ∧ (callP G54 [s1, v27] w28 fun v31 w30 =>
bindP (bEq Try.prog 24 (.tmp 64) (.tmp 68) v29 v31) fun v32 =>
K v32 w30)) (
bindP (bEq Try.prog 3 (.tmp 11) (.const (.int .i64 4)) s11 (.int .i64 4)) fun v33 =>
ifB v33 (
bindP (pFieldAddr 1 s5) fun v34 =>
bindP (ld1 v34 w.drew) fun v35 =>
bindP (pFieldAddr 2 s5) fun v36 =>
bindP (ld1 v36 w.drew) fun v37 =>
bindP (pFieldAddr 1 s5) fun v38 =>
bindP (ld1 v38 w.drew) fun v39 =>
bindP (pFieldAddr 2 s5) fun v40 =>
bindP (ld1 v40 w.drew) fun v41 =>
callP G41 [s0, v35, v37] w.drew fun v43 w42 =>
(fok true (ld1 v38 w42) v39 ∧ fok true (ld1 v40 w42) v41) ∧ (callP G55 [s1, v39, v41] w42 fun v45 w44 =>
bindP (bEq Try.prog 24 (.tmp 77) (.tmp 83) v43 v45) fun v46 =>
K v46 w44)) (
bindP (bEq Try.prog 3 (.tmp 11) (.const (.int .i64 5)) s11 (.int .i64 5)) fun v47 =>
ifB v47 (
bindP (pFieldAddr 1 s5) fun v48 =>
bindP (ld1 v48 w.drew) fun v49 =>
bindP (pFieldAddr 4 s5) fun v50 =>
bindP (ld1 v50 w.drew) fun v51 =>
bindP (pFieldAddr 1 s5) fun v52 =>
bindP (ld1 v52 w.drew) fun v53 =>
bindP (pFieldAddr 4 s5) fun v54 =>
bindP (ld1 v54 w.drew) fun v55 =>
callP G56 [s0, v49, v51] w.drew fun v57 w56 =>
(fok true (ld1 v52 w56) v53 ∧ fok true (ld1 v54 w56) v55) ∧ (callP G57 [s1, v53, v55] w56 fun v59 w58 =>
bindP (bEq Try.prog 24 (.tmp 92) (.tmp 98) v57 v59) fun v60 =>
K v60 w58)) (
bindP (bEq Try.prog 3 (.tmp 11) (.const (.int .i64 6)) s11 (.int .i64 6)) fun v61 =>
ifB v61 (
bindP (pFieldAddr 1 s5) fun v62 =>
bindP (ld1 v62 w.drew) fun v63 =>
bindP (pFieldAddr 1 s5) fun v64 =>
bindP (ld1 v64 w.drew) fun v65 =>
callP G58 [s0, v63] w.drew fun v67 w66 =>
fok true (ld1 v64 w66) v65 ∧ (callP G59 [s1, v65] w66 fun v69 w68 =>
bindP (bEq Try.prog 24 (.tmp 105) (.tmp 109) v67 v69) fun v70 =>
K v70 w68)) (
bindP (bEq Try.prog 3 (.tmp 11) (.const (.int .i64 7)) s11 (.int .i64 7)) fun v71 =>
ifB v71 (
eBuildSl Try.prog 22 0 [] w fun v73 w72 =>
bindP (pFieldAddr 5 s5) fun v74 =>
bindP (ld1 v74 w72) fun v75 =>
eAppend Try.prog 22 22 v73 v75 w72 fun v77 w76 =>
callP G17 [s0, v77] w76 fun _ w78 =>
bindP (pFieldAddr 5 s5) fun v80 =>
bindP (ld1 v80 w78) fun v81 =>
callP G60 [s1, v81] w78 fun _ w82 =>
bindP (pFieldAddr 5 s5) fun v84 =>
bindP (ld1 v84 w82) fun v85 =>
callP G61 [v77, v85] w82 fun v87 w86 =>
K v87 w86) (
bindP (bEq Try.prog 3 (.tmp 11) (.const (.int .i64 8)) s11 (.int .i64 8)) fun v88 =>
ifB v88 (
bindP (pFieldAddr 4 s5) fun v89 =>
bindP (ld1 v89 w.drew) fun v90 =>
bindP (pFieldAddr 4 s5) fun v91 =>
bindP (ld1 v91 w.drew) fun v92 =>
callP G11 [s0, v90] w.drew fun v94 w93 =>
fok true (ld1 v91 w93) v92 ∧ (callP G62 [s1, v92] w93 fun v96 w95 =>
bindP (bEq Try.prog 24 (.tmp 133) (.tmp 137) v94 v96) fun v97 =>
K v97 w95)) (
callP G22 [s0] w fun v99 w98 =>
bindP (bEq Try.prog 23 (.tmp 14) (.const (.pointer none)) v99 (.pointer none)) fun v100 =>
stepM (gd false v100) v99 fun v101 =>
stepM (gd false v100) s1 fun v102 =>
Sx.stepG (gd false v100) (pFieldAddr 1 s5) fun v103 =>
Sx.stepG (gd false v100) (ld1 v103 w98) fun v104 =>
stepE (gd false v100) (fun k => callP G36 [v101, v102, v104] w98 k) w98 fun v106 w105 =>
Sx.stepG (gd false v100) (uNot v106) fun v107 =>
bindP (pPick v100 (.bool true) v107) fun v108 =>
ifB v108 (
K (.bool false) w105) (
bindP (pFieldAddr 1 s5) fun v109 =>
bindP (ld1 v109 w105) fun v110 =>
callP G19 [v99, v110, (.string ⟨#[111, 116, 104, 101, 114]⟩)] w105 fun _ w111 =>
callP G17 [v99, (.slice none 0 0)] w111 fun _ w113 =>
callP G18 [v99, (.string ⟨#[111, 116, 104, 101, 114]⟩)] w113 fun _ w115 =>
K (.bool true) w115))))))))
def F35_7 (s0 s1 s5 s11 s43 : Value) (w : World) (K : V1) : Prop := F35_7b s0 s1 s5 s11 s43 w K
def F35_6b (s0 s1 s5 s11 : Value) (w : World) (_K : V1) (Y0 : V5) : Prop :=
bindP (bEq Try.prog 3 (.tmp 11) (.const (.int .i64 1)) s11 (.int .i64 1)) fun v117 =>
ifB v117 (
Y0 s0 s1 s5 s11 v117 w) (
bindP (bEq Try.prog 3 (.tmp 11) (.const (.int .i64 2)) s11 (.int .i64 2)) fun v118 =>
Y0 s0 s1 s5 s11 v118 w)
def F35_6 (s0 s1 s5 s11 : Value) (w : World) (K : V1) : Prop := F35_6b s0 s1 s5 s11 w K (fun a0 a1 a5 a11 a43 w => F35_7 a0 a1 a5 a11 a43 w K)
def F35_4 (s0 s1 s5 s11 s32 : Value) (w : World) (K : V1) : Prop := ifB s32 (F35_5 s0 s1 s5 w K) (F35_6 s0 s1 s5 s11 w K)
def F35_3b (s0 s1 s5 s11 : Value) (w : World) (_K : V1) (Y0 : V5) : Prop :=
bindP (bEq Try.prog 3 (.tmp 11) (.const (.int .i64 0)) s11 (.int .i64 0)) fun v119 =>
Y0 s0 s1 s5 s11 v119 w
def F35_3 (s0 s1 s5 s11 : Value) (w : World) (K : V1) : Prop := F35_3b s0 s1 s5 s11 w K (fun a0 a1 a5 a11 a32 w => F35_4 a0 a1 a5 a11 a32 w K)
def F35_2 (s0 s1 s5 s11 : Value) (w : World) (K : V1) : Prop := F35_3 s0 s1 s5 s11 w K
def F35_1b (s0 s1 s2 : Value) (w : World) (_K : V1) (Y0 : V4) : Prop :=
eBox 70 s2 w fun v121 w120 =>
bindP (pFieldAddr 0 v121) fun v122 =>
bindP (ld1 v122 w120) fun v123 =>
callP G10 [v123, (.int .i64 10)] w120 fun v125 w124 =>
Y0 s0 s1 v121 v125 w124
def F35_1 (s0 s1 s2 : Value) (w : World) (K : V1) : Prop := F35_1b s0 s1 s2 w K (fun a0 a1 a5 a11 w => F35_2 a0 a1 a5 a11 w K)
def F35 (x0 x1 x2 : Value) (w : World) (K : V1) : Prop := F35_1 x0 x1 x2 w K
def G35 : FnT := fun args w K => on3 (fun x0 x1 x2 => F35 x0 x1 x2 w K) args
def F6_3b (w : World) (K : V1) : Prop :=
K (.bool true) w
def F6_3 (w : World) (K : V1) : Prop := F6_3b w K
def F6_5b (s1 s5 s7 s9 : Value) (w : World) (_K : V1) (R3 : V4) : Prop :=
bindP (bAdd s9 (.int .i64 1)) fun v1 =>
R3 s1 s5 s7 v1 w
def F6_5 (s1 s5 s7 s9 : Value) (w : World) (K : V1) (R3 : V4) : Prop := F6_5b s1 s5 s7 s9 w K R3
def F6_4b (s1 s5 s7 s9 : Value) (w : World) (K : V1) (R3 : V4) (Y0 : V4) (Y1 : V0) : Prop :=
bindP (bNe Try.prog 66 (.tmp 38) (.const (.pointer none)) s7 (.pointer none)) fun v2 =>
stepM (gd true v2) s9 fun v3 =>
stepM (gd true v2) s1 fun v4 =>
Sx.stepG (gd true v2) (lenL v4) fun v5 =>
Sx.stepG (gd true v2) (bLt v3 v5) fun v6 =>
bindP (pPick v2 v6 (.bool false)) fun v7 =>
stepM (gd true v7) s9 fun v8 =>
Sx.stepG (gd true v7) (bLt v8 (.int .i64 80)) fun v9 =>
bindP (pPick v7 v9 (.bool false)) fun v10 =>
ifB v10 (
bindP (pIndexL 6 s1 s9) fun v11 =>
bindP (pFieldAddr 3 v11) fun v12 =>
bindP (ld1 v12 w) fun v13 =>
bindP (lenS v13) fun v14 =>
bindP (bGt v14 (.int .i64 500)) fun v15 =>
stepM (gd false v15) s1 fun v16 =>
stepM (gd false v15) s9 fun v17 =>
Sx.stepG (gd false v15) (pIndexL 6 v16 v17) fun v18 =>
Sx.stepG (gd false v15) (pFieldAddr 5 v18) fun v19 =>
Sx.stepG (gd false v15) (ld1 v19 w) fun v20 =>
Sx.stepG (gd false v15) (lenL v20) fun v21 =>
Sx.stepG (gd false v15) (bGt v21 (.int .i64 100)) fun v22 =>
bindP (pPick v15 (.bool true) v22) fun v23 =>
ifB v23 (
Y0 s1 s5 s7 s9 w) (
bindP (pIndexL 6 s1 s9) fun v24 =>
bindP (ldN 6 v24 w) fun v25 =>
callP G35 [s5, s7, v25] w fun v27 w26 =>
bindP (uNot v27) fun v28 =>
stepM (gd false v28) s5 fun v29 =>
stepM (gd false v28) s7 fun v30 =>
stepM (gd false v28) s1 fun v31 =>
stepM (gd false v28) s9 fun v32 =>
Sx.stepG (gd false v28) (pIndexL 6 v31 v32) fun v33 =>
Sx.stepG (gd false v28) (pFieldAddr 1 v33) fun v34 =>
Sx.stepG (gd false v28) (ld1 v34 w26) fun v35 =>
stepE (gd false v28) (fun k => callP G36 [v29, v30, v35] w26 k) w26 fun v37 w36 =>
Sx.stepG (gd false v28) (uNot v37) fun v38 =>
bindP (pPick v28 (.bool true) v38) fun v39 =>
ifB v39 (
K (.bool false) w36) (
Y0 s1 s5 s7 s9 w36))) (
Y1 w)
def F6_4 (s1 s5 s7 s9 : Value) (w : World) (K : V1) (R3 : V4) : Prop := F6_4b s1 s5 s7 s9 w K R3 (fun a1 a5 a7 a9 w => F6_5 a1 a5 a7 a9 w K R3) (fun w => F6_3 w K)
def F6_2L : Nat → Value → Value → Value → Value → World → (V1) → Prop
  | 0, _, _, _, _, _, _ => False
  | n + 1, s1, s5, s7, s9, w, K => F6_4 s1 s5 s7 s9 w K (fun a1 a5 a7 a9 w => F6_2L n a1 a5 a7 a9 w K)
def F6_2 (s1 s5 s7 s9 : Value) (w : World) (K : V1) : Prop := F6_2L fuel s1 s5 s7 s9 w K
def F6_1b (s0 s1 : Value) (w : World) (K : V1) (Y0 : V4) : Prop :=
callP G8 [s0] w fun v41 w40 =>
bindP (pTuple v41 0) fun v42 =>
bindP (pTuple v41 1) fun v43 =>
callP G34 [s0] w40 fun v45 w44 =>
bindP (pTuple v45 0) fun v46 =>
bindP (pTuple v45 1) fun v47 =>
bindP (bNe Try.prog 24 (.tmp 20) (.tmp 21) v43 v47) fun v48 =>
stepM (gd false v48) v42 fun v49 =>
Sx.stepG (gd false v48) (bEq Try.prog 23 (.tmp 24) (.const (.pointer none)) v49 (.pointer none)) fun v50 =>
stepM (gd false v48) v46 fun v51 =>
Sx.stepG (gd false v48) (bEq Try.prog 66 (.tmp 26) (.const (.pointer none)) v51 (.pointer none)) fun v52 =>
Sx.stepG (gd false v48) (bNe Try.prog 4 (.tmp 25) (.tmp 27) v50 v52) fun v53 =>
bindP (pPick v48 (.bool true) v53) fun v54 =>
bindP (pPick v54 (.bool true) (.bool false)) fun v55 =>
bindP (pPick v55 (.bool true) (.bool false)) fun v56 =>
stepE (gd false v56) (fun k => callP G9 [] w44 k) w44 fun v58 w57 =>
Sx.stepG (gd false v56) (uNot v58) fun v59 =>
bindP (pPick v56 (.bool true) v59) fun v60 =>
ifB v60 (
K (.bool false) w57) (
Y0 s1 v42 v46 (.int .i64 0) w57)
def F6_1 (s0 s1 : Value) (w : World) (K : V1) : Prop := F6_1b s0 s1 w K (fun a1 a5 a7 a9 w => F6_2 a1 a5 a7 a9 w K)
def F6 (x0 x1 : Value) (w : World) (K : V1) : Prop := F6_1 x0 x1 w K
def G6 : FnT := fun args w K => on2 (fun x0 x1 => F6 x0 x1 w K) args
theorem c6 {x0 x1 : Value} {w : World} {K : V1} (h : F6 x0 x1 w K) : callP G6 [x0, x1] w K := callP_intro (on2_mk (p := fun x0 x1 => F6 x0 x1 w K) h)
end Go.Proofs.Gong
