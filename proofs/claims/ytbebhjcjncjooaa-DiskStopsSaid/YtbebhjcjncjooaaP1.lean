/- A part of the proofs: what stands below it, told in lemmas. No condition. -/
import Derived.Test.YtbebhjcjncjooaaP0
import Derived.Laws.Externs
import Derived.SizedLaws
import Derived.Shelf.SlSortCmp.WholeK
import Derived.Shelf.SlSortCmp.NoneTotal
import Derived.Shelf.SlIterI.Nil
import Derived.Shelf.SlIter.Nil
import Derived.Shelf.SortM.Plain
import Derived.Shelf.SortM.SortNone
import Derived.RangeFuncLeaves
import Derived.RangeFuncBound
import Derived.RangeFuncCalls
import Derived.OwnWalkIn
import Derived.TacticsIn
import Derived.Test.YtbebhjcjncjooaaProg
set_option linter.all false

/- Sz5 -/
namespace Go.Sx
section
variable {κ ν : Type}
structure MapOk (ek : κ → Value) (ev : ν → Value) (es : Array MapEntry) (clock : Nat) (m : List (κ × ν)) : Prop where
  kv : es.toList.map (fun e => (e.key, e.val)) = m.map (fun x => (ek x.1, ev x.2))
  nd : (es.toList.map (·.born)).Nodup
  lt : ∀ e ∈ es.toList, e.born < clock
  kd : (m.map Prod.fst).Nodup
def MapH (ek : κ → Value) (ev : ν → Value) (v : Value) (m : List (κ × ν)) : HP := HEx fun r => HEx fun es => HEx fun clock => HPr (v = .map (some r) ∧ MapOk ek ev es clock m) (Blk r (.map es clock))
variable {ek : κ → Value} {ev : ν → Value} {m : List (κ × ν)} {w0 w : World} {L : List HP} {v : Value}
theorem map_iff : Sat w0 (MapH ek ev v m :: L) w ↔ ∃ r es clock, (v = .map (some r) ∧ MapOk ek ev es clock m) ∧ Sat w0 (Blk r (.map es clock) :: L) w := by
  simp only [MapH, Sat.ex_iff, Sat.pr_iff]
def ItH (ek : κ → Value) (ev : ν → Value) (it v : Value) (m rem : List (κ × ν)) : HP := HEx fun q => HEx fun r => HEx fun es => HEx fun clock => HEx fun seen =>
  HPr (it = ptr q ∧ v = .map (some r) ∧ MapOk ek ev es clock m ∧ (es.toList.filter (fun e => !seen.contains e.born)).map (fun e => (e.key, e.val)) = rem.map (fun x => (ek x.1, ev x.2)) ∧ rem.Sublist m)
    (HSt (Blk q (.mapIter (some r) clock seen clock)) (Blk r (.map es clock)))
theorem it_iff {it : Value} {rem : List (κ × ν)} : Sat w0 (ItH ek ev it v m rem :: L) w ↔ ∃ q r es clock seen, (it = ptr q ∧ v = .map (some r) ∧ MapOk ek ev es clock m ∧ (es.toList.filter (fun e => !seen.contains e.born)).map (fun e => (e.key, e.val)) = rem.map (fun x => (ek x.1, ev x.2)) ∧ rem.Sublist m) ∧
    Sat w0 (Blk q (.mapIter (some r) clock seen clock) :: Blk r (.map es clock) :: L) w := by
  simp only [ItH, Sat.ex_iff, Sat.pr_iff, Sat.star_iff]
theorem it_map {it : Value} {rem : List (κ × ν)} (h : Sat w0 (ItH ek ev it v m rem :: L) w) : Sat w0 (MapH ek ev v m :: L) w := by
  obtain ⟨q, r, es, clock, seen, ⟨_, h2, h3, _⟩, h5⟩ := it_iff.1 h
  exact map_iff.2 ⟨r, es, clock, ⟨h2, h3⟩, h5.drop⟩
theorem map_eraseIdx' {α β : Type} (f : α → β) : ∀ (l : List α) (j : Nat), (l.eraseIdx j).map f = (l.map f).eraseIdx j
  | [], _ => by simp
  | _ :: _, 0 => by simp
  | a :: l, j + 1 => by simp [map_eraseIdx' f l j]
theorem eMakeMap_sat {K : Value → World → Prop} (ek : κ → Value) (ev : ν → Value) (h : Sat w0 L w) (hK : ∀ v w', Sat w0 (MapH ek ev v ([] : List (κ × ν)) :: L) w' → K v w') : eMakeMap none w K :=
  hK _ _ (map_iff.2 ⟨_, _, _, ⟨rfl, ⟨by simp, by simp, by simp, by simp⟩⟩, h.alloc _⟩)
theorem eRange_sat {P : Program} {kt : TypeId} {K : Value → World → Prop} (h : Sat w0 (MapH ek ev v m :: L) w) {t et : TypeId} (hu : P.underlying t = some (.map kt et))
    (hK : ∀ it w', Sat w0 (ItH ek ev it v m m :: L) w' → K it w') : eRange P t v w K := by
  obtain ⟨r, es, clock, ⟨rfl, hm⟩, hs⟩ := map_iff.1 h
  simp only [eRange, hu, hs.blk]
  exact hK _ _ (it_iff.2 ⟨_, r, es, clock, #[], ⟨rfl, rfl, hm, by rw [List.filter_eq_self.2 (by simp)]; exact hm.kv, List.Sublist.refl _⟩, hs.alloc _⟩)
end
section
variable {κ ν : Type} [DecidableEq κ]
def aGet (k : κ) : List (κ × ν) → Option ν
  | [] => none
  | x :: r => if k = x.1 then some x.2 else aGet k r
def aSet (k : κ) (v : ν) : List (κ × ν) → List (κ × ν)
  | [] => [(k, v)]
  | x :: r => if k = x.1 then (k, v) :: r else x :: aSet k v r
def aDel (k : κ) : List (κ × ν) → List (κ × ν)
  | [] => []
  | x :: r => if k = x.1 then r else x :: aDel k r
def aFind (ev : ν → Value) (k : κ) : List (κ × ν) → Nat → Option (Nat × Value)
  | [], _ => none
  | x :: r, i => if k = x.1 then some (i, ev x.2) else aFind ev k r (i + 1)
structure KeyT (P : Program) (kt : TypeId) (ek : κ → Value) : Prop where
  u : (P.underlying kt).isSome = true
  ck : ∀ k, ckv P 10000 kt (ek k) = true
  eq : ∀ a b, eqv P Op.maxDepth kt (ek a) (ek b) = some (decide (a = b))
  sb : ∀ a, Instr.sameBits 10000 (ek a) (ek a) = true
variable {P : Program} {kt : TypeId} {ek : κ → Value} {ev : ν → Value} {m : List (κ × ν)} {k : κ}
theorem aFind_some {j i : Nat} {val : Value} : ∀ {m : List (κ × ν)} {i : Nat}, aFind ev k m i = some (j, val) → ∃ b, i ≤ j ∧ m[j - i]? = some (k, b) ∧ val = ev b ∧ aGet k m = some b ∧ (∀ x, aSet k x m = m.set (j - i) (k, x)) ∧ aDel k m = m.eraseIdx (j - i) := by
  intro m
  induction m with
  | nil => intro i h; simp [aFind] at h
  | cons y r ih =>
    intro i h
    unfold aFind at h
    by_cases hk : k = y.1
    · simp [hk] at h
      obtain ⟨rfl, rfl⟩ := h
      exact ⟨y.2, Nat.le_refl _, by simp [hk], rfl, by simp [aGet, hk], by simp [aSet, hk], by simp [aDel, hk]⟩
    · simp only [hk, if_false] at h
      obtain ⟨b, h1, h2, h3, h4, h5, h6⟩ := ih h
      have e : j - i = j - (i + 1) + 1 := by omega
      exact ⟨b, by omega, by rw [e]; simpa using h2, h3, by simp [aGet, hk, h4], fun x => by rw [e]; simp [aSet, hk, h5], by rw [e]; simp [aDel, hk, h6]⟩
theorem aFind_none : ∀ {m : List (κ × ν)} {i : Nat}, aFind ev k m i = none → aGet k m = none ∧ (∀ x, aSet k x m = m ++ [(k, x)]) ∧ aDel k m = m ∧ k ∉ m.map Prod.fst := by
  intro m
  induction m with
  | nil => intro i _; simp [aGet, aSet, aDel]
  | cons y r ih =>
    intro i h
    unfold aFind at h
    by_cases hk : k = y.1
    · simp [hk] at h
    · simp only [hk, if_false] at h
      obtain ⟨h1, h2, h3, h4⟩ := ih h
      refine ⟨by simp [aGet, hk, h1], fun x => by simp [aSet, hk, h2], by simp [aDel, hk, h3], ?_⟩
      rw [List.map_cons, List.mem_cons]; rintro (h | h)
      · exact hk h
      · exact h4 h
theorem mFind_al (K : KeyT P kt ek) : ∀ (l : List MapEntry) (m : List (κ × ν)) (i : Nat), l.map (fun e => (e.key, e.val)) = m.map (fun x => (ek x.1, ev x.2)) → mFind (eqv P Op.maxDepth kt (ek k)) l i = some (aFind ev k m i) := by
  intro l
  induction l with
  | nil => intro m i h; cases m with | nil => rfl | cons => simp at h
  | cons e l ih =>
    intro m i h
    cases m with
    | nil => simp at h
    | cons x m =>
      simp only [List.map_cons, List.cons.injEq, Prod.mk.injEq] at h
      obtain ⟨⟨h1, h2⟩, h3⟩ := h
      unfold mFind aFind
      rw [h1, K.eq]
      by_cases hk : k = x.1
      · simp [hk, h2]
      · simp [hk, ih _ _ h3]
theorem aGet_mem {k : κ} {x : ν} : ∀ {m : List (κ × ν)}, aGet k m = some x → (k, x) ∈ m
  | [], h => by simp [aGet] at h
  | y :: r, h => by
    unfold aGet at h
    by_cases hk : k = y.1
    · simp [hk] at h; subst h; subst hk; simp
    · simp only [hk, if_false] at h; exact List.mem_cons_of_mem _ (aGet_mem h)
theorem mem_aGet {k : κ} {x : ν} : ∀ {m : List (κ × ν)}, (m.map Prod.fst).Nodup → (k, x) ∈ m → aGet k m = some x
  | [], _, h => by simp at h
  | y :: r, hn, h => by
    simp only [List.map_cons, List.nodup_cons] at hn
    unfold aGet
    rcases List.mem_cons.1 h with rfl | h
    · simp
    · have : ¬ k = y.1 := fun e => hn.1 (by rw [← e]; exact List.mem_map_of_mem (f := Prod.fst) h)
      simp only [this, if_false]; exact mem_aGet hn.2 h
section
variable {w0 w : World} {L : List HP} {v : Value}
theorem look_map (h : Sat w0 (MapH ek ev v m :: L) w) (K : KeyT P kt ek) {t et : TypeId} {z : Value} (hu : P.underlying t = some (.map kt et)) (hz : fZero P et = some z) (ok : Bool) (k : κ) :
    fLook P t v (ek k) ok w = some (if ok then .tuple #[(aGet k m).elim z ev, .bool (aGet k m).isSome] else (aGet k m).elim z ev) := by
  obtain ⟨r, es, clock, ⟨rfl, hm⟩, hs⟩ := map_iff.1 h
  simp only [fLook, hu, mapOf, hs.blk]
  rw [if_pos ⟨K.ck k, K.u⟩, mFind_al K _ _ 0 hm.kv]
  cases hf : aFind ev k m 0 with
  | none => simp [(aFind_none hf).1, hz]
  | some x =>
    obtain ⟨j, val⟩ := x
    obtain ⟨b, _, _, rfl, h4, _⟩ := aFind_some (i := 0) hf
    simp [h4]
theorem look1 (h : Sat w0 (MapH ek ev v m :: L) w) (K : KeyT P kt ek) {t et : TypeId} {z : Value} (hu : P.underlying t = some (.map kt et)) (hz : fZero P et = some z) (k : κ) : fLook P t v (ek k) false w = some ((aGet k m).elim z ev) := by
  rw [look_map h K hu hz]; rfl
theorem look2 (h : Sat w0 (MapH ek ev v m :: L) w) (K : KeyT P kt ek) {t et : TypeId} {z : Value} (hu : P.underlying t = some (.map kt et)) (hz : fZero P et = some z) (k : κ) : fLook P t v (ek k) true w = some (.tuple #[(aGet k m).elim z ev, .bool (aGet k m).isSome]) := by
  rw [look_map h K hu hz]; rfl
theorem aSet_keys {x : ν} (h : (m.map Prod.fst).Nodup) : ((aSet k x m).map Prod.fst).Nodup := by
  cases hf : aFind (fun _ : ν => Value.int .i64 0) k m 0 with
  | none =>
    obtain ⟨_, h2, _, h4⟩ := aFind_none hf
    rw [h2, List.map_append, List.nodup_append]
    refine ⟨h, by simp, fun a ha b hb => ?_⟩
    simp at hb; subst hb; intro e; subst e; exact h4 ha
  | some y =>
    obtain ⟨j, val⟩ := y
    obtain ⟨b, _, h2, _, _, h5, _⟩ := aFind_some (i := 0) hf
    rw [h5, List.map_set]
    have : (m.map Prod.fst).set (j - 0) k = m.map Prod.fst := by
      apply List.ext_getElem?
      intro i
      rw [List.getElem?_set]
      split
      · rename_i hi; subst hi
        split
        · simp at h2; simp [h2]
        · rename_i hn; have := (List.getElem?_eq_some_iff.1 h2).1; simp at hn; omega
      · rfl
    rw [this]; exact h
theorem eMapSet_sat {K : Value → World → Prop} (h : Sat w0 (MapH ek ev v m :: L) w) (T : KeyT P kt ek) {t et : TypeId} (hu : P.underlying t = some (.map kt et)) (k : κ) (x : ν)
    (hK : ∀ w', Sat w0 (MapH ek ev v (aSet k x m) :: L) w' → K unit w') : eMapSet P t v (ek k) (ev x) w K := by
  obtain ⟨r, es, clock, ⟨rfl, hm⟩, hs⟩ := map_iff.1 h
  simp only [eMapSet, hu, hs.blk]
  refine ⟨⟨T.ck k, T.u⟩, ?_⟩
  rw [mFind_al T _ _ 0 hm.kv]
  have kd := aSet_keys (k := k) (x := x) hm.kd
  cases hf : aFind ev k m 0 with
  | none =>
    obtain ⟨_, h2, _, h4⟩ := aFind_none hf
    refine hK _ (map_iff.2 ⟨r, _, _, ⟨rfl, ?_, ?_, ?_, kd⟩, hs.set _⟩)
    · rw [h2]; simp [hm.kv]
    · simp only [Array.toList_push, List.map_append, List.nodup_append]
      refine ⟨hm.nd, by simp, fun a ha b hb => ?_⟩
      simp at hb; subst hb
      obtain ⟨e, he, rfl⟩ := List.mem_map.1 ha
      have := hm.lt e he; omega
    · intro e he
      simp only [Array.toList_push, List.mem_append, List.mem_singleton] at he
      rcases he with he | rfl
      · have := hm.lt e he; omega
      · simp
  | some y =>
    obtain ⟨j, val⟩ := y
    obtain ⟨b, _, h2, _, _, h5, _⟩ := aFind_some (i := 0) hf
    simp only [Nat.sub_zero] at h2 h5
    have hj : j < m.length := by
      rcases Nat.lt_or_ge j m.length with h | h
      · exact h
      · rw [List.getElem?_eq_none h] at h2; cases h2
    have hlen := congrArg List.length hm.kv
    simp at hlen
    have hje : j < es.size := by omega
    have hkey : es[j].key = ek k := by
      have := congrArg (fun l => l[j]?) hm.kv
      simp [hje, h2] at this
      exact this.1
    refine ⟨?_, hK _ (map_iff.2 ⟨r, _, _, ⟨rfl, ?_, ?_, ?_, kd⟩, hs.set _⟩)⟩
    · simp [hje, hkey, T.sb]
    · rw [h5, List.map_set]
      apply List.ext_getElem?
      intro i
      have := congrArg (fun l => l[i]?) hm.kv
      simp only [List.getElem?_map, Array.getElem?_toList, Array.getElem?_modify, List.getElem?_set] at this ⊢
      by_cases hi : j = i
      · subst hi; simp [hje, hj]
      · simp [hi]; simpa using this
    · have : (es.modify j fun e => { e with key := ek k, val := ev x }).toList.map (·.born) = es.toList.map (·.born) := by
        apply List.ext_getElem?
        intro i
        simp only [List.getElem?_map, Array.getElem?_toList, Array.getElem?_modify]
        split
        · cases es[i]? <;> simp
        · rfl
      rw [this]; exact hm.nd
    · intro e he
      obtain ⟨i, hi, rfl⟩ := List.getElem_of_mem he
      simp at hi
      simp only [Array.getElem_toList, Array.getElem_modify]
      have := hm.lt es[i] (by simp)
      split <;> exact this
theorem eDelete_sat {K : Value → World → Prop} (h : Sat w0 (MapH ek ev v m :: L) w) (T : KeyT P kt ek) {t et : TypeId} (hu : P.underlying t = some (.map kt et)) (k : κ)
    (hK : ∀ w', Sat w0 (MapH ek ev v (aDel k m) :: L) w' → K unit w') : eDelete P t v (ek k) w K := by
  obtain ⟨r, es, clock, ⟨rfl, hm⟩, hs⟩ := map_iff.1 h
  simp only [eDelete, hu, hs.blk]
  refine ⟨⟨T.ck k, T.u⟩, ?_⟩
  rw [mFind_al T _ _ 0 hm.kv]
  cases hf : aFind ev k m 0 with
  | none =>
    obtain ⟨_, _, h3, _⟩ := aFind_none hf
    refine hK _ (map_iff.2 ⟨r, _, _, ⟨rfl, ?_⟩, hs.set _⟩)
    rw [h3]; exact hm
  | some y =>
    obtain ⟨j, val⟩ := y
    obtain ⟨b, _, h2, _, _, _, h6⟩ := aFind_some (i := 0) hf
    simp only [Nat.sub_zero] at h2 h6
    have hj : j < m.length := by
      rcases Nat.lt_or_ge j m.length with h | h
      · exact h
      · rw [List.getElem?_eq_none h] at h2; cases h2
    have hlen := congrArg List.length hm.kv
    simp at hlen
    have e : (es.eraseIdxIfInBounds j).toList = es.toList.eraseIdx j := by
      rw [Array.toList_eraseIdxIfInBounds]
    have sub := List.eraseIdx_sublist es.toList j
    refine hK _ (map_iff.2 ⟨r, _, _, ⟨rfl, ?_, ?_, ?_, ?_⟩, hs.set _⟩)
    · rw [e, h6, map_eraseIdx', map_eraseIdx', hm.kv]
    · rw [e]; exact hm.nd.sublist (sub.map _)
    · rw [e]; exact fun x hx => hm.lt x (sub.subset hx)
    · rw [h6]; exact hm.kd.sublist ((List.eraseIdx_sublist m j).map _)
end
end
theorem KeyT.int {P : Program} {kt : TypeId} (h : P.underlying kt = some (.int .i64)) : KeyT P kt (fun n : Int => Value.int .i64 n) where
  u := by simp [h]
  ck := fun k => by simp [ckv, h]
  eq := fun a b => by simp [eqv, Op.maxDepth, h]; rw [Bool.eq_iff_iff]; simp
  sb := fun a => by simp [Instr.sameBits]
theorem KeyT.str {P : Program} {kt : TypeId} (h : P.underlying kt = some .string) : KeyT P kt (fun n : ByteArray => Value.string n) where
  u := by simp [h]
  ck := fun k => by simp [ckv, h]
  eq := fun a b => by simp [eqv, Op.maxDepth, h, sEq_eq]
  sb := fun a => by simp [Instr.sameBits]
end Go.Sx

/- Sz6 -/
namespace Go.Sx
structure Cod {α : Type} (f : α → List Value) (es : Nat) : Prop where
  len : ∀ x, (f x).length = es
  one : ∀ x, (f x).all (·.oneCell') = true
  pos : 0 < es
def LsH {α : Type} (f : α → List Value) (es : Nat) (ty : TypeId) (v : Value) (l : List α) : HP := SlH es ty v l.length (l.flatMap f)
def elP (es : Nat) (v : Value) (i : Int) : Value := (pIndexL es v (.int .i64 i)).getD undef
section
variable {α : Type} {f : α → List Value} {es : Nat} {ty : TypeId} {v : Value} {l : List α} {w0 w : World} {L : List HP}
theorem flat_len (C : Cod f es) (l : List α) : (l.flatMap f).length = l.length * es := by
  induction l with
  | nil => simp
  | cons x l ih => simp [ih, C.len, Nat.add_mul, Nat.add_comm]
theorem ls_rd (h : Sat w0 (LsH f es ty v l :: L) w) : Rd w es v l.length (l.flatMap f) := Sat.rd h
theorem rd_ix {n : Nat} {cs : List Value} (h : Rd w es v n cs) {i : Nat} (hi : i < n) : ∃ b o, pIndexL es v (.int .i64 i) = some (.pointer (some ⟨b, o, none⟩)) ∧ elP es v i = .pointer (some ⟨b, o, none⟩) := by
  cases h with
  | emp => omega
  | blk hb hn ha hc =>
    rename_i b o cap a ty fz
    have e : pIndexL es (.slice (some ⟨b, o, none⟩) n cap) (.int .i64 i) = some (.pointer (some ⟨b, o + i * es, none⟩)) := by
      simp only [pIndexL]; rw [if_pos ⟨by omega, by omega⟩]; simp
    exact ⟨b, o + i * es, e, by simp [elP, e]⟩
theorem ix_el {n : Nat} {cs : List Value} (h : Rd w es v n cs) {i : Nat} (hi : i < n) : pIndexL es v (.int .i64 i) = some (elP es v i) := by
  obtain ⟨b, o, h1, h2⟩ := rd_ix h hi
  rw [h1, h2]
theorem rd_ld (C : Cod f es) (h : Rd w es v l.length (l.flatMap f)) {i : Nat} (hi : i < l.length) : ldN es (elP es v i) w = some (.agg (f l[i]).toArray) := by
  obtain ⟨b, o, h1, h2, _⟩ := h.elem C.len rfl hi (j := .i64)
  have : elP es v i = .pointer (some ⟨b, o, none⟩) := by simp [elP, h1]
  rw [this, h2]
theorem rd_fld (C : Cod f es) (h : Rd w es v l.length (l.flatMap f)) {i k : Nat} (hi : i < l.length) (hk : k < es) : ∃ a, pFieldAddr k (elP es v i) = some (.pointer (some a)) ∧ w.cell? a = (f l[i])[k]? := by
  obtain ⟨b, o, h1, _, h3⟩ := h.elem C.len rfl hi (j := .i64)
  have : elP es v i = .pointer (some ⟨b, o, none⟩) := by simp [elP, h1]
  rw [this]
  refine ⟨⟨b, o + k, none⟩, rfl, ?_⟩
  rcases h3 k with h | h
  · exact h
  · omega
theorem ls_lit {P : Program} {t : TypeId} {m : List α} {parts : List (Nat × Value)} {K : Value → World → Prop} {c : Array Value} (C : Cod f es) (h : Sat w0 L w) (hu : P.underlying t = some (.slice ty)) (hc : fBuildSl P ty m.length parts = some c) (hm : c.toList = m.flatMap f)
    (hK : ∀ s w', Sat w0 (LsH f es ty s m :: L) w' → K s w') : eBuildSl P t m.length parts w K := by
  refine eBuildSl_sat (es := es) h hu hc ?_ fun s w' h' => hK s w' ?_
  · have := congrArg List.length hm
    rw [flat_len C] at this; simpa using this
  · unfold LsH; rw [← hm]; exact h'
end
def cI (n : Int) : List Value := [.int .i64 n]
theorem CI : Cod cI 1 := ⟨fun _ => rfl, fun _ => rfl, by omega⟩
end Go.Sx

/- Sz7 -/
namespace Go.Sx
section
variable {α : Type}
structure PermOn (a b : Nat) (l l' : List α) : Prop where
  perm : l'.Perm l
  out : ∀ i, (i < a ∨ b ≤ i) → l'[i]? = l[i]?
theorem PermOn.refl (a b : Nat) (l : List α) : PermOn a b l l := ⟨.refl _, fun _ _ => rfl⟩
theorem PermOn.trans {a b : Nat} {l m n : List α} (h : PermOn a b l m) (h' : PermOn a b m n) : PermOn a b l n := ⟨h'.perm.trans h.perm, fun i hi => (h'.out i hi).trans (h.out i hi)⟩
theorem PermOn.wide {a b a' b' : Nat} {l m : List α} (h : PermOn a b l m) (ha : a' ≤ a) (hb : b ≤ b') : PermOn a' b' l m := ⟨h.perm, fun i hi => h.out i (by omega)⟩
theorem PermOn.len {a b : Nat} {l m : List α} (h : PermOn a b l m) : m.length = l.length := h.perm.length_eq
theorem take_eq_of {l m : List α} {a : Nat} (h : ∀ i, i < a → m[i]? = l[i]?) : m.take a = l.take a := by
  apply List.ext_getElem?
  intro i
  simp only [List.getElem?_take]
  split
  · exact h i ‹_›
  · rfl
theorem drop_eq_of {l m : List α} {a : Nat} (h : ∀ i, a ≤ i → m[i]? = l[i]?) : m.drop a = l.drop a := by
  apply List.ext_getElem?
  intro i
  simp only [List.getElem?_drop]
  exact h _ (by omega)
theorem PermOn.mid {a b : Nat} {l m : List α} (h : PermOn a b l m) (hab : a ≤ b) : ((m.take b).drop a).Perm ((l.take b).drop a) := by
  have e : ∀ x : List α, x = x.take a ++ ((x.take b).drop a ++ x.drop b) := fun x => by
    have : x.take a = (x.take b).take a := by rw [List.take_take, Nat.min_eq_left hab]
    rw [this, ← List.append_assoc, List.take_append_drop, List.take_append_drop]
  have hp := h.perm
  rw [e m, e l, take_eq_of fun i hi => h.out i (.inl hi), drop_eq_of fun i hi => h.out i (.inr hi)] at hp
  have := (List.perm_append_left_iff _).1 hp
  exact (List.perm_append_right_iff _).1 this
theorem PermOn.all {a b : Nat} {l m : List α} (h : PermOn a b l m) {p : α → Prop} (hp : ∀ i x, a ≤ i → i < b → l[i]? = some x → p x) : ∀ i x, a ≤ i → i < b → m[i]? = some x → p x := by
  intro i x ha hb hx
  have hm : x ∈ (m.take b).drop a := by
    apply List.mem_of_getElem? (i := i - a)
    rw [List.getElem?_drop, List.getElem?_take_of_lt (by omega), show a + (i - a) = i by omega, hx]
  have := (h.mid (by omega)).subset hm
  obtain ⟨j, hj⟩ := List.getElem?_of_mem this
  have hj' := hj
  rw [List.getElem?_drop, List.getElem?_take] at hj
  split at hj
  · exact hp (a + j) x (by omega) ‹_› hj
  · cases hj
def swapL (l : List α) (i j : Nat) : List α := match l[i]?, l[j]? with | some x, some y => (l.set i y).set j x | _, _ => l
theorem swapL_eq {l : List α} {i j : Nat} (hi : i < l.length) (hj : j < l.length) : swapL l i j = (l.set i l[j]).set j l[i] := by simp [swapL, hi, hj]
theorem swapL_get {l : List α} {i j : Nat} (hi : i < l.length) (hj : j < l.length) (k : Nat) : (swapL l i j)[k]? = if k = j then some l[i] else if k = i then some l[j] else l[k]? := by
  rw [swapL_eq hi hj]
  simp only [List.getElem?_set, List.length_set]
  by_cases h1 : j = k
  · subst h1; simp [hj]
  · by_cases h2 : i = k
    · subst h2; simp [h1, hi, Ne.symm h1]
    · simp [h1, h2, Ne.symm h1, Ne.symm h2]
theorem swapL_perm {l : List α} {i j : Nat} (hi : i < l.length) (hj : j < l.length) : (swapL l i j).Perm l := by
  have h := Array.swap_perm (xs := l.toArray) (i := i) (j := j) (by simpa using hi) (by simpa using hj)
  have e : (l.toArray.swap i j (by simpa using hi) (by simpa using hj)).toList = swapL l i j := by
    rw [swapL_eq hi hj]; simp [Array.swap]
  have := h.toList
  rw [e] at this
  exact this
theorem PermOn.swap {a b i j : Nat} {l : List α} (hi : a ≤ i ∧ i < b) (hj : a ≤ j ∧ j < b) (hb : b ≤ l.length) : PermOn a b l (swapL l i j) :=
  ⟨swapL_perm (by omega) (by omega), fun k hk => by
    rw [swapL_get (by omega) (by omega)]
    rw [if_neg (by omega), if_neg (by omega)]⟩
structure SWO (lt : α → α → Bool) : Prop where
  asym : ∀ a b, lt a b = true → lt b a = false
  tr : ∀ a b c, lt b a = false → lt c b = false → lt c a = false
variable {lt : α → α → Bool}
theorem SWO.irr (S : SWO lt) (a : α) : lt a a = false := by
  cases h : lt a a with
  | false => rfl
  | true => have := S.asym a a h; rw [this] at h; cases h
def SortOn (lt : α → α → Bool) (a b : Nat) (l : List α) : Prop := ∀ i j x y, a ≤ i → i < j → j < b → l[i]? = some x → l[j]? = some y → lt y x = false
theorem SortOn.of_eq {a b : Nat} {l m : List α} (h : SortOn lt a b l) (e : ∀ i, a ≤ i → i < b → m[i]? = l[i]?) : SortOn lt a b m :=
  fun i j x y h1 h2 h3 hx hy => h i j x y h1 h2 h3 (by rw [← e i h1 (by omega)]; exact hx) (by rw [← e j (by omega) h3]; exact hy)
theorem SortOn.step (S : SWO lt) {a b : Nat} {l : List α} (h : ∀ i x y, a ≤ i → i + 1 < b → l[i]? = some x → l[i + 1]? = some y → lt y x = false) : SortOn lt a b l := by
  intro i j x y h1 h2 h3 hx hy
  induction j generalizing y with
  | zero => omega
  | succ j ih =>
    by_cases e : i = j
    · subst e; exact h i x y h1 h3 hx hy
    · have hj : j < l.length := by have := (List.getElem?_eq_some_iff.1 hy).1; omega
      have hz : l[j]? = some l[j] := List.getElem?_eq_getElem hj
      exact S.tr _ _ _ (ih l[j] (by omega) (by omega) hz) (h j l[j] y (by omega) h3 hz hy)
theorem SortOn.sorted {l : List α} (h : SortOn lt 0 l.length l) : l.Pairwise fun x y => lt y x = false := by
  rw [List.pairwise_iff_getElem]
  intro i j hi hj hij
  exact h i j _ _ (by omega) hij hj (List.getElem?_eq_getElem hi) (List.getElem?_eq_getElem hj)
end
end Go.Sx

/- Sz8 -/
namespace Go.Sx
section
variable {κ ν : Type} {ek : κ → Value} {ev : ν → Value} {m : List (κ × ν)} {w0 w : World} {L : List HP} {v : Value}
end
section
variable {P : Program} {t : TypeId} {x y : Operand}
end
end Go.Sx

/- Sz9 -/
namespace Go.Sx
def bs (l : List UInt8) : ByteArray := ⟨l.toArray⟩
theorem mk_bs (l : List UInt8) : ByteArray.mk l.toArray = bs l := by unfold bs; rfl
theorem bs_of (s : ByteArray) : s = bs s.data.toList := by cases s; simp [bs]
@[simp] theorem bs_size (l : List UInt8) : (bs l).size = l.length := by simp [bs, ByteArray.size]
@[simp] theorem bs_data (l : List UInt8) : (bs l).data.toList = l := by simp [bs]
@[simp] theorem bs_append (a b : List UInt8) : bs a ++ bs b = bs (a ++ b) := by
  apply ByteArray.ext; simp [bs, ByteArray.data_append]
@[simp] theorem bs_inj {a b : List UInt8} : bs a = bs b ↔ a = b := by simp [bs]
@[simp] theorem bs_extract (l : List UInt8) (i j : Nat) : (bs l).extract i j = bs ((l.take j).drop i) := by
  apply ByteArray.ext
  rw [ByteArray.data_extract]
  simp only [bs, List.extract_toArray, List.extract_eq_take_drop]
  rw [List.drop_take]
@[simp] theorem bs_get (l : List UInt8) (i : Nat) : (bs l)[i]? = l[i]? := by
  by_cases h : i < l.length
  · rw [List.getElem?_eq_getElem h, getElem?_pos (bs l) i (by simpa using h)]
    simp [bs, ByteArray.getElem_eq_getElem_data]
  · rw [List.getElem?_eq_none (by omega), getElem?_neg (bs l) i (by simpa using h)]
theorem sub_to {l : List UInt8} {i : Nat} {j : IntKind} (h : i ≤ l.length) : pSliceS (.string (bs l)) none (some (.int j i)) = some (.string (bs (l.take i))) := by
  simp [pSliceS, hiB, bnd]
  rw [if_pos (by omega)]
theorem add_txt {a b : List UInt8} (h : a.length + b.length ≤ 9223372036854775807) : bAdd (.string (bs a)) (.string (bs b)) = some (.string (bs (a ++ b))) := by
  have e : IntKind.i64.max = 9223372036854775807 := by decide
  simp only [bAdd, bs_size, e]
  rw [if_neg (by omega), bs_append]
def cellsB (l : List UInt8) : List Value := l.map fun b => .int .u8 b.toNat
@[simp] theorem cellsB_len (l : List UInt8) : (cellsB l).length = l.length := by simp [cellsB]
@[simp] theorem bytesOf_cells : ∀ l : List UInt8, bytesOf (cellsB l) = some l
  | [] => rfl
  | b :: l => by
    show bytesOf (.int .u8 b.toNat :: cellsB l) = _
    simp [bytesOf, bytesOf_cells l]
theorem cBytes_rd {w : World} {v : Value} {n : Nat} {l : List UInt8} (h : Rd w 1 v n (cellsB l)) (h0 : 0 < n) : cBytes v w = some (.string (bs l)) := by
  have hl := h.length
  generalize hc : cellsB l = cs at h hl
  cases h with
  | emp => omega
  | blk hb hn ha hcs =>
    rename_i b o cap a ty fz
    subst hcs
    simp only [cBytes, hb]
    rw [if_pos (by omega)]
    have : (a.extract o (o + n)).toList = (a.toList.drop o).take (n * 1) := by simp [List.take_drop]
    rw [this, ← hc, bytesOf_cells]
    rfl
section
variable {w0 w : World} {L : List HP}
end
end Go.Sx

/- Sz10 -/
namespace Go.Sx
open Go.ChangeShapes Go.WideShapes Go.RowKit
section
variable {H : Type} {enc : TypeId × Value → H} {P : Program} {w : World} {base : Nat} {held : Bool}
end
theorem on0_mk {p : Prop} (h : p) : on0 p [] := h
theorem on1_mk {p : Value → Prop} {a : Value} (h : p a) : on1 p [a] := h
theorem on2_mk {p : Value → Value → Prop} {a b : Value} (h : p a b) : on2 p [a, b] := h
theorem on3_mk {p : Value → Value → Value → Prop} {a b c : Value} (h : p a b c) : on3 p [a, b, c] := h
end Go.Sx

/- Sz11 -/
namespace Go.Sx
inductive Rep (A B : HP) : List HP → List HP → Prop
  | here {L : List HP} : Rep A B (A :: L) (B :: L)
  | there {X : HP} {L L' : List HP} : Rep A B L L' → Rep A B (X :: L) (X :: L')
inductive Fnt (A : HP) : List HP → List HP → Prop
  | here {L : List HP} : Fnt A (A :: L) L
  | there {X : HP} {L M : List HP} : Fnt A L M → Fnt A (X :: L) (X :: M)
inductive Get : List HP → List HP → Prop
  | done {L : List HP} : Get L L
  | skip {X : HP} {L L' : List HP} : Get L L' → Get (X :: L) L'
  | pick {A : HP} {L M L' : List HP} : Fnt A L M → Get M L' → Get L (A :: L')
theorem Fnt.perm {A : HP} {L M : List HP} (f : Fnt A L M) : L.Perm (A :: M) := by
  induction f with
  | here => exact .refl _
  | there _ ih => exact (ih.cons _).trans (.swap _ _ _)
theorem Rep.split {A B : HP} {L L' : List HP} (r : Rep A B L L') : ∃ M, L.Perm (A :: M) ∧ (B :: M).Perm L' := by
  induction r with
  | here => exact ⟨_, .refl _, .refl _⟩
  | there _ ih => obtain ⟨M, h1, h2⟩ := ih; exact ⟨_ :: M, (h1.cons _).trans (.swap _ _ _), (List.Perm.swap _ _ _).trans (h2.cons _)⟩
class Nth (l : List Value) (i : Nat) (v : outParam Value) : Prop where
  get : l[i]? = some v
instance {a : Value} {l : List Value} : Nth (a :: l) 0 a := ⟨rfl⟩
instance {a b : Value} {l : List Value} {n : Nat} [h : Nth l n a] : Nth (b :: l) (n + 1) a := ⟨by simpa using h.get⟩
class Upd (l : List Value) (i : Nat) (y : Value) (l' : outParam (List Value)) : Prop where
  lt : i < l.length
  eq : l.set i y = l'
instance {a y : Value} {l : List Value} : Upd (a :: l) 0 y (y :: l) := ⟨by simp, rfl⟩
instance {y b : Value} {l l' : List Value} {n : Nat} [h : Upd l n y l'] : Upd (b :: l) (n + 1) y (b :: l') := ⟨by simpa using h.lt, by simp [h.eq]⟩
class Part (l : List Value) (o n : Nat) (l' : outParam (List Value)) : Prop where
  le : o + n ≤ l.length
  eq : (l.drop o).take n = l'
instance {l : List Value} : Part l 0 0 [] := ⟨by simp, by simp⟩
instance {a : Value} {l l' : List Value} {n : Nat} [h : Part l 0 n l'] : Part (a :: l) 0 (n + 1) (a :: l') := ⟨by have := h.le; simp; omega, by simpa using h.eq⟩
instance {a : Value} {l l' : List Value} {o n : Nat} [h : Part l o n l'] : Part (a :: l) (o + 1) n l' := ⟨by have := h.le; simp; omega, by simpa using h.eq⟩
theorem Part.all (l : List Value) : Part l 0 l.length l := ⟨by simp, by simp⟩
class Ups (l : List Value) (o : Nat) (ys : List Value) (l' : outParam (List Value)) : Prop where
  le : o + ys.length ≤ l.length
  eq : l.take o ++ (ys ++ l.drop (o + ys.length)) = l'
instance {l : List Value} : Ups l 0 [] l := ⟨by simp, by simp⟩
instance {a y : Value} {l ys l' : List Value} [h : Ups l 0 ys l'] : Ups (a :: l) 0 (y :: ys) (y :: l') := ⟨by have := h.le; simp at *; omega, by simpa using h.eq⟩
instance {a : Value} {l ys l' : List Value} {o : Nat} [h : Ups l o ys l'] : Ups (a :: l) (o + 1) ys (a :: l') := ⟨by have := h.le; simp; omega, by rw [Nat.add_right_comm]; simpa using h.eq⟩
theorem Ups.all {l ys : List Value} (h : l.length = ys.length) : Ups l 0 ys ys := ⟨by omega, by simp; omega⟩
class CellIn (p : Nat) (l : outParam (List Value)) (ty : outParam TypeId) (L : List HP) : Prop where
  mem : Cl p l.toArray ty ∈ L
instance {p : Nat} {l : List Value} {ty : TypeId} {L : List HP} : CellIn p l ty (Cl p l.toArray ty :: L) := ⟨.head _⟩
instance (priority := low) {p : Nat} {l : List Value} {ty : TypeId} {X : HP} {L : List HP} [h : CellIn p l ty L] : CellIn p l ty (X :: L) := ⟨.tail _ h.mem⟩
class Rp (p : Nat) (l' : List Value) (l : outParam (List Value)) (ty : outParam TypeId) (L : List HP) (L' : outParam (List HP)) : Prop where
  rep : Rep (Cl p l.toArray ty) (Cl p l'.toArray ty) L L'
instance {p : Nat} {l l' : List Value} {ty : TypeId} {L : List HP} : Rp p l' l ty (Cl p l.toArray ty :: L) (Cl p l'.toArray ty :: L) := ⟨.here⟩
instance (priority := low) {p : Nat} {l l' : List Value} {ty : TypeId} {X : HP} {L L' : List HP} [h : Rp p l' l ty L L'] : Rp p l' l ty (X :: L) (X :: L') := ⟨.there h.rep⟩
class LsIn (v : Value) (L : List HP) (α : outParam Type) (f : outParam (α → List Value)) (es : outParam Nat) (ty : outParam TypeId) (l : outParam (List α)) : Prop where
  fnt : ∃ M, Fnt (LsH f es ty v l) L M
instance {v : Value} {L : List HP} {α : Type} {f : α → List Value} {es : Nat} {ty : TypeId} {l : List α} : LsIn v (LsH f es ty v l :: L) α f es ty l := ⟨_, .here⟩
instance (priority := low) {v : Value} {X : HP} {L : List HP} {α : Type} {f : α → List Value} {es : Nat} {ty : TypeId} {l : List α} [h : LsIn v L α f es ty l] : LsIn v (X :: L) α f es ty l := ⟨h.fnt.elim fun M h => ⟨X :: M, .there h⟩⟩
class CodC {α : Type} (f : α → List Value) (es : outParam Nat) : Prop where
  cod : Cod f es
class SameC (w w' : World) : Prop where
  same : Same w w'
instance {w : World} : SameC w w := ⟨.refl _⟩
instance {w w' : World} [h : SameC w w'] : SameC w w'.drew := ⟨h.same.trans (.drew _)⟩
def elF (es : Nat) (v : Value) (i : Int) (k : Nat) : Value := (pFieldAddr k (elP es v i)).getD undef
section
variable {w0 w : World} {L L' M : List HP} {A B : HP} {k : Value → Prop} {K : Value → World → Prop}
theorem Sat.front (h : Sat w0 L w) (f : Fnt A L M) : Sat w0 (A :: M) w := h.perm f.perm
theorem Sat.get (h : Sat w0 L w) (g : Get L L') : Sat w0 L' w := by
  obtain ⟨hf, hh, h1, h2⟩ := h
  have key : ∀ {L L' : List HP}, Get L L' → ∀ {a : Hp}, SepL L a → ∃ b, SepL L' b ∧ ∀ i o, b i = some o → a i = some o := by
    intro L L' g
    induction g with
    | done => exact fun h => ⟨_, h, fun _ _ h => h⟩
    | skip _ ih =>
      intro a h
      obtain ⟨b, hb, h3⟩ := h.drop
      obtain ⟨c, hc, h4⟩ := ih hb
      exact ⟨c, hc, fun i o h => h3 i o (h4 i o h)⟩
    | pick f _ ih =>
      intro a h
      obtain ⟨x, y, hd, rfl, hP, hL⟩ := h.perm f.perm
      obtain ⟨c, hc, h4⟩ := ih hL
      refine ⟨hOr x c, ⟨x, c, fun i o hx => ?_, rfl, hP, hc⟩, fun i o h => ?_⟩
      · cases hci : c i with
        | none => rfl
        | some z => have h6 := h4 i z hci; rw [hd i o hx] at h6; cases h6
      · unfold hOr at h
        cases hx : x i with
        | some z => rw [hx] at h; simp at h; subst h; exact hOr_l hx
        | none => rw [hx] at h; simp at h; exact hOr_r hd (h4 i o h)
  obtain ⟨b, hb, h3⟩ := key g h1
  exact ⟨hf, b, hb, fun i o h => h2 i o (h3 i o h)⟩
theorem Sat.mem {b : Nat} {o : Obj} (h : Sat w0 L w) (hm : Blk b o ∈ L) : w.heap[b]? = some o := by
  obtain ⟨X, Y, rfl⟩ := List.append_of_mem hm
  exact (h.perm List.perm_middle).blk
theorem Sat.memc {b : Nat} {c : Array Value} {ty : TypeId} (h : Sat w0 L w) (hm : Cl b c ty ∈ L) : w.heap[b]? = some (.cells c ty (0, 0)) := h.mem hm
theorem Sat.rep {w' : World} (h : Sat w0 L w) (r : Rep A B L L') (f : ∀ M, Sat w0 (A :: M) w → Sat w0 (B :: M) w') : Sat w0 L' w' := by
  obtain ⟨M, h1, h2⟩ := r.split
  exact (f M (h.perm h1)).perm h2
theorem go_cell {p i : Nat} {c : Array Value} {ty : TypeId} {v : Value} (h : Sat w0 L w) (hm : Cl p c ty ∈ L) (hc : c[i]? = some v) : w.cell? ⟨p, i, none⟩ = some v := by
  rw [cell_of (h.memc hm), hc]
theorem ld1_cells {p i : Nat} {l : List Value} {ty : TypeId} {v : Value} {w1 : World} (h : Sat w0 L w) [e : SameC w w1] [hm : CellIn p l ty L] [hc : Nth l i v] : ld1 (.pointer (some ⟨p, i, none⟩)) w1 = some v := by
  rw [ld1_ptr]; exact go_cell (h.to e.same) hm.mem (by rw [List.getElem?_toArray]; exact hc.get)
theorem ld_part {p o n : Nat} {l l' : List Value} {ty : TypeId} {w1 : World} (h : Sat w0 L w) (e : Same w w1) (hm : Cl p l.toArray ty ∈ L) (hc : Part l o n l') : ldN n (.pointer (some ⟨p, o, none⟩)) w1 = some (.agg l'.toArray) := by
  rw [ldN_of ((h.to e).memc hm) (by simpa using hc.le)]
  congr 2
  apply Array.ext'
  rw [Array.toList_extract, List.extract_eq_take_drop]
  simpa using hc.eq
theorem go_some {o : Option Value} {v : Value} (h : o = some v) (hk : k v) : bindP o k := by rw [h, bindP_some]; exact hk
theorem go_ld1 {p i : Nat} {l : List Value} {ty : TypeId} {v : Value} {w1 : World} (h : Sat w0 L w) [SameC w w1] [CellIn p l ty L] [Nth l i v] (hk : k v) : bindP (ld1 (.pointer (some ⟨p, i, none⟩)) w1) k :=
  go_some (ld1_cells h) hk
theorem go_ldN {p o n : Nat} {l l' : List Value} {ty : TypeId} {w1 : World} (h : Sat w0 L w) [e : SameC w w1] [hm : CellIn p l ty L] [hc : Part l o n l'] (hk : k (.agg l'.toArray)) : bindP (ldN n (.pointer (some ⟨p, o, none⟩)) w1) k :=
  go_some (ld_part h e.same hm.mem hc) hk
theorem go_ldA {p n : Nat} {l : List Value} {ty : TypeId} {w1 : World} (h : Sat w0 L w) [e : SameC w w1] [hm : CellIn p l ty L] (hc : l.length = n) (hk : k (.agg l.toArray)) : bindP (ldN n (.pointer (some ⟨p, 0, none⟩)) w1) k :=
  go_some (ld_part h e.same hm.mem (hc ▸ Part.all l)) hk
theorem go_st {p i : Nat} {l l' m : List Value} {ty ty' : TypeId} {y : Value} [OneV y] {k : World → Prop} {w1 : World} (h : Sat w0 L w) [e : SameC w w1] [hm : CellIn p l ty L] [hc : Upd l i y l'] [r : Rp p l' m ty' L L']
    (hk : ∀ w', Sat w0 L' w' → k w') : bindW (st 1 (.pointer (some ⟨p, i, none⟩)) y w1) k := by
  have h := h.to e.same
  have hb := h.memc hm.mem
  rw [st_at hb y (by simpa using hc.lt)]
  rw [bindW_some]
  refine hk _ (h.rep r.rep fun M h => ?_)
  have h2 := h.cl
  rw [hb] at h2
  simp only [Option.some.injEq, Obj.cells.injEq, and_true] at h2
  obtain ⟨e1, rfl⟩ := h2
  obtain rfl : l = m := by simpa using congrArg Array.toList e1
  rw [List.setIfInBounds_toArray, hc.eq]; exact h.setc _
theorem go_stW {p o n : Nat} {l ys l' m : List Value} {ty ty' : TypeId} {k : World → Prop} {w1 : World} (h : Sat w0 L w) (e : Same w w1) (hm : Cl p l.toArray ty ∈ L) (hn : ys.length = n) (h1 : ys.all (·.oneCell') = true) (hc : Ups l o ys l') (r : Rep (Cl p m.toArray ty') (Cl p l'.toArray ty') L L')
    (hk : ∀ w', Sat w0 L' w' → k w') : bindW (st n (.pointer (some ⟨p, o, none⟩)) (.agg ys.toArray) w1) k := by
  have h := h.to e
  have hb := h.memc hm
  have hle := hc.le
  rw [st_cells hb (by simpa using hn) (by simpa using h1) (by simp; omega), bindW_some]
  refine hk _ (h.rep r fun M h => ?_)
  have h2 := h.cl
  rw [hb] at h2
  simp only [Option.some.injEq, Obj.cells.injEq, and_true] at h2
  obtain ⟨e1, rfl⟩ := h2
  obtain rfl : l = m := by simpa using congrArg Array.toList e1
  have e : wr l.toArray o (Value.agg ys.toArray).cells.toList = l'.toArray := by
    apply Array.ext'
    rw [wr_toList _ _ _ (by simp; omega)]
    simpa using hc.eq
  rw [e]; exact h.setc _
theorem go_stN {p o n : Nat} {l ys l' m : List Value} {ty ty' : TypeId} {k : World → Prop} {w1 : World} (h : Sat w0 L w) [e : SameC w w1] [hm : CellIn p l ty L] [hc : Ups l o ys l'] [r : Rp p l' m ty' L L'] (hn : ys.length = n) (h1 : ys.all (·.oneCell') = true)
    (hk : ∀ w', Sat w0 L' w' → k w') : bindW (st n (.pointer (some ⟨p, o, none⟩)) (.agg ys.toArray) w1) k :=
  go_stW h e.same hm.mem hn h1 hc r.rep hk
theorem go_stA {p n : Nat} {l ys m : List Value} {ty ty' : TypeId} {k : World → Prop} {w1 : World} (h : Sat w0 L w) [e : SameC w w1] [hm : CellIn p l ty L] [r : Rp p ys m ty' L L'] (hl : l.length = n) (hn : ys.length = n) (h1 : ys.all (·.oneCell') = true)
    (hk : ∀ w', Sat w0 L' w' → k w') : bindW (st n (.pointer (some ⟨p, 0, none⟩)) (.agg ys.toArray) w1) k :=
  go_stW h e.same hm.mem hn h1 (Ups.all (by omega)) r.rep hk
theorem go_box {t : TypeId} {v : Value} {l : List Value} {w1 : World} (h : Sat w0 L w) [e : SameC w w1] (hc : v.cells = l.toArray) (hK : ∀ p w', Sat w0 (Cl p l.toArray t :: L) w' → K (.pointer (some ⟨p, 0, none⟩)) w') : eBox t v w1 K := by
  refine eBox_sat (h.to e.same) fun p w' h' => hK p w' ?_
  rw [← hc]; exact h'
theorem go_alloc {Pg : Program} {t : TypeId} {z : Value} {l : List Value} {w1 : World} (h : Sat w0 L w) [e : SameC w w1] (hz : fZero Pg t = some z) (hc : z.cells = l.toArray) (hK : ∀ p w', Sat w0 (Cl p l.toArray t :: L) w' → K (.pointer (some ⟨p, 0, none⟩)) w') : eAlloc Pg t w1 K := by
  refine eAlloc_sat (h.to e.same) hz fun p w' h' => hK p w' ?_
  rw [← hc]; exact h'
theorem go_rd {p i : Nat} {l : List Value} {ty : TypeId} {v v' : Value} {X : Prop} {w1 : World} (h : Sat w0 L w) [e : SameC w w1] [hm : CellIn p l ty L] [hc : Nth l i v] (hv : v = v') (hX : X) : fok true (ld1 (.pointer (some ⟨p, i, none⟩)) w1) v' ∧ X := by
  subst hv
  exact ⟨by rw [fok_true]; exact ld1_cells h, hX⟩
theorem go_rdN {p o n : Nat} {l l' : List Value} {ty : TypeId} {v' : Value} {X : Prop} {w1 : World} (h : Sat w0 L w) [e : SameC w w1] [hm : CellIn p l ty L] [hc : Part l o n l'] (hv : .agg l'.toArray = v') (hX : X) : fok true (ldN n (.pointer (some ⟨p, o, none⟩)) w1) v' ∧ X := by
  subst hv
  exact ⟨by rw [fok_true]; exact ld_part h e.same hm.mem hc, hX⟩
theorem go_look1 {Pg : Program} {κ ν : Type} [DecidableEq κ] {ek : κ → Value} {ev : ν → Value} {v : Value} {m : List (κ × ν)} {kt t et : TypeId} {z : Value} {w1 : World} (h : Sat w0 L w) [e : SameC w w1] (hm : Fnt (MapH ek ev v m) L M) (T : KeyT Pg kt ek)
    (hu : Pg.underlying t = some (.map kt et)) (hz : fZero Pg et = some z) (q : κ) (hk : k ((aGet q m).elim z ev)) : bindP (fLook Pg t v (ek q) false w1) k :=
  go_some (look1 ((h.to e.same).front hm) T hu hz q) hk
theorem go_look2 {Pg : Program} {κ ν : Type} [DecidableEq κ] {ek : κ → Value} {ev : ν → Value} {v : Value} {m : List (κ × ν)} {kt t et : TypeId} {z : Value} {w1 : World} (h : Sat w0 L w) [e : SameC w w1] (hm : Fnt (MapH ek ev v m) L M) (T : KeyT Pg kt ek)
    (hu : Pg.underlying t = some (.map kt et)) (hz : fZero Pg et = some z) (q : κ) (hk : k (.tuple #[(aGet q m).elim z ev, .bool (aGet q m).isSome])) : bindP (fLook Pg t v (ek q) true w1) k :=
  go_some (look2 ((h.to e.same).front hm) T hu hz q) hk
theorem ls_of {α : Type} {f : α → List Value} {es : Nat} {ty : TypeId} {v : Value} {l : List α} {w1 : World} (h : Sat w0 L w) (e : Same w w1) (m : LsIn v L α f es ty l) : Rd w1 es v l.length (l.flatMap f) := by
  obtain ⟨M, hm⟩ := m.fnt
  exact ls_rd ((h.to e).front hm)
theorem rd_fa {α : Type} {f : α → List Value} {es i j : Nat} {v : Value} {l : List α} (C : Cod f es) (h : Rd w es v l.length (l.flatMap f)) (hi : i < l.length) (hj : j < es) : pFieldAddr j (elP es v i) = some (elF es v i j) := by
  obtain ⟨a, h1, _⟩ := rd_fld C h hi hj
  unfold elF; rw [h1]; rfl
theorem rd_f1 {α : Type} {f : α → List Value} {es i j : Nat} {v x : Value} {l : List α} (C : Cod f es) (h : Rd w es v l.length (l.flatMap f)) (hi : i < l.length) (hx : Nth (f l[i]) j x) : ld1 (elF es v i j) w = some x := by
  have hj : j < es := by
    have := (List.getElem?_eq_some_iff.1 hx.get).1
    rwa [C.len] at this
  obtain ⟨a, h1, h2⟩ := rd_fld C h hi hj
  have : elF es v i j = .pointer (some a) := by unfold elF; rw [h1]; rfl
  rw [this, ld1_ptr, h2, hx.get]
theorem go_lenL {α : Type} {f : α → List Value} {es : Nat} {ty : TypeId} {v : Value} {l : List α} (h : Sat w0 L w) [m : LsIn v L α f es ty l] (hk : k (.int .i64 l.length)) : bindP (lenL v) k :=
  go_some (ls_of h (.refl _) m).len hk
theorem go_ix {α : Type} {f : α → List Value} {es i : Nat} {ty : TypeId} {v : Value} {l : List α} (h : Sat w0 L w) [m : LsIn v L α f es ty l] (hi : i < l.length) (hk : k (elP es v i)) : bindP (pIndexL es v (.int .i64 i)) k :=
  go_some (ix_el (ls_of h (.refl _) m) hi) hk
theorem go_elN {α : Type} {f : α → List Value} {es i : Nat} {ty : TypeId} {v : Value} {l : List α} {w1 : World} (h : Sat w0 L w) [e : SameC w w1] [m : LsIn v L α f es ty l] [C : CodC f es] (hi : i < l.length) (hk : k (.agg (f l[i]).toArray)) : bindP (ldN es (elP es v i) w1) k :=
  go_some (rd_ld C.cod (ls_of h e.same m) hi) hk
theorem go_fa {α : Type} {f : α → List Value} {es i j : Nat} {ty : TypeId} {v : Value} {l : List α} (h : Sat w0 L w) [m : LsIn v L α f es ty l] [C : CodC f es] (hi : i < l.length) (hj : j < es) (hk : k (elF es v i j)) : bindP (pFieldAddr j (elP es v i)) k :=
  go_some (rd_fa C.cod (ls_of h (.refl _) m) hi hj) hk
theorem go_f1 {α : Type} {f : α → List Value} {es i j : Nat} {ty : TypeId} {v x : Value} {l : List α} {w1 : World} (h : Sat w0 L w) [e : SameC w w1] [m : LsIn v L α f es ty l] [C : CodC f es] (hi : i < l.length) (hx : Nth (f l[i]) j x) (hk : k x) : bindP (ld1 (elF es v i j) w1) k :=
  go_some (rd_f1 C.cod (ls_of h e.same m) hi hx) hk
theorem go_rf1 {α : Type} {f : α → List Value} {es i j : Nat} {ty : TypeId} {v x x' : Value} {l : List α} {X : Prop} {w1 : World} (h : Sat w0 L w) [e : SameC w w1] [m : LsIn v L α f es ty l] [C : CodC f es] (hi : i < l.length) (hx : Nth (f l[i]) j x) (hv : x = x') (hX : X) : fok true (ld1 (elF es v i j) w1) x' ∧ X := by
  subst hv
  exact ⟨by rw [fok_true]; exact rd_f1 C.cod (ls_of h e.same m) hi hx, hX⟩
theorem go_rel {α : Type} {f : α → List Value} {es i : Nat} {ty : TypeId} {v x' : Value} {l : List α} {X : Prop} {w1 : World} (h : Sat w0 L w) [e : SameC w w1] [m : LsIn v L α f es ty l] [C : CodC f es] (hi : i < l.length) (hv : .agg (f l[i]).toArray = x') (hX : X) : fok true (ldN es (elP es v i) w1) x' ∧ X := by
  subst hv
  exact ⟨by rw [fok_true]; exact rd_ld C.cod (ls_of h e.same m) hi, hX⟩
theorem go_rlen {α : Type} {f : α → List Value} {es : Nat} {ty : TypeId} {v x' : Value} {l : List α} {X : Prop} (h : Sat w0 L w) [m : LsIn v L α f es ty l] (hv : .int .i64 l.length = x') (hX : X) : fok true (lenL v) x' ∧ X := by
  subst hv
  exact ⟨by rw [fok_true]; exact (ls_of h (.refl _) m).len, hX⟩
theorem bAdd_i64 {a b : Int} (h : -9223372036854775808 ≤ a + b ∧ a + b ≤ 9223372036854775807) : bAdd (.int .i64 a) (.int .i64 b) = some (.int .i64 (a + b)) := by rw [bAdd_int, wrap_id h]
theorem bSub_i64 {a b : Int} (h : -9223372036854775808 ≤ a - b ∧ a - b ≤ 9223372036854775807) : bSub (.int .i64 a) (.int .i64 b) = some (.int .i64 (a - b)) := by rw [bSub_int, wrap_id h]
theorem pMin_int {j : IntKind} {a b : Int} : pMin (.int j a) (.int j b) = some (.int j (min a b)) := by
  simp only [pMin]; congr 2; rw [Int.min_def]; split <;> split <;> omega
theorem pMax_int {j : IntKind} {a b : Int} : pMax (.int j a) (.int j b) = some (.int j (max a b)) := by
  simp only [pMax]; congr 2; rw [Int.max_def]; split <;> split <;> omega
end
theorem evA : (∀ (v : Value) (k : Value → Prop), bindP (some v) k = k v) ∧ (∀ (o : Option Value) (k : Value → Prop), Sx.stepG true o k = bindP o k) ∧ (∀ (o : Option Value) (k : Value → Prop), Sx.stepG false o k = k undef) ∧
    (∀ (v : Value) (k : Value → Prop), stepM true v k = k v) ∧ (∀ (v : Value) (k : Value → Prop), stepM false v k = k undef) ∧
    (∀ (E : (Value → World → Prop) → Prop) (w : World) (K : Value → World → Prop), stepE true E w K = E K) ∧ (∀ (E : (Value → World → Prop) → Prop) (w : World) (K : Value → World → Prop), stepE false E w K = K undef w) ∧
    (∀ (w : World) (q : World → Prop), bindW (some w) q = q w) ∧ (∀ a b : Prop, ifB (.bool true) a b = a) ∧ (∀ a b : Prop, ifB (.bool false) a b = b) ∧ (∀ b : Bool, gd true (.bool b) = b) ∧ (∀ b : Bool, gd false (.bool b) = !b) ∧
    (∀ a b : Value, pPick (.bool true) a b = some a) ∧ (∀ a b : Value, pPick (.bool false) a b = some b) ∧ (∀ a : Addr, pNil (.pointer (some a)) = some (.pointer (some a))) ∧ (∀ off b o : Nat, pFieldAddr off (.pointer (some ⟨b, o, none⟩)) = some (.pointer (some ⟨b, o + off, none⟩))) ∧
    (∀ b : Bool, uNot (.bool b) = some (.bool !b)) ∧ (∀ b : Bool, gd b undef = false) :=
  ⟨fun _ _ => bindP_some _, fun _ _ => stepG_true _, fun _ _ => stepG_false _, fun _ _ => stepM_true _, fun _ _ => stepM_false _, fun _ _ _ => stepE_true _, fun _ _ _ => stepE_false _, fun _ _ => bindW_some _, fun _ _ => ifB_true, fun _ _ => ifB_false, gd_true, gd_false, pPick_true, pPick_false, pNil_ptr, pFieldAddr_ptr, uNot_bool, fun b => by cases b <;> rfl⟩
theorem evB : (∀ j (a b : Int), bLt (.int j a) (.int j b) = some (.bool (a < b))) ∧ (∀ j (a b : Int), bLe (.int j a) (.int j b) = some (.bool (a ≤ b))) ∧ (∀ j (a b : Int), bGt (.int j a) (.int j b) = some (.bool (a > b))) ∧ (∀ j (a b : Int), bGe (.int j a) (.int j b) = some (.bool (a ≥ b))) ∧
    (∀ P t x y j (a b : Int), bEq P t x y (.int j a) (.int j b) = some (.bool (decide (a = b)))) ∧ (∀ P t x y j (a b : Int), bNe P t x y (.int j a) (.int j b) = some (.bool (!decide (a = b)))) ∧
    (∀ P t x y (a b : ByteArray), bEq P t x y (.string a) (.string b) = some (.bool (decide (a = b)))) ∧ (∀ P t x y (a b : ByteArray), bNe P t x y (.string a) (.string b) = some (.bool (!decide (a = b)))) ∧
    (∀ (l : List Value) i, pTuple (.tuple l.toArray) i = l[i]?) ∧ (∀ (a : Value) (l : List Value), (a :: l)[0]? = some a) ∧ (∀ (a : Value) (l : List Value) i, (a :: l)[i + 1]? = l[i]?) ∧
    (∀ a n c, lenL (.slice a n c) = some (.int .i64 (n : Nat))) ∧ (∀ s : ByteArray, lenS (.string s) = some (.int .i64 s.size)) ∧ (∀ l : List UInt8, (bs l).size = l.length) ∧ (∀ j (a b : Int), pMin (.int j a) (.int j b) = some (.int j (min a b))) ∧ (∀ j (a b : Int), pMax (.int j a) (.int j b) = some (.int j (max a b))) ∧
    (∀ l : List UInt8, ByteArray.mk l.toArray = bs l) ∧ (∀ a b : List UInt8, (bs a = bs b) = (a = b)) ∧
    (∀ v w, ld1 v w.drew = ld1 v w) ∧ (∀ n v w, ldN n v w.drew = ldN n v w) ∧ (∀ v w, lenM v w.drew = lenM v w) ∧ (∀ v w, cBytes v w.drew = cBytes v w) ∧ (∀ P t m k b w, fLook P t m k b w.drew = fLook P t m k b w) ∧ (∀ v, fok true (some v) v = True) :=
  ⟨bLt_int, bLe_int, bGt_int, bGe_int, fun _ _ _ _ => bEq_int, fun _ _ _ _ => bNe_int, fun _ _ _ _ _ _ => by rw [bEq_str, bs_beq], fun _ _ _ _ _ _ => by rw [bNe_str, bs_beq], pTuple_mk, fun _ _ => List.getElem?_cons_zero, fun _ _ _ => List.getElem?_cons_succ, lenL_mk, lenS_mk, bs_size, fun _ _ _ => pMin_int, fun _ _ _ => pMax_int, mk_bs, fun _ _ => by rw [bs_inj], fun _ _ => rfl, fun _ _ _ => rfl, fun _ _ => rfl, fun _ _ => rfl, fun _ _ _ _ _ _ => rfl, fun _ => by rw [fok_true]; simp⟩
theorem evC : (∀ p, ptr p = .pointer (some ⟨p, 0, none⟩)) ∧ (∀ n : Nat, 0 + n = n) ∧ ((!true) = false) ∧ ((!false) = true) ∧ (∀ (α : Type) (a : α), (some a).isNone = false) ∧ (∀ α : Type, (none : Option α).isNone = true) ∧ (∀ (α : Type) (a : α), (some a).isSome = true) ∧ (∀ α : Type, (none : Option α).isSome = false) ∧
    (∀ [i : Decidable True], @decide True i = true) ∧ (∀ [i : Decidable False], @decide False i = false) ∧ (∀ (α : Type) (a : α), (a = a) = True) ∧ (∀ p : Prop, (True ∧ p) = p) ∧ (∀ a b c : Prop, ((a ∧ b) ∧ c) = (a ∧ b ∧ c)) :=
  ⟨fun _ => rfl, Nat.zero_add, rfl, rfl, fun _ _ => rfl, fun _ => rfl, fun _ _ => rfl, fun _ => rfl, fun {_} => by simp, fun {_} => by simp, fun _ _ => by simp, fun _ => by simp, fun _ _ _ => propext and_assoc⟩
theorem Sat.frt {A : HP} {w0 w : World} {L M : List HP} (h : Sat w0 L w) (f : Fnt A L M := by repeat (first | exact .here | apply Fnt.there)) : Sat w0 (A :: M) w := h.front f
theorem Sat.got {w0 w : World} {L L' : List HP} (h : Sat w0 L w) (g : Get L L' := by repeat (first | exact .done | (refine .pick (by repeat (first | exact .here | apply Fnt.there)) ?_) | refine .skip ?_)) : Sat w0 L' w := h.get g
end Go.Sx

/- Sz12 -/
namespace Go.Sx
open Go.ChangeShapes Go.WideShapes Go.RowKit
inductive CK2 where
  | int (k : IntKind)
  | str
  | bool
  | sl (es : Nat) (ks : List CK2)
mutual
def Fit2 (w : World) (B : Nat) : CK2 → Value → Prop
  | .int k, v => ∃ n, v = .int k n ∧ (Lit.int k n).wf = true
  | .str, v => ∃ s, v = .string s ∧ s.size ≤ B
  | .bool, v => ∃ b, v = .bool b
  | .sl es ks, v => ∃ n cs, Rd w es v n cs ∧ n ≤ B ∧ ∀ i, i < n → FitL2 w B ks ((cs.drop (i * es)).take es)
def FitL2 (w : World) (B : Nat) : List CK2 → List Value → Prop
  | [], vs => vs = []
  | c :: cs, vs => ∃ v r, vs = v :: r ∧ Fit2 w B c v ∧ FitL2 w B cs r
end
section
variable {w : World} {B : Nat}
theorem FitL2.append : ∀ {a b : List CK2} {x y : List Value}, FitL2 w B a x → FitL2 w B b y → FitL2 w B (a ++ b) (x ++ y)
  | [], _, x, _, h, h' => by simp only [FitL2] at h; subst h; exact h'
  | _ :: _, _, x, _, h, h' => by
    simp only [FitL2] at h
    obtain ⟨v, r, rfl, h1, h2⟩ := h
    simp only [List.cons_append, FitL2]
    exact ⟨v, _, rfl, h1, h2.append h'⟩
theorem FitL2.length : ∀ {a : List CK2} {x : List Value}, FitL2 w B a x → x.length = a.length
  | [], x, h => by simp only [FitL2] at h; subst h; rfl
  | _ :: _, x, h => by
    simp only [FitL2] at h
    obtain ⟨v, r, rfl, _, h2⟩ := h
    simp [h2.length]
theorem fitL2_nil {cs : List Value} (h : FitL2 w B [] cs) : cs = [] := by simpa only [FitL2] using h
theorem fitL2_int {k : IntKind} {ks : List CK2} {cs : List Value} (h : FitL2 w B (.int k :: ks) cs) : ∃ (n : Int) (vs : List Value), cs = .int k n :: vs ∧ (Lit.int k n).wf = true ∧ FitL2 w B ks vs := by
  simp only [FitL2, Fit2] at h
  obtain ⟨v, r, rfl, ⟨n, rfl, hn⟩, h2⟩ := h
  exact ⟨n, r, rfl, hn, h2⟩
theorem fitL2_sl {es : Nat} {k ks : List CK2} {cs : List Value} (h : FitL2 w B (.sl es k :: ks) cs) : ∃ (v : Value) (vs : List Value), cs = v :: vs ∧ (∃ n ds, Rd w es v n ds ∧ n ≤ B ∧ ∀ i, i < n → FitL2 w B k ((ds.drop (i * es)).take es)) ∧ FitL2 w B ks vs := by
  simp only [FitL2, Fit2] at h
  obtain ⟨v, r, rfl, h1, h2⟩ := h
  exact ⟨v, r, rfl, h1, h2⟩
end
def scal2F (P : Program) (r : TypeId → Option (List CK2)) : List Field → Nat → Option (List CK2)
  | [], _ => some []
  | f :: fs, off => match f.offset == off, r f.type with
    | true, some ks => match ks.length == P.cellsOf f.type, scal2F P r fs (off + ks.length) with
      | true, some l => some (ks ++ l)
      | _, _ => none
    | _, _ => none
def repCK2 (ks : List CK2) : Nat → List CK2
  | 0 => []
  | n + 1 => ks ++ repCK2 ks n
def scal2 (P : Program) : Nat → TypeId → Option (List CK2)
  | 0, _ => none
  | d + 1, t => match P.underlying t with
    | some .bool => some [.bool]
    | some (.int k) => some [.int k]
    | some .string => some [.str]
    | some (.slice e) => match scal2 P d e with
      | some ks => if 0 < P.cellsOf e ∧ 0 < P.bytesOf e then some [.sl (P.cellsOf e) ks] else none
      | none => none
    | some (.struct fs) => match scal2F P (scal2 P d) fs.toList 0 with
      | some ks => if ks.length = P.cellsOf t then some ks else none
      | none => none
    | some (.array n e) => match scal2 P d e with
      | some ks => if ks.length = P.cellsOf e ∧ n * ks.length = P.cellsOf t then some (repCK2 ks n) else none
      | none => none
    | _ => none
section
variable {H : Type} {enc : TypeId × Value → H} {P : Program} {w : World} {base : Nat} {held : Bool} {B : Nat}
theorem weightsAll_mem {e : TypeId} : ∀ {l : List (DataW H)} {d : DataW H}, d ∈ l → ∀ n ∈ d.weights P e, n ∈ DataW.weightsAll P e l
  | x :: l, d, hd, n, hn => by
    simp only [DataW.weightsAll, List.mem_append]
    rcases List.mem_cons.1 hd with rfl | hd
    · exact .inl hn
    · exact .inr (weightsAll_mem hd n hn)
  | [], _, hd, _, _ => by simp at hd
theorem scal2F_ok {r : TypeId → Option (List CK2)} {R : TypeId → List Value → Option (DataW H × List MemPlace)} {cs : List Value} (hr : ∀ t ks c x, r t = some ks → R t c = some x → (∀ n ∈ x.1.weights P t, n ≤ B) → FitL2 w B ks c) :
    ∀ (fs : List Field) (off : Nat) (ks : List CK2) (xs : List (DataW H × List MemPlace)), scal2F P r fs off = some ks → fs.mapM (fun f => R f.type ((cs.drop f.offset).take (P.cellsOf f.type))) = some xs →
      (∀ n ∈ DataW.weightsEach P (fs.map (·.type)) (xs.map (·.1)), n ≤ B) → FitL2 w B ks ((cs.drop off).take ks.length) := by
  intro fs
  induction fs with
  | nil => intro off ks xs h _ _; simp [scal2F] at h; subst h; simp [FitL2]
  | cons f fs ih =>
    intro off ks xs h hm hw
    unfold scal2F at h
    split at h
    · rename_i ks1 ho hks
      split at h
      · rename_i l hl hk
        simp only [Option.some.injEq] at h; subst h
        simp only [beq_iff_eq] at ho hl
        simp only [List.mapM_cons, Option.bind_eq_bind, Option.bind_eq_some_iff] at hm
        obtain ⟨x, hx, ys, hys, he⟩ := hm
        simp only [Option.pure_def, Option.some.injEq] at he; subst he
        simp only [List.map_cons, DataW.weightsEach, List.mem_append] at hw
        have f1 := hr _ _ _ _ hks hx fun n hn => hw n (.inl hn)
        have f2 := ih _ _ _ hk hys fun n hn => hw n (.inr hn)
        rw [ho, ← hl] at f1
        have := f1.append f2
        rw [List.length_append, List.take_add, List.drop_drop]
        exact this
      · cases h
    · cases h
theorem rep2_ok {ks : List CK2} {cs : List Value} : ∀ (n o : Nat), (∀ i, i < n → FitL2 w B ks ((cs.drop (o + i * ks.length)).take ks.length)) → FitL2 w B (repCK2 ks n) ((cs.drop o).take (n * ks.length)) := by
  intro n
  induction n with
  | zero => intro o _; simp [repCK2, FitL2]
  | succ n ih =>
    intro o h
    have h0 := h 0 (by omega)
    simp only [Nat.zero_mul, Nat.add_zero] at h0
    have h1 := ih (o + ks.length) fun i hi => by
      have := h (i + 1) (by omega)
      rwa [Nat.add_mul, Nat.one_mul, Nat.add_comm (i * ks.length), ← Nat.add_assoc] at this
    have := h0.append h1
    rw [show (n + 1) * ks.length = ks.length + n * ks.length by rw [Nat.add_mul]; omega, List.take_add, List.drop_drop]
    exact this
theorem mapM_mem {α β : Type} {f : α → Option β} : ∀ {l : List α} {r : List β}, l.mapM f = some r → ∀ x ∈ l, ∃ y ∈ r, f x = some y := by
  intro l
  induction l with
  | nil => intro r _ x hx; simp at hx
  | cons a l ih =>
    intro r h x hx
    simp only [List.mapM_cons, Option.bind_eq_bind, Option.bind_eq_some_iff] at h
    obtain ⟨y, hy, ys, hys, he⟩ := h
    simp only [Option.pure_def, Option.some.injEq] at he; subst he
    rcases List.mem_cons.1 hx with rfl | hx
    · exact ⟨y, by simp, hy⟩
    · obtain ⟨z, hz, h2⟩ := ih hys x hx; exact ⟨z, by simp [hz], h2⟩
theorem rd_of_slice {e : TypeId} {es : Nat} {a : Addr} {len cap m : Nat} {R : Nat → List Value → Prop} (he : P.cellsOf e = es) (hpos : 0 < es) (hlc : len ≤ cap) (hm : m = cap)
    (hel : ∀ i, i < m → ∃ cs', w.cells? base (a.add (i * es)) es = some cs' ∧ R i cs') :
    ∃ cs, Rd w es (.slice (some a) len cap) len cs ∧ ∀ i, i < len → R i ((cs.drop (i * es)).take es) := by
  subst hm
  by_cases hc0 : m = 0
  · have : len = 0 := by omega
    subst this
    exact ⟨[], .emp _ _, fun i hi => by omega⟩
  have cell : ∀ k, k < m * es → ∃ u, w.cell? (a.add k) = some u := by
    intro k hk
    have hi : k / es < m := by rw [Nat.div_lt_iff_lt_mul hpos]; exact hk
    obtain ⟨cs', h1, _⟩ := hel _ hi
    obtain ⟨_, h2, h3⟩ := World.cells?_some h1
    have hm := Nat.mod_lt k hpos
    have h4 := h3 (k % es) hm
    rw [add_add, show k / es * es + k % es = k by rw [Nat.mul_comm]; exact Nat.div_add_mod k es] at h4
    exact ⟨cs'[k % es]'(by omega), by rw [h4, List.getElem?_eq_getElem]⟩
  have hpos2 : 0 < m * es := Nat.mul_pos (by omega) hpos
  obtain ⟨b, o, spot⟩ := a
  have hspot : spot = none ∧ ∃ arr ty fz, w.heap[b]? = some (.cells arr ty fz) := by
    obtain ⟨u, hu⟩ := cell 0 hpos2
    simp only [Addr.add, if_true, World.cell?] at hu
    split at hu
    · rename_i arr ty fz hb'
      cases spot with
      | none => exact ⟨rfl, _, _, _, hb'⟩
      | some s => simp at hu
    · cases hu
  obtain ⟨rfl, arr, ty, fz, hb'⟩ := hspot
  have cell2 : ∀ k, k < m * es → o + k < arr.size := by
    intro k hk
    obtain ⟨u, hu⟩ := cell k hk
    rw [addr_add, cell_of hb'] at hu
    rcases Nat.lt_or_ge (o + k) arr.size with h | h
    · exact h
    · rw [Array.getElem?_eq_none h] at hu; cases hu
  have hsz := cell2 (m * es - 1) (by omega)
  have hle := Nat.mul_le_mul_right es hlc
  refine ⟨_, .blk hb' hlc (by omega) rfl, fun i hi => ?_⟩
  obtain ⟨cs', h1, h2⟩ := hel i (by omega)
  obtain ⟨_, h4, h5⟩ := World.cells?_some h1
  have hi2 : i * es + es ≤ len * es := by
    have := Nat.mul_le_mul_right es (show i + 1 ≤ len by omega)
    rw [Nat.add_mul] at this; omega
  have : (((arr.toList.drop o).take (len * es)).drop (i * es)).take es = cs' := by
    apply List.ext_getElem
    · simp; omega
    · intro j j1 j2
      have := h5 j (by omega)
      rw [addr_add, addr_add, cell_of hb', List.getElem?_eq_getElem j2, Array.getElem?_eq_getElem (cell2 (i * es + j) (by omega) |> fun h => by omega)] at this
      simp only [Option.some.injEq] at this
      rw [← this]
      simp [Nat.add_assoc]
  rw [this]; exact h2
theorem scal2_ok : ∀ (d : Nat) (t : TypeId) (ks : List CK2), scal2 P d t = some ks → ∀ (fuel : Nat) (cs : List Value) (x : DataW H × List MemPlace), DataW.trod enc P w base (fun _ => true) held fuel t cs = some x → (∀ n ∈ x.1.weights P t, n ≤ B) → FitL2 w B ks cs := by
  intro d
  induction d with
  | zero => intro t ks h; simp [scal2] at h
  | succ d ih =>
    intro t ks h fuel cs x hx hw
    cases fuel with
    | zero => simp [DataW.trod] at hx
    | succ fuel =>
    unfold scal2 at h
    split at h
    · rename_i hu
      simp only [Option.some.injEq] at h; subst h
      unfold DataW.trod at hx
      rw [hu] at hx
      split at hx <;> first | (simp_all; done) | (exact (by simp only [FitL2, Fit2]; exact ⟨_, _, rfl, ⟨_, rfl⟩, rfl⟩)) | (rename_i h1; simp at h1)
    · rename_i k hu
      simp only [Option.some.injEq] at h; subst h
      unfold DataW.trod at hx
      rw [hu] at hx
      split at hx
      all_goals first | (rename_i h1; simp at h1; done) | skip
      all_goals first | (simp at hx; done) | skip
      all_goals
        rename_i h1
        simp at h1
        subst h1
        split at hx
        · rename_i h2; obtain ⟨rfl, h3⟩ := h2; simp only [FitL2, Fit2]; exact ⟨_, _, rfl, ⟨_, rfl, h3⟩, rfl⟩
        · simp at hx
    · rename_i hu
      simp only [Option.some.injEq] at h; subst h
      unfold DataW.trod at hx
      rw [hu] at hx
      split at hx
      all_goals first | (rename_i h1; simp at h1; done) | skip
      all_goals first | (simp at hx; done) | skip
      all_goals
        split at hx
        · simp only [Option.some.injEq] at hx; subst hx
          rename_i s _ _
          have := hw s.size (by simp [DataW.weights])
          simp only [FitL2, Fit2]; exact ⟨_, _, rfl, ⟨_, rfl, this⟩, rfl⟩
        · simp at hx
    · rename_i e hu
      split at h
      · rename_i ks' hks
        split at h
        · rename_i hcell
          simp only [Option.some.injEq] at h; subst h
          rcases Go.Deep.open_slice hu hx with ⟨rfl, rfl⟩ | ⟨a, len, cap, m, n, D, Pl, rfl, hb, hlc, hcm, hm, rfl, hel⟩
          · simp only [FitL2, Fit2]
            exact ⟨_, _, rfl, ⟨0, [], .emp _ _, Nat.zero_le _, fun i hi => by omega⟩, rfl⟩
          · simp only [if_true] at hm
            simp only [DataW.weights, hu, List.mem_cons, List.mem_append, List.length_map, List.length_range] at hw
            have hn : len ≤ B := by
              have := hw _ (.inl rfl)
              have h3 := Nat.le_mul_of_pos_right (len + (m - len)) hcell.2
              omega
            obtain ⟨cs, hr, hR⟩ := rd_of_slice (R := fun i cs' => i < len → FitL2 w B ks' cs') rfl hcell.1 hlc hm fun i hi => by
              obtain ⟨cs', h1, h2⟩ := hel i hi
              refine ⟨cs', h1, fun hi2 => ih _ _ hks _ _ _ h2 fun n hn => hw n (.inr (.inl (weightsAll_mem (d := D i) ?_ n hn)))⟩
              exact List.mem_map.2 ⟨i, by simpa using hi2, rfl⟩
            simp only [FitL2, Fit2]
            exact ⟨_, _, rfl, ⟨len, cs, hr, hn, fun i hi => hR i hi hi⟩, rfl⟩
        · cases h
      · cases h
    · rename_i fs hu
      split at h
      · rename_i ks' hks
        split at h
        · rename_i hlen
          simp only [Option.some.injEq] at h; subst h
          have : cs.length = P.cellsOf t ∧ ∃ xs, fs.toList.mapM (fun f => DataW.trod enc P w base (fun _ => true) held fuel f.type ((cs.drop f.offset).take (P.cellsOf f.type))) = some xs ∧ x.1 = .agg (xs.map (·.1)) := by
            unfold DataW.trod at hx
            rw [hu] at hx
            split at hx
            all_goals first | (rename_i h1; simp at h1; done) | skip
            all_goals first | (simp at hx; done) | skip
            all_goals first | exact (‹∀ (fs_1 : Array Field), some (TypeDesc.struct fs) = some (TypeDesc.struct fs_1) → False› fs rfl).elim | skip
            all_goals
              have h1 := ‹some (TypeDesc.struct fs) = some (TypeDesc.struct _)›
              cases h1
              split at hx
              · rename_i hl
                simp only [Option.map_eq_some_iff] at hx
                obtain ⟨xs, hxs, rfl⟩ := hx
                exact ⟨hl, xs, hxs, rfl⟩
              · simp at hx
          obtain ⟨hl, xs, hxs, hx1⟩ := this
          rw [hx1] at hw
          simp only [DataW.weights, hu] at hw
          have := scal2F_ok (R := DataW.trod enc P w base (fun _ => true) held fuel) (fun t ks c x h1 h2 h3 => ih t ks h1 fuel c x h2 h3) fs.toList 0 ks' xs hks hxs hw
          rw [List.drop_zero, List.take_of_length_le (by omega)] at this
          exact this
        · cases h
      · cases h
    · rename_i n e hu
      split at h
      · rename_i ks' hks
        split at h
        · rename_i hlen
          simp only [Option.some.injEq] at h; subst h
          have : cs.length = P.cellsOf t ∧ ∃ xs, (List.range n).mapM (fun i => DataW.trod enc P w base (fun _ => true) held fuel e ((cs.drop (i * P.cellsOf e)).take (P.cellsOf e))) = some xs ∧ x.1 = .agg (xs.map (·.1)) := by
            unfold DataW.trod at hx
            rw [hu] at hx
            split at hx
            all_goals first | (rename_i h1; simp at h1; done) | skip
            all_goals first | (simp at hx; done) | skip
            all_goals first | exact (‹∀ (n_1 : Nat) (e_1 : TypeId), some (TypeDesc.array n e) = some (TypeDesc.array n_1 e_1) → False› n e rfl).elim | skip
            all_goals
              have h1 := ‹some (TypeDesc.array n e) = some (TypeDesc.array _ _)›
              cases h1
              split at hx
              · rename_i hl
                simp only [Option.map_eq_some_iff] at hx
                obtain ⟨xs, hxs, rfl⟩ := hx
                exact ⟨hl, xs, hxs, rfl⟩
              · simp at hx
          obtain ⟨hl, xs, hxs, hx1⟩ := this
          rw [hx1] at hw
          simp only [DataW.weights, hu] at hw
          have := rep2_ok (w := w) (B := B) (ks := ks') (cs := cs) n 0 fun i hi => by
            obtain ⟨y, hym, hy⟩ := mapM_mem hxs i (by simpa using hi)
            have := ih _ _ hks _ _ _ hy fun n hn => hw n (weightsAll_mem (List.mem_map.2 ⟨y, hym, rfl⟩) n hn)
            rw [Nat.zero_add, hlen.1]; exact this
          rw [List.drop_zero, List.take_of_length_le (by omega)] at this
          exact this
        · cases h
      · cases h
    · cases h
theorem arg_any {t : TypeId} {ks : List CK2} {v : Value} {d : DataW H} {ps : List MemPlace} {n0 : Nat} (hks : scal2 P n0 t = some ks)
    (hd : DataW.Trod enc P w base (fun _ => true) held t v d ps) (hw : ∀ n ∈ d.weights P t, n ≤ B) : FitL2 w B ks v.cells.toList := by
  obtain ⟨fuel, hx⟩ := hd
  exact scal2_ok _ _ _ hks _ _ _ hx hw
theorem arg_sl {t e : TypeId} {v : Value} {r : _root_.Go.Reach} {b0 : Nat} (ht : P.underlying t = some (.slice e)) (hval : Value.okWide P w r b0 t v) : v.cells.toList = [v] := by
  simp only [Value.okWide, ht, Cell.okWide, Cell.ok] at hval
  split at hval <;> first | rfl | (exact hval.elim) | simp_all [Value.cells]
end
theorem fit_list2 {α : Type} {f : α → List Value} {good : α → Prop} {Q : List Value → Prop} {es : Nat} (hf : ∀ c, Q c → ∃ x, c = f x ∧ good x) : ∀ (n : Nat) (cs : List Value), cs.length = n * es → (∀ i, i < n → Q ((cs.drop (i * es)).take es)) →
    ∃ l : List α, l.length = n ∧ cs = l.flatMap f ∧ ∀ x ∈ l, good x := by
  intro n
  induction n with
  | zero => intro cs h _; exact ⟨[], rfl, by simpa using h, by simp⟩
  | succ n ih =>
    intro cs h hx
    obtain ⟨x, e1, g1⟩ := hf _ (hx 0 (by omega))
    obtain ⟨l, e2, e3, g2⟩ := ih (cs.drop es) (by simp [h, Nat.add_mul]) fun i hi => by
      have := hx (i + 1) (by omega)
      rwa [Nat.add_mul, Nat.one_mul, Nat.add_comm (i * es), ← List.drop_drop] at this
    refine ⟨x :: l, by simp [e2], ?_, by simpa using ⟨g1, g2⟩⟩
    rw [List.flatMap_cons, ← e3, ← e1]
    simp
section
variable {w0 w : World} {L : List HP} {k : Value → Prop} {K : Value → World → Prop} {α : Type} {f : α → List Value} {es i : Nat} {ty : TypeId} {v : Value} {l : List α}
theorem go_lit1 {P : Program} {t : TypeId} {x : α} {y : Value} {c : Array Value} {w1 : World} (C : Cod f es) (h : Sat w0 L w) [e : SameC w w1] (hu : P.underlying t = some (.slice ty)) (hc : fBuildSl P ty 1 [(0, y)] = some c) (hm : c.toList = f x)
    (hK : ∀ s w', Sat w0 (LsH f es ty s [x] :: L) w' → K s w') : eBuildSl P t 1 [(0, y)] w1 K :=
  ls_lit (m := [x]) C (h.to e.same) hu hc (by simp [hm]) hK
end
end Go.Sx

/- Sz13 -/
namespace Go.Sx
section
variable {w0 w w1 : World} {L M : List HP} {k : Value → Prop} {K : Value → World → Prop} {α : Type} {f : α → List Value} {es i j n : Nat} {ty : TypeId} {v : Value} {l : List α} {l' : List Value}
theorem rd_fN (C : Cod f es) (h : Rd w es v l.length (l.flatMap f)) (hi : i < l.length) (hp : Part (f l[i]) j n l') : ldN n (elF es v i j) w = some (.agg l'.toArray) := by
  generalize hcs : l.flatMap f = cs at h
  obtain ⟨m, hm⟩ : ∃ m, m = l.length := ⟨_, rfl⟩
  rw [← hm] at h
  cases h with
  | emp => omega
  | blk hb hn ha hc =>
    rename_i b o cap a ty fz
    have hlen := C.len l[i]
    have hle := hp.le
    have e : elF es (.slice (some ⟨b, o, none⟩) m cap) i j = .pointer (some ⟨b, o + i * es + j, none⟩) := by
      unfold elF elP
      simp only [pIndexL]
      rw [if_pos ⟨by omega, by omega⟩]
      simp [pFieldAddr]
    have him : i * es + es ≤ m * es := by
      have := Nat.mul_le_mul_right es (show i + 1 ≤ m by omega)
      rw [Nat.add_mul] at this; omega
    rw [e, ldN_of hb (by omega)]
    congr 2
    apply Array.ext'
    rw [Array.toList_extract, List.extract_eq_take_drop]
    have hf := flat_at C.len l i (by omega)
    rw [hcs, hc] at hf
    rw [show o + i * es + j + n - (o + i * es + j) = n from by omega]
    rw [← hp.eq, ← hf]
    simp only [List.drop_take, List.take_take, List.drop_drop, List.toList_toArray]
    congr 1
    omega
theorem Sat.nilLs (f : α → List Value) (es : Nat) (ty : TypeId) (h : Sat w0 L w) : Sat w0 (LsH f es ty (.slice none 0 0) ([] : List α) :: L) w := Sat.nilsl h
end
class RdIn (w0 : World) (L : List HP) (v : Value) (α : outParam Type) (f : outParam (α → List Value)) (es : outParam Nat) (l : outParam (List α)) : Prop where
  rd : ∀ w, Sat w0 L w → Rd w es v l.length (l.flatMap f)
instance {w0 : World} {L : List HP} {v : Value} {α : Type} {f : α → List Value} {es : Nat} {ty : TypeId} {l : List α} : RdIn w0 (LsH f es ty v l :: L) v α f es l := ⟨fun _ h => ls_rd h⟩
instance (priority := low) {w0 : World} {L : List HP} {X : HP} {v : Value} {α : Type} {f : α → List Value} {es : Nat} {l : List α} [m : RdIn w0 L v α f es l] : RdIn w0 (X :: L) v α f es l := ⟨fun w h => m.rd w h.drop⟩
theorem RdIn.arg {w0 : World} {L : List HP} {v : Value} {α : Type} {f : α → List Value} {es : Nat} {l : List α} (h : Rd w0 es v l.length (l.flatMap f)) : RdIn w0 L v α f es l := ⟨fun _ hs => h.sat hs⟩
section
variable {w0 w w1 : World} {L M : List HP} {k : Value → Prop} {K : Value → World → Prop} {α : Type} {f : α → List Value} {es i j n : Nat} {ty : TypeId} {v x : Value} {l : List α} {l' : List Value}
theorem go_lenR (h : Sat w0 L w) [m : RdIn w0 L v α f es l] (hk : k (.int .i64 l.length)) : bindP (lenL v) k := go_some (m.rd w h).len hk
theorem go_ixR (h : Sat w0 L w) [m : RdIn w0 L v α f es l] (hi : i < l.length) (hk : k (elP es v i)) : bindP (pIndexL es v (.int .i64 i)) k := go_some (ix_el (m.rd w h) hi) hk
theorem go_elR (h : Sat w0 L w) [e : SameC w w1] [m : RdIn w0 L v α f es l] (hc : CodC f es) (hi : i < l.length) (hk : k (.agg (f l[i]).toArray)) : bindP (ldN es (elP es v i) w1) k := go_some (rd_ld hc.cod (m.rd _ (h.to e.same)) hi) hk
theorem go_faR (h : Sat w0 L w) [m : RdIn w0 L v α f es l] (hc : CodC f es) (hi : i < l.length) (hj : j < es) (hk : k (elF es v i j)) : bindP (pFieldAddr j (elP es v i)) k := go_some (rd_fa hc.cod (m.rd w h) hi hj) hk
theorem go_f1R (h : Sat w0 L w) [e : SameC w w1] [m : RdIn w0 L v α f es l] (hc : CodC f es) (hi : i < l.length) (hx : Nth (f l[i]) j x) (hk : k x) : bindP (ld1 (elF es v i j) w1) k := go_some (rd_f1 hc.cod (m.rd _ (h.to e.same)) hi hx) hk
theorem go_fNR (h : Sat w0 L w) [e : SameC w w1] [m : RdIn w0 L v α f es l] (hc : CodC f es) (hi : i < l.length) (hp : Part (f l[i]) j n l') (hk : k (.agg l'.toArray)) : bindP (ldN n (elF es v i j) w1) k := go_some (rd_fN hc.cod (m.rd _ (h.to e.same)) hi hp) hk
theorem go_rf1R {x' : Value} {X : Prop} (h : Sat w0 L w) [e : SameC w w1] [m : RdIn w0 L v α f es l] (hc : CodC f es) (hi : i < l.length) (hx : Nth (f l[i]) j x) (hv : x = x') (hX : X) : fok true (ld1 (elF es v i j) w1) x' ∧ X := by
  subst hv; exact ⟨by rw [fok_true]; exact rd_f1 hc.cod (m.rd _ (h.to e.same)) hi hx, hX⟩
theorem go_relR {x' : Value} {X : Prop} (h : Sat w0 L w) [e : SameC w w1] [m : RdIn w0 L v α f es l] (hc : CodC f es) (hi : i < l.length) (hv : .agg (f l[i]).toArray = x') (hX : X) : fok true (ldN es (elP es v i) w1) x' ∧ X := by
  subst hv; exact ⟨by rw [fok_true]; exact rd_ld hc.cod (m.rd _ (h.to e.same)) hi, hX⟩
theorem go_rlenR {x' : Value} {X : Prop} (h : Sat w0 L w) [m : RdIn w0 L v α f es l] (hv : .int .i64 l.length = x') (hX : X) : fok true (lenL v) x' ∧ X := by
  subst hv; exact ⟨by rw [fok_true]; exact (m.rd w h).len, hX⟩
theorem rd_e1 (C : Cod f 1) (h : Rd w 1 v l.length (l.flatMap f)) (hi : i < l.length) (hx : Nth (f l[i]) 0 x) : ld1 (elP 1 v i) w = some x := by
  obtain ⟨b, o, h1, _, h3⟩ := h.elem C.len rfl hi (j := .i64)
  have e : elP 1 v i = .pointer (some ⟨b, o, none⟩) := by simp [elP, h1]
  rw [e, ld1_ptr]
  rcases h3 0 with h | h
  · rw [show o + 0 = o from rfl] at h
    rw [h]; exact hx.get
  · omega
theorem go_e1R (h : Sat w0 L w) [e : SameC w w1] [m : RdIn w0 L v α f 1 l] (hc : CodC f 1) (hi : i < l.length) (hx : Nth (f l[i]) 0 x) (hk : k x) : bindP (ld1 (elP 1 v i) w1) k := go_some (rd_e1 hc.cod (m.rd _ (h.to e.same)) hi hx) hk
theorem go_re1R {x' : Value} {X : Prop} (h : Sat w0 L w) [e : SameC w w1] [m : RdIn w0 L v α f 1 l] (hc : CodC f 1) (hi : i < l.length) (hx : Nth (f l[i]) 0 x) (hv : x = x') (hX : X) : fok true (ld1 (elP 1 v i) w1) x' ∧ X := by
  subst hv; exact ⟨by rw [fok_true]; exact rd_e1 hc.cod (m.rd _ (h.to e.same)) hi hx, hX⟩
end
end Go.Sx

/- So1 -/
namespace Go.Sx
open Go.Proofs (CmpLays)
section
variable {α : Type} [Inhabited α] {f : α → List Value} {es : Nat}
end
def Gr (W W' : World) : Prop := ∃ q os', W' = Go.Sort.grow (W.drewN q) os'
theorem Gr.refl (W : World) : Gr W W := ⟨0, #[], by rw [Go.Sort.grow_empty]; rfl⟩
theorem Gr.alloc {W W' : World} (h : Gr W W') (o : Obj) : Gr W (W'.alloc o) := by
  obtain ⟨q, os, rfl⟩ := h
  exact ⟨q, os ++ #[o], by rw [Go.Sort.alloc_eq_grow, Go.Sort.grow_grow]⟩
theorem Gr.drew {W W' : World} (h : Gr W W') : Gr W W'.drew := by
  obtain ⟨q, os, rfl⟩ := h
  exact ⟨q + 1, os, rfl⟩
section
variable {w0 w W : World} {L : List HP} {K : Value → World → Prop}
end
section
variable {α : Type} [Inhabited α] {f : α → List Value} {es : Nat}
end
end Go.Sx

/- So2 -/
set_option linter.all false
namespace Go.Sx
open Go.Proofs Go.Maps
abbrev Rany : Value → Option (DataW Unit × List MemPlace) := fun _ => some (.nil, [])
section
variable {κ ν : Type} {ek : κ → Value} {ev : ν → Value} {m : List (κ × ν)} {w0 w : World} {L : List HP} {v : Value} {P : Program} {k : TypeId}
theorem map_own (kl : κ → Lit) (hk : ∀ x ∈ m, keyOf P k (ek x.1) = some (kl x.1)) (hinj : ∀ x y, ek x = ek y → x = y) (h : Sat w0 (MapH ek ev v m :: L) w) (hl : m.length ≤ maxLen) :
    ∃ b D, v = .map (some b) ∧ b < w.heap.size ∧ w.ownsMap P k Rany b m.length D ∧ (∃ es, D = .map es ∧ (es.map Prod.fst).Perm (m.map fun x => kl x.1)) := by
  obtain ⟨r, es, clock, ⟨rfl, hm⟩, hs⟩ := map_iff.1 h
  have hlen : es.size = m.length := by
    have := congrArg List.length hm.kv
    simpa using this
  have hkeys : es.toList.map (·.key) = m.map fun x => ek x.1 := by
    have := congrArg (List.map Prod.fst) hm.kv
    simpa [List.map_map, Function.comp_def] using this
  have hkd : ((m.map Prod.fst).map ek).Nodup := by
    refine List.pairwise_map.2 (hm.kd.imp fun hne e => hne (hinj _ _ e))
  have hrd : ∀ x ∈ es.toList, ∃ y ∈ m, x.key = ek y.1 := by
    intro x hx
    have : x.key ∈ es.toList.map (·.key) := List.mem_map.2 ⟨x, hx, rfl⟩
    rw [hkeys] at this
    obtain ⟨y, hy, e⟩ := List.mem_map.1 this
    exact ⟨y, hy, e.symm⟩
  have hrg : ∀ x ∈ es.toList, ∀ y ∈ m, x.key = ek y.1 → WideElems.rd P k Rany x = some (kl y.1, (.nil : DataW Unit)) := by
    intro x hx y hy e
    simp [WideElems.rd, e, hk y hy, Rany]
  refine ⟨r, _, rfl, lt_of_blk hs.blk, ⟨es, clock, hs.blk, ⟨by omega, ⟨hm.lt, hm.nd, ?_⟩, ?_⟩, by omega, rfl⟩, _, rfl, ?_⟩
  · rw [hkeys]
    simpa [List.map_map, Function.comp_def] using hkd
  · intro x hx
    obtain ⟨y, hy, e⟩ := hrd x hx
    exact ⟨_, hrg x hx y hy e⟩
  · have h1 : ((es.toList.map (WideElems.rg P k Rany)).foldr DataW.insert []).Perm (es.toList.map (WideElems.rg P k Rany)) := WideShapes.sorted_perm _
    refine (h1.map Prod.fst).trans ?_
    have h2 : (es.toList.map (WideElems.rg P k Rany)).map Prod.fst = m.map fun x => kl x.1 := by
      rw [List.map_map]
      have h3 : ∀ (l : List MapEntry) (n : List (κ × ν)), (∀ x ∈ l, x ∈ es.toList) → (∀ y ∈ n, y ∈ m) → l.map (·.key) = n.map (fun x => ek x.1) → l.map (Prod.fst ∘ WideElems.rg P k Rany) = n.map fun x => kl x.1 := by
        intro l
        induction l with
        | nil => intro n _ _ e; cases n with
          | nil => rfl
          | cons a n => simp at e
        | cons x l ih =>
          intro n hx hn e
          cases n with
          | nil => simp at e
          | cons y n =>
            simp only [List.map_cons, List.cons.injEq] at e ⊢
            refine ⟨?_, ih n (fun z hz => hx z (List.mem_cons_of_mem _ hz)) (fun z hz => hn z (List.mem_cons_of_mem _ hz)) e.2⟩
            simp [WideElems.rg, hrg x (hx x (by simp)) y (hn y (by simp)) e.1]
      exact h3 _ _ (fun _ h => h) (fun _ h => h) hkeys
    rw [h2]
end
theorem stp_of_below {w w' : World} (h : RowKit.Below w.heap.size w w') (fp : List Nat) (hf : ∀ b ∈ fp, w.heap.size ≤ b) : Stp [] fp w w' :=
  ⟨⟨h.os, h.tape, h.output, h.size, fun b hb _ => h.block b hb⟩, fun x hx => .inr (hf x hx)⟩
theorem Sat.row {w0 w w' : World} {L : List HP} {ty : TypeId} {es n : Nat} {v : Value} {xs : List Value} (h : Sat w0 L w) (hb : RowKit.Below w.heap.size w w') (hr : w'.ownsRow w.heap.size ty es v n xs) : Sat w0 (SlH es ty v n xs :: L) w' := by
  rcases hr with ⟨hx, ⟨rfl, rfl⟩ | ⟨g, cap, cur, rfl, hg, hc, h1, h2, h3, h4⟩⟩
  · obtain rfl : xs = [] := List.eq_nil_of_length_eq_zero (by simpa using hx)
    exact h.ofOwn .nil (stp_of_below hb [] (by simp))
  · exact h.ofOwn (.blk (b := g) (o := 0) (cap := cap) hc h1 (by omega) (by simpa using h4.symm)) (stp_of_below hb [g] (by simpa using hg))
abbrev kSt (s : List UInt8) : Value := .string (bs s)
abbrev cSt (s : List UInt8) : List Value := [.string (bs s)]
def gSortedS (g : Nat) (ty : TypeId) : FnT := fun args w K => ∃ (ν : Type) (ev : ν → Value) (m : List (List UInt8 × ν)) (mv : Value) (bx : Nat) (mt : TypeId) (w0 : World) (L : List HP),
  args = [.func (.func g) #[] #[ptr bx]] ∧ Sat w0 (Cl bx #[mv] mt :: MapH kSt ev mv m :: L) w ∧ (∀ x ∈ m, x.1.length ≤ maxLen) ∧ m.length ≤ 8796093022208 ∧
  ∀ l v w', l.Perm (m.map Prod.fst) → l.Pairwise (· ≤ ·) → Sat w0 (LsH cSt 1 ty v l :: Cl bx #[mv] mt :: MapH kSt ev mv m :: L) w' → K v w'
theorem okSortedS {P : Program} {ρk ρs ρt : Go.Shelf.Ren} {f g : Nat} {ty : TypeId} (Kl : SlLaysZ.n7 P ρk) (S : SlLaysZ.n6 P ρs) (T : SlLaysM.n6 P ρt) (hf : ρs.f 6 = f) (hg : ρk.f 10 = g) (ht : ρs.t 26 = ty) (hst : ρs.f 9 = ρt.f 6)
    (ef : ∀ args w, (callFunc f args).run P w = .ok (.enter f args) w) (e9 : ∀ args w, (callFunc (ρt.f 6) args).run P w = .ok (.enter (ρt.f 6) args) w) (eg : ∀ args w, (callFunc g args).run P w = .ok (.enter g args) w) : OkF P f (gSortedS g ty) := by
  subst hf hg ht
  intro args w K ⟨ν, ev, m, mv, bx, mt, w0, L, ha, hs, hr, hl, hk⟩
  subst ha
  refine .inl ⟨ef _ _, ?_⟩
  have hml : m.length ≤ maxLen := by unfold maxLen; omega
  have hs2 := hs.drop
  obtain ⟨b, D, rfl, hb, hown, es, rfl, hp⟩ := map_own (P := P) (k := ρk.t 26) (fun x => .string x) (fun x hx => by
    have := hr x hx
    simp [keyOf, Kl.t26, mapKey, bs, ByteArray.size, this]) (fun x y e => by simpa using e) hs2 hml
  have hsz : Maps.size (.map es : DataW Unit) = m.length := by
    have := hp.length_eq
    simpa [Maps.size] using this
  have hik : strKeys (.map es : DataW Unit) = (es.map Prod.fst).map strOf := by simp [strKeys]
  have hpk : (strKeys (.map es : DataW Unit)).Perm (m.map Prod.fst) := by
    rw [hik]
    refine (hp.map strOf).trans ?_
    rw [List.map_map]
    exact List.Perm.of_eq (List.map_congr_left fun x _ => rfl)
  have hcell : w.cell? ⟨bx, 0, none⟩ = some (.map (some b)) := by rw [cell_of hs.cl]; rfl
  have hseq := AnyZ.keys_gives (ρ := ρk) { Kl with } Fence.wide 2 trivial rfl (by omega) bx b m.length (.map es) w (lt_of_blk hs.cl) hcell hown
  have hsort : AnyZ.SortsIn P ρs Fence.wide (5 - 1) := by
    constructor
    · intro blk off cap ss W hH hblk hsz
      rw [hst]
      exact callsIn_wide.2 (AnyM.slices_Sort_string T blk off cap ss W hH hblk hsz)
    · intro p cap W
      rw [hst]
      exact callsIn_wide.2 (AnyM.slices_Sort_string_none T p cap W)
  have hcon := callsIn_wide.1 (AnyZ.sorted_in S Fence.wide 5 trivial trivial trivial trivial rfl (by omega) hsort (by rw [hst]; exact e9) (ρk.f 10) #[.pointer (some ⟨bx, 0, none⟩)] trivial eg _ _ (by rw [hsz]; exact hml) (by rw [hsz]; omega) w hseq)
  refine hcon.mono ?_
  rintro e w' ⟨v, ss, rfl, hS, hrow, _, hbl⟩
  refine ⟨_, rfl, hk (ss.mergeSort fun x y => decide (x ≤ y)) v w' (((List.mergeSort_perm ss _).trans hS).trans hpk) ?_ ?_⟩
  · have := List.pairwise_mergeSort (le := fun x y : List UInt8 => decide (x ≤ y)) (fun a b c h1 h2 => by simp only [decide_eq_true_eq] at *; exact List.le_trans h1 h2) (fun a b => by simp only [Bool.or_eq_true, decide_eq_true_eq]; exact List.le_total a b) ss
    exact this.imp fun h => by simpa using h
  · have := hs.row hbl hrow
    unfold LsH
    have e1 : (ss.mergeSort fun x y => decide (x ≤ y)).flatMap cSt = (ss.mergeSort fun x y => decide (x ≤ y)).map encStr := by
      induction (ss.mergeSort fun x y => decide (x ≤ y)) with
      | nil => rfl
      | cons a l ih => simp only [List.flatMap_cons, List.map_cons, ih]; rfl
    rw [e1, List.length_mergeSort]
    exact this
theorem sortedS_sat {g : Nat} {ty : TypeId} {ν : Type} {ev : ν → Value} {m : List (List UInt8 × ν)} {mv : Value} {bx : Nat} {mt : TypeId} {w0 w : World} {L : List HP} {K : Value → World → Prop} (h : Sat w0 (Cl bx #[mv] mt :: MapH kSt ev mv m :: L) w)
    (hr : ∀ x ∈ m, x.1.length ≤ maxLen) (hl : m.length ≤ 8796093022208)
    (hK : ∀ l v w', l.Perm (m.map Prod.fst) → l.Pairwise (· ≤ ·) → Sat w0 (LsH cSt 1 ty v l :: Cl bx #[mv] mt :: MapH kSt ev mv m :: L) w' → K v w') : callP (gSortedS g ty) [.func (.func g) #[] #[ptr bx]] w K :=
  callP_intro ⟨ν, ev, m, mv, bx, mt, w0, L, rfl, h, hr, hl, hK⟩
end Go.Sx

/- So3 -/
set_option linter.all false
namespace Go.Sx
open Go.Proofs
section
variable {P : Program} {w : World}
structure Wid (P : Program) (F : Fence) : Prop where
  fn : ∀ f, F.fn f
  dp : F.depth = none
  calls : ∀ n f args w R, Calls P f args w R → CallsIn F n P f args w R
theorem Wid.wide : Wid P Fence.wide := ⟨fun _ => trivial, rfl, fun _ _ _ _ _ h => callsIn_wide.2 h⟩
structure RelD (nt : Nat) (ds : List Deferred) (e : Env) (a : Act) : Prop where
  sz : a.tmps.size = nt
  df : a.defers = ds
  v : ∀ t, val a t = e t
theorem RelD.put {nt : Nat} {ds : List Deferred} {e : Env} {a : Act} (h : RelD nt ds e a) (d : Option Tmp) (v : Value) : RelD nt ds (Sx.put nt e d v) (a.put d v) := by
  have h2 : Rel nt e { a with defers := [] } := ⟨h.sz, rfl, h.v⟩
  have h3 := h2.put d v
  refine ⟨by rw [size_put, h.sz], by rw [dfr_put, h.df], fun t => ?_⟩
  have := h3.v t
  cases d <;> exact this
end
theorem born_inj : ∀ {l : List MapEntry}, (l.map (·.born)).Nodup → ∀ {a b : MapEntry}, a ∈ l → b ∈ l → a.born = b.born → a = b
  | [], _, _, _, h, _, _ => by simp at h
  | x :: l, hn, a, b, ha, hb, e => by
    simp only [List.map_cons, List.nodup_cons] at hn
    rcases List.mem_cons.1 ha with rfl | ha'
    · rcases List.mem_cons.1 hb with rfl | hb'
      · rfl
      · exact absurd (by rw [e]; exact List.mem_map_of_mem (f := (·.born)) hb') hn.1
    · rcases List.mem_cons.1 hb with rfl | hb'
      · exact absurd (by rw [← e]; exact List.mem_map_of_mem (f := (·.born)) ha') hn.1
      · exact born_inj hn.2 ha' hb' e
section
variable {κ ν : Type} {ek : κ → Value} {ev : ν → Value} {m : List (κ × ν)} {w0 w : World} {L : List HP} {v : Value}
theorem eNext_sat2 {K : Value → World → Prop} {it : Value} {rem : List (κ × ν)} (h : Sat w0 (ItH ek ev it v m rem :: L) w)
    (h0 : rem = [] → ∀ w', Sat w0 (ItH ek ev it v m [] :: L) w' → K over w')
    (h1 : ∀ (x : κ × ν) (r1 r2 : List (κ × ν)) (w' : World), rem = r1 ++ x :: r2 → Sat w0 (ItH ek ev it v m (r1 ++ r2) :: L) w' → fEntry it w' = some (.tuple #[ek x.1, ev x.2]) → K (.tuple #[.bool true, ek x.1, ev x.2]) w') : eNext it false w K := by
  obtain ⟨q, r, es, clock, seen, ⟨rfl, rfl, hm, hrem, hsub⟩, hs⟩ := it_iff.1 h
  simp only [eNext, ptr, hs.blk, hs.f1.blk]
  have hall : ∀ e ∈ es.toList, e.born < clock := hm.lt
  have hold : (es.filter fun e => !seen.contains e.born).filter (fun e => decide (e.born < clock)) = es.filter fun e => !seen.contains e.born := by
    apply Array.ext'
    simp only [Array.toList_filter]
    exact List.filter_eq_self.2 fun e he => by simpa using hall e (List.mem_filter.1 he).1
  have hnew : (es.filter fun e => !seen.contains e.born).filter (fun e => decide (e.born ≥ clock)) = #[] := by
    apply Array.ext'
    simp only [Array.toList_filter]
    refine List.filter_eq_nil_iff.2 fun e he => ?_
    have := hall e (List.mem_filter.1 he).1
    simp; omega
  have hC : nextC es clock seen = (if (es.filter fun e => !seen.contains e.born).isEmpty then #[none] else #[]) ++ (es.filter fun e => !seen.contains e.born).map some := by
    simp only [nextC, hold, hnew, Array.append_empty]
  refine ⟨?_, ?_⟩
  · cases hes : es.toList with
    | nil => have : es = #[] := by apply Array.ext'; simpa using hes
             subst this; simp
    | cons e l =>
      have : e.born < clock := hall e (by rw [hes]; simp)
      have h3 : es.all (fun x => decide (x.born ≥ clock)) = false := by
        rw [Bool.eq_false_iff]
        intro hx
        rw [Array.all_eq_true_iff_forall_mem] at hx
        have := hx e (by rw [← Array.mem_toList_iff, hes]; simp)
        simp at this; omega
      simp [h3]
  · intro j w1 hw1 hj
    have hs1 : Sat w0 (Blk q (.mapIter (some r) clock seen clock) :: Blk r (.map es clock) :: L) w1 := by
      rcases hw1 with rfl | rfl
      · exact hs
      · exact hs.drew
    rw [hC] at hj ⊢
    generalize hl : (es.filter fun e => !seen.contains e.born) = left at *
    have hleft : left.toList = es.toList.filter fun e => !seen.contains e.born := by rw [← hl]; simp
    rw [← hleft] at hrem
    by_cases hemp : left.toList = []
    · have : left = #[] := Array.ext' (by simpa using hemp)
      subst this
      simp at hj ⊢
      subst hj
      simp
      have hr0 : rem = [] := by simpa using hrem
      subst hr0
      exact h0 rfl _ (it_iff.2 ⟨q, r, es, clock, seen, ⟨rfl, rfl, hm, by rw [← hleft]; simp, hsub⟩, hs1⟩)
    · have hne : left.isEmpty = false := by
        rw [Bool.eq_false_iff]; intro hx
        simp at hx; exact hemp (by simp [hx])
      simp [hne] at hj ⊢
      have hlen := congrArg List.length hrem
      simp at hlen
      have hjr : j < rem.length := by omega
      simp [hj]
      have hkv := congrArg (fun l => l[j]?) hrem
      simp [hj, hjr] at hkv
      have split : rem = rem.take j ++ rem[j] :: rem.drop (j + 1) := by
        rw [List.getElem_cons_drop, List.take_append_drop]
      have := h1 rem[j] (rem.take j) (rem.drop (j + 1)) (setBlk w1 q (.mapIter (some r) clock (seen.push left[j].born) clock)) split ?_ ?_
      · rw [← hkv.1, ← hkv.2] at this; exact this
      · refine it_iff.2 ⟨q, r, es, clock, seen.push left[j].born, ⟨rfl, rfl, hm, ?_, ?_⟩, hs1.set _⟩
        · have hnd : (left.toList.map (·.born)).Nodup := by
            rw [hleft]; exact hm.nd.sublist (List.filter_sublist.map _)
          have e1 : es.toList.filter (fun e => !(seen.push left[j].born).contains e.born) = left.toList.eraseIdx j := by
            have e2 : es.toList.filter (fun e => !(seen.push left[j].born).contains e.born) = left.toList.filter (fun e => decide (e.born ≠ left[j].born)) := by
              rw [hleft, List.filter_filter]
              congr 1; funext e
              rw [Bool.eq_iff_iff]; simp; 
              constructor
              · rintro ⟨a, b⟩; exact ⟨b, a⟩
              · rintro ⟨a, b⟩; exact ⟨b, a⟩
            rw [e2]
            have key : ∀ (l : List MapEntry) (j : Nat) (hj : j < l.length), (l.map (·.born)).Nodup → l.filter (fun e => decide (e.born ≠ l[j].born)) = l.eraseIdx j := by
              intro l
              induction l with
              | nil => intro j hj; simp at hj
              | cons a l ih =>
                intro j hj hn
                simp only [List.map_cons, List.nodup_cons] at hn
                cases j with
                | zero =>
                  simp
                  intro x hx e
                  exact hn.1 (by rw [← e]; exact List.mem_map_of_mem hx)
                | succ j =>
                  simp only [List.length_cons, Nat.add_lt_add_iff_right] at hj
                  have : a.born ≠ l[j].born := fun e => hn.1 (by rw [e]; exact List.mem_map_of_mem (List.getElem_mem hj))
                  simp [this]
                  simpa using ih j hj hn.2
            exact key left.toList j (by simpa using hj) hnd
          rw [e1, map_eraseIdx', hrem, ← map_eraseIdx', List.eraseIdx_eq_take_drop_succ]
        · rw [← List.eraseIdx_eq_take_drop_succ]; exact (List.eraseIdx_sublist _ _).trans hsub
      · have hs2 := hs1.set (.mapIter (some r) clock (seen.push left[j].born) clock)
        have hlm : left[j] ∈ es.toList := by
          have : left[j] ∈ left.toList := by rw [← Array.getElem_toList]; exact List.getElem_mem _
          rw [hleft] at this
          exact (List.mem_filter.1 this).1
        have hfd : es.find? (fun e => e.born == left[j].born) = some left[j] := by
          rw [← Array.find?_toList]
          cases hf : es.toList.find? (fun e => e.born == left[j].born) with
          | none =>
            rw [List.find?_eq_none] at hf
            have := hf _ hlm
            simp at this
          | some e =>
            have h3 := List.mem_of_find?_eq_some hf
            have h4 := List.find?_some hf
            simp only [beq_iff_eq] at h4
            rw [born_inj hm.nd h3 hlm h4]
        simp [fEntry, ptr, hs2.blk, hs2.f1.blk, hfd, hkv.1, hkv.2]
end
section
variable {κ ν : Type} {ek : κ → Value} {ev : ν → Value} {m : List (κ × ν)} {w0 w : World} {L : List HP} {mv : Value} {P : Program}
end
section
variable {ν : Type} {fv : ν → List Value} {w0 w : World} {L : List HP} {P : Program}
end
end Go.Sx

/- Ty -/
namespace Go.Proofs.Gong
open Go Go.Sx Go.Proofs
set_option linter.all false
set_option maxRecDepth 100000
variable {kn kr : ET} {ke : JT}
theorem mixed : Try.prog.follows .mixedOrders = true := by kernel_rfl
theorem z3 : fZero Try.prog 3 = some (.int .i64 0) := by kernel_rfl
theorem z4 : fZero Try.prog 4 = some (.bool false) := by kernel_rfl
theorem z5 : fZero Try.prog 5 = some (.int .u8 0) := by kernel_rfl
theorem z9 : fZero Try.prog 9 = some (.string ⟨#[]⟩) := by kernel_rfl
theorem u22 : Try.prog.underlying 22 = some (.slice 3) := by kernel_rfl
theorem up23 : Try.prog.underlying 23 = some (.pointer 80) := by kernel_rfl
theorem z23 : fZero Try.prog 23 = some (.pointer none) := by kernel_rfl
theorem z24 : fZero Try.prog 24 = some (.int .i64 0) := by kernel_rfl
theorem u30 : Try.prog.underlying 30 = some (.slice 5) := by kernel_rfl
theorem z33 : fZero Try.prog 33 = some (.slice none 0 0) := by kernel_rfl
theorem z53 : fZero Try.prog 53 = some (.agg #[(.string ⟨#[]⟩), (.string ⟨#[]⟩), (.string ⟨#[]⟩), (.int .i64 0), (.string ⟨#[]⟩)]) := by kernel_rfl
theorem z57 : fZero Try.prog 57 = some (.slice none 0 0) := by kernel_rfl
theorem z63 : fZero Try.prog 63 = some (.agg #[(.int .i64 0), (.int .i64 0), (.int .i64 0), (.string ⟨#[]⟩), (.string ⟨#[]⟩), (.string ⟨#[]⟩), (.int .i64 0), (.string ⟨#[]⟩), (.int .i64 0), (.int .i64 0), (.int .i64 0), (.bool false), (.string ⟨#[]⟩)]) := by kernel_rfl
theorem um78 : Try.prog.underlying 78 = some (.map 9 86) := by kernel_rfl
theorem z86 : fZero Try.prog 86 = some (.agg #[(.string ⟨#[]⟩), (.int .i64 0)]) := by kernel_rfl
end Go.Proofs.Gong

/- Al0 -/
namespace Go.Proofs.Gong
open Go Go.Sx Go.Proofs
set_option maxRecDepth 100000
section
variable {κ ν : Type} [DecidableEq κ] {k : κ} {x : ν} {m : List (κ × ν)}
theorem aGet_none_of {k : κ} {m : List (κ × ν)} (h : ∀ y, (k, y) ∉ m) : aGet k m = none := by
  cases hg : aGet k m with
  | none => rfl
  | some y => exact absurd (aGet_mem hg) (h y)
theorem aSet_new {k : κ} {x : ν} : ∀ {m : List (κ × ν)}, aGet k m = none → aSet k x m = m ++ [(k, x)]
  | [], _ => rfl
  | z :: r, h => by
    unfold aGet at h
    by_cases hk : k = z.1
    · simp [hk] at h
    · simp only [hk, if_false] at h
      simp [aSet, hk, aSet_new h]
theorem aDel_perm {k : κ} {x : ν} : ∀ {m : List (κ × ν)}, aGet k m = some x → ((k, x) :: aDel k m).Perm m
  | [], h => by simp [aGet] at h
  | z :: r, h => by
    unfold aGet at h
    by_cases hk : k = z.1
    · simp only [hk, if_true, Option.some.injEq] at h
      subst h
      simp [aDel, hk]
    · simp only [hk, if_false] at h
      simp only [aDel, hk, if_false]
      exact (List.Perm.swap _ _ _).trans ((aDel_perm h).cons z)
theorem aSet_perm {k : κ} {x y : ν} : ∀ {m : List (κ × ν)}, aGet k m = some y → (aSet k x m).Perm ((k, x) :: aDel k m)
  | [], h => by simp [aGet] at h
  | z :: r, h => by
    unfold aGet at h
    by_cases hk : k = z.1
    · simp [aSet, aDel, hk]
    · simp only [hk, if_false] at h
      simp only [aDel, aSet, hk, if_false]
      exact ((aSet_perm h).cons z).trans (List.Perm.swap _ _ _)
end
end Go.Proofs.Gong

/- Ks0 -/
namespace Go.Proofs.Gong
open Go Go.Sx Go.Proofs
theorem aDel_no {κ ν : Type} [DecidableEq κ] {k : κ} : ∀ {m : List (κ × ν)}, aGet k m = none → aDel k m = m
  | [], _ => rfl
  | z :: r, h => by
    unfold aGet at h
    by_cases hk : k = z.1
    · simp [hk] at h
    · simp only [hk, if_false] at h
      simp [aDel, hk, aDel_no h]
structure STO {κ : Type} (lt : κ → κ → Bool) : Prop where
  irr : ∀ a, lt a a = false
  trans : ∀ {a b c}, lt a b = true → lt b c = true → lt a c = true
  tot : ∀ {a b}, lt a b = false → lt b a = false → a = b
section
variable {α κ ν : Type} [DecidableEq κ] (lt : κ → κ → Bool) (key : α → κ) (val : α → ν)
def kGet (k : κ) (l : List α) : Option α := l.find? fun x => decide (key x = k)
def kDel (k : κ) (l : List α) : List α := l.filter fun x => decide (key x ≠ k)
def kIns (x : α) (l : List α) : List α := l.takeWhile (fun d => lt (key d) (key x)) ++ x :: l.dropWhile (fun d => lt (key d) (key x))
def kPut (x : α) (l : List α) : List α := kIns lt key x (kDel key (key x) l)
def kRep (x : α) (l : List α) : List α := l.map fun d => if key d = key x then x else d
def KAsc (l : List α) : Prop := l.Pairwise fun a b => lt (key a) (key b) = true
structure KInv (M : List (κ × ν)) (l : List α) : Prop where
  pm : M.Perm (l.map fun x => (key x, val x))
  asc : KAsc lt key l
variable {lt key val}
theorem KAsc.ne (S : STO lt) {l : List α} (h : KAsc lt key l) : l.Pairwise fun a b => key a ≠ key b :=
  h.imp fun h e => by rw [e, S.irr] at h; cases h
theorem kasc_nd (S : STO lt) {l : List α} (h : KAsc lt key l) : (l.map key).Nodup := List.pairwise_map.2 (h.ne S)
theorem kasc_split (S : STO lt) {l : List α} {x : α} (h : KAsc lt key l) (hx : x ∈ l) : ∃ a b, l = a ++ x :: b ∧ (∀ d ∈ a, key d ≠ key x) ∧ (∀ d ∈ b, key d ≠ key x) := by
  obtain ⟨a, b, rfl⟩ := List.append_of_mem hx
  have h2 := h.ne S
  rw [List.pairwise_append] at h2
  exact ⟨a, b, rfl, fun d hd => h2.2.2 d hd x (by simp), fun d hd e => (List.pairwise_cons.1 h2.2.1).1 d hd e.symm⟩
theorem kasc_eq (S : STO lt) {l : List α} {x y : α} (h : KAsc lt key l) (hx : x ∈ l) (hy : y ∈ l) (e : key x = key y) : x = y := by
  obtain ⟨a, b, rfl, h1, h2⟩ := kasc_split S h hx
  rcases List.mem_append.1 hy with g | g
  · exact absurd e.symm (h1 y g)
  · rcases List.mem_cons.1 g with rfl | g
    · rfl
    · exact absurd e.symm (h2 y g)
theorem kGet_mem {l : List α} {k : κ} {x : α} (h : kGet key k l = some x) : x ∈ l ∧ key x = k := by
  unfold kGet at h
  exact ⟨List.mem_of_find?_eq_some h, by simpa using List.find?_some h⟩
theorem kGet_none {l : List α} {k : κ} : kGet key k l = none ↔ ∀ x ∈ l, key x ≠ k := by
  unfold kGet
  rw [List.find?_eq_none]
  simp
theorem kGet_of (S : STO lt) {l : List α} {x : α} (h : KAsc lt key l) (hx : x ∈ l) : kGet key (key x) l = some x := by
  cases hg : kGet key (key x) l with
  | none => exact absurd rfl (kGet_none.1 hg x hx)
  | some y =>
    obtain ⟨h1, h2⟩ := kGet_mem hg
    rw [kasc_eq S h h1 hx h2]
theorem kIns_perm (x : α) (l : List α) : (kIns lt key x l).Perm (x :: l) := by
  unfold kIns
  exact List.perm_middle.trans (by rw [List.takeWhile_append_dropWhile])
theorem kIns_asc (S : STO lt) {x : α} : ∀ {l : List α}, KAsc lt key l → (∀ d ∈ l, key d ≠ key x) → KAsc lt key (kIns lt key x l)
  | [], _, _ => by simp [kIns, KAsc]
  | d :: r, h, hn => by
    obtain ⟨h1, h2⟩ := List.pairwise_cons.1 h
    by_cases g : lt (key d) (key x) = true
    · have e : kIns lt key x (d :: r) = d :: kIns lt key x r := by simp [kIns, g]
      rw [e]
      refine List.pairwise_cons.2 ⟨fun y hy => ?_, kIns_asc S h2 fun y hy => hn y (List.mem_cons_of_mem _ hy)⟩
      rcases List.mem_cons.1 ((kIns_perm x r).mem_iff.1 hy) with rfl | hy
      · exact g
      · exact h1 y hy
    · have g2 : lt (key d) (key x) = false := by simpa using g
      have e : kIns lt key x (d :: r) = x :: d :: r := by simp [kIns, g2]
      rw [e]
      have hxd : lt (key x) (key d) = true := by
        cases hh : lt (key x) (key d) with
        | true => rfl
        | false => exact absurd (S.tot g2 hh) (hn d (by simp))
      refine List.pairwise_cons.2 ⟨fun y hy => ?_, h⟩
      rcases List.mem_cons.1 hy with rfl | hy
      · exact hxd
      · exact S.trans hxd (h1 y hy)
theorem kDel_asc {l : List α} {k : κ} (h : KAsc lt key l) : KAsc lt key (kDel key k l) := h.filter _
theorem kDel_no {l : List α} {k : κ} : ∀ d ∈ kDel key k l, key d ≠ k := fun d hd => by simpa using (List.mem_filter.1 hd).2
theorem kDel_sub {l : List α} {k : κ} : ∀ d ∈ kDel key k l, d ∈ l := fun _ hd => (List.mem_filter.1 hd).1
theorem kDel_id {l : List α} {k : κ} (h : ∀ d ∈ l, key d ≠ k) : kDel key k l = l := List.filter_eq_self.2 fun d hd => by simpa using h d hd
theorem kDel_len {l : List α} {k : κ} : (kDel key k l).length ≤ l.length := List.length_filter_le _ _
theorem kDel_split {l r : List α} {x : α} (h1 : ∀ d ∈ l, key d ≠ key x) (h2 : ∀ d ∈ r, key d ≠ key x) : kDel key (key x) (l ++ x :: r) = l ++ r := by
  unfold kDel
  rw [List.filter_append, List.filter_cons, List.filter_eq_self.2 (fun d hd => by simpa using h1 d hd), List.filter_eq_self.2 (fun d hd => by simpa using h2 d hd)]
  simp
theorem kPut_asc (S : STO lt) {l : List α} {x : α} (h : KAsc lt key l) : KAsc lt key (kPut lt key x l) := kIns_asc S (kDel_asc h) kDel_no
theorem kPut_perm (l : List α) (x : α) : (kPut lt key x l).Perm (x :: kDel key (key x) l) := kIns_perm _ _
theorem kPut_len {l : List α} {x : α} : (kPut lt key x l).length ≤ l.length + 1 := by
  have := (kPut_perm (lt := lt) (key := key) l x).length_eq
  have := kDel_len (key := key) (l := l) (k := key x)
  simp at *; omega
theorem kPut_mem {l : List α} {x d : α} : d ∈ kPut lt key x l ↔ d = x ∨ (d ∈ l ∧ key d ≠ key x) := by
  rw [(kPut_perm l x).mem_iff, List.mem_cons]
  simp [kDel, List.mem_filter]
theorem kasc_unique (S : STO lt) {l m : List α} (h1 : KAsc lt key l) (h2 : KAsc lt key m) (hp : l.Perm m) : l = m :=
  List.Perm.eq_of_pairwise (le := fun a b : α => lt (key a) (key b) = true) (fun a b _ _ h1 h2 => by have := S.trans h1 h2; rw [S.irr] at this; cases this) h1 h2 hp
theorem kRep_split {l r : List α} {b x : α} (e : key b = key x) (h1 : ∀ d ∈ l, key d ≠ key x) (h2 : ∀ d ∈ r, key d ≠ key x) : kRep key x (l ++ b :: r) = l ++ x :: r := by
  unfold kRep
  rw [List.map_append, List.map_cons, if_pos e]
  congr 1
  · conv => rhs; rw [← List.map_id l]
    exact List.map_congr_left fun d hd => by rw [if_neg (h1 d hd)]; rfl
  · congr 1
    conv => rhs; rw [← List.map_id r]
    exact List.map_congr_left fun d hd => by rw [if_neg (h2 d hd)]; rfl
theorem kPut_rep (S : STO lt) {l : List α} {x b : α} (h : KAsc lt key l) (hb : b ∈ l) (e : key b = key x) : kPut lt key x l = kRep key x l := by
  obtain ⟨a, r, rfl, h1, h2⟩ := kasc_split S h hb
  rw [e] at h1 h2
  rw [kRep_split e h1 h2]
  refine kasc_unique S (kPut_asc S h) ?_ ?_
  · unfold KAsc at h ⊢
    rw [List.pairwise_append, List.pairwise_cons] at h ⊢
    refine ⟨h.1, ⟨fun y hy => by rw [← e]; exact h.2.1.1 y hy, h.2.1.2⟩, fun y hy z hz => ?_⟩
    rcases List.mem_cons.1 hz with rfl | hz
    · rw [← e]; exact h.2.2 y hy b (by simp)
    · exact h.2.2 y hy z (by simp [hz])
  · refine (kPut_perm _ _).trans ?_
    rw [show kDel key (key x) (a ++ b :: r) = a ++ r from by rw [← e]; exact kDel_split (by rw [e]; exact h1) (by rw [e]; exact h2)]
    exact List.perm_middle.symm
theorem kGet_put (S : STO lt) {l : List α} {x : α} {k : κ} (h : KAsc lt key l) : kGet key k (kPut lt key x l) = if k = key x then some x else kGet key k l := by
  by_cases g : k = key x
  · subst g
    rw [if_pos rfl]
    exact kGet_of S (kPut_asc S h) (kPut_mem.2 (.inl rfl))
  · rw [if_neg g]
    cases hg : kGet key k l with
    | none =>
      refine kGet_none.2 fun d hd => ?_
      rcases kPut_mem.1 hd with rfl | ⟨hd, _⟩
      · exact fun e => g e.symm
      · exact kGet_none.1 hg d hd
    | some y =>
      obtain ⟨h1, rfl⟩ := kGet_mem hg
      exact kGet_of S (kPut_asc S h) (kPut_mem.2 (.inr ⟨h1, g⟩))
section
variable {M : List (κ × ν)} {l : List α}
theorem KInv.nil : KInv lt key val ([] : List (κ × ν)) [] := ⟨.nil, .nil⟩
variable (H : KInv lt key val M l) (S : STO lt)
include H
theorem KInv.len : M.length = l.length := by have := H.pm.length_eq; simpa using this
include S
theorem KInv.keys : (M.map Prod.fst).Nodup := by
  refine ((H.pm.map Prod.fst).nodup_iff).2 ?_
  rw [List.map_map]
  exact kasc_nd S H.asc
theorem KInv.get (k : κ) : aGet k M = (kGet key k l).map val := by
  cases hg : kGet key k l with
  | none =>
    refine aGet_none_of fun y hy => ?_
    obtain ⟨x, hx, e⟩ := List.mem_map.1 (H.pm.mem_iff.1 hy)
    simp only [Prod.mk.injEq] at e
    exact kGet_none.1 hg x hx e.1
  | some x =>
    obtain ⟨h1, rfl⟩ := kGet_mem hg
    exact mem_aGet (H.keys S) (H.pm.mem_iff.2 (List.mem_map.2 ⟨x, h1, rfl⟩))
theorem KInv.del (k : κ) : KInv lt key val (aDel k M) (kDel key k l) := by
  refine ⟨?_, kDel_asc H.asc⟩
  cases hg : kGet key k l with
  | none =>
    rw [kDel_id (kGet_none.1 hg)]
    have : aGet k M = none := by rw [H.get S, hg]; rfl
    rw [aDel_no this]
    exact H.pm
  | some x =>
    obtain ⟨h1, rfl⟩ := kGet_mem hg
    have hv : aGet (key x) M = some (val x) := by rw [H.get S, hg]; rfl
    obtain ⟨a, b, rfl, h2, h3⟩ := kasc_split S H.asc h1
    rw [kDel_split h2 h3]
    have := ((aDel_perm hv).trans H.pm)
    rw [List.map_append, List.map_cons] at this
    rw [List.map_append]
    exact List.Perm.cons_inv (this.trans List.perm_middle)
theorem KInv.put (x : α) : KInv lt key val (aSet (key x) (val x) M) (kPut lt key x l) := by
  refine ⟨?_, kPut_asc S H.asc⟩
  have hp := ((kPut_perm (lt := lt) (key := key) l x).map fun x => (key x, val x))
  rw [List.map_cons] at hp
  refine .trans ?_ hp.symm
  have hd := (H.del S (key x)).pm
  cases hg : kGet key (key x) l with
  | none =>
    have h0 : aGet (key x) M = none := by rw [H.get S, hg]; rfl
    rw [aSet_new h0]
    rw [aDel_no h0] at hd
    exact List.perm_append_comm.trans (hd.cons _)
  | some y =>
    obtain ⟨h1, e⟩ := kGet_mem hg
    have hv : aGet (key x) M = some (val y) := by rw [H.get S, hg]; rfl
    exact (aSet_perm hv).trans (hd.cons _)
theorem KInv.sorted {ks : List κ} (hp : ks.Perm (M.map Prod.fst)) (hs : ks.Pairwise fun a b => lt b a = false) : ks = l.map key := by
  have h2 : ks.Perm (l.map key) := by
    refine hp.trans ((H.pm.map Prod.fst).trans ?_)
    rw [List.map_map]; exact .refl _
  refine List.Perm.eq_of_pairwise (le := fun a b : κ => lt b a = false) (fun a b _ _ h1 h2 => S.tot h2 h1) hs ?_ h2
  refine List.pairwise_map.2 (H.asc.imp fun {a b} h => ?_)
  cases hh : lt (key b) (key a) with
  | false => rfl
  | true => have := S.trans h hh; rw [S.irr] at this; cases this
end
end
def ltI (a b : Int) : Bool := decide (a < b)
theorem STO.int : STO ltI := ⟨fun a => by simp [ltI], fun h1 h2 => by simp [ltI] at *; omega, fun h1 h2 => by simp [ltI] at *; omega⟩
def ltS (a b : List UInt8) : Bool := decide (a < b)
theorem STO.txt : STO ltS := ⟨fun a => by simp [ltS, List.lt_irrefl], fun h1 h2 => by simp only [ltS, decide_eq_true_eq] at *; exact List.lt_trans h1 h2, fun h1 h2 => by
  simp only [ltS, decide_eq_false_iff_not] at *
  exact List.le_antisymm (List.not_lt.1 h2) (List.not_lt.1 h1)⟩
end Go.Proofs.Gong

/- Book -/
namespace Go.Proofs.Gong
open Go Go.Sx Go.Proofs
set_option linter.all false
set_option maxRecDepth 100000
variable {kn kr : ET} {ke : JT}
def T10 : List (Nat × FnT) := []
def F10 (x0 x1 : Value) (w : World) (K : V1) : Prop :=
bindP (bRem x0 x1) fun v1 =>
bindP (bAdd v1 x1) fun v2 =>
bindP (bRem v2 x1) fun v3 =>
K v3 w
def G10 : FnT := fun args w K => on2 (fun x0 x1 => F10 x0 x1 w K) args
theorem c10 {x0 x1 : Value} {w : World} {K : V1} (h : F10 x0 x1 w K) : callP G10 [x0, x1] w K := callP_intro (on2_mk (p := fun x0 x1 => F10 x0 x1 w K) h)
theorem ok10 : OkF Try.prog 10 G10 := by
  refine okF_of (tab_ok (l := T10) trivial) mixed (n := fuel) Try.func10 Try.call10 fun args w K h => ?_
  obtain ⟨x0, x1, rfl, hh⟩ := of_on2 h
  exact fnD_list (c := bodyOf Try.f10) (by kernel_rfl) (by kernel_rfl) (Eq.mp (by kernel_rfl) hh)
end Go.Proofs.Gong

/- Bk0 -/
namespace Go.Proofs.Gong
open Go Go.Sx Go.Proofs
def bel (x n : Int) : Int := (x.tmod n + n).tmod n
section
variable {w : World} {K : Value → World → Prop}
theorem Below_spec {x n : Int} (hn : 0 < n) (hn2 : n ≤ 4611686018427387904) (hK : ∀ r : Int, 0 ≤ r → r < n → r = bel x n → K (.int .i64 r) w) : callP G10 [.int .i64 x, .int .i64 n] w K := by
  refine c10 ?_
  unfold F10
  have h1 := Int.tmod_lt_of_pos x hn
  have h2 : -n < x.tmod n := by
    have := Int.lt_tmod_of_pos x hn
    omega
  have h3 := Int.tmod_nonneg n (show (0 : Int) ≤ x.tmod n + n by omega)
  have h4 := Int.tmod_lt_of_pos (x.tmod n + n) hn
  simp [bRem_int _ _ _ (show n ≠ 0 by omega), wrap_id (show -9223372036854775808 ≤ x.tmod n + n ∧ x.tmod n + n ≤ 9223372036854775807 by omega)]
  exact hK _ h3 h4 rfl
end
end Go.Proofs.Gong

/- Dk0 -/
namespace Go.Proofs.Gong
open Go Go.Sx Go.Proofs
structure Fil where
  name : List UInt8
  s : List UInt8
  safe : Nat
structure Dk where
  room : Int
  stop : Bool
  left : Int
  fs : List Fil
abbrev fKey (f : Fil) : List UInt8 := f.name
abbrev fVal (f : Fil) : List UInt8 × Nat := (f.s, f.safe)
abbrev fGet (n : List UInt8) (fs : List Fil) : Option Fil := kGet fKey n fs
abbrev fPut (f : Fil) (fs : List Fil) : List Fil := kPut ltS fKey f fs
abbrev fDel (n : List UInt8) (fs : List Fil) : List Fil := kDel fKey n fs
def usedF (fs : List Fil) : Nat := (fs.map fun f => f.s.length).sum
def nameOk (s : List UInt8) : Bool := decide (1 ≤ s.length) && decide (s.length ≤ 64)
def useD (d : Dk) : Option Dk := if d.stop = true then (if d.left = 0 then none else some { d with left := d.left - 1 }) else some d
def turnD (d : Dk) (f : Fil) : Int × Dk := match useD d with
  | none => (251, d)
  | some e => (0, { e with fs := fPut f e.fs })
def makeD (n : List UInt8) (d : Dk) : Int × Dk := if nameOk n = false then (1, d) else if (fGet n d.fs).isSome = true then (6, d) else turnD d ⟨n, [], 0⟩
def appD (n x : List UInt8) (d : Dk) : Int × Dk := match fGet n d.fs with
  | none => (5, d)
  | some f => if d.room - usedF d.fs < (x.length : Int) then (250, d) else turnD d { f with s := f.s ++ x }
def syncD (n : List UInt8) (d : Dk) : Int × Dk := match fGet n d.fs with
  | none => (5, d)
  | some f => turnD d { f with safe := f.s.length }
def renD (a b : List UInt8) (d : Dk) : Int × Dk := match fGet a d.fs with
  | none => (5, d)
  | some f => if nameOk b = false then (1, d) else match useD d with
    | none => (251, d)
    | some e => (0, { e with fs := fPut { f with name := b } (fDel a e.fs) })
def stopD (n : Int) (d : Dk) : Int × Dk := if n < 0 then (1, d) else (0, { d with stop := true, left := n })
def keptN (k : Int) (many : Nat) : Nat := (k % ((many : Int) + 1)).toNat
def crLong (keep : List Int) (i : Nat) (f : Fil) : Nat := match keep[i]? with | none => f.safe | some k => f.safe + keptN k (f.s.length - f.safe)
def crFil (keep : List Int) (i : Nat) (f : Fil) : Fil := { f with s := f.s.take (crLong keep i f), safe := crLong keep i f }
def crF (keep : List Int) : Nat → List Fil → List Fil
  | _, [] => []
  | i, f :: r => crFil keep i f :: crF keep (i + 1) r
def crashD (keep : List Int) (d : Dk) : Dk := { d with stop := false, left := 0, fs := crF keep 0 d.fs }
def stoppedD (d : Dk) : Bool := d.stop && decide (d.left = 0)
def FOk (f : Fil) : Prop := f.safe ≤ f.s.length ∧ f.name.length ≤ 64
structure DOk (d : Dk) : Prop where
  room : 0 ≤ d.room ∧ d.room ≤ 1099511627776
  used : (usedF d.fs : Int) ≤ d.room
  asc : KAsc ltS fKey d.fs
  ok : ∀ f ∈ d.fs, FOk f
  left : 0 ≤ d.left ∧ d.left ≤ 9223372036854775807
def newD (room : Int) : Dk := ⟨room, false, 0, []⟩
theorem newD_ok {room : Int} (h : 0 ≤ room ∧ room ≤ 1099511627776) : DOk (newD room) := ⟨h, by simp [newD, usedF]; omega, .nil, by simp [newD], by simp [newD]⟩
theorem usedF_perm {a b : List Fil} (h : a.Perm b) : usedF a = usedF b := by
  unfold usedF
  exact (h.map _).sum_nat
theorem usedF_cons {f : Fil} {l : List Fil} : usedF (f :: l) = f.s.length + usedF l := by simp [usedF]
theorem usedF_put {f : Fil} {l : List Fil} : usedF (fPut f l) = f.s.length + usedF (fDel f.name l) := by
  rw [usedF_perm (kPut_perm l f), usedF_cons]
theorem usedF_del_le {n : List UInt8} {l : List Fil} : usedF (fDel n l) ≤ usedF l := by
  induction l with
  | nil => simp [kDel]
  | cons f l ih =>
    unfold fDel kDel at *
    rw [List.filter_cons]
    split
    · rw [usedF_cons, usedF_cons]; omega
    · rw [usedF_cons]; omega
theorem usedF_del {f : Fil} {l : List Fil} (h : KAsc ltS fKey l) (hf : f ∈ l) : usedF l = f.s.length + usedF (fDel f.name l) := by
  obtain ⟨a, b, rfl, h1, h2⟩ := kasc_split STO.txt h hf
  rw [show fDel f.name (a ++ f :: b) = a ++ b from kDel_split (key := fKey) h1 h2]
  simp [usedF]; omega
theorem usedF_mem {f : Fil} {l : List Fil} (hf : f ∈ l) : f.s.length ≤ usedF l := by
  induction l with
  | nil => simp at hf
  | cons g l ih =>
    rw [usedF_cons]
    rcases List.mem_cons.1 hf with rfl | hf
    · omega
    · have := ih hf; omega
theorem useD_some {d e : Dk} (h : useD d = some e) : e.room = d.room ∧ e.stop = d.stop ∧ e.fs = d.fs ∧ (d.left = e.left ∨ (d.stop = true ∧ d.left ≠ 0 ∧ e.left = d.left - 1)) := by
  unfold useD at h
  split at h
  · split at h
    · cases h
    · cases h; rename_i h1 h2; exact ⟨rfl, rfl, rfl, .inr ⟨h1, h2, rfl⟩⟩
  · cases h; exact ⟨rfl, rfl, rfl, .inl rfl⟩
theorem useD_ok {d e : Dk} (hd : DOk d) (h : useD d = some e) : DOk e := by
  obtain ⟨h1, h2, h3, h4⟩ := useD_some h
  exact ⟨by rw [h1]; exact hd.room, by rw [h3, h1]; exact hd.used, by rw [h3]; exact hd.asc, by rw [h3]; exact hd.ok, by have := hd.left; omega⟩
section
variable {d : Dk} (hd : DOk d)
include hd
theorem put_ok {f : Fil} (hf : FOk f) (hu : ((f.s.length + usedF (fDel f.name d.fs) : Nat) : Int) ≤ d.room) : DOk { d with fs := fPut f d.fs } :=
  ⟨hd.room, by show ((usedF (fPut f d.fs) : Nat) : Int) ≤ d.room; rw [usedF_put]; exact hu, kPut_asc STO.txt hd.asc, fun g hg => by
    rcases kPut_mem.1 hg with rfl | ⟨hg, _⟩
    · exact hf
    · exact hd.ok g hg, hd.left⟩
theorem turnD_ok {f : Fil} (hf : FOk f) (hu : ((f.s.length + usedF (fDel f.name d.fs) : Nat) : Int) ≤ d.room) : DOk (turnD d f).2 := by
  unfold turnD
  cases h : useD d with
  | none => exact hd
  | some e =>
    obtain ⟨h1, h2, h3, h4⟩ := useD_some h
    exact put_ok (useD_ok hd h) hf (by rw [h3, h1]; exact hu)
omit hd in
theorem get_ok {n : List UInt8} {f : Fil} (hd : DOk d) (h : fGet n d.fs = some f) : f ∈ d.fs ∧ f.name = n ∧ FOk f ∧ usedF d.fs = f.s.length + usedF (fDel f.name d.fs) := by
  obtain ⟨h1, h2⟩ := kGet_mem h
  exact ⟨h1, h2, hd.ok f h1, usedF_del hd.asc h1⟩
theorem makeD_ok (n : List UInt8) : DOk (makeD n d).2 := by
  unfold makeD
  split
  · exact hd
  split
  · exact hd
  · rename_i h _
    refine turnD_ok hd ⟨by simp, ?_⟩ ?_
    · simp [nameOk] at h; exact h.2
    · have := hd.used
      have := usedF_del_le (n := n) (l := d.fs)
      simp; omega
theorem appD_ok (n x : List UInt8) : DOk (appD n x d).2 := by
  unfold appD
  split
  · exact hd
  · rename_i f h
    obtain ⟨h1, h2, h3, h4⟩ := get_ok hd h
    split
    · exact hd
    · refine turnD_ok hd ⟨by have := h3.1; simp; omega, h3.2⟩ ?_
      simp at h4 ⊢; omega
theorem syncD_ok (n : List UInt8) : DOk (syncD n d).2 := by
  unfold syncD
  split
  · exact hd
  · rename_i f h
    obtain ⟨h1, h2, h3, h4⟩ := get_ok hd h
    refine turnD_ok hd ⟨by simp, h3.2⟩ ?_
    have := hd.used
    simp at h4 ⊢; omega
theorem renD_ok (a b : List UInt8) : DOk (renD a b d).2 := by
  unfold renD
  split
  · exact hd
  rename_i f h
  obtain ⟨h1, h2, h3, h4⟩ := get_ok hd h
  split
  · exact hd
  rename_i hb
  cases hu : useD d with
  | none => exact hd
  | some e =>
    obtain ⟨g1, g2, g3, g4⟩ := useD_some hu
    have he := useD_ok hd hu
    have hdel : DOk { e with fs := fDel a e.fs } := ⟨he.room, by
      have := usedF_del_le (n := a) (l := e.fs)
      have := he.used
      show ((usedF (fDel a e.fs) : Nat) : Int) ≤ e.room
      omega, kDel_asc he.asc, fun g hg => he.ok g (kDel_sub g hg), he.left⟩
    refine put_ok hdel (f := { f with name := b }) ⟨h3.1, by simp [nameOk] at hb; exact hb.2⟩ ?_
    have g5 := usedF_del_le (n := b) (l := fDel a e.fs)
    have g6 := hd.used
    rw [h2] at h4
    rw [← g3] at h4 g6
    show ((f.s.length + usedF (fDel b (fDel a e.fs)) : Nat) : Int) ≤ e.room
    rw [g1]
    omega
theorem stopD_ok {n : Int} (hn : n ≤ 9223372036854775807) : DOk (stopD n d).2 := by
  unfold stopD
  split
  · exact hd
  · exact ⟨hd.room, hd.used, hd.asc, hd.ok, by simp; omega⟩
end
theorem keptN_le (k : Int) (many : Nat) : keptN k many ≤ many := by
  unfold keptN
  have h1 := Int.emod_nonneg k (b := (many : Int) + 1) (by omega)
  have h2 := Int.emod_lt_of_pos k (b := (many : Int) + 1) (by omega)
  omega
theorem crLong_le {keep : List Int} {i : Nat} {f : Fil} (h : FOk f) : f.safe ≤ crLong keep i f ∧ crLong keep i f ≤ f.s.length := by
  unfold crLong
  have := h.1
  split
  · omega
  · rename_i k _
    have := keptN_le k (f.s.length - f.safe); omega
theorem crF_len {keep : List Int} : ∀ {i : Nat} {l : List Fil}, (crF keep i l).length = l.length
  | i, [] => rfl
  | i, f :: r => by simp [crF, crF_len]
theorem crF_keys {keep : List Int} : ∀ {i : Nat} {l : List Fil}, (crF keep i l).map fKey = l.map fKey
  | i, [] => rfl
  | i, f :: r => by simp [crF, crF_keys, crFil, fKey]
theorem crF_used {keep : List Int} : ∀ {i : Nat} {l : List Fil}, usedF (crF keep i l) ≤ usedF l
  | i, [] => by simp [crF]
  | i, f :: r => by
    have := crF_used (keep := keep) (i := i + 1) (l := r)
    simp only [crF, usedF_cons, crFil, List.length_take]
    omega
theorem crF_ok {keep : List Int} : ∀ {i : Nat} {l : List Fil}, (∀ f ∈ l, FOk f) → ∀ f ∈ crF keep i l, FOk f
  | i, [], _, f, hf => by simp [crF] at hf
  | i, g :: r, h, f, hf => by
    simp only [crF, List.mem_cons] at hf
    rcases hf with rfl | hf
    · have hg := h g (by simp)
      have := crLong_le (keep := keep) (i := i) hg
      refine ⟨?_, hg.2⟩
      simp [crFil]; omega
    · exact crF_ok (fun x hx => h x (List.mem_cons_of_mem _ hx)) f hf
theorem kasc_keys {l : List Fil} : KAsc ltS fKey l ↔ (l.map fKey).Pairwise fun a b => ltS a b = true := by
  unfold KAsc; rw [List.pairwise_map]
theorem crashD_ok {d : Dk} (hd : DOk d) (keep : List Int) : DOk (crashD keep d) :=
  ⟨hd.room, by
    have := crF_used (keep := keep) (i := 0) (l := d.fs)
    have := hd.used
    show ((usedF (crF keep 0 d.fs) : Nat) : Int) ≤ d.room
    omega, by show KAsc ltS fKey (crF keep 0 d.fs); rw [kasc_keys, crF_keys, ← kasc_keys]; exact hd.asc, crF_ok hd.ok, by simp [crashD]⟩
theorem turnD_len {d : Dk} {f : Fil} : (turnD d f).2.fs.length ≤ d.fs.length + 1 := by
  unfold turnD
  split
  · simp
  · rename_i e h
    obtain ⟨_, _, h3, _⟩ := useD_some h
    have := kPut_len (lt := ltS) (key := fKey) (l := e.fs) (x := f)
    rw [h3] at this; simpa [h3] using this
theorem makeD_len {d : Dk} {n : List UInt8} : (makeD n d).2.fs.length ≤ d.fs.length + 1 := by
  unfold makeD
  split
  · simp
  split
  · simp
  · exact turnD_len
theorem appD_len {d : Dk} {n x : List UInt8} : (appD n x d).2.fs.length ≤ d.fs.length + 1 := by
  unfold appD
  split
  · simp
  split
  · simp
  · exact turnD_len
theorem syncD_len {d : Dk} {n : List UInt8} : (syncD n d).2.fs.length ≤ d.fs.length + 1 := by
  unfold syncD
  split
  · simp
  · exact turnD_len
theorem renD_len {d : Dk} {a b : List UInt8} : (renD a b d).2.fs.length ≤ d.fs.length + 1 := by
  unfold renD
  split
  · simp
  rename_i f _
  split
  · simp
  cases hu : useD d with
  | none => simp
  | some e =>
    obtain ⟨_, _, h3, _⟩ := useD_some hu
    have h1 := kPut_len (lt := ltS) (key := fKey) (l := fDel a e.fs) (x := (⟨b, f.s, f.safe⟩ : Fil))
    have h2 := kDel_len (key := fKey) (l := e.fs) (k := a)
    rw [h3] at h1 h2
    show (fPut (⟨b, f.s, f.safe⟩ : Fil) (fDel a e.fs)).length ≤ d.fs.length + 1
    rw [h3]
    exact Nat.le_trans h1 (Nat.succ_le_succ h2)
end Go.Proofs.Gong

/- Dk5 -/
namespace Go.Proofs.Gong
open Go Go.Sx Go.Proofs
def dS (room left : Int) (fs : List Fil) : Dk := ⟨room, true, left, fs⟩
def dG (room : Int) (fs : List Fil) : Dk := ⟨room, false, 0, fs⟩
def Both (f : Dk → Int × Dk) : Prop := ∀ room left fs,
  (left = 0 ∧ f (dS room left fs) = (251, dS room left fs)) ∨
  (∃ fs', left ≠ 0 ∧ f (dS room left fs) = (0, dS room (left - 1) fs') ∧ f (dG room fs) = (0, dG room fs')) ∨
  (∃ c, c ≠ 0 ∧ c ≠ 251 ∧ f (dS room left fs) = (c, dS room left fs) ∧ f (dG room fs) = (c, dG room fs))
theorem both_turn {room left : Int} {fs : List Fil} (f : Fil) :
    (left = 0 ∧ turnD (dS room left fs) f = (251, dS room left fs)) ∨ (∃ fs', left ≠ 0 ∧ turnD (dS room left fs) f = (0, dS room (left - 1) fs') ∧ turnD (dG room fs) f = (0, dG room fs')) := by
  by_cases g : left = 0
  · exact .inl ⟨g, by simp [turnD, useD, dS, g]⟩
  · exact .inr ⟨fPut f fs, g, by simp [turnD, useD, dS, g], by simp [turnD, useD, dG]⟩
theorem both_or {room left : Int} {fs : List Fil} {f : Dk → Int × Dk} {x : Fil} (h1 : f (dS room left fs) = turnD (dS room left fs) x) (h2 : f (dG room fs) = turnD (dG room fs) x) :
    (left = 0 ∧ f (dS room left fs) = (251, dS room left fs)) ∨
  (∃ fs', left ≠ 0 ∧ f (dS room left fs) = (0, dS room (left - 1) fs') ∧ f (dG room fs) = (0, dG room fs')) ∨
  (∃ c, c ≠ 0 ∧ c ≠ 251 ∧ f (dS room left fs) = (c, dS room left fs) ∧ f (dG room fs) = (c, dG room fs)) := by
  rw [h1, h2]
  rcases both_turn (room := room) (left := left) (fs := fs) x with h | h
  · exact .inl h
  · exact .inr (.inl h)
theorem both_make (n : List UInt8) : Both (makeD n) := by
  intro room left fs
  by_cases h1 : nameOk n = false
  · exact .inr (.inr ⟨1, by decide, by decide, by simp [makeD, h1], by simp [makeD, h1]⟩)
  by_cases h2 : (fGet n fs).isSome = true
  · exact .inr (.inr ⟨6, by decide, by decide, by simp [makeD, h1, dS, h2], by simp [makeD, h1, dG, h2]⟩)
  · exact both_or (x := ⟨n, [], 0⟩) (by simp [makeD, h1, dS, h2]) (by simp [makeD, h1, dG, h2])
theorem both_app (n x : List UInt8) : Both (appD n x) := by
  intro room left fs
  cases h : fGet n fs with
  | none => exact .inr (.inr ⟨5, by decide, by decide, by simp [appD, dS, h], by simp [appD, dG, h]⟩)
  | some f =>
    by_cases h2 : room - usedF fs < (x.length : Int)
    · exact .inr (.inr ⟨250, by decide, by decide, by simp [appD, dS, h, h2], by simp [appD, dG, h, h2]⟩)
    · exact both_or (x := { f with s := f.s ++ x }) (by simp [appD, dS, h, h2]) (by simp [appD, dG, h, h2])
theorem both_sync (n : List UInt8) : Both (syncD n) := by
  intro room left fs
  cases h : fGet n fs with
  | none => exact .inr (.inr ⟨5, by decide, by decide, by simp [syncD, dS, h], by simp [syncD, dG, h]⟩)
  | some f => exact both_or (x := { f with safe := f.s.length }) (by simp [syncD, dS, h]) (by simp [syncD, dG, h])
theorem both_ren (a b : List UInt8) : Both (renD a b) := by
  intro room left fs
  cases h : fGet a fs with
  | none => exact .inr (.inr ⟨5, by decide, by decide, by simp [renD, dS, h], by simp [renD, dG, h]⟩)
  | some f =>
    by_cases h1 : nameOk b = false
    · exact .inr (.inr ⟨1, by decide, by decide, by simp [renD, dS, h, h1], by simp [renD, dG, h, h1]⟩)
    by_cases g : left = 0
    · exact .inl ⟨g, by simp [renD, useD, dS, g, h, h1]⟩
    · exact .inr (.inl ⟨fPut { f with name := b } (fDel a fs), g, by simp [renD, useD, dS, g, h, h1], by simp [renD, useD, dG, h, h1]⟩)
def dataB : List UInt8 := [100, 97, 116, 97]
def calledD (k : Int) (n : List UInt8) (d : Dk) : Int × Dk := if k = 0 then makeD n d else if k = 1 then appD n dataB d else if k = 2 then syncD n d else renD n [97] d
theorem both_called (k : Int) (n : List UInt8) : Both (calledD k n) := by
  unfold calledD
  by_cases h0 : k = 0
  · simp only [h0, if_true]; exact both_make n
  by_cases h1 : k = 1
  · simp only [h1, if_true]; exact both_app n dataB
  by_cases h2 : k = 2
  · simp only [h2, if_true]; exact both_sync n
  · simp only [h0, h1, h2, if_false]; exact both_ren n [97]
def Few (N : List (List UInt8)) (u : Nat) (fs : List Fil) : Prop := (∀ f ∈ fs, f.name ∈ N) ∧ usedF fs ≤ u
theorem few_turn {N : List (List UInt8)} {u : Nat} {d : Dk} {f : Fil} (h : Few N u d.fs) (hn : f.name ∈ N) (hu : f.s.length + usedF (fDel f.name d.fs) ≤ u + 4) : Few N (u + 4) (turnD d f).2.fs := by
  unfold turnD
  cases hu' : useD d with
  | none => exact ⟨h.1, by have := h.2; simp; omega⟩
  | some e =>
    obtain ⟨_, _, h3, _⟩ := useD_some hu'
    refine ⟨fun g hg => ?_, ?_⟩
    · rcases kPut_mem.1 hg with rfl | ⟨hg, _⟩
      · exact hn
      · rw [h3] at hg; exact h.1 g hg
    · show usedF (fPut f e.fs) ≤ _
      rw [usedF_put, h3]; exact hu
theorem few_called {N : List (List UInt8)} {u : Nat} {d : Dk} {k : Int} {n : List UInt8} (ha : KAsc ltS fKey d.fs) (h : Few N u d.fs) (hn : n ∈ N) (hn2 : [97] ∈ N) : Few N (u + 4) (calledD k n d).2.fs := by
  have h0 : Few N (u + 4) d.fs := ⟨h.1, by have := h.2; omega⟩
  have hget : ∀ {m f}, fGet m d.fs = some f → f ∈ d.fs ∧ f.name = m ∧ usedF d.fs = f.s.length + usedF (fDel f.name d.fs) := fun hg => by
    obtain ⟨h1, h2⟩ := kGet_mem hg
    exact ⟨h1, h2, usedF_del ha h1⟩
  unfold calledD
  split
  · unfold makeD
    split
    · exact h0
    split
    · exact h0
    · refine few_turn h hn ?_
      have := usedF_del_le (n := n) (l := d.fs)
      have := h.2
      simp; omega
  split
  · unfold appD
    split
    · exact h0
    rename_i f hg
    obtain ⟨h1, h2, h3⟩ := hget hg
    split
    · exact h0
    · refine few_turn h (by rw [h2]; exact hn) ?_
      have := h.2
      simp [dataB] at h3 ⊢; omega
  split
  · unfold syncD
    split
    · exact h0
    rename_i f hg
    obtain ⟨h1, h2, h3⟩ := hget hg
    refine few_turn h (by rw [h2]; exact hn) ?_
    have := h.2
    simp at h3 ⊢; omega
  · unfold renD
    split
    · exact h0
    rename_i f hg
    obtain ⟨h1, h2, h3⟩ := hget hg
    split
    · exact h0
    cases hu' : useD d with
    | none => exact h0
    | some e =>
      obtain ⟨_, _, h5, _⟩ := useD_some hu'
      refine ⟨fun g hg => ?_, ?_⟩
      · rcases kPut_mem.1 hg with rfl | ⟨hg, _⟩
        · exact hn2
        · have := kDel_sub g hg; rw [h5] at this; exact h.1 g this
      · show usedF (fPut _ (fDel n e.fs)) ≤ _
        rw [usedF_put, h5]
        have g1 := usedF_del_le (n := [97]) (l := fDel n d.fs)
        rw [h2] at h3
        have := h.2
        show f.s.length + usedF (fDel [97] (fDel n d.fs)) ≤ u + 4
        omega
end Go.Proofs.Gong

/- Disk -/
namespace Go.Proofs.Gong
open Go Go.Sx Go.Proofs
set_option linter.all false
set_option maxRecDepth 100000
variable {kn kr : ET} {ke : JT}
def T8 : List (Nat × FnT) := []
def F8 (x0 : Value) (w : World) (K : V1) : Prop :=
bindP (bLt x0 (.int .i64 0)) fun v1 =>
stepM (gd false v1) x0 fun v2 =>
Sx.stepG (gd false v1) (bGt v2 (.int .i64 1099511627776)) fun v3 =>
bindP (pPick v1 (.bool true) v3) fun v4 =>
ifB v4 (
K (.tuple #[(.pointer none), (.int .i64 1)]) w) (
eMakeMap none w fun v6 w5 =>
bindP (fBuild Try.prog 80 [(0, x0), (1, v6)]) fun v7 =>
eBox 80 v7 w5 fun v9 w8 =>
K (.tuple #[v9, (.int .i64 0)]) w8)
def G8 : FnT := fun args w K => on1 (fun x0 => F8 x0 w K) args
theorem c8 {x0 : Value} {w : World} {K : V1} (h : F8 x0 w K) : callP G8 [x0] w K := callP_intro (on1_mk (p := fun x0 => F8 x0 w K) h)
theorem ok8 : OkF Try.prog 8 G8 := by
  refine okF_of (tab_ok (l := T8) trivial) mixed (n := fuel) Try.func8 Try.call8 fun args w K h => ?_
  obtain ⟨x0, rfl, hh⟩ := of_on1 h
  exact fnD_list (c := bodyOf Try.f8) (by kernel_rfl) (by kernel_rfl) (Eq.mp (by kernel_rfl) hh)
def LayK43_ren : Go.Shelf.Ren := ⟨fun | 7 => 43 | 10 => 71 | n => n, fun | 23 => 78 | 26 => 9 | 3 => 86 | 28 => 83 | 0 => 0 | 27 => 82 | 33 => 87 | 4 => 4 | n => n, fun | n => n⟩
theorem LayK43 : Go.Proofs.SlLaysZ.n7 Try.prog LayK43_ren := {
  mixed := by kernel_rfl
  f7 := ⟨Try.f43.name, by decide, Try.func43.trans (congrArg some (by kernel_rfl))⟩
  f10 := ⟨Try.f71.name, by decide, Try.func71.trans (congrArg some (by kernel_rfl))⟩
  t0 := Try.underlying0
  a0 := Try.isAgg0
  z0 := Try.sizeOf0
  v0 := Try.zeroValue0
  t4 := Try.underlying4
  a4 := Try.isAgg4
  z4 := Try.sizeOf4
  v4 := Try.zeroValue4
  t23 := Try.underlying78
  a23 := Try.isAgg78
  z23 := Try.sizeOf78
  v23 := Try.zeroValue78
  t26 := Try.underlying9
  a26 := Try.isAgg9
  z26 := Try.sizeOf9
  v26 := Try.zeroValue9
  t27 := Try.underlying82
  a27 := Try.isAgg82
  z27 := Try.sizeOf82
  v27 := Try.zeroValue82
  t28 := Try.underlying83
  a28 := Try.isAgg83
  z28 := Try.sizeOf83
  v28 := Try.zeroValue83
  t33 := Try.underlying87
  a33 := Try.isAgg87
  z33 := Try.sizeOf87
  v33 := Try.zeroValue87 }
def LayS42_ren : Go.Shelf.Ren := ⟨fun | 6 => 42 | 8 => 69 | 9 => 70 | 11 => 83 | 13 => 85 | 12 => 84 | 23 => 99 | 24 => 100 | 14 => 90 | 15 => 91 | 16 => 92 | 17 => 93 | 18 => 94 | 19 => 95 | 20 => 96 | 21 => 97 | 22 => 98 | 25 => 106 | 26 => 107 | 27 => 108 | 28 => 109 | 29 => 110 | 30 => 111 | 31 => 123 | n => n, fun | 26 => 9 | 28 => 83 | 24 => 33 | 0 => 0 | 3 => 3 | 37 => 121 | 48 => 131 | 50 => 133 | 4 => 4 | 40 => 125 | 39 => 124 | 45 => 60 | 5 => 5 | 9 => 9 | 51 => 139 | 55 => 143 | 57 => 154 | 58 => 155 | 33 => 87 | n => n, fun | n => n⟩
theorem LayS42 : Go.Proofs.SlLaysZ.n6 Try.prog LayS42_ren := {
  mixed := by kernel_rfl
  f6 := ⟨Try.f42.name, by decide, Try.func42.trans (congrArg some (by kernel_rfl))⟩
  f8 := ⟨Try.f69.name, by decide, Try.func69.trans (congrArg some (by kernel_rfl))⟩
  f11 := ⟨Try.f83.name, by decide, Try.func83.trans (congrArg some (by kernel_rfl))⟩
  t0 := Try.underlying0
  a0 := Try.isAgg0
  z0 := Try.sizeOf0
  v0 := Try.zeroValue0
  t24 := Try.underlying33
  a24 := Try.isAgg33
  z24 := Try.sizeOf33
  v24 := Try.zeroValue33
  t26 := Try.underlying9
  a26 := Try.isAgg9
  z26 := Try.sizeOf9
  v26 := Try.zeroValue9
  t28 := Try.underlying83
  a28 := Try.isAgg83
  z28 := Try.sizeOf83
  v28 := Try.zeroValue83
  i26 := by kernel_rfl }
def LayM70_ren : Go.Shelf.Ren := ⟨fun | 6 => 70 | 8 => 85 | 9 => 84 | 19 => 99 | 20 => 100 | 21 => 90 | 22 => 91 | 23 => 92 | 24 => 93 | 25 => 94 | 26 => 95 | 27 => 96 | 28 => 97 | 29 => 98 | 36 => 106 | 31 => 107 | 32 => 108 | 37 => 109 | 38 => 110 | 39 => 111 | 41 => 123 | n => n, fun | 27 => 33 | 29 => 9 | 3 => 3 | 32 => 121 | 26 => 33 | 0 => 0 | 44 => 131 | 46 => 133 | 4 => 4 | 36 => 125 | 35 => 124 | 41 => 60 | 5 => 5 | 9 => 9 | 53 => 139 | 57 => 143 | 63 => 154 | 64 => 155 | n => n, fun | n => n⟩
theorem LayM70 : Go.Proofs.SlLaysM.n6 Try.prog LayM70_ren := {
  mixed := by kernel_rfl
  f6 := ⟨Try.f70.name, by decide, Try.func70.trans (congrArg some (by kernel_rfl))⟩
  f8 := Try.func85.trans (congrArg some (by kernel_rfl))
  f9 := ⟨Try.f84.name, by decide, Try.func84.trans (congrArg some (by kernel_rfl))⟩
  f19 := Try.func99.trans (congrArg some (by kernel_rfl))
  f20 := Try.func100.trans (congrArg some (by kernel_rfl))
  f21 := ⟨Try.f90.name, by decide, Try.func90.trans (congrArg some (by kernel_rfl))⟩
  f22 := ⟨Try.f91.name, by decide, Try.func91.trans (congrArg some (by kernel_rfl))⟩
  f23 := ⟨Try.f92.name, by decide, Try.func92.trans (congrArg some (by kernel_rfl))⟩
  f24 := ⟨Try.f93.name, by decide, Try.func93.trans (congrArg some (by kernel_rfl))⟩
  f25 := ⟨Try.f94.name, by decide, Try.func94.trans (congrArg some (by kernel_rfl))⟩
  f26 := ⟨Try.f95.name, by decide, Try.func95.trans (congrArg some (by kernel_rfl))⟩
  f27 := ⟨Try.f96.name, by decide, Try.func96.trans (congrArg some (by kernel_rfl))⟩
  f28 := ⟨Try.f97.name, by decide, Try.func97.trans (congrArg some (by kernel_rfl))⟩
  f29 := ⟨Try.f98.name, by decide, Try.func98.trans (congrArg some (by kernel_rfl))⟩
  f31 := Try.func107.trans (congrArg some (by kernel_rfl))
  f32 := Try.func108.trans (congrArg some (by kernel_rfl))
  f36 := ⟨Try.f106.name, by decide, Try.func106.trans (congrArg some (by kernel_rfl))⟩
  f37 := ⟨Try.f109.name, by decide, Try.func109.trans (congrArg some (by kernel_rfl))⟩
  f38 := ⟨Try.f110.name, by decide, Try.func110.trans (congrArg some (by kernel_rfl))⟩
  f39 := ⟨Try.f111.name, by decide, Try.func111.trans (congrArg some (by kernel_rfl))⟩
  f41 := ⟨Try.f123.name, by decide, Try.func123.trans (congrArg some (by kernel_rfl))⟩
  t0 := Try.underlying0
  a0 := Try.isAgg0
  z0 := Try.sizeOf0
  v0 := Try.zeroValue0
  t3 := Try.underlying3
  a3 := Try.isAgg3
  z3 := Try.sizeOf3
  v3 := Try.zeroValue3
  t4 := Try.underlying4
  a4 := Try.isAgg4
  z4 := Try.sizeOf4
  v4 := Try.zeroValue4
  t5 := Try.underlying5
  a5 := Try.isAgg5
  z5 := Try.sizeOf5
  v5 := Try.zeroValue5
  t9 := Try.underlying9
  a9 := Try.isAgg9
  z9 := Try.sizeOf9
  v9 := Try.zeroValue9
  t26 := Try.underlying33
  a26 := Try.isAgg33
  z26 := Try.sizeOf33
  v26 := Try.zeroValue33
  t27 := Try.underlying33
  a27 := Try.isAgg33
  z27 := Try.sizeOf33
  v27 := Try.zeroValue33
  t29 := Try.underlying9
  a29 := Try.isAgg9
  z29 := Try.sizeOf9
  v29 := Try.zeroValue9
  t32 := Try.underlying121
  a32 := Try.isAgg121
  z32 := Try.sizeOf121
  v32 := Try.zeroValue121
  t35 := Try.underlying124
  a35 := Try.isAgg124
  z35 := Try.sizeOf124
  v35 := Try.zeroValue124
  t36 := Try.underlying125
  a36 := Try.isAgg125
  z36 := Try.sizeOf125
  v36 := Try.zeroValue125
  t41 := Try.underlying60
  a41 := Try.isAgg60
  z41 := Try.sizeOf60
  v41 := Try.zeroValue60
  t44 := Try.underlying131
  a44 := Try.isAgg131
  z44 := Try.sizeOf131
  v44 := Try.zeroValue131
  t46 := Try.underlying133
  a46 := Try.isAgg133
  z46 := Try.sizeOf133
  v46 := Try.zeroValue133
  t53 := Try.underlying139
  a53 := Try.isAgg139
  z53 := Try.sizeOf139
  v53 := Try.zeroValue139
  t57 := Try.underlying143
  a57 := Try.isAgg143
  z57 := Try.sizeOf143
  v57 := Try.zeroValue143
  t63 := Try.underlying154
  a63 := Try.isAgg154
  z63 := Try.sizeOf154
  v63 := Try.zeroValue154
  t64 := Try.underlying155
  a64 := Try.isAgg155
  z64 := Try.sizeOf155
  v64 := Try.zeroValue155 }
def G42 : FnT := gSortedS 71 9
theorem ok42 : OkF Try.prog 42 G42 := okSortedS (f := 42) (g := 71) (ty := 9) LayK43 LayS42 LayM70 rfl rfl rfl rfl Try.call42 Try.call70 Try.call71
def T43 : List (Nat × FnT) := []
def F43 (x0 : Value) (w : World) (K : V1) : Prop :=
eBox 78 x0 w fun v2 w1 =>
bindP (some (.func (.func 71) #[] #[v2])) fun v3 =>
K v3 w1
def G43 : FnT := fun args w K => on1 (fun x0 => F43 x0 w K) args
theorem c43 {x0 : Value} {w : World} {K : V1} (h : F43 x0 w K) : callP G43 [x0] w K := callP_intro (on1_mk (p := fun x0 => F43 x0 w K) h)
theorem ok43 : OkF Try.prog 43 G43 := by
  refine okF_of (tab_ok (l := T43) trivial) mixed (n := fuel) Try.func43 Try.call43 fun args w K h => ?_
  obtain ⟨x0, rfl, hh⟩ := of_on1 h
  exact fnD_list (c := bodyOf Try.f43) (by kernel_rfl) (by kernel_rfl) (Eq.mp (by kernel_rfl) hh)
def T15 : List (Nat × FnT) := [(42, G42), (43, G43)]
def F15 (x0 : Value) (w : World) (K : V1) : Prop :=
bindP (pNil x0) fun v1 =>
bindP (pFieldAddr 1 v1) fun v2 =>
bindP (ld1 v2 w) fun v3 =>
callP G43 [v3] w fun v5 w4 =>
callP G42 [v5] w4 fun v7 w6 =>
K v7 w6
def G15 : FnT := fun args w K => on1 (fun x0 => F15 x0 w K) args
theorem c15 {x0 : Value} {w : World} {K : V1} (h : F15 x0 w K) : callP G15 [x0] w K := callP_intro (on1_mk (p := fun x0 => F15 x0 w K) h)
theorem ok15 : OkF Try.prog 15 G15 := by
  refine okF_of (tab_ok (l := T15) ⟨ok42, ok43, trivial⟩) mixed (n := fuel) Try.func15 Try.call15 fun args w K h => ?_
  obtain ⟨x0, rfl, hh⟩ := of_on1 h
  exact fnD_list (c := bodyOf Try.f15) (by kernel_rfl) (by kernel_rfl) (Eq.mp (by kernel_rfl) hh)
def T44 : List (Nat × FnT) := []
def F44_2b (s0 : Value) (w : World) (K : V1) : Prop :=
K s0 w
def F44_2 (s0 : Value) (w : World) (K : V1) : Prop := F44_2b s0 w K
theorem ok44_2 {K : V1}
    (hn : HN (fun e w => K (e 4) w) kn) (hr : HR Try.prog [.tmp 4] K kr) (he : HE noE ke) :
    ∀ e w, F44_2 (e 0) w K → denL Try.prog (tabOf T44) 16 fuel ((flat (bodyOf Try.f44)).drop 4) e w kn kr ke := by
  intro e w h
  unfold F44_2 at h
  have e1 : ∀ (_ : Unit), F44_2b (e 0) w K = denL Try.prog (tabOf T44) 16 fuel ((flat (bodyOf Try.f44)).drop 4) e w (fun e w => K (e 4) w) (endD Try.prog [.tmp 4] K) noE := by intro _; kernel_rfl
  exact seg_end (Eq.mp (e1 ()) h) hn hr he
def F44_1b (s0 s1 : Value) (w : World) (_K : V1) (Y0 : V1) : Prop :=
bindP (bAdd s1 (.int .i64 1)) fun v1 =>
bindP (bRem s0 v1) fun v2 =>
bindP (bLt v2 (.int .i64 0)) fun v3 =>
ifB v3 (
bindP (bAdd s1 (.int .i64 1)) fun v4 =>
bindP (bAdd v2 v4) fun v5 =>
Y0 v5 w) (
Y0 v2 w)
def F44_1 (s0 s1 : Value) (w : World) (K : V1) : Prop := F44_1b s0 s1 w K (fun a0 w => F44_2 a0 w K)
theorem ok44_1 {K : V1}
    (hn : HN (fun e w => K (e 4) w) kn) (hr : HR Try.prog [.tmp 4] K kr) (he : HE noE ke) :
    ∀ e w, F44_1 (e 0) (e 1) w K → denL Try.prog (tabOf T44) 16 fuel ((flat (bodyOf Try.f44)).drop 0) e w kn kr ke := by
  intro e w h
  unfold F44_1 at h
  have e1 : ∀ (Y0 : V1), F44_1b (e 0) (e 1) w K Y0 = denL Try.prog (tabOf T44) 16 fuel (((flat (bodyOf Try.f44)).drop 0).take 4) e w (fun e w => Y0 (e 0) w) (endD Try.prog [.tmp 4] K) noE := by intro Y0; kernel_rfl
  exact seg 4 (Eq.mp (e1 (fun a0 w => F44_2 a0 w K)) h) (fun e w h => ok44_2 hn hr he e w h) hr he
def F44 (x0 x1 : Value) (w : World) (K : V1) : Prop := F44_1 x0 x1 w K
def G44 : FnT := fun args w K => on2 (fun x0 x1 => F44 x0 x1 w K) args
theorem c44 {x0 x1 : Value} {w : World} {K : V1} (h : F44 x0 x1 w K) : callP G44 [x0, x1] w K := callP_intro (on2_mk (p := fun x0 x1 => F44 x0 x1 w K) h)
theorem ok44 : OkF Try.prog 44 G44 := by
  refine okF_of (tab_ok (l := T44) trivial) mixed (n := fuel) Try.func44 Try.call44 fun args w K h => ?_
  obtain ⟨x0, x1, rfl, hh⟩ := of_on2 h
  unfold F44 at hh
  exact fnD_list (c := bodyOf Try.f44) (by kernel_rfl) (by kernel_rfl) (ok44_1 (fun _ _ h => h) (fun _ _ h => h) (fun _ _ _ h => h) (initE [x0, x1]) w hh)
def T17 : List (Nat × FnT) := [(15, G15), (44, G44)]
def F17_3b (s0 : Value) (w : World) (K : V1) : Prop :=
bindP (pNil s0) fun v1 =>
bindP (pFieldAddr 2 v1) fun v2 =>
bindW (st 1 v2 (.bool false) w) fun w3 =>
bindP (pNil s0) fun v5 =>
bindP (pFieldAddr 3 v5) fun v6 =>
bindW (st 1 v6 (.int .i64 0) w3) fun w7 =>
K (.tuple #[]) w7
def F17_3 (s0 : Value) (w : World) (K : V1) : Prop := F17_3b s0 w K
theorem ok17_3 {K : V1}
    (hn : HN (fun e w => K (.tuple #[]) w) kn) (hr : HR Try.prog [] K kr) (he : HE noE ke) :
    ∀ e w, F17_3 (e 0) w K → denL Try.prog (tabOf T17) 59 fuel ((flat (bodyOf Try.f17)).drop 2) e w kn kr ke := by
  intro e w h
  unfold F17_3 at h
  have e1 : ∀ (_ : Unit), F17_3b (e 0) w K = denL Try.prog (tabOf T17) 59 fuel ((flat (bodyOf Try.f17)).drop 2) e w (fun e w => K (.tuple #[]) w) (endD Try.prog [] K) noE := by intro _; kernel_rfl
  exact seg_end (Eq.mp (e1 ()) h) hn hr he
def F17_6b (s0 s1 s9 s10 s11 : Value) (w : World) (_K : V1) (R3 : V5) : Prop :=
bindP (bAdd s11 (.int .i64 1)) fun v9 =>
R3 s0 s1 s9 s10 v9 w
def F17_6 (s0 s1 s9 s10 s11 : Value) (w : World) (K : V1) (R3 : V5) : Prop := F17_6b s0 s1 s9 s10 s11 w K R3
theorem ok17_6 (R3 : V5) {K : V1}
    (hn : HN (fun e w => R3 (e 0) (e 1) (e 9) (e 10) (e 11) w) kn) (hr : HR Try.prog [] K kr) (he : HE (blkK 0 (fun e w => F17_3 (e 0) w K) noE) ke) :
    ∀ e w, F17_6 (e 0) (e 1) (e 9) (e 10) (e 11) w K R3 → denL Try.prog (tabOf T17) 59 fuel ((flat (loopB (blkB (nthC (flat (bodyOf Try.f17)) 1)))).drop 3) e w kn kr ke := by
  intro e w h
  unfold F17_6 at h
  have e1 : ∀ (_ : Unit), F17_6b (e 0) (e 1) (e 9) (e 10) (e 11) w K R3 = denL Try.prog (tabOf T17) 59 fuel ((flat (loopB (blkB (nthC (flat (bodyOf Try.f17)) 1)))).drop 3) e w (fun e w => R3 (e 0) (e 1) (e 9) (e 10) (e 11) w) (endD Try.prog [] K) (blkK 0 (fun e w => F17_3 (e 0) w K) noE) := by intro _; kernel_rfl
  exact seg_end (Eq.mp (e1 ()) h) hn hr he
def F17_8b (s0 s1 s5 s6 s7 s9 s10 s11 : Value) (w : World) (_K : V1) (R3 : V5) (Y0 : V5) : Prop :=
bindP (pNil s0) fun v10 =>
bindP (pFieldAddr 1 v10) fun v11 =>
bindP (ld1 v11 w.drew) fun v12 =>
bindP (pFieldAddr 0 s6) fun v13 =>
bindP (ld1 v13 w.drew) fun v14 =>
bindP (pSliceS v14 none (some s7)) fun v15 =>
bindP (fBuild Try.prog 86 [(0, v15), (1, s7)]) fun v16 =>
eMapSet Try.prog 78 v12 s5 v16 w.drew fun _ w17 =>
Y0 s0 s1 s9 s10 s11 w17
def F17_8 (s0 s1 s5 s6 s7 s9 s10 s11 : Value) (w : World) (K : V1) (R3 : V5) : Prop := F17_8b s0 s1 s5 s6 s7 s9 s10 s11 w K R3 (fun a0 a1 a9 a10 a11 w => F17_6 a0 a1 a9 a10 a11 w K R3)
theorem ok17_8 (R3 : V5) {K : V1}
    (hn : HN (fun e w => F17_6 (e 0) (e 1) (e 9) (e 10) (e 11) w K R3) kn) (hr : HR Try.prog [] K kr) (he : HE (blkK 1 (fun e w => F17_6 (e 0) (e 1) (e 9) (e 10) (e 11) w K R3) (blkK 0 (fun e w => F17_3 (e 0) w K) noE)) ke) :
    ∀ e w, F17_8 (e 0) (e 1) (e 5) (e 6) (e 7) (e 9) (e 10) (e 11) w K R3 → denL Try.prog (tabOf T17) 59 fuel ((flat (blkB (nthC (flat (loopB (blkB (nthC (flat (bodyOf Try.f17)) 1)))) 2))).drop 5) e w kn kr ke := by
  intro e w h
  unfold F17_8 at h
  have e1 : ∀ (Y0 : V5), F17_8b (e 0) (e 1) (e 5) (e 6) (e 7) (e 9) (e 10) (e 11) w K R3 Y0 = denL Try.prog (tabOf T17) 59 fuel ((flat (blkB (nthC (flat (loopB (blkB (nthC (flat (bodyOf Try.f17)) 1)))) 2))).drop 5) e w (fun e w => Y0 (e 0) (e 1) (e 9) (e 10) (e 11) w) (endD Try.prog [] K) (blkK 1 (fun e w => Y0 (e 0) (e 1) (e 9) (e 10) (e 11) w) (blkK 0 (fun e w => F17_3 (e 0) w K) noE)) := by intro Y0; kernel_rfl
  exact seg_end (Eq.mp (e1 (fun a0 a1 a9 a10 a11 w => F17_6 a0 a1 a9 a10 a11 w K R3)) h) hn hr he
def F17_7b (s0 s1 s9 s10 s11 : Value) (w : World) (_K : V1) (R3 : V5) (Y0 : V8) : Prop :=
bindP (pIndexL 1 s9 s11) fun v19 =>
bindP (ld1 v19 w) fun v20 =>
bindP (pNil s0) fun v21 =>
bindP (pFieldAddr 1 v21) fun v22 =>
bindP (ld1 v22 w) fun v23 =>
bindP (fLook Try.prog 78 v23 v20 false w) fun v24 =>
eAlloc Try.prog 86 w fun v26 w25 =>
bindW (st 2 v26 v24 w25) fun w27 =>
bindP (pFieldAddr 1 v26) fun v29 =>
bindP (ld1 v29 w27) fun v30 =>
bindP (lenL s1) fun v31 =>
bindP (bLt s11 v31) fun v32 =>
ifB v32 (
bindP (pIndexL 1 s1 s11) fun v33 =>
bindP (ld1 v33 w27.drew) fun v34 =>
bindP (pFieldAddr 0 v26) fun v35 =>
bindP (ld1 v35 w27.drew) fun v36 =>
bindP (lenS v36) fun v37 =>
bindP (pFieldAddr 1 v26) fun v38 =>
bindP (ld1 v38 w27.drew) fun v39 =>
bindP (bSub v37 v39) fun v40 =>
callP G44 [v34, v40] w27.drew fun v42 w41 =>
bindP (bAdd v30 v42) fun v43 =>
Y0 s0 s1 v20 v26 v43 s9 s10 s11 w41) (
Y0 s0 s1 v20 v26 v30 s9 s10 s11 w27)
def F17_7 (s0 s1 s9 s10 s11 : Value) (w : World) (K : V1) (R3 : V5) : Prop := F17_7b s0 s1 s9 s10 s11 w K R3 (fun a0 a1 a5 a6 a7 a9 a10 a11 w => F17_8 a0 a1 a5 a6 a7 a9 a10 a11 w K R3)
theorem ok17_7 (R3 : V5) {K : V1}
    (hn : HN (fun e w => F17_6 (e 0) (e 1) (e 9) (e 10) (e 11) w K R3) kn) (hr : HR Try.prog [] K kr) (he : HE (blkK 1 (fun e w => F17_6 (e 0) (e 1) (e 9) (e 10) (e 11) w K R3) (blkK 0 (fun e w => F17_3 (e 0) w K) noE)) ke) :
    ∀ e w, F17_7 (e 0) (e 1) (e 9) (e 10) (e 11) w K R3 → denL Try.prog (tabOf T17) 59 fuel ((flat (blkB (nthC (flat (loopB (blkB (nthC (flat (bodyOf Try.f17)) 1)))) 2))).drop 0) e w kn kr ke := by
  intro e w h
  unfold F17_7 at h
  have e1 : ∀ (Y0 : V8), F17_7b (e 0) (e 1) (e 9) (e 10) (e 11) w K R3 Y0 = denL Try.prog (tabOf T17) 59 fuel (((flat (blkB (nthC (flat (loopB (blkB (nthC (flat (bodyOf Try.f17)) 1)))) 2))).drop 0).take 5) e w (fun e w => Y0 (e 0) (e 1) (e 5) (e 6) (e 7) (e 9) (e 10) (e 11) w) (endD Try.prog [] K) (blkK 1 (fun e w => F17_6 (e 0) (e 1) (e 9) (e 10) (e 11) w K R3) (blkK 0 (fun e w => F17_3 (e 0) w K) noE)) := by intro Y0; kernel_rfl
  exact seg 5 (Eq.mp (e1 (fun a0 a1 a5 a6 a7 a9 a10 a11 w => F17_8 a0 a1 a5 a6 a7 a9 a10 a11 w K R3)) h) (fun e w h => ok17_8 R3 hn hr he e w h) hr he
def F17_5 (s0 s1 s9 s10 s11 : Value) (w : World) (K : V1) (R3 : V5) : Prop := F17_7 s0 s1 s9 s10 s11 w K R3
theorem ok17_5 (R3 : V5) {K : V1}
    (hn : HN (fun e w => R3 (e 0) (e 1) (e 9) (e 10) (e 11) w) kn) (hr : HR Try.prog [] K kr) (he : HE (blkK 0 (fun e w => F17_3 (e 0) w K) noE) ke) :
    ∀ e w, F17_5 (e 0) (e 1) (e 9) (e 10) (e 11) w K R3 → denL Try.prog (tabOf T17) 59 fuel ((flat (loopB (blkB (nthC (flat (bodyOf Try.f17)) 1)))).drop 2) e w kn kr ke := by
  intro e w h
  unfold F17_5 at h
  refine seg_block (id := 1) (body := (blkB (nthC (flat (loopB (blkB (nthC (flat (bodyOf Try.f17)) 1)))) 2))) (l2 := (flat (loopB (blkB (nthC (flat (bodyOf Try.f17)) 1)))).drop 3) (by kernel_rfl) ?_
  exact ok17_7 R3 (fun e w h => ok17_6 R3 hn hr he e w h) hr (blkK_mono (fun e w h => ok17_6 R3 hn hr he e w h) he) e w h
def F17_4b (s0 s1 s9 s10 s11 : Value) (w : World) (_K : V1) (R3 : V5) (Y0 : V5) (Y1 : V1) : Prop :=
bindP (bLt s11 s10) fun v44 =>
ifB v44 (
Y0 s0 s1 s9 s10 s11 w) (
Y1 s0 w)
def F17_4 (s0 s1 s9 s10 s11 : Value) (w : World) (K : V1) (R3 : V5) : Prop := F17_4b s0 s1 s9 s10 s11 w K R3 (fun a0 a1 a9 a10 a11 w => F17_5 a0 a1 a9 a10 a11 w K R3) (fun a0 w => F17_3 a0 w K)
theorem ok17_4 (R3 : V5) {K : V1}
    (hn : HN (fun e w => R3 (e 0) (e 1) (e 9) (e 10) (e 11) w) kn) (hr : HR Try.prog [] K kr) (he : HE (blkK 0 (fun e w => F17_3 (e 0) w K) noE) ke) :
    ∀ e w, F17_4 (e 0) (e 1) (e 9) (e 10) (e 11) w K R3 → denL Try.prog (tabOf T17) 59 fuel ((flat (loopB (blkB (nthC (flat (bodyOf Try.f17)) 1)))).drop 0) e w kn kr ke := by
  intro e w h
  unfold F17_4 at h
  have e1 : ∀ (Y0 : V5) (Y1 : V1), F17_4b (e 0) (e 1) (e 9) (e 10) (e 11) w K R3 Y0 Y1 = denL Try.prog (tabOf T17) 59 fuel (((flat (loopB (blkB (nthC (flat (bodyOf Try.f17)) 1)))).drop 0).take 2) e w (fun e w => Y0 (e 0) (e 1) (e 9) (e 10) (e 11) w) (endD Try.prog [] K) (blkK 0 (fun e w => Y1 (e 0) w) noE) := by intro Y0 Y1; kernel_rfl
  exact seg 2 (Eq.mp (e1 (fun a0 a1 a9 a10 a11 w => F17_5 a0 a1 a9 a10 a11 w K R3) (fun a0 w => F17_3 a0 w K)) h) (fun e w h => ok17_5 R3 hn hr he e w h) hr he
def F17_2L : Nat → Value → Value → Value → Value → Value → World → (V1) → Prop
  | 0, _, _, _, _, _, _, _ => False
  | n + 1, s0, s1, s9, s10, s11, w, K => F17_4 s0 s1 s9 s10 s11 w K (fun a0 a1 a9 a10 a11 w => F17_2L n a0 a1 a9 a10 a11 w K)
def F17_2 (s0 s1 s9 s10 s11 : Value) (w : World) (K : V1) : Prop := F17_2L fuel s0 s1 s9 s10 s11 w K
theorem ok17_2 {K : V1}
    (hn : HN (fun e w => K (.tuple #[]) w) kn) (hr : HR Try.prog [] K kr) (he : HE noE ke) :
    ∀ e w, F17_2 (e 0) (e 1) (e 9) (e 10) (e 11) w K → denL Try.prog (tabOf T17) 59 fuel ((flat (bodyOf Try.f17)).drop 1) e w kn kr ke := by
  intro e w h
  unfold F17_2 at h
  refine seg_loop (id := 0) (body := (loopB (blkB (nthC (flat (bodyOf Try.f17)) 1)))) (l2 := (flat (bodyOf Try.f17)).drop 2) (by kernel_rfl) ?_
  refine loop_ok (FL := fun m e w => F17_2L m (e 0) (e 1) (e 9) (e 10) (e 11) w K) (fr := endD Try.prog [] K) (fe := (blkK 0 (fun e w => F17_3 (e 0) w K) noE)) (fun _ _ h => h) ?_ hr (blkK_mono (fun e w h => ok17_3 hn hr he e w h) he) fuel e w h
  intro m e w h
  have h : F17_2L (m + 1) (e 0) (e 1) (e 9) (e 10) (e 11) w K := h
  rw [F17_2L] at h
  exact ok17_4 (fun a0 a1 a9 a10 a11 w => F17_2L m a0 a1 a9 a10 a11 w K) (fun _ _ h => h) (fun _ _ h => h) (fun _ _ _ h => h) e w h
def F17_1b (s0 s1 : Value) (w : World) (_K : V1) (Y0 : V5) : Prop :=
callP G15 [s0] w fun v46 w45 =>
bindP (lenL v46) fun v47 =>
Y0 s0 s1 v46 v47 (.int .i64 0) w45
def F17_1 (s0 s1 : Value) (w : World) (K : V1) : Prop := F17_1b s0 s1 w K (fun a0 a1 a9 a10 a11 w => F17_2 a0 a1 a9 a10 a11 w K)
theorem ok17_1 {K : V1}
    (hn : HN (fun e w => K (.tuple #[]) w) kn) (hr : HR Try.prog [] K kr) (he : HE noE ke) :
    ∀ e w, F17_1 (e 0) (e 1) w K → denL Try.prog (tabOf T17) 59 fuel ((flat (bodyOf Try.f17)).drop 0) e w kn kr ke := by
  intro e w h
  unfold F17_1 at h
  have e1 : ∀ (Y0 : V5), F17_1b (e 0) (e 1) w K Y0 = denL Try.prog (tabOf T17) 59 fuel (((flat (bodyOf Try.f17)).drop 0).take 1) e w (fun e w => Y0 (e 0) (e 1) (e 9) (e 10) (e 11) w) (endD Try.prog [] K) noE := by intro Y0; kernel_rfl
  exact seg 1 (Eq.mp (e1 (fun a0 a1 a9 a10 a11 w => F17_2 a0 a1 a9 a10 a11 w K)) h) (fun e w h => ok17_2 hn hr he e w h) hr he
def F17 (x0 x1 : Value) (w : World) (K : V1) : Prop := F17_1 x0 x1 w K
def G17 : FnT := fun args w K => on2 (fun x0 x1 => F17 x0 x1 w K) args
theorem c17 {x0 x1 : Value} {w : World} {K : V1} (h : F17 x0 x1 w K) : callP G17 [x0, x1] w K := callP_intro (on2_mk (p := fun x0 x1 => F17 x0 x1 w K) h)
theorem ok17 : OkF Try.prog 17 G17 := by
  refine okF_of (tab_ok (l := T17) ⟨ok15, ok44, trivial⟩) mixed (n := fuel) Try.func17 Try.call17 fun args w K h => ?_
  obtain ⟨x0, x1, rfl, hh⟩ := of_on2 h
  unfold F17 at hh
  exact fnD_list (c := bodyOf Try.f17) (by kernel_rfl) (by kernel_rfl) (ok17_1 (fun _ _ h => h) (fun _ _ h => h) (fun _ _ _ h => h) (initE [x0, x1]) w hh)
def T45 : List (Nat × FnT) := []
def F45 (x0 : Value) (w : World) (K : V1) : Prop :=
bindP (bNe Try.prog 9 (.tmp 3) (.const (.string ⟨#[]⟩)) x0 (.string ⟨#[]⟩)) fun v1 =>
stepM (gd true v1) x0 fun v2 =>
Sx.stepG (gd true v1) (lenS v2) fun v3 =>
Sx.stepG (gd true v1) (bLe v3 (.int .i64 64)) fun v4 =>
bindP (pPick v1 v4 (.bool false)) fun v5 =>
K v5 w
def G45 : FnT := fun args w K => on1 (fun x0 => F45 x0 w K) args
theorem c45 {x0 : Value} {w : World} {K : V1} (h : F45 x0 w K) : callP G45 [x0] w K := callP_intro (on1_mk (p := fun x0 => F45 x0 w K) h)
theorem ok45 : OkF Try.prog 45 G45 := by
  refine okF_of (tab_ok (l := T45) trivial) mixed (n := fuel) Try.func45 Try.call45 fun args w K h => ?_
  obtain ⟨x0, rfl, hh⟩ := of_on1 h
  exact fnD_list (c := bodyOf Try.f45) (by kernel_rfl) (by kernel_rfl) (Eq.mp (by kernel_rfl) hh)
def T13 : List (Nat × FnT) := []
def F13 (x0 : Value) (w : World) (K : V1) : Prop :=
bindP (pNil x0) fun v1 =>
bindP (pFieldAddr 2 v1) fun v2 =>
bindP (ld1 v2 w) fun v3 =>
stepM (gd true v3) x0 fun v4 =>
Sx.stepG (gd true v3) (pNil v4) fun v5 =>
Sx.stepG (gd true v3) (pFieldAddr 3 v5) fun v6 =>
Sx.stepG (gd true v3) (ld1 v6 w) fun v7 =>
Sx.stepG (gd true v3) (bEq Try.prog 3 (.tmp 11) (.const (.int .i64 0)) v7 (.int .i64 0)) fun v8 =>
bindP (pPick v3 v8 (.bool false)) fun v9 =>
K v9 w
def G13 : FnT := fun args w K => on1 (fun x0 => F13 x0 w K) args
theorem c13 {x0 : Value} {w : World} {K : V1} (h : F13 x0 w K) : callP G13 [x0] w K := callP_intro (on1_mk (p := fun x0 => F13 x0 w K) h)
theorem ok13 : OkF Try.prog 13 G13 := by
  refine okF_of (tab_ok (l := T13) trivial) mixed (n := fuel) Try.func13 Try.call13 fun args w K h => ?_
  obtain ⟨x0, rfl, hh⟩ := of_on1 h
  exact fnD_list (c := bodyOf Try.f13) (by kernel_rfl) (by kernel_rfl) (Eq.mp (by kernel_rfl) hh)
def T68 : List (Nat × FnT) := [(13, G13)]
def F68_2b (w : World) (K : V1) : Prop :=
K (.bool true) w
def F68_2 (w : World) (K : V1) : Prop := F68_2b w K
theorem ok68_2 {K : V1}
    (hn : HN (fun e w => K (e 2) w) kn) (hr : HR Try.prog [.tmp 2] K kr) (he : HE noE ke) :
    ∀ e w, F68_2 w K → denL Try.prog (tabOf T68) 16 fuel ((flat (bodyOf Try.f68)).drop 5) e w kn kr ke := by
  intro e w h
  unfold F68_2 at h
  have e1 : ∀ (_ : Unit), F68_2b w K = denL Try.prog (tabOf T68) 16 fuel ((flat (bodyOf Try.f68)).drop 5) e w (fun e w => K (e 2) w) (endD Try.prog [.tmp 2] K) noE := by intro _; kernel_rfl
  exact seg_end (Eq.mp (e1 ()) h) hn hr he
def F68_1b (s0 : Value) (w : World) (K : V1) (Y0 : V0) : Prop :=
callP G13 [s0] w fun v2 w1 =>
ifB v2 (
K (.bool false) w1) (
bindP (pNil s0) fun v3 =>
bindP (pFieldAddr 2 v3) fun v4 =>
bindP (ld1 v4 w1) fun v5 =>
ifB v5 (
bindP (pNil s0) fun v6 =>
bindP (pFieldAddr 3 v6) fun v7 =>
bindP (ld1 v7 w1) fun v8 =>
bindP (bSub v8 (.int .i64 1)) fun v9 =>
bindP (pNil s0) fun v10 =>
bindP (pFieldAddr 3 v10) fun v11 =>
bindW (st 1 v11 v9 w1) fun w12 =>
Y0 w12) (
Y0 w1))
def F68_1 (s0 : Value) (w : World) (K : V1) : Prop := F68_1b s0 w K (fun w => F68_2 w K)
theorem ok68_1 {K : V1}
    (hn : HN (fun e w => K (e 2) w) kn) (hr : HR Try.prog [.tmp 2] K kr) (he : HE noE ke) :
    ∀ e w, F68_1 (e 0) w K → denL Try.prog (tabOf T68) 16 fuel ((flat (bodyOf Try.f68)).drop 0) e w kn kr ke := by
  intro e w h
  unfold F68_1 at h
  have e1 : ∀ (Y0 : V0), F68_1b (e 0) w K Y0 = denL Try.prog (tabOf T68) 16 fuel (((flat (bodyOf Try.f68)).drop 0).take 5) e w (fun e w => Y0 w) (endD Try.prog [.tmp 2] K) noE := by intro Y0; kernel_rfl
  exact seg 5 (Eq.mp (e1 (fun w => F68_2 w K)) h) (fun e w h => ok68_2 hn hr he e w h) hr he
def F68 (x0 : Value) (w : World) (K : V1) : Prop := F68_1 x0 w K
def G68 : FnT := fun args w K => on1 (fun x0 => F68 x0 w K) args
theorem c68 {x0 : Value} {w : World} {K : V1} (h : F68 x0 w K) : callP G68 [x0] w K := callP_intro (on1_mk (p := fun x0 => F68 x0 w K) h)
theorem ok68 : OkF Try.prog 68 G68 := by
  refine okF_of (tab_ok (l := T68) ⟨ok13, trivial⟩) mixed (n := fuel) Try.func68 Try.call68 fun args w K h => ?_
  obtain ⟨x0, rfl, hh⟩ := of_on1 h
  unfold F68 at hh
  exact fnD_list (c := bodyOf Try.f68) (by kernel_rfl) (by kernel_rfl) (ok68_1 (fun _ _ h => h) (fun _ _ h => h) (fun _ _ _ h => h) (initE [x0]) w hh)
def T46 : List (Nat × FnT) := [(68, G68)]
def F46 (x0 x1 x2 : Value) (w : World) (K : V1) : Prop :=
eBox 86 x2 w fun v2 w1 =>
callP G68 [x0] w1 fun v4 w3 =>
bindP (uNot v4) fun v5 =>
ifB v5 (
K (.int .i64 251) w3) (
bindP (pNil x0) fun v6 =>
bindP (pFieldAddr 1 v6) fun v7 =>
bindP (ld1 v7 w3.drew) fun v8 =>
bindP (ldN 2 v2 w3.drew) fun v9 =>
eMapSet Try.prog 78 v8 x1 v9 w3.drew fun _ w10 =>
K (.int .i64 0) w10)
def G46 : FnT := fun args w K => on3 (fun x0 x1 x2 => F46 x0 x1 x2 w K) args
theorem c46 {x0 x1 x2 : Value} {w : World} {K : V1} (h : F46 x0 x1 x2 w K) : callP G46 [x0, x1, x2] w K := callP_intro (on3_mk (p := fun x0 x1 x2 => F46 x0 x1 x2 w K) h)
theorem ok46 : OkF Try.prog 46 G46 := by
  refine okF_of (tab_ok (l := T46) ⟨ok68, trivial⟩) mixed (n := fuel) Try.func46 Try.call46 fun args w K h => ?_
  obtain ⟨x0, x1, x2, rfl, hh⟩ := of_on3 h
  exact fnD_list (c := bodyOf Try.f46) (by kernel_rfl) (by kernel_rfl) (Eq.mp (by kernel_rfl) hh)
def T18 : List (Nat × FnT) := [(45, G45), (46, G46)]
def F18 (x0 x1 : Value) (w : World) (K : V1) : Prop :=
callP G45 [x1] w fun v2 w1 =>
bindP (uNot v2) fun v3 =>
ifB v3 (
K (.int .i64 1) w1) (
bindP (pNil x0) fun v4 =>
bindP (pFieldAddr 1 v4) fun v5 =>
bindP (ld1 v5 w1) fun v6 =>
bindP (fLook Try.prog 78 v6 x1 true w1) fun v7 =>
bindP (pTuple v7 0) fun v8 =>
bindP (pTuple v7 1) fun v9 =>
eAlloc Try.prog 86 w1 fun v11 w10 =>
bindW (st 2 v11 v8 w10) fun w12 =>
ifB v9 (
K (.int .i64 6) w12) (
bindP (fBuild Try.prog 86 []) fun v14 =>
callP G46 [x0, x1, v14] w12 fun v16 w15 =>
K v16 w15))
def G18 : FnT := fun args w K => on2 (fun x0 x1 => F18 x0 x1 w K) args
theorem c18 {x0 x1 : Value} {w : World} {K : V1} (h : F18 x0 x1 w K) : callP G18 [x0, x1] w K := callP_intro (on2_mk (p := fun x0 x1 => F18 x0 x1 w K) h)
theorem ok18 : OkF Try.prog 18 G18 := by
  refine okF_of (tab_ok (l := T18) ⟨ok45, ok46, trivial⟩) mixed (n := fuel) Try.func18 Try.call18 fun args w K h => ?_
  obtain ⟨x0, x1, rfl, hh⟩ := of_on2 h
  exact fnD_list (c := bodyOf Try.f18) (by kernel_rfl) (by kernel_rfl) (Eq.mp (by kernel_rfl) hh)
def T16 : List (Nat × FnT) := []
def F16_3b (s3 : Value) (w : World) (K : V1) : Prop :=
K s3 w
def F16_3 (s3 : Value) (w : World) (K : V1) : Prop := F16_3b s3 w K
theorem ok16_3 {K : V1}
    (hn : HN (fun e w => K (e 2) w) kn) (hr : HR Try.prog [.tmp 2] K kr) (he : HE noE ke) :
    ∀ e w, F16_3 (e 3) w K → denL Try.prog (tabOf T16) 21 fuel ((flat (bodyOf Try.f16)).drop 4) e w kn kr ke := by
  intro e w h
  unfold F16_3 at h
  have e1 : ∀ (_ : Unit), F16_3b (e 3) w K = denL Try.prog (tabOf T16) 21 fuel ((flat (bodyOf Try.f16)).drop 4) e w (fun e w => K (e 2) w) (endD Try.prog [.tmp 2] K) noE := by intro _; kernel_rfl
  exact seg_end (Eq.mp (e1 ()) h) hn hr he
def F16_2b (s3 s10 : Value) (w : World) (_K : V1) (Y0 : V2) (Y1 : V1) : Prop :=
eNext s10 false w fun v2 w1 =>
bindP (pTuple v2 0) fun v3 =>
ifB v3 (
bindP (fEntry s10 w1) fun v4 =>
bindP (pTuple v4 1) fun v5 =>
eAlloc Try.prog 86 w1 fun v7 w6 =>
bindW (st 2 v7 v5 w6) fun w8 =>
bindP (pFieldAddr 0 v7) fun v10 =>
bindP (ld1 v10 w8) fun v11 =>
bindP (lenS v11) fun v12 =>
bindP (bAdd s3 v12) fun v13 =>
Y0 v13 s10 w8) (
Y1 s3 w1)
def F16_2L : Nat → Value → Value → World → (V1) → Prop
  | 0, _, _, _, _ => False
  | n + 1, s3, s10, w, K => F16_2b s3 s10 w K (fun a3 a10 w => F16_2L n a3 a10 w K) (fun a3 w => F16_3 a3 w K)
def F16_2 (s3 s10 : Value) (w : World) (K : V1) : Prop := F16_2L fuel s3 s10 w K
theorem ok16_2 {K : V1}
    (hn : HN (fun e w => K (e 2) w) kn) (hr : HR Try.prog [.tmp 2] K kr) (he : HE noE ke) :
    ∀ e w, F16_2 (e 3) (e 10) w K → denL Try.prog (tabOf T16) 21 fuel ((flat (bodyOf Try.f16)).drop 3) e w kn kr ke := by
  intro e w h
  unfold F16_2 at h
  refine seg_loop (id := 0) (body := (loopB (blkB (nthC (flat (bodyOf Try.f16)) 3)))) (l2 := (flat (bodyOf Try.f16)).drop 4) (by kernel_rfl) ?_
  refine loop_ok (FL := fun m e w => F16_2L m (e 3) (e 10) w K) (fr := endD Try.prog [.tmp 2] K) (fe := (blkK 0 (fun e w => F16_3 (e 3) w K) noE)) (fun _ _ h => h) ?_ hr (blkK_mono (fun e w h => ok16_3 hn hr he e w h) he) fuel e w h
  intro m e w h
  have h : F16_2L (m + 1) (e 3) (e 10) w K := h
  rw [F16_2L] at h
  have e1 : ∀ (Y0 : V2) (Y1 : V1), F16_2b (e 3) (e 10) w K Y0 Y1 = denL Try.prog (tabOf T16) 21 fuel (flat (loopB (blkB (nthC (flat (bodyOf Try.f16)) 3)))) e w (fun e w => Y0 (e 3) (e 10) w) (endD Try.prog [.tmp 2] K) (blkK 0 (fun e w => Y1 (e 3) w) noE) := by intro Y0 Y1; kernel_rfl
  exact Eq.mp (e1 (fun a3 a10 w => F16_2L m a3 a10 w K) (fun a3 w => F16_3 a3 w K)) h
def F16_1b (s0 : Value) (w : World) (_K : V1) (Y0 : V2) : Prop :=
bindP (pNil s0) fun v14 =>
bindP (pFieldAddr 1 v14) fun v15 =>
bindP (ld1 v15 w) fun v16 =>
eRange Try.prog 78 v16 w fun v18 w17 =>
Y0 (.int .i64 0) v18 w17
def F16_1 (s0 : Value) (w : World) (K : V1) : Prop := F16_1b s0 w K (fun a3 a10 w => F16_2 a3 a10 w K)
theorem ok16_1 {K : V1}
    (hn : HN (fun e w => K (e 2) w) kn) (hr : HR Try.prog [.tmp 2] K kr) (he : HE noE ke) :
    ∀ e w, F16_1 (e 0) w K → denL Try.prog (tabOf T16) 21 fuel ((flat (bodyOf Try.f16)).drop 0) e w kn kr ke := by
  intro e w h
  unfold F16_1 at h
  have e1 : ∀ (Y0 : V2), F16_1b (e 0) w K Y0 = denL Try.prog (tabOf T16) 21 fuel (((flat (bodyOf Try.f16)).drop 0).take 3) e w (fun e w => Y0 (e 3) (e 10) w) (endD Try.prog [.tmp 2] K) noE := by intro Y0; kernel_rfl
  exact seg 3 (Eq.mp (e1 (fun a3 a10 w => F16_2 a3 a10 w K)) h) (fun e w h => ok16_2 hn hr he e w h) hr he
def F16 (x0 : Value) (w : World) (K : V1) : Prop := F16_1 x0 w K
def G16 : FnT := fun args w K => on1 (fun x0 => F16 x0 w K) args
theorem c16 {x0 : Value} {w : World} {K : V1} (h : F16 x0 w K) : callP G16 [x0] w K := callP_intro (on1_mk (p := fun x0 => F16 x0 w K) h)
theorem ok16 : OkF Try.prog 16 G16 := by
  refine okF_of (tab_ok (l := T16) trivial) mixed (n := fuel) Try.func16 Try.call16 fun args w K h => ?_
  obtain ⟨x0, rfl, hh⟩ := of_on1 h
  unfold F16 at hh
  exact fnD_list (c := bodyOf Try.f16) (by kernel_rfl) (by kernel_rfl) (ok16_1 (fun _ _ h => h) (fun _ _ h => h) (fun _ _ _ h => h) (initE [x0]) w hh)
def T19 : List (Nat × FnT) := [(16, G16), (46, G46)]
def F19 (x0 x1 x2 : Value) (w : World) (K : V1) : Prop :=
bindP (pNil x0) fun v1 =>
bindP (pFieldAddr 1 v1) fun v2 =>
bindP (ld1 v2 w) fun v3 =>
bindP (fLook Try.prog 78 v3 x1 true w) fun v4 =>
bindP (pTuple v4 0) fun v5 =>
bindP (pTuple v4 1) fun v6 =>
eAlloc Try.prog 86 w fun v8 w7 =>
bindW (st 2 v8 v5 w7) fun w9 =>
bindP (uNot v6) fun v11 =>
ifB v11 (
K (.int .i64 5) w9) (
bindP (lenS x2) fun v12 =>
bindP (pNil x0) fun v13 =>
bindP (pFieldAddr 0 v13) fun v14 =>
bindP (ld1 v14 w9.drew) fun v15 =>
callP G16 [x0] w9.drew fun v17 w16 =>
(fok true (lenS x2) v12 ∧ fok true (ld1 v14 w16) v15) ∧ (bindP (bSub v15 v17) fun v18 =>
bindP (bGt v12 v18) fun v19 =>
ifB v19 (
K (.int .i64 250) w16) (
bindP (pFieldAddr 0 v8) fun v20 =>
bindP (ld1 v20 w16) fun v21 =>
bindP (bAdd v21 x2) fun v22 =>
bindP (pFieldAddr 0 v8) fun v23 =>
bindW (st 1 v23 v22 w16) fun w24 =>
bindP (ldN 2 v8 w24) fun v26 =>
callP G46 [x0, x1, v26] w24 fun v28 w27 =>
K v28 w27)))
def G19 : FnT := fun args w K => on3 (fun x0 x1 x2 => F19 x0 x1 x2 w K) args
theorem c19 {x0 x1 x2 : Value} {w : World} {K : V1} (h : F19 x0 x1 x2 w K) : callP G19 [x0, x1, x2] w K := callP_intro (on3_mk (p := fun x0 x1 x2 => F19 x0 x1 x2 w K) h)
theorem ok19 : OkF Try.prog 19 G19 := by
  refine okF_of (tab_ok (l := T19) ⟨ok16, ok46, trivial⟩) mixed (n := fuel) Try.func19 Try.call19 fun args w K h => ?_
  obtain ⟨x0, x1, x2, rfl, hh⟩ := of_on3 h
  exact fnD_list (c := bodyOf Try.f19) (by kernel_rfl) (by kernel_rfl) (Eq.mp (by kernel_rfl) hh)
def T21 : List (Nat × FnT) := [(46, G46)]
def F21 (x0 x1 : Value) (w : World) (K : V1) : Prop :=
bindP (pNil x0) fun v1 =>
bindP (pFieldAddr 1 v1) fun v2 =>
bindP (ld1 v2 w) fun v3 =>
bindP (fLook Try.prog 78 v3 x1 true w) fun v4 =>
bindP (pTuple v4 0) fun v5 =>
bindP (pTuple v4 1) fun v6 =>
eAlloc Try.prog 86 w fun v8 w7 =>
bindW (st 2 v8 v5 w7) fun w9 =>
bindP (uNot v6) fun v11 =>
ifB v11 (
K (.int .i64 5) w9) (
bindP (pFieldAddr 0 v8) fun v12 =>
bindP (ld1 v12 w9) fun v13 =>
bindP (lenS v13) fun v14 =>
bindP (pFieldAddr 1 v8) fun v15 =>
bindW (st 1 v15 v14 w9) fun w16 =>
bindP (ldN 2 v8 w16) fun v18 =>
callP G46 [x0, x1, v18] w16 fun v20 w19 =>
K v20 w19)
def G21 : FnT := fun args w K => on2 (fun x0 x1 => F21 x0 x1 w K) args
theorem c21 {x0 x1 : Value} {w : World} {K : V1} (h : F21 x0 x1 w K) : callP G21 [x0, x1] w K := callP_intro (on2_mk (p := fun x0 x1 => F21 x0 x1 w K) h)
theorem ok21 : OkF Try.prog 21 G21 := by
  refine okF_of (tab_ok (l := T21) ⟨ok46, trivial⟩) mixed (n := fuel) Try.func21 Try.call21 fun args w K h => ?_
  obtain ⟨x0, x1, rfl, hh⟩ := of_on2 h
  exact fnD_list (c := bodyOf Try.f21) (by kernel_rfl) (by kernel_rfl) (Eq.mp (by kernel_rfl) hh)
def T23 : List (Nat × FnT) := []
def F23 (x0 x1 : Value) (w : World) (K : V1) : Prop :=
bindP (pNil x0) fun v1 =>
bindP (pFieldAddr 1 v1) fun v2 =>
bindP (ld1 v2 w) fun v3 =>
bindP (fLook Try.prog 78 v3 x1 true w) fun v4 =>
bindP (pTuple v4 0) fun v5 =>
bindP (pTuple v4 1) fun v6 =>
eAlloc Try.prog 86 w fun v8 w7 =>
bindW (st 2 v8 v5 w7) fun w9 =>
bindP (uNot v6) fun v11 =>
ifB v11 (
K (.tuple #[(.string ⟨#[]⟩), (.int .i64 5)]) w9) (
bindP (pFieldAddr 0 v8) fun v12 =>
bindP (ld1 v12 w9) fun v13 =>
K (.tuple #[v13, (.int .i64 0)]) w9)
def G23 : FnT := fun args w K => on2 (fun x0 x1 => F23 x0 x1 w K) args
theorem c23 {x0 x1 : Value} {w : World} {K : V1} (h : F23 x0 x1 w K) : callP G23 [x0, x1] w K := callP_intro (on2_mk (p := fun x0 x1 => F23 x0 x1 w K) h)
theorem ok23 : OkF Try.prog 23 G23 := by
  refine okF_of (tab_ok (l := T23) trivial) mixed (n := fuel) Try.func23 Try.call23 fun args w K h => ?_
  obtain ⟨x0, x1, rfl, hh⟩ := of_on2 h
  exact fnD_list (c := bodyOf Try.f23) (by kernel_rfl) (by kernel_rfl) (Eq.mp (by kernel_rfl) hh)
def T9 : List (Nat × FnT) := [(8, G8), (17, G17), (18, G18), (19, G19), (21, G21), (23, G23)]
def F9 (w : World) (K : V1) : Prop :=
callP G8 [(.int .i64 100)] w fun v2 w1 =>
bindP (pTuple v2 0) fun v3 =>
bindP (pTuple v2 1) fun v4 =>
bindP (bEq Try.prog 23 (.tmp 8) (.const (.pointer none)) v3 (.pointer none)) fun v5 =>
stepM (gd false v5) v4 fun v6 =>
Sx.stepG (gd false v5) (bNe Try.prog 24 (.tmp 11) (.const (.int .i64 0)) v6 (.int .i64 0)) fun v7 =>
bindP (pPick v5 (.bool true) v7) fun v8 =>
stepM (gd false v8) v3 fun v9 =>
stepE (gd false v8) (fun k => callP G18 [v9, (.string ⟨#[102]⟩)] w1 k) w1 fun v11 w10 =>
Sx.stepG (gd false v8) (bNe Try.prog 24 (.tmp 16) (.const (.int .i64 0)) v11 (.int .i64 0)) fun v12 =>
bindP (pPick v8 (.bool true) v12) fun v13 =>
stepM (gd false v13) v3 fun v14 =>
stepE (gd false v13) (fun k => callP G19 [v14, (.string ⟨#[102]⟩), (.string ⟨#[97, 98, 99]⟩)] w10 k) w10 fun v16 w15 =>
Sx.stepG (gd false v13) (bNe Try.prog 24 (.tmp 21) (.const (.int .i64 0)) v16 (.int .i64 0)) fun v17 =>
bindP (pPick v13 (.bool true) v17) fun v18 =>
stepM (gd false v18) v3 fun v19 =>
stepE (gd false v18) (fun k => callP G21 [v19, (.string ⟨#[102]⟩)] w15 k) w15 fun v21 w20 =>
Sx.stepG (gd false v18) (bNe Try.prog 24 (.tmp 26) (.const (.int .i64 0)) v21 (.int .i64 0)) fun v22 =>
bindP (pPick v18 (.bool true) v22) fun v23 =>
stepM (gd false v23) v3 fun v24 =>
stepE (gd false v23) (fun k => callP G19 [v24, (.string ⟨#[102]⟩), (.string ⟨#[100, 101, 102]⟩)] w20 k) w20 fun v26 w25 =>
Sx.stepG (gd false v23) (bNe Try.prog 24 (.tmp 31) (.const (.int .i64 0)) v26 (.int .i64 0)) fun v27 =>
bindP (pPick v23 (.bool true) v27) fun v28 =>
ifB v28 (
K (.bool false) w25) (
eBuildSl Try.prog 22 1 [(0, (.int .i64 1))] w25 fun v30 w29 =>
callP G17 [v3, v30] w29 fun _ w31 =>
callP G23 [v3, (.string ⟨#[102]⟩)] w31 fun v34 w33 =>
bindP (pTuple v34 0) fun v35 =>
bindP (pTuple v34 1) fun v36 =>
bindP (bEq Try.prog 9 (.tmp 42) (.const (.string ⟨#[97, 98, 99, 100]⟩)) v35 (.string ⟨#[97, 98, 99, 100]⟩)) fun v37 =>
stepM (gd true v37) v36 fun v38 =>
Sx.stepG (gd true v37) (bEq Try.prog 24 (.tmp 45) (.const (.int .i64 0)) v38 (.int .i64 0)) fun v39 =>
bindP (pPick v37 v39 (.bool false)) fun v40 =>
K v40 w33)
def G9 : FnT := fun args w K => on0 (F9 w K) args
theorem c9 {w : World} {K : V1} (h : F9 w K) : callP G9 [] w K := callP_intro (on0_mk (p := F9 w K) h)
theorem ok9 : OkF Try.prog 9 G9 := by
  refine okF_of (tab_ok (l := T9) ⟨ok8, ok17, ok18, ok19, ok21, ok23, trivial⟩) mixed (n := fuel) Try.func9 Try.call9 fun args w K h => ?_
  obtain ⟨rfl, hh⟩ := of_on0 h
  exact fnD_list (c := bodyOf Try.f9) (by kernel_rfl) (by kernel_rfl) (Eq.mp (by kernel_rfl) hh)
def T11 : List (Nat × FnT) := []
def F11 (x0 x1 : Value) (w : World) (K : V1) : Prop :=
bindP (bLt x1 (.int .i64 0)) fun v1 =>
ifB v1 (
K (.int .i64 1) w) (
bindP (pNil x0) fun v2 =>
bindP (pFieldAddr 2 v2) fun v3 =>
bindW (st 1 v3 (.bool true) w) fun w4 =>
bindP (pNil x0) fun v6 =>
bindP (pFieldAddr 3 v6) fun v7 =>
bindW (st 1 v7 x1 w4) fun w8 =>
K (.int .i64 0) w8)
def G11 : FnT := fun args w K => on2 (fun x0 x1 => F11 x0 x1 w K) args
theorem c11 {x0 x1 : Value} {w : World} {K : V1} (h : F11 x0 x1 w K) : callP G11 [x0, x1] w K := callP_intro (on2_mk (p := fun x0 x1 => F11 x0 x1 w K) h)
theorem ok11 : OkF Try.prog 11 G11 := by
  refine okF_of (tab_ok (l := T11) trivial) mixed (n := fuel) Try.func11 Try.call11 fun args w K h => ?_
  obtain ⟨x0, x1, rfl, hh⟩ := of_on2 h
  exact fnD_list (c := bodyOf Try.f11) (by kernel_rfl) (by kernel_rfl) (Eq.mp (by kernel_rfl) hh)
def T41 : List (Nat × FnT) := [(45, G45), (68, G68)]
def F41 (x0 x1 x2 : Value) (w : World) (K : V1) : Prop :=
bindP (pNil x0) fun v1 =>
bindP (pFieldAddr 1 v1) fun v2 =>
bindP (ld1 v2 w) fun v3 =>
bindP (fLook Try.prog 78 v3 x1 true w) fun v4 =>
bindP (pTuple v4 0) fun v5 =>
bindP (pTuple v4 1) fun v6 =>
eAlloc Try.prog 86 w fun v8 w7 =>
bindW (st 2 v8 v5 w7) fun w9 =>
bindP (uNot v6) fun v11 =>
ifB v11 (
K (.int .i64 5) w9) (
callP G45 [x2] w9 fun v13 w12 =>
bindP (uNot v13) fun v14 =>
ifB v14 (
K (.int .i64 1) w12) (
callP G68 [x0] w12 fun v16 w15 =>
bindP (uNot v16) fun v17 =>
ifB v17 (
K (.int .i64 251) w15) (
bindP (pNil x0) fun v18 =>
bindP (pFieldAddr 1 v18) fun v19 =>
bindP (ld1 v19 w15) fun v20 =>
eDelete Try.prog 78 v20 x1 w15 fun _ w21 =>
bindP (pNil x0) fun v23 =>
bindP (pFieldAddr 1 v23) fun v24 =>
bindP (ld1 v24 w21.drew) fun v25 =>
bindP (ldN 2 v8 w21.drew) fun v26 =>
eMapSet Try.prog 78 v25 x2 v26 w21.drew fun _ w27 =>
K (.int .i64 0) w27)))
def G41 : FnT := fun args w K => on3 (fun x0 x1 x2 => F41 x0 x1 x2 w K) args
theorem c41 {x0 x1 x2 : Value} {w : World} {K : V1} (h : F41 x0 x1 x2 w K) : callP G41 [x0, x1, x2] w K := callP_intro (on3_mk (p := fun x0 x1 x2 => F41 x0 x1 x2 w K) h)
theorem ok41 : OkF Try.prog 41 G41 := by
  refine okF_of (tab_ok (l := T41) ⟨ok45, ok68, trivial⟩) mixed (n := fuel) Try.func41 Try.call41 fun args w K h => ?_
  obtain ⟨x0, x1, x2, rfl, hh⟩ := of_on3 h
  exact fnD_list (c := bodyOf Try.f41) (by kernel_rfl) (by kernel_rfl) (Eq.mp (by kernel_rfl) hh)
def T12 : List (Nat × FnT) := [(10, G10), (18, G18), (19, G19), (21, G21), (41, G41)]
def F12 (x0 x1 x2 : Value) (w : World) (K : V1) : Prop :=
bindP (bQuo x2 (.int .i64 3)) fun v1 =>
callP G10 [v1, (.int .i64 4)] w fun v3 w2 =>
bindP (bEq Try.prog 3 (.tmp 9) (.const (.int .i64 0)) v3 (.int .i64 0)) fun v4 =>
ifB v4 (
callP G18 [x0, x1] w2 fun v6 w5 =>
K v6 w5) (
bindP (bEq Try.prog 3 (.tmp 9) (.const (.int .i64 1)) v3 (.int .i64 1)) fun v7 =>
ifB v7 (
callP G19 [x0, x1, (.string ⟨#[100, 97, 116, 97]⟩)] w2 fun v9 w8 =>
K v9 w8) (
bindP (bEq Try.prog 3 (.tmp 9) (.const (.int .i64 2)) v3 (.int .i64 2)) fun v10 =>
ifB v10 (
callP G21 [x0, x1] w2 fun v12 w11 =>
K v12 w11) (
callP G41 [x0, x1, (.string ⟨#[97]⟩)] w2 fun v14 w13 =>
K v14 w13)))
def G12 : FnT := fun args w K => on3 (fun x0 x1 x2 => F12 x0 x1 x2 w K) args
theorem c12 {x0 x1 x2 : Value} {w : World} {K : V1} (h : F12 x0 x1 x2 w K) : callP G12 [x0, x1, x2] w K := callP_intro (on3_mk (p := fun x0 x1 x2 => F12 x0 x1 x2 w K) h)
theorem ok12 : OkF Try.prog 12 G12 := by
  refine okF_of (tab_ok (l := T12) ⟨ok10, ok18, ok19, ok21, ok41, trivial⟩) mixed (n := fuel) Try.func12 Try.call12 fun args w K h => ?_
  obtain ⟨x0, x1, x2, rfl, hh⟩ := of_on3 h
  exact fnD_list (c := bodyOf Try.f12) (by kernel_rfl) (by kernel_rfl) (Eq.mp (by kernel_rfl) hh)
def T14 : List (Nat × FnT) := []
def F14_3b (s5 : Value) (w : World) (K : V1) : Prop :=
K s5 w
def F14_3 (s5 : Value) (w : World) (K : V1) : Prop := F14_3b s5 w K
theorem ok14_3 {K : V1}
    (hn : HN (fun e w => K (e 4) w) kn) (hr : HR Try.prog [.tmp 4] K kr) (he : HE noE ke) :
    ∀ e w, F14_3 (e 5) w K → denL Try.prog (tabOf T14) 31 fuel ((flat (bodyOf Try.f14)).drop 4) e w kn kr ke := by
  intro e w h
  unfold F14_3 at h
  have e1 : ∀ (_ : Unit), F14_3b (e 5) w K = denL Try.prog (tabOf T14) 31 fuel ((flat (bodyOf Try.f14)).drop 4) e w (fun e w => K (e 4) w) (endD Try.prog [.tmp 4] K) noE := by intro _; kernel_rfl
  exact seg_end (Eq.mp (e1 ()) h) hn hr he
def F14_2b (s0 s1 s5 s6 : Value) (w : World) (_K : V1) (Y0 : V4) (Y1 : V1) : Prop :=
stepM (gd true s5) s6 fun v1 =>
stepM (gd true s5) s0 fun v2 =>
Sx.stepG (gd true s5) (lenL v2) fun v3 =>
Sx.stepG (gd true s5) (bLt v1 v3) fun v4 =>
bindP (pPick s5 v4 (.bool false)) fun v5 =>
ifB v5 (
bindP (pIndexL 1 s0 s6) fun v6 =>
bindP (ld1 v6 w.drew) fun v7 =>
bindP (pIndexL 1 s1 s6) fun v8 =>
bindP (ld1 v8 w.drew) fun v9 =>
bindP (bEq Try.prog 9 (.tmp 24) (.tmp 28) v7 v9) fun v10 =>
bindP (bAdd s6 (.int .i64 1)) fun v11 =>
Y0 s0 s1 v10 v11 w.drew) (
Y1 s5 w)
def F14_2L : Nat → Value → Value → Value → Value → World → (V1) → Prop
  | 0, _, _, _, _, _, _ => False
  | n + 1, s0, s1, s5, s6, w, K => F14_2b s0 s1 s5 s6 w K (fun a0 a1 a5 a6 w => F14_2L n a0 a1 a5 a6 w K) (fun a5 w => F14_3 a5 w K)
def F14_2 (s0 s1 s5 s6 : Value) (w : World) (K : V1) : Prop := F14_2L fuel s0 s1 s5 s6 w K
theorem ok14_2 {K : V1}
    (hn : HN (fun e w => K (e 4) w) kn) (hr : HR Try.prog [.tmp 4] K kr) (he : HE noE ke) :
    ∀ e w, F14_2 (e 0) (e 1) (e 5) (e 6) w K → denL Try.prog (tabOf T14) 31 fuel ((flat (bodyOf Try.f14)).drop 3) e w kn kr ke := by
  intro e w h
  unfold F14_2 at h
  refine seg_loop (id := 0) (body := (loopB (blkB (nthC (flat (bodyOf Try.f14)) 3)))) (l2 := (flat (bodyOf Try.f14)).drop 4) (by kernel_rfl) ?_
  refine loop_ok (FL := fun m e w => F14_2L m (e 0) (e 1) (e 5) (e 6) w K) (fr := endD Try.prog [.tmp 4] K) (fe := (blkK 0 (fun e w => F14_3 (e 5) w K) noE)) (fun _ _ h => h) ?_ hr (blkK_mono (fun e w h => ok14_3 hn hr he e w h) he) fuel e w h
  intro m e w h
  have h : F14_2L (m + 1) (e 0) (e 1) (e 5) (e 6) w K := h
  rw [F14_2L] at h
  have e1 : ∀ (Y0 : V4) (Y1 : V1), F14_2b (e 0) (e 1) (e 5) (e 6) w K Y0 Y1 = denL Try.prog (tabOf T14) 31 fuel (flat (loopB (blkB (nthC (flat (bodyOf Try.f14)) 3)))) e w (fun e w => Y0 (e 0) (e 1) (e 5) (e 6) w) (endD Try.prog [.tmp 4] K) (blkK 0 (fun e w => Y1 (e 5) w) noE) := by intro Y0 Y1; kernel_rfl
  exact Eq.mp (e1 (fun a0 a1 a5 a6 w => F14_2L m a0 a1 a5 a6 w K) (fun a5 w => F14_3 a5 w K)) h
def F14_1b (s0 s1 : Value) (w : World) (_K : V1) (Y0 : V4) : Prop :=
bindP (lenL s0) fun v12 =>
bindP (lenL s1) fun v13 =>
bindP (bEq Try.prog 3 (.tmp 8) (.tmp 10) v12 v13) fun v14 =>
Y0 s0 s1 v14 (.int .i64 0) w
def F14_1 (s0 s1 : Value) (w : World) (K : V1) : Prop := F14_1b s0 s1 w K (fun a0 a1 a5 a6 w => F14_2 a0 a1 a5 a6 w K)
theorem ok14_1 {K : V1}
    (hn : HN (fun e w => K (e 4) w) kn) (hr : HR Try.prog [.tmp 4] K kr) (he : HE noE ke) :
    ∀ e w, F14_1 (e 0) (e 1) w K → denL Try.prog (tabOf T14) 31 fuel ((flat (bodyOf Try.f14)).drop 0) e w kn kr ke := by
  intro e w h
  unfold F14_1 at h
  have e1 : ∀ (Y0 : V4), F14_1b (e 0) (e 1) w K Y0 = denL Try.prog (tabOf T14) 31 fuel (((flat (bodyOf Try.f14)).drop 0).take 3) e w (fun e w => Y0 (e 0) (e 1) (e 5) (e 6) w) (endD Try.prog [.tmp 4] K) noE := by intro Y0; kernel_rfl
  exact seg 3 (Eq.mp (e1 (fun a0 a1 a5 a6 w => F14_2 a0 a1 a5 a6 w K)) h) (fun e w h => ok14_2 hn hr he e w h) hr he
def F14 (x0 x1 : Value) (w : World) (K : V1) : Prop := F14_1 x0 x1 w K
def G14 : FnT := fun args w K => on2 (fun x0 x1 => F14 x0 x1 w K) args
theorem c14 {x0 x1 : Value} {w : World} {K : V1} (h : F14 x0 x1 w K) : callP G14 [x0, x1] w K := callP_intro (on2_mk (p := fun x0 x1 => F14 x0 x1 w K) h)
theorem ok14 : OkF Try.prog 14 G14 := by
  refine okF_of (tab_ok (l := T14) trivial) mixed (n := fuel) Try.func14 Try.call14 fun args w K h => ?_
  obtain ⟨x0, x1, rfl, hh⟩ := of_on2 h
  unfold F14 at hh
  exact fnD_list (c := bodyOf Try.f14) (by kernel_rfl) (by kernel_rfl) (ok14_1 (fun _ _ h => h) (fun _ _ h => h) (fun _ _ _ h => h) (initE [x0, x1]) w hh)
def T3 : List (Nat × FnT) := [(8, G8), (9, G9), (10, G10), (11, G11), (12, G12), (13, G13), (14, G14), (15, G15), (16, G16), (17, G17), (18, G18), (19, G19)]
def F3_3b (s1 s5 s7 s9 : Value) (w : World) (K : V1) : Prop :=
callP G15 [s5] w fun v2 w1 =>
callP G15 [s7] w1 fun v4 w3 =>
callP G14 [v2, v4] w3 fun v6 w5 =>
bindP (uNot v6) fun v7 =>
stepM (gd false v7) s5 fun v8 =>
stepE (gd false v7) (fun k => callP G16 [v8] w5 k) w5 fun v10 w9 =>
stepM (gd false v7) s7 fun v11 =>
stepE (gd false v7) (fun k => callP G16 [v11] w9 k) w9 fun v13 w12 =>
Sx.stepG (gd false v7) (bNe Try.prog 3 (.tmp 109) (.tmp 111) v10 v13) fun v14 =>
bindP (pPick v7 (.bool true) v14) fun v15 =>
stepM (gd false v15) s9 fun v16 =>
stepM (gd false v15) s1 fun v17 =>
Sx.stepG (gd false v15) (bGt v16 v17) fun v18 =>
bindP (pPick v15 (.bool true) v18) fun v19 =>
ifB v19 (
K (.bool false) w12) (
callP G17 [s5, (.slice none 0 0)] w12 fun _ w20 =>
callP G13 [s5] w20 fun v23 w22 =>
bindP (uNot v23) fun v24 =>
stepM (gd true v24) s5 fun v25 =>
stepE (gd true v24) (fun k => callP G18 [v25, (.string ⟨#[122]⟩)] w22 k) w22 fun v27 w26 =>
Sx.stepG (gd true v24) (bEq Try.prog 24 (.tmp 126) (.const (.int .i64 0)) v27 (.int .i64 0)) fun v28 =>
bindP (pPick v24 v28 (.bool false)) fun v29 =>
stepM (gd true v29) s5 fun v30 =>
stepE (gd true v29) (fun k => callP G19 [v30, (.string ⟨#[122]⟩), (.string ⟨#[120]⟩)] w26 k) w26 fun v32 w31 =>
Sx.stepG (gd true v29) (bEq Try.prog 24 (.tmp 131) (.const (.int .i64 0)) v32 (.int .i64 0)) fun v33 =>
bindP (pPick v29 v33 (.bool false)) fun v34 =>
K v34 w31)
def F3_3 (s1 s5 s7 s9 : Value) (w : World) (K : V1) : Prop := F3_3b s1 s5 s7 s9 w K
theorem ok3_3 {K : V1}
    (hn : HN (fun e w => K (e 4) w) kn) (hr : HR Try.prog [.tmp 4] K kr) (he : HE noE ke) :
    ∀ e w, F3_3 (e 1) (e 5) (e 7) (e 9) w K → denL Try.prog (tabOf T3) 134 fuel ((flat (bodyOf Try.f3)).drop 11) e w kn kr ke := by
  intro e w h
  unfold F3_3 at h
  have e1 : ∀ (_ : Unit), F3_3b (e 1) (e 5) (e 7) (e 9) w K = denL Try.prog (tabOf T3) 134 fuel ((flat (bodyOf Try.f3)).drop 11) e w (fun e w => K (e 4) w) (endD Try.prog [.tmp 4] K) noE := by intro _; kernel_rfl
  exact seg_end (Eq.mp (e1 ()) h) hn hr he
def F3_6b (s0 s1 s5 s7 s9 s10 : Value) (w : World) (_K : V1) (R3 : V6) : Prop :=
bindP (bAdd s10 (.int .i64 1)) fun v35 =>
R3 s0 s1 s5 s7 s9 v35 w
def F3_6 (s0 s1 s5 s7 s9 s10 : Value) (w : World) (K : V1) (R3 : V6) : Prop := F3_6b s0 s1 s5 s7 s9 s10 w K R3
theorem ok3_6 (R3 : V6) {K : V1}
    (hn : HN (fun e w => R3 (e 0) (e 1) (e 5) (e 7) (e 9) (e 10) w) kn) (hr : HR Try.prog [.tmp 4] K kr) (he : HE (blkK 0 (fun e w => F3_3 (e 1) (e 5) (e 7) (e 9) w K) noE) ke) :
    ∀ e w, F3_6 (e 0) (e 1) (e 5) (e 7) (e 9) (e 10) w K R3 → denL Try.prog (tabOf T3) 134 fuel ((flat (loopB (blkB (nthC (flat (bodyOf Try.f3)) 10)))).drop 3) e w kn kr ke := by
  intro e w h
  unfold F3_6 at h
  have e1 : ∀ (_ : Unit), F3_6b (e 0) (e 1) (e 5) (e 7) (e 9) (e 10) w K R3 = denL Try.prog (tabOf T3) 134 fuel ((flat (loopB (blkB (nthC (flat (bodyOf Try.f3)) 10)))).drop 3) e w (fun e w => R3 (e 0) (e 1) (e 5) (e 7) (e 9) (e 10) w) (endD Try.prog [.tmp 4] K) (blkK 0 (fun e w => F3_3 (e 1) (e 5) (e 7) (e 9) w K) noE) := by intro _; kernel_rfl
  exact seg_end (Eq.mp (e1 ()) h) hn hr he
def F3_8b (s0 s1 s5 s7 s9 s10 s11 s12 : Value) (w : World) (K : V1) (R3 : V6) (Y0 : V6) : Prop :=
bindP (pIndexL 1 s0 s10) fun v36 =>
bindP (ld1 v36 w) fun v37 =>
callP G12 [s7, s11, v37] w fun v39 w38 =>
bindP (bLe s9 s1) fun v40 =>
stepM (gd true v40) s12 fun v41 =>
stepM (gd true v40) v39 fun v42 =>
Sx.stepG (gd true v40) (bNe Try.prog 24 (.tmp 97) (.tmp 98) v41 v42) fun v43 =>
bindP (pPick v40 v43 (.bool false)) fun v44 =>
ifB v44 (
K (.bool false) w38) (
Y0 s0 s1 s5 s7 s9 s10 w38)
def F3_8 (s0 s1 s5 s7 s9 s10 s11 s12 : Value) (w : World) (K : V1) (R3 : V6) : Prop := F3_8b s0 s1 s5 s7 s9 s10 s11 s12 w K R3 (fun a0 a1 a5 a7 a9 a10 w => F3_6 a0 a1 a5 a7 a9 a10 w K R3)
theorem ok3_8 (R3 : V6) {K : V1}
    (hn : HN (fun e w => F3_6 (e 0) (e 1) (e 5) (e 7) (e 9) (e 10) w K R3) kn) (hr : HR Try.prog [.tmp 4] K kr) (he : HE (blkK 1 (fun e w => F3_6 (e 0) (e 1) (e 5) (e 7) (e 9) (e 10) w K R3) (blkK 0 (fun e w => F3_3 (e 1) (e 5) (e 7) (e 9) w K) noE)) ke) :
    ∀ e w, F3_8 (e 0) (e 1) (e 5) (e 7) (e 9) (e 10) (e 11) (e 12) w K R3 → denL Try.prog (tabOf T3) 134 fuel ((flat (blkB (nthC (flat (loopB (blkB (nthC (flat (bodyOf Try.f3)) 10)))) 2))).drop 6) e w kn kr ke := by
  intro e w h
  unfold F3_8 at h
  have e1 : ∀ (Y0 : V6), F3_8b (e 0) (e 1) (e 5) (e 7) (e 9) (e 10) (e 11) (e 12) w K R3 Y0 = denL Try.prog (tabOf T3) 134 fuel ((flat (blkB (nthC (flat (loopB (blkB (nthC (flat (bodyOf Try.f3)) 10)))) 2))).drop 6) e w (fun e w => Y0 (e 0) (e 1) (e 5) (e 7) (e 9) (e 10) w) (endD Try.prog [.tmp 4] K) (blkK 1 (fun e w => Y0 (e 0) (e 1) (e 5) (e 7) (e 9) (e 10) w) (blkK 0 (fun e w => F3_3 (e 1) (e 5) (e 7) (e 9) w K) noE)) := by intro Y0; kernel_rfl
  exact seg_end (Eq.mp (e1 (fun a0 a1 a5 a7 a9 a10 w => F3_6 a0 a1 a5 a7 a9 a10 w K R3)) h) hn hr he
def F3_7b (s0 s1 s5 s7 s9 s10 : Value) (w : World) (K : V1) (R3 : V6) (Y0 : V6) (Y1 : V8) : Prop :=
bindP (pIndexL 1 s0 s10) fun v45 =>
bindP (ld1 v45 w) fun v46 =>
callP G10 [v46, (.int .i64 3)] w fun v48 w47 =>
bindP (bAdd (.int .i64 97) v48) fun v49 =>
bindP (cInt .u8 v49) fun v50 =>
eBuildSl Try.prog 30 1 [(0, v50)] w47 fun v52 w51 =>
bindP (cBytes v52 w51) fun v53 =>
bindP (pIndexL 1 s0 s10) fun v54 =>
bindP (ld1 v54 w51) fun v55 =>
callP G12 [s5, v53, v55] w51 fun v57 w56 =>
bindP (bEq Try.prog 24 (.tmp 72) (.const (.int .i64 251)) v57 (.int .i64 251)) fun v58 =>
ifB v58 (
bindP (bNe Try.prog 3 (.tmp 74) (.tmp 75) s9 s1) fun v59 =>
stepM (gd false v59) s5 fun v60 =>
stepE (gd false v59) (fun k => callP G13 [v60] w56 k) w56 fun v62 w61 =>
Sx.stepG (gd false v59) (uNot v62) fun v63 =>
bindP (pPick v59 (.bool true) v63) fun v64 =>
ifB v64 (
K (.bool false) w61) (
Y0 s0 s1 s5 s7 s9 s10 w61)) (
bindP (bEq Try.prog 24 (.tmp 82) (.const (.int .i64 0)) v57 (.int .i64 0)) fun v65 =>
ifB v65 (
bindP (bAdd s9 (.int .i64 1)) fun v66 =>
Y1 s0 s1 s5 s7 v66 s10 v53 v57 w56) (
Y1 s0 s1 s5 s7 s9 s10 v53 v57 w56))
def F3_7 (s0 s1 s5 s7 s9 s10 : Value) (w : World) (K : V1) (R3 : V6) : Prop := F3_7b s0 s1 s5 s7 s9 s10 w K R3 (fun a0 a1 a5 a7 a9 a10 w => F3_6 a0 a1 a5 a7 a9 a10 w K R3) (fun a0 a1 a5 a7 a9 a10 a11 a12 w => F3_8 a0 a1 a5 a7 a9 a10 a11 a12 w K R3)
theorem ok3_7 (R3 : V6) {K : V1}
    (hn : HN (fun e w => F3_6 (e 0) (e 1) (e 5) (e 7) (e 9) (e 10) w K R3) kn) (hr : HR Try.prog [.tmp 4] K kr) (he : HE (blkK 1 (fun e w => F3_6 (e 0) (e 1) (e 5) (e 7) (e 9) (e 10) w K R3) (blkK 0 (fun e w => F3_3 (e 1) (e 5) (e 7) (e 9) w K) noE)) ke) :
    ∀ e w, F3_7 (e 0) (e 1) (e 5) (e 7) (e 9) (e 10) w K R3 → denL Try.prog (tabOf T3) 134 fuel ((flat (blkB (nthC (flat (loopB (blkB (nthC (flat (bodyOf Try.f3)) 10)))) 2))).drop 0) e w kn kr ke := by
  intro e w h
  unfold F3_7 at h
  have e1 : ∀ (Y0 : V6) (Y1 : V8), F3_7b (e 0) (e 1) (e 5) (e 7) (e 9) (e 10) w K R3 Y0 Y1 = denL Try.prog (tabOf T3) 134 fuel (((flat (blkB (nthC (flat (loopB (blkB (nthC (flat (bodyOf Try.f3)) 10)))) 2))).drop 0).take 6) e w (fun e w => Y1 (e 0) (e 1) (e 5) (e 7) (e 9) (e 10) (e 11) (e 12) w) (endD Try.prog [.tmp 4] K) (blkK 1 (fun e w => Y0 (e 0) (e 1) (e 5) (e 7) (e 9) (e 10) w) (blkK 0 (fun e w => F3_3 (e 1) (e 5) (e 7) (e 9) w K) noE)) := by intro Y0 Y1; kernel_rfl
  exact seg 6 (Eq.mp (e1 (fun a0 a1 a5 a7 a9 a10 w => F3_6 a0 a1 a5 a7 a9 a10 w K R3) (fun a0 a1 a5 a7 a9 a10 a11 a12 w => F3_8 a0 a1 a5 a7 a9 a10 a11 a12 w K R3)) h) (fun e w h => ok3_8 R3 hn hr he e w h) hr he
def F3_5 (s0 s1 s5 s7 s9 s10 : Value) (w : World) (K : V1) (R3 : V6) : Prop := F3_7 s0 s1 s5 s7 s9 s10 w K R3
theorem ok3_5 (R3 : V6) {K : V1}
    (hn : HN (fun e w => R3 (e 0) (e 1) (e 5) (e 7) (e 9) (e 10) w) kn) (hr : HR Try.prog [.tmp 4] K kr) (he : HE (blkK 0 (fun e w => F3_3 (e 1) (e 5) (e 7) (e 9) w K) noE) ke) :
    ∀ e w, F3_5 (e 0) (e 1) (e 5) (e 7) (e 9) (e 10) w K R3 → denL Try.prog (tabOf T3) 134 fuel ((flat (loopB (blkB (nthC (flat (bodyOf Try.f3)) 10)))).drop 2) e w kn kr ke := by
  intro e w h
  unfold F3_5 at h
  refine seg_block (id := 1) (body := (blkB (nthC (flat (loopB (blkB (nthC (flat (bodyOf Try.f3)) 10)))) 2))) (l2 := (flat (loopB (blkB (nthC (flat (bodyOf Try.f3)) 10)))).drop 3) (by kernel_rfl) ?_
  exact ok3_7 R3 (fun e w h => ok3_6 R3 hn hr he e w h) hr (blkK_mono (fun e w h => ok3_6 R3 hn hr he e w h) he) e w h
def F3_4b (s0 s1 s5 s7 s9 s10 : Value) (w : World) (_K : V1) (R3 : V6) (Y0 : V6) (Y1 : V4) : Prop :=
bindP (lenL s0) fun v67 =>
bindP (bLt s10 v67) fun v68 =>
stepM (gd true v68) s10 fun v69 =>
Sx.stepG (gd true v68) (bLt v69 (.int .i64 40)) fun v70 =>
bindP (pPick v68 v70 (.bool false)) fun v71 =>
ifB v71 (
Y0 s0 s1 s5 s7 s9 s10 w) (
Y1 s1 s5 s7 s9 w)
def F3_4 (s0 s1 s5 s7 s9 s10 : Value) (w : World) (K : V1) (R3 : V6) : Prop := F3_4b s0 s1 s5 s7 s9 s10 w K R3 (fun a0 a1 a5 a7 a9 a10 w => F3_5 a0 a1 a5 a7 a9 a10 w K R3) (fun a1 a5 a7 a9 w => F3_3 a1 a5 a7 a9 w K)
theorem ok3_4 (R3 : V6) {K : V1}
    (hn : HN (fun e w => R3 (e 0) (e 1) (e 5) (e 7) (e 9) (e 10) w) kn) (hr : HR Try.prog [.tmp 4] K kr) (he : HE (blkK 0 (fun e w => F3_3 (e 1) (e 5) (e 7) (e 9) w K) noE) ke) :
    ∀ e w, F3_4 (e 0) (e 1) (e 5) (e 7) (e 9) (e 10) w K R3 → denL Try.prog (tabOf T3) 134 fuel ((flat (loopB (blkB (nthC (flat (bodyOf Try.f3)) 10)))).drop 0) e w kn kr ke := by
  intro e w h
  unfold F3_4 at h
  have e1 : ∀ (Y0 : V6) (Y1 : V4), F3_4b (e 0) (e 1) (e 5) (e 7) (e 9) (e 10) w K R3 Y0 Y1 = denL Try.prog (tabOf T3) 134 fuel (((flat (loopB (blkB (nthC (flat (bodyOf Try.f3)) 10)))).drop 0).take 2) e w (fun e w => Y0 (e 0) (e 1) (e 5) (e 7) (e 9) (e 10) w) (endD Try.prog [.tmp 4] K) (blkK 0 (fun e w => Y1 (e 1) (e 5) (e 7) (e 9) w) noE) := by intro Y0 Y1; kernel_rfl
  exact seg 2 (Eq.mp (e1 (fun a0 a1 a5 a7 a9 a10 w => F3_5 a0 a1 a5 a7 a9 a10 w K R3) (fun a1 a5 a7 a9 w => F3_3 a1 a5 a7 a9 w K)) h) (fun e w h => ok3_5 R3 hn hr he e w h) hr he
def F3_2L : Nat → Value → Value → Value → Value → Value → Value → World → (V1) → Prop
  | 0, _, _, _, _, _, _, _, _ => False
  | n + 1, s0, s1, s5, s7, s9, s10, w, K => F3_4 s0 s1 s5 s7 s9 s10 w K (fun a0 a1 a5 a7 a9 a10 w => F3_2L n a0 a1 a5 a7 a9 a10 w K)
def F3_2 (s0 s1 s5 s7 s9 s10 : Value) (w : World) (K : V1) : Prop := F3_2L fuel s0 s1 s5 s7 s9 s10 w K
theorem ok3_2 {K : V1}
    (hn : HN (fun e w => K (e 4) w) kn) (hr : HR Try.prog [.tmp 4] K kr) (he : HE noE ke) :
    ∀ e w, F3_2 (e 0) (e 1) (e 5) (e 7) (e 9) (e 10) w K → denL Try.prog (tabOf T3) 134 fuel ((flat (bodyOf Try.f3)).drop 10) e w kn kr ke := by
  intro e w h
  unfold F3_2 at h
  refine seg_loop (id := 0) (body := (loopB (blkB (nthC (flat (bodyOf Try.f3)) 10)))) (l2 := (flat (bodyOf Try.f3)).drop 11) (by kernel_rfl) ?_
  refine loop_ok (FL := fun m e w => F3_2L m (e 0) (e 1) (e 5) (e 7) (e 9) (e 10) w K) (fr := endD Try.prog [.tmp 4] K) (fe := (blkK 0 (fun e w => F3_3 (e 1) (e 5) (e 7) (e 9) w K) noE)) (fun _ _ h => h) ?_ hr (blkK_mono (fun e w h => ok3_3 hn hr he e w h) he) fuel e w h
  intro m e w h
  have h : F3_2L (m + 1) (e 0) (e 1) (e 5) (e 7) (e 9) (e 10) w K := h
  rw [F3_2L] at h
  exact ok3_4 (fun a0 a1 a5 a7 a9 a10 w => F3_2L m a0 a1 a5 a7 a9 a10 w K) (fun _ _ h => h) (fun _ _ h => h) (fun _ _ _ h => h) e w h
def F3_1b (s0 s1 : Value) (w : World) (K : V1) (Y0 : V6) : Prop :=
callP G8 [(.int .i64 1048576)] w fun v73 w72 =>
bindP (pTuple v73 0) fun v74 =>
bindP (pTuple v73 1) fun v75 =>
callP G8 [(.int .i64 1048576)] w72 fun v77 w76 =>
bindP (pTuple v77 0) fun v78 =>
bindP (pTuple v77 1) fun v79 =>
bindP (bEq Try.prog 23 (.tmp 22) (.const (.pointer none)) v74 (.pointer none)) fun v80 =>
stepM (gd false v80) v78 fun v81 =>
Sx.stepG (gd false v80) (bEq Try.prog 23 (.tmp 25) (.const (.pointer none)) v81 (.pointer none)) fun v82 =>
bindP (pPick v80 (.bool true) v82) fun v83 =>
stepM (gd false v83) v75 fun v84 =>
Sx.stepG (gd false v83) (bNe Try.prog 24 (.tmp 29) (.const (.int .i64 0)) v84 (.int .i64 0)) fun v85 =>
bindP (pPick v83 (.bool true) v85) fun v86 =>
stepM (gd false v86) v79 fun v87 =>
Sx.stepG (gd false v86) (bNe Try.prog 24 (.tmp 33) (.const (.int .i64 0)) v87 (.int .i64 0)) fun v88 =>
bindP (pPick v86 (.bool true) v88) fun v89 =>
stepE (gd false v89) (fun k => callP G9 [] w76 k) w76 fun v91 w90 =>
Sx.stepG (gd false v89) (uNot v91) fun v92 =>
bindP (pPick v89 (.bool true) v92) fun v93 =>
ifB v93 (
K (.bool false) w90) (
callP G10 [s1, (.int .i64 50)] w90 fun v95 w94 =>
callP G11 [v74, v95] w94 fun v97 w96 =>
bindP (bNe Try.prog 24 (.tmp 44) (.const (.int .i64 0)) v97 (.int .i64 0)) fun v98 =>
ifB v98 (
K (.bool false) w96) (
Y0 s0 v95 v74 v78 (.int .i64 0) (.int .i64 0) w96))
def F3_1 (s0 s1 : Value) (w : World) (K : V1) : Prop := F3_1b s0 s1 w K (fun a0 a1 a5 a7 a9 a10 w => F3_2 a0 a1 a5 a7 a9 a10 w K)
theorem ok3_1 {K : V1}
    (hn : HN (fun e w => K (e 4) w) kn) (hr : HR Try.prog [.tmp 4] K kr) (he : HE noE ke) :
    ∀ e w, F3_1 (e 0) (e 1) w K → denL Try.prog (tabOf T3) 134 fuel ((flat (bodyOf Try.f3)).drop 0) e w kn kr ke := by
  intro e w h
  unfold F3_1 at h
  have e1 : ∀ (Y0 : V6), F3_1b (e 0) (e 1) w K Y0 = denL Try.prog (tabOf T3) 134 fuel (((flat (bodyOf Try.f3)).drop 0).take 10) e w (fun e w => Y0 (e 0) (e 1) (e 5) (e 7) (e 9) (e 10) w) (endD Try.prog [.tmp 4] K) noE := by intro Y0; kernel_rfl
  exact seg 10 (Eq.mp (e1 (fun a0 a1 a5 a7 a9 a10 w => F3_2 a0 a1 a5 a7 a9 a10 w K)) h) (fun e w h => ok3_2 hn hr he e w h) hr he
def F3 (x0 x1 : Value) (w : World) (K : V1) : Prop := F3_1 x0 x1 w K
def G3 : FnT := fun args w K => on2 (fun x0 x1 => F3 x0 x1 w K) args
theorem c3 {x0 x1 : Value} {w : World} {K : V1} (h : F3 x0 x1 w K) : callP G3 [x0, x1] w K := callP_intro (on2_mk (p := fun x0 x1 => F3 x0 x1 w K) h)
theorem ok3 : OkF Try.prog 3 G3 := by
  refine okF_of (tab_ok (l := T3) ⟨ok8, ok9, ok10, ok11, ok12, ok13, ok14, ok15, ok16, ok17, ok18, ok19, trivial⟩) mixed (n := fuel) Try.func3 Try.call3 fun args w K h => ?_
  obtain ⟨x0, x1, rfl, hh⟩ := of_on2 h
  unfold F3 at hh
  exact fnD_list (c := bodyOf Try.f3) (by kernel_rfl) (by kernel_rfl) (ok3_1 (fun _ _ h => h) (fun _ _ h => h) (fun _ _ _ h => h) (initE [x0, x1]) w hh)
end Go.Proofs.Gong

/- Dk1 -/
namespace Go.Proofs.Gong
open Go Go.Sx Go.Proofs
set_option maxRecDepth 100000
@[reducible] def cFi (x : List UInt8 × Nat) : List Value := [.string (bs x.1), .int .i64 (x.2 : Nat)]
abbrev fiV (x : List UInt8 × Nat) : Value := .agg (cFi x).toArray
theorem KST : KeyT Try.prog 9 kSt where
  u := by kernel_rfl
  ck := fun k => by simp [kSt, ckv, show Try.prog.underlying 9 = some .string by kernel_rfl]
  eq := fun a b => by
    have h : Try.prog.underlying 9 = some .string := by kernel_rfl
    simp [kSt, eqv, Op.maxDepth, h, sEq_eq, bs_beq]
  sb := fun a => by simp [kSt, Instr.sameBits]
theorem zFi : fZero Try.prog 86 = some (fiV ([], 0)) := z86
def DiskI (v : Value) (d : Dk) (M : List (List UInt8 × (List UInt8 × Nat))) : HP :=
  HEx fun p => HEx fun m => HPr (v = ptr p) (HSt (Cl p #[.int .i64 d.room, m, .bool d.stop, .int .i64 d.left] 80) (MapH kSt fiV m M))
def DiskA (v : Value) (d : Dk) : HP := HEx fun M => HPr (KInv ltS fKey fVal M d.fs ∧ DOk d) (DiskI v d M)
attribute [local irreducible] fBuild fLook fZero eqv bEqv Cl MapH LsH SlH ld1 ldN st callP eBox eAlloc lenM lenL eMapSet eDelete eAppend eBuildSl eRange eNext
section
variable {w0 w : World} {L : List HP} {K : Value → World → Prop} {v : Value} {d : Dk} {n x : List UInt8} {M : List (List UInt8 × (List UInt8 × Nat))}
theorem diskI_iff : Sat w0 (DiskI v d M :: L) w ↔ ∃ p m, v = ptr p ∧ Sat w0 (Cl p #[.int .i64 d.room, m, .bool d.stop, .int .i64 d.left] 80 :: MapH kSt fiV m M :: L) w := by
  simp only [DiskI, Sat.ex_iff, Sat.pr_iff, Sat.star_iff]
theorem diskA_iff : Sat w0 (DiskA v d :: L) w ↔ ∃ M, (KInv ltS fKey fVal M d.fs ∧ DOk d) ∧ Sat w0 (DiskI v d M :: L) w := by
  simp only [DiskA, Sat.ex_iff, Sat.pr_iff]
theorem diskA_ok (h : Sat w0 (DiskA v d :: L) w) : DOk d := by
  obtain ⟨M, H, _⟩ := diskA_iff.1 h
  exact H.2
theorem dnew_spec {m : Int} (h : Sat w0 L w) (hK0 : (m < 0 ∨ 1099511627776 < m) → K (.tuple #[.pointer none, .int .i64 1]) w) (hK1 : 0 ≤ m → m ≤ 1099511627776 → ∀ p w', Sat w0 (DiskA (ptr p) (newD m) :: L) w' → K (.tuple #[ptr p, .int .i64 0]) w') : callP G8 [.int .i64 m] w K := by
  refine c8 ?_
  unfold F8
  by_cases g1 : m < 0
  · have g1' : decide (m < 0) = true := by simpa using g1
    (repeat (first
 | (simp (disch := omega) only [evA, evB, evC, bAdd_i64, bSub_i64, g1'])
 | (with_reducible apply go_ld1 h)
 | ((with_reducible first | apply go_ldA h | apply go_rd h | apply go_rdN h | apply go_rlen h); rfl)
 | (with_reducible first | apply go_ldN h | apply go_lenL h)
 | ((with_reducible apply go_st h); intro _ h)
 | ((with_reducible apply go_stA h); rfl; rfl; (first | rfl | simp [OneV.o]); intro _ h)
 | ((with_reducible apply go_stN h); rfl; (first | rfl | simp [OneV.o]); intro _ h)
 | ((with_reducible apply go_box h); rfl; intro _ _ h)
 | ((with_reducible apply go_ix h); omega)
 | ((with_reducible first | apply go_elN h | apply go_f1 h | apply go_rf1 h | apply go_rel h); (case hi => omega); (try case hx => exact inferInstance); (try case hv => rfl))
 | ((with_reducible apply go_fa h); omega; omega)
))
    exact hK0 (.inl g1)
  have g1' : decide (m < 0) = false := by simpa using g1
  by_cases g2 : m > 1099511627776
  · have g2' : decide (m > 1099511627776) = true := by simpa using g2
    (repeat (first
 | (simp (disch := omega) only [evA, evB, evC, bAdd_i64, bSub_i64, g1', g2'])
 | (with_reducible apply go_ld1 h)
 | ((with_reducible first | apply go_ldA h | apply go_rd h | apply go_rdN h | apply go_rlen h); rfl)
 | (with_reducible first | apply go_ldN h | apply go_lenL h)
 | ((with_reducible apply go_st h); intro _ h)
 | ((with_reducible apply go_stA h); rfl; rfl; (first | rfl | simp [OneV.o]); intro _ h)
 | ((with_reducible apply go_stN h); rfl; (first | rfl | simp [OneV.o]); intro _ h)
 | ((with_reducible apply go_box h); rfl; intro _ _ h)
 | ((with_reducible apply go_ix h); omega)
 | ((with_reducible first | apply go_elN h | apply go_f1 h | apply go_rf1 h | apply go_rel h); (case hi => omega); (try case hx => exact inferInstance); (try case hv => rfl))
 | ((with_reducible apply go_fa h); omega; omega)
))
    exact hK0 (.inr g2)
  have g2' : decide (m > 1099511627776) = false := by simpa using g2
  (repeat (first
 | (simp (disch := omega) only [evA, evB, evC, bAdd_i64, bSub_i64, g1', g2'])
 | (with_reducible apply go_ld1 h)
 | ((with_reducible first | apply go_ldA h | apply go_rd h | apply go_rdN h | apply go_rlen h); rfl)
 | (with_reducible first | apply go_ldN h | apply go_lenL h)
 | ((with_reducible apply go_st h); intro _ h)
 | ((with_reducible apply go_stA h); rfl; rfl; (first | rfl | simp [OneV.o]); intro _ h)
 | ((with_reducible apply go_stN h); rfl; (first | rfl | simp [OneV.o]); intro _ h)
 | ((with_reducible apply go_box h); rfl; intro _ _ h)
 | ((with_reducible apply go_ix h); omega)
 | ((with_reducible first | apply go_elN h | apply go_f1 h | apply go_rf1 h | apply go_rel h); (case hi => omega); (try case hx => exact inferInstance); (try case hv => rfl))
 | ((with_reducible apply go_fa h); omega; omega)
))
  refine eMakeMap_sat kSt fiV h fun mv w h => ?_
  obtain ⟨r1, _, _, ⟨rfl, _⟩, _⟩ := map_iff.1 h
  have eb : fBuild Try.prog 80 [(0, .int .i64 m), (1, .map (some r1))] = some (.agg #[.int .i64 m, .map (some r1), .bool false, .int .i64 0]) := by kernel_rfl
  (repeat (first
 | (simp (disch := omega) only [evA, evB, evC, bAdd_i64, bSub_i64])
 | (refine go_some (eb ..) ?_)
 | (with_reducible apply go_ld1 h)
 | ((with_reducible first | apply go_ldA h | apply go_rd h | apply go_rdN h | apply go_rlen h); rfl)
 | (with_reducible first | apply go_ldN h | apply go_lenL h)
 | ((with_reducible apply go_st h); intro _ h)
 | ((with_reducible apply go_stA h); rfl; rfl; (first | rfl | simp [OneV.o]); intro _ h)
 | ((with_reducible apply go_stN h); rfl; (first | rfl | simp [OneV.o]); intro _ h)
 | ((with_reducible apply go_box h); rfl; intro _ _ h)
 | ((with_reducible apply go_ix h); omega)
 | ((with_reducible first | apply go_elN h | apply go_f1 h | apply go_rf1 h | apply go_rel h); (case hi => omega); (try case hx => exact inferInstance); (try case hv => rfl))
 | ((with_reducible apply go_fa h); omega; omega)
))
  exact hK1 (by omega) (by omega) _ _ (diskA_iff.2 ⟨[], ⟨.nil, newD_ok (by omega)⟩, diskI_iff.2 ⟨_, _, rfl, h⟩⟩)
theorem isname_spec (hK : K (.bool (nameOk n)) w) : callP G45 [.string (bs n)] w K := by
  refine c45 ?_
  unfold F45
  unfold nameOk at hK
  have e0 : (ByteArray.mk #[] : ByteArray) = bs [] := rfl
  rw [e0]
  by_cases g1 : n = []
  · subst g1
    (repeat (first
 | (simp (disch := omega) only [evA, evB, evC, bAdd_i64, bSub_i64])
 | (with_reducible apply go_ld1 h)
 | ((with_reducible first | apply go_ldA h | apply go_rd h | apply go_rdN h | apply go_rlen h); rfl)
 | (with_reducible first | apply go_ldN h | apply go_lenL h)
 | ((with_reducible apply go_st h); intro _ h)
 | ((with_reducible apply go_stA h); rfl; rfl; (first | rfl | simp [OneV.o]); intro _ h)
 | ((with_reducible apply go_stN h); rfl; (first | rfl | simp [OneV.o]); intro _ h)
 | ((with_reducible apply go_box h); rfl; intro _ _ h)
 | ((with_reducible apply go_ix h); omega)
 | ((with_reducible first | apply go_elN h | apply go_f1 h | apply go_rf1 h | apply go_rel h); (case hi => omega); (try case hx => exact inferInstance); (try case hv => rfl))
 | ((with_reducible apply go_fa h); omega; omega)
))
    simpa using hK
  · have g0 : 1 ≤ n.length := by cases n with | nil => exact absurd rfl g1 | cons a b => simp
    rw [decide_eq_true g0, Bool.true_and] at hK
    have e : decide (n = []) = false := by simpa using g1
    have e2 : decide ((n.length : Int) ≤ 64) = decide (n.length ≤ 64) := by congr 1; simp; omega
    (repeat (first
 | (simp (disch := omega) only [evA, evB, evC, bAdd_i64, bSub_i64, e, e2])
 | (with_reducible apply go_ld1 h)
 | ((with_reducible first | apply go_ldA h | apply go_rd h | apply go_rdN h | apply go_rlen h); rfl)
 | (with_reducible first | apply go_ldN h | apply go_lenL h)
 | ((with_reducible apply go_st h); intro _ h)
 | ((with_reducible apply go_stA h); rfl; rfl; (first | rfl | simp [OneV.o]); intro _ h)
 | ((with_reducible apply go_stN h); rfl; (first | rfl | simp [OneV.o]); intro _ h)
 | ((with_reducible apply go_box h); rfl; intro _ _ h)
 | ((with_reducible apply go_ix h); omega)
 | ((with_reducible first | apply go_elN h | apply go_f1 h | apply go_rf1 h | apply go_rel h); (case hi => omega); (try case hx => exact inferInstance); (try case hv => rfl))
 | ((with_reducible apply go_fa h); omega; omega)
))
    exact hK
theorem diskA_open (h : Sat w0 (DiskA v d :: L) w) : ∃ p m M, v = ptr p ∧ KInv ltS fKey fVal M d.fs ∧ DOk d ∧ Sat w0 (Cl p #[.int .i64 d.room, m, .bool d.stop, .int .i64 d.left] 80 :: MapH kSt fiV m M :: L) w := by
  obtain ⟨M, H, h⟩ := diskA_iff.1 h
  obtain ⟨p, m, hv, h⟩ := diskI_iff.1 h
  exact ⟨p, m, M, hv, H.1, H.2, h⟩
theorem diskA_close {p : Nat} {m : Value} (H : KInv ltS fKey fVal M d.fs) (ok : DOk d) (h : Sat w0 (Cl p #[.int .i64 d.room, m, .bool d.stop, .int .i64 d.left] 80 :: MapH kSt fiV m M :: L) w) : Sat w0 (DiskA (ptr p) d :: L) w :=
  diskA_iff.2 ⟨M, ⟨H, ok⟩, diskI_iff.2 ⟨p, m, rfl, h⟩⟩
theorem stopped_spec (h : Sat w0 (DiskA v d :: L) w) (hK : K (.bool (stoppedD d)) w) : callP G13 [v] w K := by
  obtain ⟨p, m, M, rfl, H, ok, h2⟩ := diskA_open h
  clear h
  have h := h2
  clear h2
  unfold stoppedD at hK
  refine c13 ?_
  unfold F13
  cases hs : d.stop
  · rw [hs] at h hK
    (repeat (first
 | (simp (disch := omega) only [evA, evB, evC, bAdd_i64, bSub_i64])
 | (with_reducible apply go_ld1 h)
 | ((with_reducible first | apply go_ldA h | apply go_rd h | apply go_rdN h | apply go_rlen h); rfl)
 | (with_reducible first | apply go_ldN h | apply go_lenL h)
 | ((with_reducible apply go_st h); intro _ h)
 | ((with_reducible apply go_stA h); rfl; rfl; (first | rfl | simp [OneV.o]); intro _ h)
 | ((with_reducible apply go_stN h); rfl; (first | rfl | simp [OneV.o]); intro _ h)
 | ((with_reducible apply go_box h); rfl; intro _ _ h)
 | ((with_reducible apply go_ix h); omega)
 | ((with_reducible first | apply go_elN h | apply go_f1 h | apply go_rf1 h | apply go_rel h); (case hi => omega); (try case hx => exact inferInstance); (try case hv => rfl))
 | ((with_reducible apply go_fa h); omega; omega)
))
    exact hK
  · rw [hs] at h hK
    (repeat (first
 | (simp (disch := omega) only [evA, evB, evC, bAdd_i64, bSub_i64])
 | (with_reducible apply go_ld1 h)
 | ((with_reducible first | apply go_ldA h | apply go_rd h | apply go_rdN h | apply go_rlen h); rfl)
 | (with_reducible first | apply go_ldN h | apply go_lenL h)
 | ((with_reducible apply go_st h); intro _ h)
 | ((with_reducible apply go_stA h); rfl; rfl; (first | rfl | simp [OneV.o]); intro _ h)
 | ((with_reducible apply go_stN h); rfl; (first | rfl | simp [OneV.o]); intro _ h)
 | ((with_reducible apply go_box h); rfl; intro _ _ h)
 | ((with_reducible apply go_ix h); omega)
 | ((with_reducible first | apply go_elN h | apply go_f1 h | apply go_rf1 h | apply go_rel h); (case hi => omega); (try case hx => exact inferInstance); (try case hv => rfl))
 | ((with_reducible apply go_fa h); omega; omega)
))
    simpa using hK
theorem use_spec (h : Sat w0 (DiskA v d :: L) w) (hK0 : useD d = none → ∀ w', Sat w0 (DiskA v d :: L) w' → K (.bool false) w') (hK1 : ∀ e, useD d = some e → ∀ w', Sat w0 (DiskA v e :: L) w' → K (.bool true) w') : callP G68 [v] w K := by
  refine c68 ?_
  unfold F68 F68_1 F68_1b
  refine stopped_spec h ?_
  have ok := diskA_ok h
  unfold stoppedD
  cases hs : d.stop
  · have hu : useD d = some d := by unfold useD; rw [hs]; rfl
    obtain ⟨p, m, M, rfl, H, ok, h2⟩ := diskA_open h
    have hK0 := h
    clear h
    have h := h2
    clear h2
    rw [hs] at h
    (repeat (first
 | (simp (disch := omega) only [evA, evB, evC, bAdd_i64, bSub_i64, Bool.false_and])
 | (with_reducible apply go_ld1 h)
 | ((with_reducible first | apply go_ldA h | apply go_rd h | apply go_rdN h | apply go_rlen h); rfl)
 | (with_reducible first | apply go_ldN h | apply go_lenL h)
 | ((with_reducible apply go_st h); intro _ h)
 | ((with_reducible apply go_stA h); rfl; rfl; (first | rfl | simp [OneV.o]); intro _ h)
 | ((with_reducible apply go_stN h); rfl; (first | rfl | simp [OneV.o]); intro _ h)
 | ((with_reducible apply go_box h); rfl; intro _ _ h)
 | ((with_reducible apply go_ix h); omega)
 | ((with_reducible first | apply go_elN h | apply go_f1 h | apply go_rf1 h | apply go_rel h); (case hi => omega); (try case hx => exact inferInstance); (try case hv => rfl))
 | ((with_reducible apply go_fa h); omega; omega)
))
    unfold F68_2 F68_2b
    exact hK1 d hu _ hK0
  · by_cases hl : d.left = 0
    · have hu : useD d = none := by unfold useD; rw [hs, if_pos rfl, if_pos hl]
      rw [decide_eq_true hl]
      (repeat (first
 | (simp (disch := omega) only [evA, evB, evC, bAdd_i64, bSub_i64, Bool.and_self])
 | (with_reducible apply go_ld1 h)
 | ((with_reducible first | apply go_ldA h | apply go_rd h | apply go_rdN h | apply go_rlen h); rfl)
 | (with_reducible first | apply go_ldN h | apply go_lenL h)
 | ((with_reducible apply go_st h); intro _ h)
 | ((with_reducible apply go_stA h); rfl; rfl; (first | rfl | simp [OneV.o]); intro _ h)
 | ((with_reducible apply go_stN h); rfl; (first | rfl | simp [OneV.o]); intro _ h)
 | ((with_reducible apply go_box h); rfl; intro _ _ h)
 | ((with_reducible apply go_ix h); omega)
 | ((with_reducible first | apply go_elN h | apply go_f1 h | apply go_rf1 h | apply go_rel h); (case hi => omega); (try case hx => exact inferInstance); (try case hv => rfl))
 | ((with_reducible apply go_fa h); omega; omega)
))
      exact hK0 hu _ h
    · have hu : useD d = some { d with left := d.left - 1 } := by unfold useD; rw [hs, if_pos rfl, if_neg hl]
      have oke := useD_ok ok hu
      rw [decide_eq_false hl]
      obtain ⟨p, m, M, rfl, H, _, h2⟩ := diskA_open h
      clear h
      have h := h2
      clear h2
      rw [hs] at h
      have hb := ok.left
      (repeat (first
 | (simp (disch := omega) only [evA, evB, evC, bAdd_i64, bSub_i64, Bool.and_false])
 | (with_reducible apply go_ld1 h)
 | ((with_reducible first | apply go_ldA h | apply go_rd h | apply go_rdN h | apply go_rlen h); rfl)
 | (with_reducible first | apply go_ldN h | apply go_lenL h)
 | ((with_reducible apply go_st h); intro _ h)
 | ((with_reducible apply go_stA h); rfl; rfl; (first | rfl | simp [OneV.o]); intro _ h)
 | ((with_reducible apply go_stN h); rfl; (first | rfl | simp [OneV.o]); intro _ h)
 | ((with_reducible apply go_box h); rfl; intro _ _ h)
 | ((with_reducible apply go_ix h); omega)
 | ((with_reducible first | apply go_elN h | apply go_f1 h | apply go_rf1 h | apply go_rel h); (case hi => omega); (try case hx => exact inferInstance); (try case hv => rfl))
 | ((with_reducible apply go_fa h); omega; omega)
))
      unfold F68_2 F68_2b
      refine hK1 _ hu _ (diskA_close (d := { d with left := d.left - 1 }) (m := m) H oke ?_)
      show Sat w0 (Cl p #[.int .i64 d.room, m, .bool d.stop, .int .i64 (d.left - 1)] 80 :: MapH kSt fiV m M :: L) _
      rw [hs]
      exact h.got
theorem turn_spec {f : Fil} (hok : DOk (turnD d f).2) (h : Sat w0 (DiskA v d :: L) w) (hK : ∀ w', Sat w0 (DiskA v (turnD d f).2 :: L) w' → K (.int .i64 (turnD d f).1) w') : callP G46 [v, .string (bs f.name), fiV (f.s, f.safe)] w K := by
  refine c46 ?_
  unfold F46
  unfold turnD at hok hK
  (repeat (first
 | (simp (disch := omega) only [evA, evB, evC, bAdd_i64, bSub_i64])
 | (with_reducible apply go_ld1 h)
 | ((with_reducible first | apply go_ldA h | apply go_rd h | apply go_rdN h | apply go_rlen h); rfl)
 | (with_reducible first | apply go_ldN h | apply go_lenL h)
 | ((with_reducible apply go_st h); intro _ h)
 | ((with_reducible apply go_stA h); rfl; rfl; (first | rfl | simp [OneV.o]); intro _ h)
 | ((with_reducible apply go_stN h); rfl; (first | rfl | simp [OneV.o]); intro _ h)
 | ((with_reducible apply go_box h); rfl; intro _ _ h)
 | ((with_reducible apply go_ix h); omega)
 | ((with_reducible first | apply go_elN h | apply go_f1 h | apply go_rf1 h | apply go_rel h); (case hi => omega); (try case hx => exact inferInstance); (try case hv => rfl))
 | ((with_reducible apply go_fa h); omega; omega)
))
  refine use_spec (h.frt) (fun hu w h => ?_) (fun e hu w h => ?_)
  · rw [hu] at hK
    (repeat (first
 | (simp (disch := omega) only [evA, evB, evC, bAdd_i64, bSub_i64])
 | (with_reducible apply go_ld1 h)
 | ((with_reducible first | apply go_ldA h | apply go_rd h | apply go_rdN h | apply go_rlen h); rfl)
 | (with_reducible first | apply go_ldN h | apply go_lenL h)
 | ((with_reducible apply go_st h); intro _ h)
 | ((with_reducible apply go_stA h); rfl; rfl; (first | rfl | simp [OneV.o]); intro _ h)
 | ((with_reducible apply go_stN h); rfl; (first | rfl | simp [OneV.o]); intro _ h)
 | ((with_reducible apply go_box h); rfl; intro _ _ h)
 | ((with_reducible apply go_ix h); omega)
 | ((with_reducible first | apply go_elN h | apply go_f1 h | apply go_rf1 h | apply go_rel h); (case hi => omega); (try case hx => exact inferInstance); (try case hv => rfl))
 | ((with_reducible apply go_fa h); omega; omega)
))
    exact hK _ (h.got)
  · rw [hu] at hok hK
    obtain ⟨p, m, M, rfl, H, ok, h2⟩ := diskA_open h
    clear h
    have h := h2
    clear h2
    (repeat (first
 | (simp (disch := omega) only [evA, evB, evC, bAdd_i64, bSub_i64])
 | (with_reducible apply go_ld1 h)
 | ((with_reducible first | apply go_ldA h | apply go_rd h | apply go_rdN h | apply go_rlen h); rfl)
 | (with_reducible first | apply go_ldN h | apply go_lenL h)
 | ((with_reducible apply go_st h); intro _ h)
 | ((with_reducible apply go_stA h); rfl; rfl; (first | rfl | simp [OneV.o]); intro _ h)
 | ((with_reducible apply go_stN h); rfl; (first | rfl | simp [OneV.o]); intro _ h)
 | ((with_reducible apply go_box h); rfl; intro _ _ h)
 | ((with_reducible apply go_ix h); omega)
 | ((with_reducible first | apply go_elN h | apply go_f1 h | apply go_rf1 h | apply go_rel h); (case hi => omega); (try case hx => exact inferInstance); (try case hv => rfl))
 | ((with_reducible apply go_fa h); omega; omega)
))
    refine eMapSet_sat (h.drew.frt (A := MapH kSt fiV m M)) KST um78 f.name (f.s, f.safe) fun w h => ?_
    refine hK _ (diskA_close (d := { e with fs := fPut f e.fs }) (H.put STO.txt f) hok (h.got))
theorem used_loop {p : Nat} {it m : Value} (hu : usedF d.fs ≤ 1099511627776) (H : KInv ltS fKey fVal M d.fs) (hK : ∀ w', Sat w0 (MapH kSt fiV m M :: L) w' → K (.int .i64 (usedF d.fs : Nat)) w') :
    ∀ (k : Nat) (rem : List (List UInt8 × (List UInt8 × Nat))) (n : Nat) (w : World), rem.length < k → n + (rem.map fun x => x.2.1.length).sum = usedF d.fs → Sat w0 (ItH kSt fiV it m M rem :: L) w → F16_2L k (.int .i64 (n : Nat)) it w K := by
  intro k
  induction k with
  | zero => intro rem n w hd; omega
  | succ k ih =>
    intro rem n w hd hn h
    rw [F16_2L]
    unfold F16_2b
    refine eNext_sat2 h (fun hr w h => ?_) (fun x r1 r2 w hs h hen => ?_)
    · have h2 := it_map h
      rw [hr] at hn
      refine go_some (show pTuple over 0 = some (.bool false) from rfl) ?_
      (repeat (first
 | (simp (disch := omega) only [evA, evB, evC, bAdd_i64, bSub_i64])
 | (with_reducible apply go_ld1 h)
 | ((with_reducible first | apply go_ldA h | apply go_rd h | apply go_rdN h | apply go_rlen h); rfl)
 | (with_reducible first | apply go_ldN h | apply go_lenL h)
 | ((with_reducible apply go_st h); intro _ h)
 | ((with_reducible apply go_stA h); rfl; rfl; (first | rfl | simp [OneV.o]); intro _ h)
 | ((with_reducible apply go_stN h); rfl; (first | rfl | simp [OneV.o]); intro _ h)
 | ((with_reducible apply go_box h); rfl; intro _ _ h)
 | ((with_reducible apply go_ix h); omega)
 | ((with_reducible first | apply go_elN h | apply go_f1 h | apply go_rf1 h | apply go_rel h); (case hi => omega); (try case hx => exact inferInstance); (try case hv => rfl))
 | ((with_reducible apply go_fa h); omega; omega)
))
      unfold F16_3 F16_3b
      have : n = usedF d.fs := by simpa using hn
      rw [this]
      exact hK w h2
    · have hrm : rem.length = r1.length + r2.length + 1 := by rw [hs]; simp; omega
      refine go_some (show pTuple (.tuple #[.bool true, kSt x.1, fiV x.2]) 0 = some (.bool true) from rfl) ?_
      (repeat (first
 | (simp (disch := omega) only [evA, evB, evC, bAdd_i64, bSub_i64])
 | (with_reducible apply go_ld1 h)
 | ((with_reducible first | apply go_ldA h | apply go_rd h | apply go_rdN h | apply go_rlen h); rfl)
 | (with_reducible first | apply go_ldN h | apply go_lenL h)
 | ((with_reducible apply go_st h); intro _ h)
 | ((with_reducible apply go_stA h); rfl; rfl; (first | rfl | simp [OneV.o]); intro _ h)
 | ((with_reducible apply go_stN h); rfl; (first | rfl | simp [OneV.o]); intro _ h)
 | ((with_reducible apply go_box h); rfl; intro _ _ h)
 | ((with_reducible apply go_ix h); omega)
 | ((with_reducible first | apply go_elN h | apply go_f1 h | apply go_rf1 h | apply go_rel h); (case hi => omega); (try case hx => exact inferInstance); (try case hv => rfl))
 | ((with_reducible apply go_fa h); omega; omega)
))
      refine go_some hen ?_
      refine go_some (show pTuple (.tuple #[kSt x.1, fiV x.2]) 1 = some (fiV x.2) from rfl) ?_
      have hsum : n + x.2.1.length + ((r1 ++ r2).map fun x => x.2.1.length).sum = usedF d.fs := by
        rw [← hn, hs]; simp; omega
      refine go_alloc h zFi rfl fun _ _ h => ?_
      (repeat (first
 | (simp (disch := omega) only [evA, evB, evC, bAdd_i64, bSub_i64])
 | (with_reducible apply go_ld1 h)
 | ((with_reducible first | apply go_ldA h | apply go_rd h | apply go_rdN h | apply go_rlen h); rfl)
 | (with_reducible first | apply go_ldN h | apply go_lenL h)
 | ((with_reducible apply go_st h); intro _ h)
 | ((with_reducible apply go_stA h); rfl; rfl; (first | rfl | simp [OneV.o]); intro _ h)
 | ((with_reducible apply go_stN h); rfl; (first | rfl | simp [OneV.o]); intro _ h)
 | ((with_reducible apply go_box h); rfl; intro _ _ h)
 | ((with_reducible apply go_ix h); omega)
 | ((with_reducible first | apply go_elN h | apply go_f1 h | apply go_rf1 h | apply go_rel h); (case hi => omega); (try case hx => exact inferInstance); (try case hv => rfl))
 | ((with_reducible apply go_fa h); omega; omega)
))
      exact ih (r1 ++ r2) (n + x.2.1.length) _ (by simp; omega) hsum (h.got)
theorem used_spec (hc : d.fs.length ≤ 1073741824) (h : Sat w0 (DiskA v d :: L) w) (hK : ∀ w', Sat w0 (DiskA v d :: L) w' → K (.int .i64 (usedF d.fs : Nat)) w') : callP G16 [v] w K := by
  refine c16 ?_
  unfold F16 F16_1 F16_1b F16_2
  obtain ⟨p, m, M, rfl, H, ok, h2⟩ := diskA_open h
  clear h
  have h := h2
  clear h2
  (repeat (first
 | (simp (disch := omega) only [evA, evB, evC, bAdd_i64, bSub_i64])
 | (with_reducible apply go_ld1 h)
 | ((with_reducible first | apply go_ldA h | apply go_rd h | apply go_rdN h | apply go_rlen h); rfl)
 | (with_reducible first | apply go_ldN h | apply go_lenL h)
 | ((with_reducible apply go_st h); intro _ h)
 | ((with_reducible apply go_stA h); rfl; rfl; (first | rfl | simp [OneV.o]); intro _ h)
 | ((with_reducible apply go_stN h); rfl; (first | rfl | simp [OneV.o]); intro _ h)
 | ((with_reducible apply go_box h); rfl; intro _ _ h)
 | ((with_reducible apply go_ix h); omega)
 | ((with_reducible first | apply go_elN h | apply go_f1 h | apply go_rf1 h | apply go_rel h); (case hi => omega); (try case hx => exact inferInstance); (try case hv => rfl))
 | ((with_reducible apply go_fa h); omega; omega)
))
  have hu := ok.used
  have hr := ok.room
  refine eRange_sat (h.frt (A := MapH kSt fiV m M)) um78 fun it w h => ?_
  refine used_loop (p := p) (m := m) (M := M) (d := d) (L := Cl p #[.int .i64 d.room, m, .bool d.stop, .int .i64 d.left] 80 :: L) (by omega) H (fun w h => ?_) fuel M 0 w (by rw [H.len]; unfold fuel; omega) ?_ h
  · exact hK _ (diskA_close H ok (h.got))
  · rw [Nat.zero_add]
    have := (H.pm.map fun x => x.2.1.length).sum_nat
    rw [this, List.map_map]
    rfl
theorem look_file (H : KInv ltS fKey fVal M d.fs) : aGet n M = (fGet n d.fs).map fVal := H.get STO.txt n
theorem app_spec (hc : d.fs.length ≤ 1073741824) (hx : x.length ≤ 140737488355328) (h : Sat w0 (DiskA v d :: L) w) (hK : ∀ w', Sat w0 (DiskA v (appD n x d).2 :: L) w' → K (.int .i64 (appD n x d).1) w') : callP G19 [v, .string (bs n), .string (bs x)] w K := by
  have oka := appD_ok (diskA_ok h) n x
  unfold appD at oka hK
  refine c19 ?_
  unfold F19
  have h0 := h
  obtain ⟨p, m, M, rfl, H, ok, h2⟩ := diskA_open h
  clear h
  have h := h2
  clear h2
  have hu := ok.used
  have hr := ok.room
  (repeat (first
 | (simp (disch := omega) only [evA, evB, evC, bAdd_i64, bSub_i64])
 | (with_reducible apply go_ld1 h)
 | ((with_reducible first | apply go_ldA h | apply go_rd h | apply go_rdN h | apply go_rlen h); rfl)
 | (with_reducible first | apply go_ldN h | apply go_lenL h)
 | ((with_reducible apply go_st h); intro _ h)
 | ((with_reducible apply go_stA h); rfl; rfl; (first | rfl | simp [OneV.o]); intro _ h)
 | ((with_reducible apply go_stN h); rfl; (first | rfl | simp [OneV.o]); intro _ h)
 | ((with_reducible apply go_box h); rfl; intro _ _ h)
 | ((with_reducible apply go_ix h); omega)
 | ((with_reducible first | apply go_elN h | apply go_f1 h | apply go_rf1 h | apply go_rel h); (case hi => omega); (try case hx => exact inferInstance); (try case hv => rfl))
 | ((with_reducible apply go_fa h); omega; omega)
))
  refine go_look2 h (by repeat (first | exact .here | apply Fnt.there)) KST um78 zFi n ?_
  rw [look_file (n := n) H]
  cases hg : fGet n d.fs with
  | none =>
    rw [hg] at oka hK
    have e1 : (Option.map fVal (none : Option Fil)) = none := rfl
    rw [e1]
    simp only [Option.elim_none]
    (repeat (first
 | (simp (disch := omega) only [evA, evB, evC, bAdd_i64, bSub_i64])
 | (with_reducible apply go_ld1 h)
 | ((with_reducible first | apply go_ldA h | apply go_rd h | apply go_rdN h | apply go_rlen h); rfl)
 | (with_reducible first | apply go_ldN h | apply go_lenL h)
 | ((with_reducible apply go_st h); intro _ h)
 | ((with_reducible apply go_stA h); rfl; rfl; (first | rfl | simp [OneV.o]); intro _ h)
 | ((with_reducible apply go_stN h); rfl; (first | rfl | simp [OneV.o]); intro _ h)
 | ((with_reducible apply go_box h); rfl; intro _ _ h)
 | ((with_reducible apply go_ix h); omega)
 | ((with_reducible first | apply go_elN h | apply go_f1 h | apply go_rf1 h | apply go_rel h); (case hi => omega); (try case hx => exact inferInstance); (try case hv => rfl))
 | ((with_reducible apply go_fa h); omega; omega)
))
    refine go_alloc h zFi rfl fun _ _ h => ?_
    (repeat (first
 | (simp (disch := omega) only [evA, evB, evC, bAdd_i64, bSub_i64])
 | (with_reducible apply go_ld1 h)
 | ((with_reducible first | apply go_ldA h | apply go_rd h | apply go_rdN h | apply go_rlen h); rfl)
 | (with_reducible first | apply go_ldN h | apply go_lenL h)
 | ((with_reducible apply go_st h); intro _ h)
 | ((with_reducible apply go_stA h); rfl; rfl; (first | rfl | simp [OneV.o]); intro _ h)
 | ((with_reducible apply go_stN h); rfl; (first | rfl | simp [OneV.o]); intro _ h)
 | ((with_reducible apply go_box h); rfl; intro _ _ h)
 | ((with_reducible apply go_ix h); omega)
 | ((with_reducible first | apply go_elN h | apply go_f1 h | apply go_rf1 h | apply go_rel h); (case hi => omega); (try case hx => exact inferInstance); (try case hv => rfl))
 | ((with_reducible apply go_fa h); omega; omega)
))
    exact hK _ (diskA_close H ok (h.got))
  | some f =>
    rw [hg] at oka hK
    obtain ⟨hm, hn⟩ := kGet_mem hg
    have hfl := usedF_mem hm
    have e1 : Option.map fVal (some f) = some (f.s, f.safe) := rfl
    rw [e1]
    simp only [Option.elim_some]
    (repeat (first
 | (simp (disch := omega) only [evA, evB, evC, bAdd_i64, bSub_i64])
 | (with_reducible apply go_ld1 h)
 | ((with_reducible first | apply go_ldA h | apply go_rd h | apply go_rdN h | apply go_rlen h); rfl)
 | (with_reducible first | apply go_ldN h | apply go_lenL h)
 | ((with_reducible apply go_st h); intro _ h)
 | ((with_reducible apply go_stA h); rfl; rfl; (first | rfl | simp [OneV.o]); intro _ h)
 | ((with_reducible apply go_stN h); rfl; (first | rfl | simp [OneV.o]); intro _ h)
 | ((with_reducible apply go_box h); rfl; intro _ _ h)
 | ((with_reducible apply go_ix h); omega)
 | ((with_reducible first | apply go_elN h | apply go_f1 h | apply go_rf1 h | apply go_rel h); (case hi => omega); (try case hx => exact inferInstance); (try case hv => rfl))
 | ((with_reducible apply go_fa h); omega; omega)
))
    refine go_alloc h zFi rfl fun q _ h => ?_
    (repeat (first
 | (simp (disch := omega) only [evA, evB, evC, bAdd_i64, bSub_i64])
 | (with_reducible apply go_ld1 h)
 | ((with_reducible first | apply go_ldA h | apply go_rd h | apply go_rdN h | apply go_rlen h); rfl)
 | (with_reducible first | apply go_ldN h | apply go_lenL h)
 | ((with_reducible apply go_st h); intro _ h)
 | ((with_reducible apply go_stA h); rfl; rfl; (first | rfl | simp [OneV.o]); intro _ h)
 | ((with_reducible apply go_stN h); rfl; (first | rfl | simp [OneV.o]); intro _ h)
 | ((with_reducible apply go_box h); rfl; intro _ _ h)
 | ((with_reducible apply go_ix h); omega)
 | ((with_reducible first | apply go_elN h | apply go_f1 h | apply go_rf1 h | apply go_rel h); (case hi => omega); (try case hx => exact inferInstance); (try case hv => rfl))
 | ((with_reducible apply go_fa h); omega; omega)
))
    have h2 := diskA_close H ok (L := Cl q (cFi (f.s, f.safe)).toArray 86 :: L) (h.drew.got)
    refine used_spec (v := ptr p) (d := d) hc h2 fun w h => ?_
    obtain ⟨p', m, M, e, H, ok, h3⟩ := diskA_open h
    cases e
    clear h
    have h := h3
    clear h3
    simp only at hK oka
    by_cases g : d.room - usedF d.fs < (x.length : Int)
    · have g' : decide ((x.length : Int) > d.room - (usedF d.fs : Nat)) = true := by simpa using g
      rw [if_pos g] at hK
      (repeat (first
 | (simp (disch := omega) only [evA, evB, evC, bAdd_i64, bSub_i64, g'])
 | (with_reducible apply go_ld1 h)
 | ((with_reducible first | apply go_ldA h | apply go_rd h | apply go_rdN h | apply go_rlen h); rfl)
 | (with_reducible first | apply go_ldN h | apply go_lenL h)
 | ((with_reducible apply go_st h); intro _ h)
 | ((with_reducible apply go_stA h); rfl; rfl; (first | rfl | simp [OneV.o]); intro _ h)
 | ((with_reducible apply go_stN h); rfl; (first | rfl | simp [OneV.o]); intro _ h)
 | ((with_reducible apply go_box h); rfl; intro _ _ h)
 | ((with_reducible apply go_ix h); omega)
 | ((with_reducible first | apply go_elN h | apply go_f1 h | apply go_rf1 h | apply go_rel h); (case hi => omega); (try case hx => exact inferInstance); (try case hv => rfl))
 | ((with_reducible apply go_fa h); omega; omega)
))
      exact hK _ (diskA_close H ok (h.got))
    · have g' : decide ((x.length : Int) > d.room - (usedF d.fs : Nat)) = false := by simpa using g
      rw [if_neg g] at hK oka
      (repeat (first
 | (simp (disch := omega) only [evA, evB, evC, bAdd_i64, bSub_i64, g'])
 | (with_reducible apply go_ld1 h)
 | ((with_reducible first | apply go_ldA h | apply go_rd h | apply go_rdN h | apply go_rlen h); rfl)
 | (with_reducible first | apply go_ldN h | apply go_lenL h)
 | ((with_reducible apply go_st h); intro _ h)
 | ((with_reducible apply go_stA h); rfl; rfl; (first | rfl | simp [OneV.o]); intro _ h)
 | ((with_reducible apply go_stN h); rfl; (first | rfl | simp [OneV.o]); intro _ h)
 | ((with_reducible apply go_box h); rfl; intro _ _ h)
 | ((with_reducible apply go_ix h); omega)
 | ((with_reducible first | apply go_elN h | apply go_f1 h | apply go_rf1 h | apply go_rel h); (case hi => omega); (try case hx => exact inferInstance); (try case hv => rfl))
 | ((with_reducible apply go_fa h); omega; omega)
))
      refine go_some (add_txt (a := f.s) (b := x) (by omega)) ?_
      (repeat (first
 | (simp (disch := omega) only [evA, evB, evC, bAdd_i64, bSub_i64])
 | (with_reducible apply go_ld1 h)
 | ((with_reducible first | apply go_ldA h | apply go_rd h | apply go_rdN h | apply go_rlen h); rfl)
 | (with_reducible first | apply go_ldN h | apply go_lenL h)
 | ((with_reducible apply go_st h); intro _ h)
 | ((with_reducible apply go_stA h); rfl; rfl; (first | rfl | simp [OneV.o]); intro _ h)
 | ((with_reducible apply go_stN h); rfl; (first | rfl | simp [OneV.o]); intro _ h)
 | ((with_reducible apply go_box h); rfl; intro _ _ h)
 | ((with_reducible apply go_ix h); omega)
 | ((with_reducible first | apply go_elN h | apply go_f1 h | apply go_rf1 h | apply go_rel h); (case hi => omega); (try case hx => exact inferInstance); (try case hv => rfl))
 | ((with_reducible apply go_fa h); omega; omega)
))
      have h4 := diskA_close H ok (L := Cl q (cFi (f.s ++ x, f.safe)).toArray 86 :: L) (h.got)
      have e : n = ({ f with s := f.s ++ x } : Fil).name := hn.symm
      rw [e]
      refine turn_spec (f := { f with s := f.s ++ x }) oka h4 fun w h => hK w (h.got)
end
end Go.Proofs.Gong
