/- A part of the proofs: what stands below it, told in lemmas. No condition. -/
import Derived.Test.YtippapgconnkiaaGreatDoorP0
import Derived.Laws.Externs
import Derived.SizedLaws
import Derived.Lib.LaidTab
import GoSem.Claims
import Derived.Shelf.SlSortCmp.WholeK
import Derived.Shelf.SlSortCmp.NoneTotal
import Derived.Shelf.SlIterI.Nil
import Derived.Shelf.SlIter.Nil
import Derived.Shelf.SortM.Plain
import Derived.Shelf.SortM.SortNone
import Derived.RangeFuncLeaves
import Derived.RangeFuncBound
import Derived.RangeFuncCalls
import Derived.OwnWalkIn
import Derived.TacticsIn
import Derived.Test.YtippapgconnkiaaGreatDoorProg
set_option linter.all false

/- Sz5 -/
namespace Go.Sx
section
variable {κ ν : Type}
structure MapOk (ek : κ → Value) (ev : ν → Value) (es : Array MapEntry) (clock : Nat) (m : List (κ × ν)) : Prop where
  kv : es.toList.map (fun e => (e.key, e.val)) = m.map (fun x => (ek x.1, ev x.2))
  nd : (es.toList.map (·.born)).Nodup
  lt : ∀ e ∈ es.toList, e.born < clock
  kd : (m.map Prod.fst).Nodup
def bS (ek : κ → Value) (ev : ν → Value) (v : Value) (m : List (κ × ν)) : HP := HEx fun r => HEx fun es => HEx fun clock => HPr (v = .map (some r) ∧ MapOk ek ev es clock m) (Blk r (.map es clock))
variable {ek : κ → Value} {ev : ν → Value} {m : List (κ × ν)} {w0 w : World} {L : List HP} {v : Value}
theorem eu : Sat w0 (bS ek ev v m :: L) w ↔ ∃ r es clock, (v = .map (some r) ∧ MapOk ek ev es clock m) ∧ Sat w0 (Blk r (.map es clock) :: L) w := by
  simp only [bS, Sat.ex_iff, Sat.pr_iff]
def ItH (ek : κ → Value) (ev : ν → Value) (it v : Value) (m rem : List (κ × ν)) : HP := HEx fun q => HEx fun r => HEx fun es => HEx fun clock => HEx fun seen =>
  HPr (it = ptr q ∧ v = .map (some r) ∧ MapOk ek ev es clock m ∧ (es.toList.filter (fun e => !seen.contains e.born)).map (fun e => (e.key, e.val)) = rem.map (fun x => (ek x.1, ev x.2)) ∧ rem.Sublist m)
    (HSt (Blk q (.mapIter (some r) clock seen clock)) (Blk r (.map es clock)))
theorem y5 {it : Value} {rem : List (κ × ν)} : Sat w0 (ItH ek ev it v m rem :: L) w ↔ ∃ q r es clock seen, (it = ptr q ∧ v = .map (some r) ∧ MapOk ek ev es clock m ∧ (es.toList.filter (fun e => !seen.contains e.born)).map (fun e => (e.key, e.val)) = rem.map (fun x => (ek x.1, ev x.2)) ∧ rem.Sublist m) ∧
    Sat w0 (Blk q (.mapIter (some r) clock seen clock) :: Blk r (.map es clock) :: L) w := by
  simp only [ItH, Sat.ex_iff, Sat.pr_iff, Sat.star_iff]
theorem pJ (h : Sat w0 (bS ek ev v m :: L) w) : OneV v := by
  obtain ⟨r, es, c, ⟨rfl, _⟩, _⟩ := eu.1 h; infer_instance
theorem Ro (h : Sat w0 (bS ek ev v m :: L) w) : dF v w = some (.int .i64 m.length) := by
  obtain ⟨r, es, clock, ⟨rfl, hm⟩, hs⟩ := eu.1 h
  have := congrArg List.length hm.kv
  simp at this
  simp [dF, mapOf, hs.blk, this]
theorem it_map {it : Value} {rem : List (κ × ν)} (h : Sat w0 (ItH ek ev it v m rem :: L) w) : Sat w0 (bS ek ev v m :: L) w := by
  obtain ⟨q, r, es, clock, seen, ⟨_, h2, h3, _⟩, h5⟩ := y5.1 h
  exact eu.2 ⟨r, es, clock, ⟨h2, h3⟩, h5.drop⟩
theorem lW {α β : Type} (f : α → β) : ∀ (l : List α) (j : Nat), (l.eraseIdx j).map f = (l.map f).eraseIdx j
  | [], _ => by simp
  | _ :: _, 0 => by simp
  | a :: l, j + 1 => by simp [lW f l j]
theorem zi {P : Program} {kt : TypeId} {K : Value → World → Prop} (h : Sat w0 (bS ek ev v m :: L) w) {t et : TypeId} (hu : P.underlying t = some (.map kt et))
    (hK : ∀ w', Sat w0 (bS ek ev v ([] : List (κ × ν)) :: L) w' → K unit w') : l5 P t v w K := by
  obtain ⟨r, es, clock, ⟨rfl, hm⟩, hs⟩ := eu.1 h
  simp only [l5, hu, hs.blk]
  exact hK _ (eu.2 ⟨r, _, _, ⟨rfl, ⟨by simp, by simp, by simp, by simp⟩⟩, hs.set _⟩)
theorem dW {K : Value → World → Prop} (ek : κ → Value) (ev : ν → Value) (h : Sat w0 L w) (hK : ∀ v w', Sat w0 (bS ek ev v ([] : List (κ × ν)) :: L) w' → K v w') : eG none w K :=
  hK _ _ (eu.2 ⟨_, _, _, ⟨rfl, ⟨by simp, by simp, by simp, by simp⟩⟩, h.alloc _⟩)
theorem KP {P : Program} {kt : TypeId} {K : Value → World → Prop} (h : Sat w0 (bS ek ev v m :: L) w) {t et : TypeId} (hu : P.underlying t = some (.map kt et))
    (hK : ∀ it w', Sat w0 (ItH ek ev it v m m :: L) w' → K it w') : bK P t v w K := by
  obtain ⟨r, es, clock, ⟨rfl, hm⟩, hs⟩ := eu.1 h
  simp only [bK, hu, hs.blk]
  exact hK _ _ (y5.2 ⟨_, r, es, clock, #[], ⟨rfl, rfl, hm, by rw [List.filter_eq_self.2 (by simp)]; exact hm.kv, List.Sublist.refl _⟩, hs.alloc _⟩)
end
section
variable {κ ν : Type} [DecidableEq κ]
def dM (k : κ) : List (κ × ν) → Option ν
  | [] => none
  | x :: r => if k = x.1 then some x.2 else dM k r
def iN (k : κ) (v : ν) : List (κ × ν) → List (κ × ν)
  | [] => [(k, v)]
  | x :: r => if k = x.1 then (k, v) :: r else x :: iN k v r
def mI (k : κ) : List (κ × ν) → List (κ × ν)
  | [] => []
  | x :: r => if k = x.1 then r else x :: mI k r
def oK (ev : ν → Value) (k : κ) : List (κ × ν) → Nat → Option (Nat × Value)
  | [], _ => none
  | x :: r, i => if k = x.1 then some (i, ev x.2) else oK ev k r (i + 1)
structure KeyT (P : Program) (kt : TypeId) (ek : κ → Value) : Prop where
  u : (P.underlying kt).isSome = true
  ck : ∀ k, ckv P 10000 kt (ek k) = true
  eq : ∀ a b, eqv P Op.maxDepth kt (ek a) (ek b) = some (decide (a = b))
  sb : ∀ a, Instr.sameBits 10000 (ek a) (ek a) = true
variable {P : Program} {kt : TypeId} {ek : κ → Value} {ev : ν → Value} {m : List (κ × ν)} {k : κ}
theorem rq {j i : Nat} {val : Value} : ∀ {m : List (κ × ν)} {i : Nat}, oK ev k m i = some (j, val) → ∃ b, i ≤ j ∧ m[j - i]? = some (k, b) ∧ val = ev b ∧ dM k m = some b ∧ (∀ x, iN k x m = m.set (j - i) (k, x)) ∧ mI k m = m.eraseIdx (j - i) := by
  intro m
  induction m with
  | nil => intro i h; simp [oK] at h
  | cons y r ih =>
    intro i h
    unfold oK at h
    by_cases hk : k = y.1
    · simp [hk] at h
      obtain ⟨rfl, rfl⟩ := h
      exact ⟨y.2, Nat.le_refl _, by simp [hk], rfl, by simp [dM, hk], by simp [iN, hk], by simp [mI, hk]⟩
    · simp only [hk, if_false] at h
      obtain ⟨b, h1, h2, h3, h4, h5, h6⟩ := ih h
      have e : j - i = j - (i + 1) + 1 := by omega
      exact ⟨b, by omega, by rw [e]; simpa using h2, h3, by simp [dM, hk, h4], fun x => by rw [e]; simp [iN, hk, h5], by rw [e]; simp [mI, hk, h6]⟩
theorem ru : ∀ {m : List (κ × ν)} {i : Nat}, oK ev k m i = none → dM k m = none ∧ (∀ x, iN k x m = m ++ [(k, x)]) ∧ mI k m = m ∧ k ∉ m.map Prod.fst := by
  intro m
  induction m with
  | nil => intro i _; simp [dM, iN, mI]
  | cons y r ih =>
    intro i h
    unfold oK at h
    by_cases hk : k = y.1
    · simp [hk] at h
    · simp only [hk, if_false] at h
      obtain ⟨h1, h2, h3, h4⟩ := ih h
      refine ⟨by simp [dM, hk, h1], fun x => by simp [iN, hk, h2], by simp [mI, hk, h3], ?_⟩
      rw [List.map_cons, List.mem_cons]; rintro (h | h)
      · exact hk h
      · exact h4 h
theorem GX (K : KeyT P kt ek) : ∀ (l : List MapEntry) (m : List (κ × ν)) (i : Nat), l.map (fun e => (e.key, e.val)) = m.map (fun x => (ek x.1, ev x.2)) → lF (eqv P Op.maxDepth kt (ek k)) l i = some (oK ev k m i) := by
  intro l
  induction l with
  | nil => intro m i h; cases m with | nil => rfl | cons => simp at h
  | cons e l ih =>
    intro m i h
    cases m with
    | nil => simp at h
    | cons x m =>
      simp only [List.map_cons, List.cons.injEq, Prod.mk.injEq] at h
      obtain ⟨⟨h1, h2⟩, h3⟩ := h
      unfold lF oK
      rw [h1, K.eq]
      by_cases hk : k = x.1
      · simp [hk, h2]
      · simp [hk, ih _ _ h3]
theorem tH (k k' : κ) (x : ν) : ∀ (m : List (κ × ν)), dM k (iN k' x m) = if k = k' then some x else dM k m
  | [] => by by_cases h : k = k' <;> simp [iN, dM, h]
  | y :: r => by
    by_cases h' : k' = y.1
    · by_cases h : k = k'
      · simp [iN, dM, h, h']
      · have : ¬ k = y.1 := fun e => h (e.trans h'.symm)
        simp [iN, dM, h, h', this]
    · by_cases h : k = y.1
      · have : ¬ k = k' := fun e => h' (e.symm.trans h)
        have : ¬ y.1 = k' := fun e => h' e.symm
        simp [iN, dM, h, h', this]
      · simp [iN, dM, h, h', tH k k' x r]
theorem tJ {k : κ} {x : ν} : ∀ {m : List (κ × ν)}, dM k m = some x → (k, x) ∈ m
  | [], h => by simp [dM] at h
  | y :: r, h => by
    unfold dM at h
    by_cases hk : k = y.1
    · simp [hk] at h; subst h; subst hk; simp
    · simp only [hk, if_false] at h; exact List.mem_cons_of_mem _ (tJ h)
theorem mh {k : κ} {x : ν} : ∀ {m : List (κ × ν)}, (m.map Prod.fst).Nodup → (k, x) ∈ m → dM k m = some x
  | [], _, h => by simp at h
  | y :: r, hn, h => by
    simp only [List.map_cons, List.nodup_cons] at hn
    unfold dM
    rcases List.mem_cons.1 h with rfl | h
    · simp
    · have : ¬ k = y.1 := fun e => hn.1 (by rw [← e]; exact List.mem_map_of_mem (f := Prod.fst) h)
      simp only [this, if_false]; exact mh hn.2 h
section
variable {w0 w : World} {L : List HP} {v : Value}
theorem Ri (h : Sat w0 (bS ek ev v m :: L) w) (K : KeyT P kt ek) {t et : TypeId} {z : Value} (hu : P.underlying t = some (.map kt et)) (hz : bO P et = some z) (ok : Bool) (k : κ) :
    bY P t v (ek k) ok w = some (if ok then .tuple #[(dM k m).elim z ev, .bool (dM k m).isSome] else (dM k m).elim z ev) := by
  obtain ⟨r, es, clock, ⟨rfl, hm⟩, hs⟩ := eu.1 h
  simp only [bY, hu, mapOf, hs.blk]
  rw [if_pos ⟨K.ck k, K.u⟩, GX K _ _ 0 hm.kv]
  cases hf : oK ev k m 0 with
  | none => simp [(ru hf).1, hz]
  | some x =>
    obtain ⟨j, val⟩ := x
    obtain ⟨b, _, _, rfl, h4, _⟩ := rq (i := 0) hf
    simp [h4]
theorem ZX (h : Sat w0 (bS ek ev v m :: L) w) (K : KeyT P kt ek) {t et : TypeId} {z : Value} (hu : P.underlying t = some (.map kt et)) (hz : bO P et = some z) (k : κ) : bY P t v (ek k) true w = some (.tuple #[(dM k m).elim z ev, .bool (dM k m).isSome]) := by
  rw [Ri h K hu hz]; rfl
theorem PS {x : ν} (h : (m.map Prod.fst).Nodup) : ((iN k x m).map Prod.fst).Nodup := by
  cases hf : oK (fun _ : ν => Value.int .i64 0) k m 0 with
  | none =>
    obtain ⟨_, h2, _, h4⟩ := ru hf
    rw [h2, List.map_append, List.nodup_append]
    refine ⟨h, by simp, fun a ha b hb => ?_⟩
    simp at hb; subst hb; intro e; subst e; exact h4 ha
  | some y =>
    obtain ⟨j, val⟩ := y
    obtain ⟨b, _, h2, _, _, h5, _⟩ := rq (i := 0) hf
    rw [h5, List.map_set]
    have : (m.map Prod.fst).set (j - 0) k = m.map Prod.fst := by
      apply List.ext_getElem?
      intro i
      rw [List.getElem?_set]
      split
      · rename_i hi; subst hi
        split
        · simp at h2; simp [h2]
        · rename_i hn; have := (List.getElem?_eq_some_iff.1 h2).1; simp at hn; omega
      · rfl
    rw [this]; exact h
theorem oD {K : Value → World → Prop} (h : Sat w0 (bS ek ev v m :: L) w) (T : KeyT P kt ek) {t et : TypeId} (hu : P.underlying t = some (.map kt et)) (k : κ) (x : ν)
    (hK : ∀ w', Sat w0 (bS ek ev v (iN k x m) :: L) w' → K unit w') : bz P t v (ek k) (ev x) w K := by
  obtain ⟨r, es, clock, ⟨rfl, hm⟩, hs⟩ := eu.1 h
  simp only [bz, hu, hs.blk]
  refine ⟨⟨T.ck k, T.u⟩, ?_⟩
  rw [GX T _ _ 0 hm.kv]
  have kd := PS (k := k) (x := x) hm.kd
  cases hf : oK ev k m 0 with
  | none =>
    obtain ⟨_, h2, _, h4⟩ := ru hf
    refine hK _ (eu.2 ⟨r, _, _, ⟨rfl, ?_, ?_, ?_, kd⟩, hs.set _⟩)
    · rw [h2]; simp [hm.kv]
    · simp only [Array.toList_push, List.map_append, List.nodup_append]
      refine ⟨hm.nd, by simp, fun a ha b hb => ?_⟩
      simp at hb; subst hb
      obtain ⟨e, he, rfl⟩ := List.mem_map.1 ha
      have := hm.lt e he; omega
    · intro e he
      simp only [Array.toList_push, List.mem_append, List.mem_singleton] at he
      rcases he with he | rfl
      · have := hm.lt e he; omega
      · simp
  | some y =>
    obtain ⟨j, val⟩ := y
    obtain ⟨b, _, h2, _, _, h5, _⟩ := rq (i := 0) hf
    simp only [Nat.sub_zero] at h2 h5
    have hj : j < m.length := by
      rcases Nat.lt_or_ge j m.length with h | h
      · exact h
      · rw [List.getElem?_eq_none h] at h2; cases h2
    have hlen := congrArg List.length hm.kv
    simp at hlen
    have hje : j < es.size := by omega
    have hkey : es[j].key = ek k := by
      have := congrArg (fun l => l[j]?) hm.kv
      simp [hje, h2] at this
      exact this.1
    refine ⟨?_, hK _ (eu.2 ⟨r, _, _, ⟨rfl, ?_, ?_, ?_, kd⟩, hs.set _⟩)⟩
    · simp [hje, hkey, T.sb]
    · rw [h5, List.map_set]
      apply List.ext_getElem?
      intro i
      have := congrArg (fun l => l[i]?) hm.kv
      simp only [List.getElem?_map, Array.getElem?_toList, Array.getElem?_modify, List.getElem?_set] at this ⊢
      by_cases hi : j = i
      · subst hi; simp [hje, hj]
      · simp [hi]; simpa using this
    · have : (es.modify j fun e => { e with key := ek k, val := ev x }).toList.map (·.born) = es.toList.map (·.born) := by
        apply List.ext_getElem?
        intro i
        simp only [List.getElem?_map, Array.getElem?_toList, Array.getElem?_modify]
        split
        · cases es[i]? <;> simp
        · rfl
      rw [this]; exact hm.nd
    · intro e he
      obtain ⟨i, hi, rfl⟩ := List.getElem_of_mem he
      simp at hi
      simp only [Array.getElem_toList, Array.getElem_modify]
      have := hm.lt es[i] (by simp)
      split <;> exact this
end
end
theorem KeyT.int {P : Program} {kt : TypeId} (h : P.underlying kt = some (.int .i64)) : KeyT P kt (fun n : Int => Value.int .i64 n) where
  u := by simp [h]
  ck := fun k => by simp [ckv, h]
  eq := fun a b => by simp [eqv, Op.maxDepth, h]; rw [Bool.eq_iff_iff]; simp
  sb := fun a => by simp [Instr.sameBits]
theorem KeyT.str {P : Program} {kt : TypeId} (h : P.underlying kt = some .string) : KeyT P kt (fun n : ByteArray => Value.string n) where
  u := by simp [h]
  ck := fun k => by simp [ckv, h]
  eq := fun a b => by simp [eqv, Op.maxDepth, h, uE]
  sb := fun a => by simp [Instr.sameBits]
end Go.Sx

/- Sz6 -/
namespace Go.Sx
structure Cod {α : Type} (f : α → List Value) (es : Nat) : Prop where
  len : ∀ x, (f x).length = es
  one : ∀ x, (f x).all (·.oneCell') = true
  pos : 0 < es
def LsH {α : Type} (f : α → List Value) (es : Nat) (ty : TypeId) (v : Value) (l : List α) : HP := SlH es ty v l.length (l.flatMap f)
def elP (es : Nat) (v : Value) (i : Int) : Value := (bq es v (.int .i64 i)).getD undef
section
variable {α : Type} {f : α → List Value} {es : Nat} {ty : TypeId} {v : Value} {l : List α} {w0 w : World} {L : List HP}
theorem lc (C : Cod f es) (l : List α) : (l.flatMap f).length = l.length * es := by
  induction l with
  | nil => simp
  | cons x l ih => simp [ih, C.len, Nat.add_mul, Nat.add_comm]
theorem R6 (C : Cod f es) (l : List α) : (l.flatMap f).all (·.oneCell') = true := by
  induction l with
  | nil => simp
  | cons x l ih => rw [List.flatMap_cons, List.all_append, C.one, ih]; rfl
theorem uW (C : Cod f es) : ∀ (l : List α) (i : Nat), (l.flatMap f).take (i * es) = (l.take i).flatMap f
  | [], i => by simp
  | x :: l, 0 => by simp
  | x :: l, i + 1 => by
    rw [List.flatMap_cons, Nat.add_mul, Nat.one_mul, Nat.add_comm, List.take_append_add_of_len (C.len x), uW C l i, List.take_succ_cons, List.flatMap_cons]
theorem uX (C : Cod f es) : ∀ (l : List α) (i : Nat), (l.flatMap f).drop (i * es) = (l.drop i).flatMap f
  | [], i => by simp
  | x :: l, 0 => by simp
  | x :: l, i + 1 => by
    rw [List.flatMap_cons, Nat.add_mul, Nat.one_mul, Nat.add_comm, ← List.drop_drop, List.drop_left' (C.len x), uX C l i, List.drop_succ_cons]
theorem dw (h : Sat w0 (LsH f es ty v l :: L) w) : Rd w es v l.length (l.flatMap f) := Sat.rd h
theorem fT (h : Sat w0 (LsH f es ty v l :: L) w) : OneV v := (dw h).one
theorem rd_ix {n : Nat} {cs : List Value} (h : Rd w es v n cs) {i : Nat} (hi : i < n) : ∃ b o, bq es v (.int .i64 i) = some (.pointer (some ⟨b, o, none⟩)) ∧ elP es v i = .pointer (some ⟨b, o, none⟩) := by
  cases h with
  | emp => omega
  | blk hb hn ha hc =>
    rename_i b o cap a ty fz
    have e : bq es (.slice (some ⟨b, o, none⟩) n cap) (.int .i64 i) = some (.pointer (some ⟨b, o + i * es, none⟩)) := by
      simp only [bq]; rw [if_pos ⟨by omega, by omega⟩]; simp
    exact ⟨b, o + i * es, e, by simp [elP, e]⟩
theorem fV {n : Nat} {cs : List Value} (h : Rd w es v n cs) {i : Nat} (hi : i < n) : bq es v (.int .i64 i) = some (elP es v i) := by
  obtain ⟨b, o, h1, h2⟩ := rd_ix h hi
  rw [h1, h2]
theorem wz (C : Cod f es) (h : Rd w es v l.length (l.flatMap f)) {i : Nat} (hi : i < l.length) : ldN es (elP es v i) w = some (.agg (f l[i]).toArray) := by
  obtain ⟨b, o, h1, h2, _⟩ := h.elem C.len rfl hi (j := .i64)
  have : elP es v i = .pointer (some ⟨b, o, none⟩) := by simp [elP, h1]
  rw [this, h2]
theorem fG {g : α → Value} (h : Rd w 1 v l.length (l.flatMap fun x => [g x])) {i : Nat} (hi : i < l.length) : ld1 (elP 1 v i) w = some (g l[i]) := by
  obtain ⟨b, o, h1, _, h3⟩ := h.elem (fun _ => rfl) rfl hi (j := .i64)
  have : elP 1 v i = .pointer (some ⟨b, o, none⟩) := by simp [elP, h1]
  rw [this]
  have := h3 0
  simpa using this
theorem QB (C : Cod f es) (h : Rd w es v l.length (l.flatMap f)) {i k : Nat} (hi : i < l.length) (hk : k < es) : ∃ a, ae k (elP es v i) = some (.pointer (some a)) ∧ w.cell? a = (f l[i])[k]? := by
  obtain ⟨b, o, h1, _, h3⟩ := h.elem C.len rfl hi (j := .i64)
  have : elP es v i = .pointer (some ⟨b, o, none⟩) := by simp [elP, h1]
  rw [this]
  refine ⟨⟨b, o + k, none⟩, rfl, ?_⟩
  rcases h3 k with h | h
  · exact h
  · omega
theorem yQ (h : Sat w0 L w) : Sat w0 (LsH f es ty (.slice none 0 0) [] :: L) w := h.nilsl
theorem fI {P : Program} {t xt : TypeId} {bytes : Nat} {s x : Value} {m : List α} {K : Value → World → Prop} (C : Cod f es) (h : Sat w0 (LsH f es ty s l :: L) w) (T : SlT P t ty es bytes) (hxt : nN P xt = true)
    (hR : Rd w es x m.length (m.flatMap f)) (hb : (l.length + m.length) * bytes ≤ 140737488355328) (hK : ∀ s' w', Sat w0 (LsH f es ty s' (l ++ m) :: L) w' → K s' w') : aJ P t xt s x w K := by
  refine Ir h T hxt hR (R6 C m) hb fun s' w' h' => hK s' w' ?_
  unfold LsH
  rw [List.length_append, List.flatMap_append]; exact h'
theorem iD {P : Program} {t : TypeId} {m : List α} {parts : List (Nat × Value)} {K : Value → World → Prop} {c : Array Value} (C : Cod f es) (h : Sat w0 L w) (hu : P.underlying t = some (.slice ty)) (hc : dx P ty m.length parts = some c) (hm : c.toList = m.flatMap f)
    (hK : ∀ s w', Sat w0 (LsH f es ty s m :: L) w' → K s w') : aB P t m.length parts w K := by
  refine gy (es := es) h hu hc ?_ fun s w' h' => hK s w' ?_
  · have := congrArg List.length hm
    rw [lc C] at this; simpa using this
  · unfold LsH; rw [← hm]; exact h'
theorem Kk {lo hi : Nat} {A H M : Option Value} (C : Cod f es) (h : Sat w0 (LsH f es ty v l :: L) w) (hL : Bd 0 A lo) (hH : Bd l.length H hi) (hM : BdM hi l.length H M) (h1 : lo ≤ hi) (h2 : hi ≤ l.length) :
    ∃ v', dZ es v A H M = some v' ∧ Sat w0 (LsH f es ty v' ((l.take hi).drop lo) :: L) w := by
  obtain ⟨fp, hO, k⟩ := Sat.own h
  obtain ⟨v', e, hO'⟩ := hO.sub hL hH hM h1 h2
  refine ⟨v', e, ?_⟩
  have := k _ _ _ _ _ _ _ hO' (.refl _ _)
  unfold LsH
  rw [uW C, uX C] at this
  have e : ((l.take hi).drop lo).length = hi - lo := by simp; omega
  rw [e]; exact this
theorem Ka {lo hi : Nat} {A H M : Option Value} {v' : Value} (C : Cod f es) (h : Rd w es v l.length (l.flatMap f)) (hs : dZ es v A H M = some v') (hL : Bd 0 A lo) (hH : Bd l.length H hi) (hM : BdM hi l.length H M) (h1 : lo ≤ hi) (h2 : hi ≤ l.length) :
    Rd w es v' ((l.take hi).drop lo).length (((l.take hi).drop lo).flatMap f) := by
  have := h.sub' hs hL hH hM h1 h2
  rw [uW C, uX C] at this
  have e : ((l.take hi).drop lo).length = hi - lo := by simp; omega
  rw [e]; exact this
end
def cI (n : Int) : List Value := [.int .i64 n]
theorem CI : Cod cI 1 := ⟨fun _ => rfl, fun _ => rfl, by omega⟩
end Go.Sx

/- Sz7 -/
namespace Go.Sx
section
variable {α : Type}
structure PermOn (a b : Nat) (l l' : List α) : Prop where
  perm : l'.Perm l
  out : ∀ i, (i < a ∨ b ≤ i) → l'[i]? = l[i]?
theorem PermOn.refl (a b : Nat) (l : List α) : PermOn a b l l := ⟨.refl _, fun _ _ => rfl⟩
theorem PermOn.trans {a b : Nat} {l m n : List α} (h : PermOn a b l m) (h' : PermOn a b m n) : PermOn a b l n := ⟨h'.perm.trans h.perm, fun i hi => (h'.out i hi).trans (h.out i hi)⟩
theorem PermOn.len {a b : Nat} {l m : List α} (h : PermOn a b l m) : m.length = l.length := h.perm.length_eq
theorem JH {l m : List α} {a : Nat} (h : ∀ i, i < a → m[i]? = l[i]?) : m.take a = l.take a := by
  apply List.ext_getElem?
  intro i
  simp only [List.getElem?_take]
  split
  · exact h i ‹_›
  · rfl
theorem KU {l m : List α} {a : Nat} (h : ∀ i, a ≤ i → m[i]? = l[i]?) : m.drop a = l.drop a := by
  apply List.ext_getElem?
  intro i
  simp only [List.getElem?_drop]
  exact h _ (by omega)
theorem PermOn.mid {a b : Nat} {l m : List α} (h : PermOn a b l m) (hab : a ≤ b) : ((m.take b).drop a).Perm ((l.take b).drop a) := by
  have e : ∀ x : List α, x = x.take a ++ ((x.take b).drop a ++ x.drop b) := fun x => by
    have : x.take a = (x.take b).take a := by rw [List.take_take, Nat.min_eq_left hab]
    rw [this, ← List.append_assoc, List.take_append_drop, List.take_append_drop]
  have hp := h.perm
  rw [e m, e l, JH fun i hi => h.out i (.inl hi), KU fun i hi => h.out i (.inr hi)] at hp
  have := (List.perm_append_left_iff _).1 hp
  exact (List.perm_append_right_iff _).1 this
theorem PermOn.all {a b : Nat} {l m : List α} (h : PermOn a b l m) {p : α → Prop} (hp : ∀ i x, a ≤ i → i < b → l[i]? = some x → p x) : ∀ i x, a ≤ i → i < b → m[i]? = some x → p x := by
  intro i x ha hb hx
  have hm : x ∈ (m.take b).drop a := by
    apply List.mem_of_getElem? (i := i - a)
    rw [List.getElem?_drop, List.getElem?_take_of_lt (by omega), show a + (i - a) = i by omega, hx]
  have := (h.mid (by omega)).subset hm
  obtain ⟨j, hj⟩ := List.getElem?_of_mem this
  have hj' := hj
  rw [List.getElem?_drop, List.getElem?_take] at hj
  split at hj
  · exact hp (a + j) x (by omega) ‹_› hj
  · cases hj
def Br (l : List α) (i j : Nat) : List α := match l[i]?, l[j]? with | some x, some y => (l.set i y).set j x | _, _ => l
theorem Gc {l : List α} {i j : Nat} (hi : i < l.length) (hj : j < l.length) : Br l i j = (l.set i l[j]).set j l[i] := by simp [Br, hi, hj]
theorem Od {l : List α} {i j : Nat} (hi : i < l.length) (hj : j < l.length) (k : Nat) : (Br l i j)[k]? = if k = j then some l[i] else if k = i then some l[j] else l[k]? := by
  rw [Gc hi hj]
  simp only [List.getElem?_set, List.length_set]
  by_cases h1 : j = k
  · subst h1; simp [hj]
  · by_cases h2 : i = k
    · subst h2; simp [h1, hi, Ne.symm h1]
    · simp [h1, h2, Ne.symm h1, Ne.symm h2]
theorem JI {l : List α} {i j : Nat} (hi : i < l.length) (hj : j < l.length) : (Br l i j).Perm l := by
  have h := Array.swap_perm (xs := l.toArray) (i := i) (j := j) (by simpa using hi) (by simpa using hj)
  have e : (l.toArray.swap i j (by simpa using hi) (by simpa using hj)).toList = Br l i j := by
    rw [Gc hi hj]; simp [Array.swap]
  have := h.toList
  rw [e] at this
  exact this
theorem PermOn.swap {a b i j : Nat} {l : List α} (hi : a ≤ i ∧ i < b) (hj : a ≤ j ∧ j < b) (hb : b ≤ l.length) : PermOn a b l (Br l i j) :=
  ⟨JI (by omega) (by omega), fun k hk => by
    rw [Od (by omega) (by omega)]
    rw [if_neg (by omega), if_neg (by omega)]⟩
structure SWO (lt : α → α → Bool) : Prop where
  asym : ∀ a b, lt a b = true → lt b a = false
  tr : ∀ a b c, lt b a = false → lt c b = false → lt c a = false
variable {lt : α → α → Bool}
theorem SWO.lt_le {a b c : α} (S : SWO lt) (h : lt a b = true) (h' : lt c b = false) : lt a c = true := by
  cases h2 : lt a c with
  | true => rfl
  | false => have := S.tr b c a h' h2; rw [this] at h; cases h
theorem SWO.irr (S : SWO lt) (a : α) : lt a a = false := by
  cases h : lt a a with
  | false => rfl
  | true => have := S.asym a a h; rw [this] at h; cases h
def zC (lt : α → α → Bool) (a b : Nat) (l : List α) : Prop := ∀ i j x y, a ≤ i → i < j → j < b → l[i]? = some x → l[j]? = some y → lt y x = false
theorem zC.of_eq {a b : Nat} {l m : List α} (h : zC lt a b l) (e : ∀ i, a ≤ i → i < b → m[i]? = l[i]?) : zC lt a b m :=
  fun i j x y h1 h2 h3 hx hy => h i j x y h1 h2 h3 (by rw [← e i h1 (by omega)]; exact hx) (by rw [← e j (by omega) h3]; exact hy)
theorem zC.step (S : SWO lt) {a b : Nat} {l : List α} (h : ∀ i x y, a ≤ i → i + 1 < b → l[i]? = some x → l[i + 1]? = some y → lt y x = false) : zC lt a b l := by
  intro i j x y h1 h2 h3 hx hy
  induction j generalizing y with
  | zero => omega
  | succ j ih =>
    by_cases e : i = j
    · subst e; exact h i x y h1 h3 hx hy
    · have hj : j < l.length := by have := (List.getElem?_eq_some_iff.1 hy).1; omega
      have hz : l[j]? = some l[j] := List.getElem?_eq_getElem hj
      exact S.tr _ _ _ (ih l[j] (by omega) (by omega) hz) (h j l[j] y (by omega) h3 hz hy)
theorem AO (ht : ∀ a b, lt a b = false → lt b a = false → a = b) {l m : List α} (hp : l.Perm m) (hl : l.Pairwise fun x y => lt y x = false) (hm : m.Pairwise fun x y => lt y x = false) : l = m :=
  hp.eq_of_pairwise (fun a b _ _ h1 h2 => ht a b h2 h1) hl hm
end
end Go.Sx

/- Sz8 -/
namespace Go.Sx
section
variable {κ ν : Type} {ek : κ → Value} {ev : ν → Value} {m : List (κ × ν)} {w0 w : World} {L : List HP} {v : Value}
end
def HS : List HP → HP
  | [] => HEm
  | P :: l => HSt P (HS l)
theorem Sat.hs_iff {w0 w : World} {L : List HP} : ∀ {l : List HP}, Sat w0 (HS l :: L) w ↔ Sat w0 (l ++ L) w := by
  intro l
  have key : ∀ (l : List HP) (L : List HP) (h : Hp), ib (HS l :: L) h ↔ ib (l ++ L) h := by
    intro l
    induction l with
    | nil =>
      intro L h
      constructor
      · rintro ⟨a, b, hd, rfl, _, hL⟩
        have : ∀ (M : List HP) (b h : Hp), (∀ i o, b i = some o → h i = some o) → ib M b → ib M h := by
          intro M
          induction M with
          | nil => intro _ _ _ _; trivial
          | cons Q M ih =>
            rintro b h hb ⟨x, y, hxy, rfl, hQ, hM⟩
            refine ⟨x, fun i => match x i with | some _ => none | none => h i, ?_, ?_, hQ, ih y _ ?_ hM⟩
            · intro i o hx; simp [hx]
            · funext i; unfold hOr
              cases hx : x i with
              | none => simp [hx]
              | some o => simp; exact hb i o (ow hx)
            · intro i o hy
              have hx : x i = none := hxy.symm i o hy
              simp [hx]
              exact hb i o (Hr hxy hy)
        exact this L b _ (fun i o hb => Hr hd hb) hL
      · intro h1
        exact ⟨fun _ => none, h, (fun _ _ h => by cases h), rfl, trivial, h1⟩
    | cons P l ih =>
      intro L h
      show ib (HSt P (HS l) :: L) h ↔ _
      rw [ib.star]
      constructor
      · exact fun h1 => h1.tail fun _ h2 => (ih L _).1 h2
      · exact fun h1 => ib.tail (fun _ h2 => (ih L _).2 h2) h1
  exact ⟨fun h => h.conv fun _ => (key l L _).1, fun h => h.conv fun _ => (key l L _).2⟩
section
variable {P : Program} {t : TypeId} {x y : Operand}
end
end Go.Sx

/- Sz9 -/
namespace Go.Sx
def bs (l : List UInt8) : ByteArray := ⟨l.toArray⟩
theorem mk_bs (l : List UInt8) : ByteArray.mk l.toArray = bs l := by unfold bs; rfl
theorem bs_of (s : ByteArray) : s = bs s.data.toList := by cases s; simp [bs]
@[simp] theorem fM (l : List UInt8) : (bs l).size = l.length := by simp [bs, ByteArray.size]
@[simp] theorem bs_data (l : List UInt8) : (bs l).data.toList = l := by simp [bs]
@[simp] theorem PG (a b : List UInt8) : bs a ++ bs b = bs (a ++ b) := by
  apply ByteArray.ext; simp [bs, ByteArray.data_append]
@[simp] theorem cz {a b : List UInt8} : bs a = bs b ↔ a = b := by simp [bs]
@[simp] theorem bs_extract (l : List UInt8) (i j : Nat) : (bs l).extract i j = bs ((l.take j).drop i) := by
  apply ByteArray.ext
  rw [ByteArray.data_extract]
  simp only [bs, List.extract_toArray, List.extract_eq_take_drop]
  rw [List.drop_take]
@[simp] theorem bs_get (l : List UInt8) (i : Nat) : (bs l)[i]? = l[i]? := by
  by_cases h : i < l.length
  · rw [List.getElem?_eq_getElem h, getElem?_pos (bs l) i (by simpa using h)]
    simp [bs, ByteArray.getElem_eq_getElem_data]
  · rw [List.getElem?_eq_none (by omega), getElem?_neg (bs l) i (by simpa using h)]
theorem mZ {l : List UInt8} {i : Nat} {j : IntKind} (h : i < l.length) : dG (.string (bs l)) (.int j i) = some (.int .u8 l[i].toNat) := by
  simp [dG, h]
  rfl
theorem nS {l : List UInt8} {i : Nat} {j : IntKind} (h : i ≤ l.length) : di (.string (bs l)) (some (.int j i)) none = some (.string (bs (l.drop i))) := by
  simp [di, hiB, bnd, h]
theorem Qi {l : List UInt8} {i : Nat} {j : IntKind} (h : i ≤ l.length) : di (.string (bs l)) none (some (.int j i)) = some (.string (bs (l.take i))) := by
  simp [di, hiB, bnd]
  rw [if_pos (by omega)]
theorem dH {a b : List UInt8} (h : a.length + b.length ≤ 9223372036854775807) : bH (.string (bs a)) (.string (bs b)) = some (.string (bs (a ++ b))) := by
  have e : IntKind.i64.max = 9223372036854775807 := by decide
  simp only [bH, fM, e]
  rw [if_neg (by omega), PG]
def lh (l : List UInt8) : List Value := l.map fun b => .int .u8 b.toNat
@[simp] theorem cellsB_len (l : List UInt8) : (lh l).length = l.length := by simp [lh]
@[simp] theorem qB : ∀ l : List UInt8, bytesOf (lh l) = some l
  | [] => rfl
  | b :: l => by
    show bytesOf (.int .u8 b.toNat :: lh l) = _
    simp [bytesOf, qB l]
theorem p8 {w : World} {v : Value} {n : Nat} {l : List UInt8} (h : Rd w 1 v n (lh l)) (h0 : 0 < n) : gF v w = some (.string (bs l)) := by
  have hl := h.length
  generalize hc : lh l = cs at h hl
  cases h with
  | emp => omega
  | blk hb hn ha hcs =>
    rename_i b o cap a ty fz
    subst hcs
    simp only [gF, hb]
    rw [if_pos (by omega)]
    have : (a.extract o (o + n)).toList = (a.toList.drop o).take (n * 1) := by simp [List.take_drop]
    rw [this, ← hc, qB]
    rfl
section
variable {w0 w : World} {L : List HP}
end
theorem SK {n k : Nat} {j j' : IntKind} (h : k ≤ j.bits) : rf (.int j n) (.int j' k) = some (.int j ((n / 2 ^ k : Nat))) := by
  simp only [rf]
  rw [if_neg (by omega)]
  simp only [Int.toNat_natCast, Nat.min_eq_left h]
  congr 2
  rw [Int.fdiv_eq_ediv_of_nonneg _ (by exact_mod_cast Nat.zero_le _)]
  exact_mod_cast rfl
theorem wrap_u8 (n : Nat) : IntKind.u8.wrap n = (n % 256 : Nat) := by
  have e : IntKind.u8.wrap n = (n : Int) % 256 := by rfl
  rw [e]; omega
theorem Yd {a b : Nat} (ha : a < 9223372036854775808) (hb : b < 9223372036854775808) : l6 .or (.int .i64 a) (.int .i64 b) = some (.int .i64 ((a ||| b : Nat))) := by
  have h : a ||| b < 2 ^ 63 := Nat.or_lt_two_pow (by omega) (by omega)
  have e : (2 : Nat) ^ IntKind.i64.bits = 18446744073709551616 := by decide
  simp only [l6, oH, if_true, Option.map_some]
  congr 2
  rw [BitVec.toNat_or]
  simp only [BitVec.ofInt_natCast, BitVec.toNat_ofNat, e]
  rw [Nat.mod_eq_of_lt (show a < _ by omega), Nat.mod_eq_of_lt (show b < _ by omega)]
  exact fK ⟨by omega, by omega⟩
theorem or_add {a b i : Nat} (h : b < 2 ^ i) : (a * 2 ^ i) ||| b = a * 2 ^ i + b := by
  rw [Nat.mul_comm, Nat.two_pow_add_eq_or_of_lt h]
end Go.Sx

/- Sz10 -/
namespace Go.Sx
open Go.ChangeShapes Go.WideShapes Go.RowKit
section
variable {H : Type} {enc : TypeId × Value → H} {P : Program} {w : World} {base : Nat} {held : Bool}
end
theorem str_bs {s : ByteArray} : ∃ l : List UInt8, s = bs l ∧ l.length = s.size := ⟨s.data.toList, bs_of s, by rw [Array.length_toList]; rfl⟩
theorem QL {p : Prop} (h : p) : on0 p [] := h
theorem bL {p : Value → Prop} {a : Value} (h : p a) : on1 p [a] := h
theorem dm {p : Value → Value → Prop} {a b : Value} (h : p a b) : on2 p [a, b] := h
theorem kT {p : Value → Value → Value → Prop} {a b c : Value} (h : p a b c) : on3 p [a, b, c] := h
theorem QK {p : Value → Value → Value → Value → Prop} {a b c d : Value} (h : p a b c d) : on4 p [a, b, c, d] := h
end Go.Sx

/- Sz11 -/
namespace Go.Sx
inductive Rep (A B : HP) : List HP → List HP → Prop
  | here {L : List HP} : Rep A B (A :: L) (B :: L)
  | there {X : HP} {L L' : List HP} : Rep A B L L' → Rep A B (X :: L) (X :: L')
inductive Fnt (A : HP) : List HP → List HP → Prop
  | here {L : List HP} : Fnt A (A :: L) L
  | there {X : HP} {L M : List HP} : Fnt A L M → Fnt A (X :: L) (X :: M)
inductive Get : List HP → List HP → Prop
  | done {L : List HP} : Get L L
  | skip {X : HP} {L L' : List HP} : Get L L' → Get (X :: L) L'
  | pick {A : HP} {L M L' : List HP} : Fnt A L M → Get M L' → Get L (A :: L')
theorem Fnt.perm {A : HP} {L M : List HP} (f : Fnt A L M) : L.Perm (A :: M) := by
  induction f with
  | here => exact .refl _
  | there _ ih => exact (ih.cons _).trans (.swap _ _ _)
theorem Rep.split {A B : HP} {L L' : List HP} (r : Rep A B L L') : ∃ M, L.Perm (A :: M) ∧ (B :: M).Perm L' := by
  induction r with
  | here => exact ⟨_, .refl _, .refl _⟩
  | there _ ih => obtain ⟨M, h1, h2⟩ := ih; exact ⟨_ :: M, (h1.cons _).trans (.swap _ _ _), (List.Perm.swap _ _ _).trans (h2.cons _)⟩
class Nth (l : List Value) (i : Nat) (v : outParam Value) : Prop where
  get : l[i]? = some v
instance {a : Value} {l : List Value} : Nth (a :: l) 0 a := ⟨rfl⟩
instance {a b : Value} {l : List Value} {n : Nat} [h : Nth l n a] : Nth (b :: l) (n + 1) a := ⟨by simpa using h.get⟩
class Upd (l : List Value) (i : Nat) (y : Value) (l' : outParam (List Value)) : Prop where
  lt : i < l.length
  eq : l.set i y = l'
instance {a y : Value} {l : List Value} : Upd (a :: l) 0 y (y :: l) := ⟨by simp, rfl⟩
instance {y b : Value} {l l' : List Value} {n : Nat} [h : Upd l n y l'] : Upd (b :: l) (n + 1) y (b :: l') := ⟨by simpa using h.lt, by simp [h.eq]⟩
class Part (l : List Value) (o n : Nat) (l' : outParam (List Value)) : Prop where
  le : o + n ≤ l.length
  eq : (l.drop o).take n = l'
instance {l : List Value} : Part l 0 0 [] := ⟨by simp, by simp⟩
instance {a : Value} {l l' : List Value} {n : Nat} [h : Part l 0 n l'] : Part (a :: l) 0 (n + 1) (a :: l') := ⟨by have := h.le; simp; omega, by simpa using h.eq⟩
instance {a : Value} {l l' : List Value} {o n : Nat} [h : Part l o n l'] : Part (a :: l) (o + 1) n l' := ⟨by have := h.le; simp; omega, by simpa using h.eq⟩
theorem Part.all (l : List Value) : Part l 0 l.length l := ⟨by simp, by simp⟩
class Ups (l : List Value) (o : Nat) (ys : List Value) (l' : outParam (List Value)) : Prop where
  le : o + ys.length ≤ l.length
  eq : l.take o ++ (ys ++ l.drop (o + ys.length)) = l'
instance {l : List Value} : Ups l 0 [] l := ⟨by simp, by simp⟩
instance {a y : Value} {l ys l' : List Value} [h : Ups l 0 ys l'] : Ups (a :: l) 0 (y :: ys) (y :: l') := ⟨by have := h.le; simp at *; omega, by simpa using h.eq⟩
instance {a : Value} {l ys l' : List Value} {o : Nat} [h : Ups l o ys l'] : Ups (a :: l) (o + 1) ys (a :: l') := ⟨by have := h.le; simp; omega, by rw [Nat.add_right_comm]; simpa using h.eq⟩
theorem Ups.all {l ys : List Value} (h : l.length = ys.length) : Ups l 0 ys ys := ⟨by omega, by simp; omega⟩
class CellIn (p : Nat) (l : outParam (List Value)) (ty : outParam TypeId) (L : List HP) : Prop where
  mem : Cl p l.toArray ty ∈ L
instance {p : Nat} {l : List Value} {ty : TypeId} {L : List HP} : CellIn p l ty (Cl p l.toArray ty :: L) := ⟨.head _⟩
instance (priority := low) {p : Nat} {l : List Value} {ty : TypeId} {X : HP} {L : List HP} [h : CellIn p l ty L] : CellIn p l ty (X :: L) := ⟨.tail _ h.mem⟩
class Rp (p : Nat) (l' : List Value) (l : outParam (List Value)) (ty : outParam TypeId) (L : List HP) (L' : outParam (List HP)) : Prop where
  rep : Rep (Cl p l.toArray ty) (Cl p l'.toArray ty) L L'
instance {p : Nat} {l l' : List Value} {ty : TypeId} {L : List HP} : Rp p l' l ty (Cl p l.toArray ty :: L) (Cl p l'.toArray ty :: L) := ⟨.here⟩
instance (priority := low) {p : Nat} {l l' : List Value} {ty : TypeId} {X : HP} {L L' : List HP} [h : Rp p l' l ty L L'] : Rp p l' l ty (X :: L) (X :: L') := ⟨.there h.rep⟩
class LsIn (v : Value) (L : List HP) (α : outParam Type) (f : outParam (α → List Value)) (es : outParam Nat) (ty : outParam TypeId) (l : outParam (List α)) : Prop where
  fnt : ∃ M, Fnt (LsH f es ty v l) L M
instance {v : Value} {L : List HP} {α : Type} {f : α → List Value} {es : Nat} {ty : TypeId} {l : List α} : LsIn v (LsH f es ty v l :: L) α f es ty l := ⟨_, .here⟩
instance (priority := low) {v : Value} {X : HP} {L : List HP} {α : Type} {f : α → List Value} {es : Nat} {ty : TypeId} {l : List α} [h : LsIn v L α f es ty l] : LsIn v (X :: L) α f es ty l := ⟨h.fnt.elim fun M h => ⟨X :: M, .there h⟩⟩
class CodC {α : Type} (f : α → List Value) (es : outParam Nat) : Prop where
  cod : Cod f es
class SameC (w w' : World) : Prop where
  same : Same w w'
instance {w : World} : SameC w w := ⟨.refl _⟩
instance {w w' : World} [h : SameC w w'] : SameC w w'.drew := ⟨h.same.trans (.drew _)⟩
def elF (es : Nat) (v : Value) (i : Int) (k : Nat) : Value := (ae k (elP es v i)).getD undef
section
variable {w0 w : World} {L L' M : List HP} {A B : HP} {k : Value → Prop} {K : Value → World → Prop}
theorem Sat.front (h : Sat w0 L w) (f : Fnt A L M) : Sat w0 (A :: M) w := h.perm f.perm
theorem Sat.get (h : Sat w0 L w) (g : Get L L') : Sat w0 L' w := by
  obtain ⟨hf, hh, h1, h2⟩ := h
  have key : ∀ {L L' : List HP}, Get L L' → ∀ {a : Hp}, ib L a → ∃ b, ib L' b ∧ ∀ i o, b i = some o → a i = some o := by
    intro L L' g
    induction g with
    | done => exact fun h => ⟨_, h, fun _ _ h => h⟩
    | skip _ ih =>
      intro a h
      obtain ⟨b, hb, h3⟩ := h.drop
      obtain ⟨c, hc, h4⟩ := ih hb
      exact ⟨c, hc, fun i o h => h3 i o (h4 i o h)⟩
    | pick f _ ih =>
      intro a h
      obtain ⟨x, y, hd, rfl, hP, hL⟩ := h.perm f.perm
      obtain ⟨c, hc, h4⟩ := ih hL
      refine ⟨hOr x c, ⟨x, c, fun i o hx => ?_, rfl, hP, hc⟩, fun i o h => ?_⟩
      · cases hci : c i with
        | none => rfl
        | some z => have h6 := h4 i z hci; rw [hd i o hx] at h6; cases h6
      · unfold hOr at h
        cases hx : x i with
        | some z => rw [hx] at h; simp at h; subst h; exact ow hx
        | none => rw [hx] at h; simp at h; exact Hr hd (h4 i o h)
  obtain ⟨b, hb, h3⟩ := key g h1
  exact ⟨hf, b, hb, fun i o h => h2 i o (h3 i o h)⟩
theorem Sat.mem {b : Nat} {o : Obj} (h : Sat w0 L w) (hm : Blk b o ∈ L) : w.heap[b]? = some o := by
  obtain ⟨X, Y, rfl⟩ := List.append_of_mem hm
  exact (h.perm List.perm_middle).blk
theorem Sat.memc {b : Nat} {c : Array Value} {ty : TypeId} (h : Sat w0 L w) (hm : Cl b c ty ∈ L) : w.heap[b]? = some (.cells c ty (0, 0)) := h.mem hm
theorem Sat.rep {w' : World} (h : Sat w0 L w) (r : Rep A B L L') (f : ∀ M, Sat w0 (A :: M) w → Sat w0 (B :: M) w') : Sat w0 L' w' := by
  obtain ⟨M, h1, h2⟩ := r.split
  exact (f M (h.perm h1)).perm h2
theorem go_cell {p i : Nat} {c : Array Value} {ty : TypeId} {v : Value} (h : Sat w0 L w) (hm : Cl p c ty ∈ L) (hc : c[i]? = some v) : w.cell? ⟨p, i, none⟩ = some v := by
  rw [cell_of (h.memc hm), hc]
theorem BN {p i : Nat} {l : List Value} {ty : TypeId} {v : Value} {w1 : World} (h : Sat w0 L w) [e : SameC w w1] [hm : CellIn p l ty L] [hc : Nth l i v] : ld1 (.pointer (some ⟨p, i, none⟩)) w1 = some v := by
  rw [bu]; exact go_cell (h.to e.same) hm.mem (by rw [List.getElem?_toArray]; exact hc.get)
theorem Dg {p o n : Nat} {l l' : List Value} {ty : TypeId} {w1 : World} (h : Sat w0 L w) (e : Same w w1) (hm : Cl p l.toArray ty ∈ L) (hc : Part l o n l') : ldN n (.pointer (some ⟨p, o, none⟩)) w1 = some (.agg l'.toArray) := by
  rw [lX ((h.to e).memc hm) (by simpa using hc.le)]
  congr 2
  apply Array.ext'
  rw [Array.toList_extract, List.extract_eq_take_drop]
  simpa using hc.eq
theorem ax {o : Option Value} {v : Value} (h : o = some v) (hk : k v) : aa o k := by rw [h, ak]; exact hk
theorem go_ld1 {p i : Nat} {l : List Value} {ty : TypeId} {v : Value} {w1 : World} (h : Sat w0 L w) [SameC w w1] [CellIn p l ty L] [Nth l i v] (hk : k v) : aa (ld1 (.pointer (some ⟨p, i, none⟩)) w1) k :=
  ax (BN h) hk
theorem go_ldN {p o n : Nat} {l l' : List Value} {ty : TypeId} {w1 : World} (h : Sat w0 L w) [e : SameC w w1] [hm : CellIn p l ty L] [hc : Part l o n l'] (hk : k (.agg l'.toArray)) : aa (ldN n (.pointer (some ⟨p, o, none⟩)) w1) k :=
  ax (Dg h e.same hm.mem hc) hk
theorem RO {p n : Nat} {l : List Value} {ty : TypeId} {w1 : World} (h : Sat w0 L w) [e : SameC w w1] [hm : CellIn p l ty L] (hc : l.length = n) (hk : k (.agg l.toArray)) : aa (ldN n (.pointer (some ⟨p, 0, none⟩)) w1) k :=
  ax (Dg h e.same hm.mem (hc ▸ Part.all l)) hk
theorem RL {p i : Nat} {l l' m : List Value} {ty ty' : TypeId} {y : Value} [OneV y] {k : World → Prop} {w1 : World} (h : Sat w0 L w) [e : SameC w w1] [hm : CellIn p l ty L] [hc : Upd l i y l'] [r : Rp p l' m ty' L L']
    (hk : ∀ w', Sat w0 L' w' → k w') : bF (st 1 (.pointer (some ⟨p, i, none⟩)) y w1) k := by
  have h := h.to e.same
  have hb := h.memc hm.mem
  rw [Zt hb y (by simpa using hc.lt)]
  rw [ll]
  refine hk _ (h.rep r.rep fun M h => ?_)
  have h2 := h.cl
  rw [hb] at h2
  simp only [Option.some.injEq, Obj.cells.injEq, and_true] at h2
  obtain ⟨e1, rfl⟩ := h2
  obtain rfl : l = m := by simpa using congrArg Array.toList e1
  rw [List.setIfInBounds_toArray, hc.eq]; exact h.setc _
theorem RI {p o n : Nat} {l ys l' m : List Value} {ty ty' : TypeId} {k : World → Prop} {w1 : World} (h : Sat w0 L w) (e : Same w w1) (hm : Cl p l.toArray ty ∈ L) (hn : ys.length = n) (h1 : ys.all (·.oneCell') = true) (hc : Ups l o ys l') (r : Rep (Cl p m.toArray ty') (Cl p l'.toArray ty') L L')
    (hk : ∀ w', Sat w0 L' w' → k w') : bF (st n (.pointer (some ⟨p, o, none⟩)) (.agg ys.toArray) w1) k := by
  have h := h.to e
  have hb := h.memc hm
  have hle := hc.le
  rw [rR hb (by simpa using hn) (by simpa using h1) (by simp; omega), ll]
  refine hk _ (h.rep r fun M h => ?_)
  have h2 := h.cl
  rw [hb] at h2
  simp only [Option.some.injEq, Obj.cells.injEq, and_true] at h2
  obtain ⟨e1, rfl⟩ := h2
  obtain rfl : l = m := by simpa using congrArg Array.toList e1
  have e : wr l.toArray o (Value.agg ys.toArray).cells.toList = l'.toArray := by
    apply Array.ext'
    rw [ma _ _ _ (by simp; omega)]
    simpa using hc.eq
  rw [e]; exact h.setc _
theorem RJ {p o n : Nat} {l ys l' m : List Value} {ty ty' : TypeId} {k : World → Prop} {w1 : World} (h : Sat w0 L w) [e : SameC w w1] [hm : CellIn p l ty L] [hc : Ups l o ys l'] [r : Rp p l' m ty' L L'] (hn : ys.length = n) (h1 : ys.all (·.oneCell') = true)
    (hk : ∀ w', Sat w0 L' w' → k w') : bF (st n (.pointer (some ⟨p, o, none⟩)) (.agg ys.toArray) w1) k :=
  RI h e.same hm.mem hn h1 hc r.rep hk
theorem dO {p n : Nat} {l ys m : List Value} {ty ty' : TypeId} {k : World → Prop} {w1 : World} (h : Sat w0 L w) [e : SameC w w1] [hm : CellIn p l ty L] [r : Rp p ys m ty' L L'] (hl : l.length = n) (hn : ys.length = n) (h1 : ys.all (·.oneCell') = true)
    (hk : ∀ w', Sat w0 L' w' → k w') : bF (st n (.pointer (some ⟨p, 0, none⟩)) (.agg ys.toArray) w1) k :=
  RI h e.same hm.mem hn h1 (Ups.all (by omega)) r.rep hk
theorem cB {t : TypeId} {v : Value} {l : List Value} {w1 : World} (h : Sat w0 L w) [e : SameC w w1] (hc : v.cells = l.toArray) (hK : ∀ p w', Sat w0 (Cl p l.toArray t :: L) w' → K (.pointer (some ⟨p, 0, none⟩)) w') : bT t v w1 K := by
  refine gB (h.to e.same) fun p w' h' => hK p w' ?_
  rw [← hc]; exact h'
theorem cu {Pg : Program} {t : TypeId} {z : Value} {l : List Value} {w1 : World} (h : Sat w0 L w) [e : SameC w w1] (hz : bO Pg t = some z) (hc : z.cells = l.toArray) (hK : ∀ p w', Sat w0 (Cl p l.toArray t :: L) w' → K (.pointer (some ⟨p, 0, none⟩)) w') : aY Pg t w1 K := by
  refine nz (h.to e.same) hz fun p w' h' => hK p w' ?_
  rw [← hc]; exact h'
theorem go_rd {p i : Nat} {l : List Value} {ty : TypeId} {v v' : Value} {X : Prop} {w1 : World} (h : Sat w0 L w) [e : SameC w w1] [hm : CellIn p l ty L] [hc : Nth l i v] (hv : v = v') (hX : X) : fok true (ld1 (.pointer (some ⟨p, i, none⟩)) w1) v' ∧ X := by
  subst hv
  exact ⟨by rw [fD]; exact BN h, hX⟩
theorem go_rdN {p o n : Nat} {l l' : List Value} {ty : TypeId} {v' : Value} {X : Prop} {w1 : World} (h : Sat w0 L w) [e : SameC w w1] [hm : CellIn p l ty L] [hc : Part l o n l'] (hv : .agg l'.toArray = v') (hX : X) : fok true (ldN n (.pointer (some ⟨p, o, none⟩)) w1) v' ∧ X := by
  subst hv
  exact ⟨by rw [fD]; exact Dg h e.same hm.mem hc, hX⟩
theorem HZ {Pg : Program} {κ ν : Type} [DecidableEq κ] {ek : κ → Value} {ev : ν → Value} {v : Value} {m : List (κ × ν)} {kt t et : TypeId} {z : Value} {w1 : World} (h : Sat w0 L w) [e : SameC w w1] (hm : Fnt (bS ek ev v m) L M) (T : KeyT Pg kt ek)
    (hu : Pg.underlying t = some (.map kt et)) (hz : bO Pg et = some z) (q : κ) (hk : k (.tuple #[(dM q m).elim z ev, .bool (dM q m).isSome])) : aa (bY Pg t v (ek q) true w1) k :=
  ax (ZX ((h.to e.same).front hm) T hu hz q) hk
theorem XR {κ ν : Type} [DecidableEq κ] {ek : κ → Value} {ev : ν → Value} {v : Value} {m : List (κ × ν)} {w1 : World} (h : Sat w0 L w) [e : SameC w w1] (hm : Fnt (bS ek ev v m) L M) (hk : k (.int .i64 m.length)) : aa (dF v w1) k :=
  ax (Ro ((h.to e.same).front hm)) hk
theorem go_fok {o : Option Value} {v : Value} {X : Prop} (ho : o = some v) (hX : X) : fok true o v ∧ X := ⟨by rw [fD]; exact ho, hX⟩
theorem je {α : Type} {f : α → List Value} {es : Nat} {ty : TypeId} {v : Value} {l : List α} {w1 : World} (h : Sat w0 L w) (e : Same w w1) (m : LsIn v L α f es ty l) : Rd w1 es v l.length (l.flatMap f) := by
  obtain ⟨M, hm⟩ := m.fnt
  exact dw ((h.to e).front hm)
theorem Gv {α : Type} {f : α → List Value} {es i j : Nat} {v : Value} {l : List α} (C : Cod f es) (h : Rd w es v l.length (l.flatMap f)) (hi : i < l.length) (hj : j < es) : ae j (elP es v i) = some (elF es v i j) := by
  obtain ⟨a, h1, _⟩ := QB C h hi hj
  unfold elF; rw [h1]; rfl
theorem yD {α : Type} {f : α → List Value} {es i j : Nat} {v x : Value} {l : List α} (C : Cod f es) (h : Rd w es v l.length (l.flatMap f)) (hi : i < l.length) (hx : Nth (f l[i]) j x) : ld1 (elF es v i j) w = some x := by
  have hj : j < es := by
    have := (List.getElem?_eq_some_iff.1 hx.get).1
    rwa [C.len] at this
  obtain ⟨a, h1, h2⟩ := QB C h hi hj
  have : elF es v i j = .pointer (some a) := by unfold elF; rw [h1]; rfl
  rw [this, bu, h2, hx.get]
theorem XT {α : Type} {f : α → List Value} {es : Nat} {ty : TypeId} {v : Value} {l : List α} (h : Sat w0 L w) [m : LsIn v L α f es ty l] (hk : k (.int .i64 l.length)) : aa (bI v) k :=
  ax (je h (.refl _) m).len hk
theorem RP {α : Type} {f : α → List Value} {es i : Nat} {ty : TypeId} {v : Value} {l : List α} (h : Sat w0 L w) [m : LsIn v L α f es ty l] (hi : i < l.length) (hk : k (elP es v i)) : aa (bq es v (.int .i64 i)) k :=
  ax (fV (je h (.refl _) m) hi) hk
theorem Dm {α : Type} {f : α → List Value} {es i : Nat} {ty : TypeId} {v : Value} {l : List α} {w1 : World} (h : Sat w0 L w) [e : SameC w w1] [m : LsIn v L α f es ty l] [C : CodC f es] (hi : i < l.length) (hk : k (.agg (f l[i]).toArray)) : aa (ldN es (elP es v i) w1) k :=
  ax (wz C.cod (je h e.same m) hi) hk
theorem go_fa {α : Type} {f : α → List Value} {es i j : Nat} {ty : TypeId} {v : Value} {l : List α} (h : Sat w0 L w) [m : LsIn v L α f es ty l] [C : CodC f es] (hi : i < l.length) (hj : j < es) (hk : k (elF es v i j)) : aa (ae j (elP es v i)) k :=
  ax (Gv C.cod (je h (.refl _) m) hi hj) hk
theorem Nb {α : Type} {f : α → List Value} {es i j : Nat} {ty : TypeId} {v x : Value} {l : List α} {w1 : World} (h : Sat w0 L w) [e : SameC w w1] [m : LsIn v L α f es ty l] [C : CodC f es] (hi : i < l.length) (hx : Nth (f l[i]) j x) (hk : k x) : aa (ld1 (elF es v i j) w1) k :=
  ax (yD C.cod (je h e.same m) hi hx) hk
theorem Dk {α : Type} {f : α → List Value} {es i j : Nat} {ty : TypeId} {v x x' : Value} {l : List α} {X : Prop} {w1 : World} (h : Sat w0 L w) [e : SameC w w1] [m : LsIn v L α f es ty l] [C : CodC f es] (hi : i < l.length) (hx : Nth (f l[i]) j x) (hv : x = x') (hX : X) : fok true (ld1 (elF es v i j) w1) x' ∧ X := by
  subst hv
  exact ⟨by rw [fD]; exact yD C.cod (je h e.same m) hi hx, hX⟩
theorem Dl {α : Type} {f : α → List Value} {es i : Nat} {ty : TypeId} {v x' : Value} {l : List α} {X : Prop} {w1 : World} (h : Sat w0 L w) [e : SameC w w1] [m : LsIn v L α f es ty l] [C : CodC f es] (hi : i < l.length) (hv : .agg (f l[i]).toArray = x') (hX : X) : fok true (ldN es (elP es v i) w1) x' ∧ X := by
  subst hv
  exact ⟨by rw [fD]; exact wz C.cod (je h e.same m) hi, hX⟩
theorem XQ {α : Type} {f : α → List Value} {es : Nat} {ty : TypeId} {v x' : Value} {l : List α} {X : Prop} (h : Sat w0 L w) [m : LsIn v L α f es ty l] (hv : .int .i64 l.length = x') (hX : X) : fok true (bI v) x' ∧ X := by
  subst hv
  exact ⟨by rw [fD]; exact (je h (.refl _) m).len, hX⟩
theorem af {a b : Int} (h : -9223372036854775808 ≤ a + b ∧ a + b ≤ 9223372036854775807) : bH (.int .i64 a) (.int .i64 b) = some (.int .i64 (a + b)) := by rw [zy, fK h]
theorem ag {a b : Int} (h : -9223372036854775808 ≤ a - b ∧ a - b ≤ 9223372036854775807) : jK (.int .i64 a) (.int .i64 b) = some (.int .i64 (a - b)) := by rw [SI, fK h]
theorem QG {j : IntKind} {a b : Int} : OD (.int j a) (.int j b) = some (.int j (min a b)) := by
  simp only [OD]; congr 2; rw [Int.min_def]; split <;> split <;> omega
theorem QH {j : IntKind} {a b : Int} : QI (.int j a) (.int j b) = some (.int j (max a b)) := by
  simp only [QI]; congr 2; rw [Int.max_def]; split <;> split <;> omega
end
theorem evA : (∀ (v : Value) (k : Value → Prop), aa (some v) k = k v) ∧ (∀ (o : Option Value) (k : Value → Prop), Sx.stepG true o k = aa o k) ∧ (∀ (o : Option Value) (k : Value → Prop), Sx.stepG false o k = k undef) ∧
    (∀ (v : Value) (k : Value → Prop), aS true v k = k v) ∧ (∀ (v : Value) (k : Value → Prop), aS false v k = k undef) ∧
    (∀ (E : (Value → World → Prop) → Prop) (w : World) (K : Value → World → Prop), dz true E w K = E K) ∧ (∀ (E : (Value → World → Prop) → Prop) (w : World) (K : Value → World → Prop), dz false E w K = K undef w) ∧
    (∀ (w : World) (q : World → Prop), bF (some w) q = q w) ∧ (∀ a b : Prop, ifB (.bool true) a b = a) ∧ (∀ a b : Prop, ifB (.bool false) a b = b) ∧ (∀ b : Bool, gd true (.bool b) = b) ∧ (∀ b : Bool, gd false (.bool b) = !b) ∧
    (∀ a b : Value, aG (.bool true) a b = some a) ∧ (∀ a b : Value, aG (.bool false) a b = some b) ∧ (∀ a : Addr, cZ (.pointer (some a)) = some (.pointer (some a))) ∧ (∀ off b o : Nat, ae off (.pointer (some ⟨b, o, none⟩)) = some (.pointer (some ⟨b, o + off, none⟩))) ∧
    (∀ b : Bool, dN (.bool b) = some (.bool !b)) ∧ (∀ b : Bool, gd b undef = false) :=
  ⟨fun _ _ => ak _, fun _ _ => aH _, fun _ _ => aF _, fun _ _ => aQ _, fun _ _ => aP _, fun _ _ _ => bf _, fun _ _ _ => aT _, fun _ _ => ll _, fun _ _ => aR, fun _ _ => aL, bC, aZ, aI, aC, yI, aX, bg, fun b => by cases b <;> rfl⟩
theorem evB : (∀ j (a b : Int), bLt (.int j a) (.int j b) = some (.bool (a < b))) ∧ (∀ j (a b : Int), bLe (.int j a) (.int j b) = some (.bool (a ≤ b))) ∧ (∀ j (a b : Int), bGt (.int j a) (.int j b) = some (.bool (a > b))) ∧ (∀ j (a b : Int), bGe (.int j a) (.int j b) = some (.bool (a ≥ b))) ∧
    (∀ P t x y j (a b : Int), bEq P t x y (.int j a) (.int j b) = some (.bool (decide (a = b)))) ∧ (∀ P t x y j (a b : Int), bNe P t x y (.int j a) (.int j b) = some (.bool (!decide (a = b)))) ∧
    (∀ P t x y (a b : ByteArray), bEq P t x y (.string a) (.string b) = some (.bool (decide (a = b)))) ∧ (∀ P t x y (a b : ByteArray), bNe P t x y (.string a) (.string b) = some (.bool (!decide (a = b)))) ∧
    (∀ (l : List Value) i, aK (.tuple l.toArray) i = l[i]?) ∧ (∀ (a : Value) (l : List Value), (a :: l)[0]? = some a) ∧ (∀ (a : Value) (l : List Value) i, (a :: l)[i + 1]? = l[i]?) ∧
    (∀ a n c, bI (.slice a n c) = some (.int .i64 (n : Nat))) ∧ (∀ s : ByteArray, ik (.string s) = some (.int .i64 s.size)) ∧ (∀ l : List UInt8, (bs l).size = l.length) ∧ (∀ j (a b : Int), OD (.int j a) (.int j b) = some (.int j (min a b))) ∧ (∀ j (a b : Int), QI (.int j a) (.int j b) = some (.int j (max a b))) ∧
    (∀ l : List UInt8, ByteArray.mk l.toArray = bs l) ∧ (∀ a b : List UInt8, (bs a = bs b) = (a = b)) ∧
    (∀ v w, ld1 v w.drew = ld1 v w) ∧ (∀ n v w, ldN n v w.drew = ldN n v w) ∧ (∀ v w, dF v w.drew = dF v w) ∧ (∀ v w, gF v w.drew = gF v w) ∧ (∀ P t m k b w, bY P t m k b w.drew = bY P t m k b w) ∧ (∀ v, fok true (some v) v = True) :=
  ⟨bG, gZ, bU, lK, fun _ _ _ _ => iY, fun _ _ _ _ => dh, fun _ _ _ _ _ _ => by rw [eB, bW], fun _ _ _ _ _ _ => by rw [cK, bW], OC, fun _ _ => List.getElem?_cons_zero, fun _ _ _ => List.getElem?_cons_succ, M5, iw, fM, fun _ _ _ => QG, fun _ _ _ => QH, mk_bs, fun _ _ => by rw [cz], fun _ _ => rfl, fun _ _ _ => rfl, fun _ _ => rfl, fun _ _ => rfl, fun _ _ _ _ _ _ => rfl, fun _ => by rw [fD]; simp⟩
theorem evC : (∀ p, ptr p = .pointer (some ⟨p, 0, none⟩)) ∧ (∀ n : Nat, 0 + n = n) ∧ ((!true) = false) ∧ ((!false) = true) ∧ (∀ (α : Type) (a : α), (some a).isNone = false) ∧ (∀ α : Type, (none : Option α).isNone = true) ∧ (∀ (α : Type) (a : α), (some a).isSome = true) ∧ (∀ α : Type, (none : Option α).isSome = false) ∧
    (∀ [i : Decidable True], @decide True i = true) ∧ (∀ [i : Decidable False], @decide False i = false) ∧ (∀ (α : Type) (a : α), (a = a) = True) ∧ (∀ p : Prop, (True ∧ p) = p) ∧ (∀ a b c : Prop, ((a ∧ b) ∧ c) = (a ∧ b ∧ c)) :=
  ⟨fun _ => rfl, Nat.zero_add, rfl, rfl, fun _ _ => rfl, fun _ => rfl, fun _ _ => rfl, fun _ => rfl, fun {_} => by simp, fun {_} => by simp, fun _ _ => by simp, fun _ => by simp, fun _ _ _ => propext and_assoc⟩
class StpS (w0 : World) (L : List HP) (w : World) (G : Prop) (G' : outParam Prop) : Prop where
  go : Sat w0 L w → G' → G
section
variable {w0 w w1 : World} {L L' : List HP} {k : Value → Prop} {G G' : Prop}
theorem bA (h : Sat w0 L w) [s : StpS w0 L w G G'] (hk : G') : G := s.go h hk
instance {p i : Nat} {l : List Value} {ty : TypeId} {v : Value} [SameC w w1] [CellIn p l ty L] [Nth l i v] : StpS w0 L w (aa (ld1 (.pointer (some ⟨p, i, none⟩)) w1) k) (k v) := ⟨fun h hk => go_ld1 h hk⟩
instance {p o n : Nat} {l l' : List Value} {ty : TypeId} [SameC w w1] [CellIn p l ty L] [Part l o n l'] : StpS w0 L w (aa (ldN n (.pointer (some ⟨p, o, none⟩)) w1) k) (k (.agg l'.toArray)) := ⟨fun h hk => go_ldN h hk⟩
instance {p i : Nat} {l : List Value} {ty : TypeId} {v : Value} {X : Prop} [SameC w w1] [CellIn p l ty L] [Nth l i v] : StpS w0 L w (fok true (ld1 (.pointer (some ⟨p, i, none⟩)) w1) v ∧ X) X := ⟨fun h hk => go_rd h rfl hk⟩
instance {p o n : Nat} {l l' : List Value} {ty : TypeId} {X : Prop} [SameC w w1] [CellIn p l ty L] [Part l o n l'] : StpS w0 L w (fok true (ldN n (.pointer (some ⟨p, o, none⟩)) w1) (.agg l'.toArray) ∧ X) X := ⟨fun h hk => go_rdN h rfl hk⟩
instance {α : Type} {f : α → List Value} {es : Nat} {ty : TypeId} {v : Value} {l : List α} [LsIn v L α f es ty l] : StpS w0 L w (aa (bI v) k) (k (.int .i64 l.length)) := ⟨fun h hk => XT h hk⟩
instance {α : Type} {f : α → List Value} {es : Nat} {ty : TypeId} {v : Value} {l : List α} {X : Prop} [LsIn v L α f es ty l] : StpS w0 L w (fok true (bI v) (.int .i64 l.length) ∧ X) X := ⟨fun h hk => XQ h rfl hk⟩
class StwS (w0 : World) (L : List HP) (w : World) (G : Prop) (L' : outParam (List HP)) (k : outParam (World → Prop)) : Prop where
  go : Sat w0 L w → (∀ w', Sat w0 L' w' → k w') → G
theorem gH {k : World → Prop} (h : Sat w0 L w) [s : StwS w0 L w G L' k] (hk : ∀ w', Sat w0 L' w' → k w') : G := s.go h hk
instance {p i : Nat} {l l' m : List Value} {ty ty' : TypeId} {y : Value} {k : World → Prop} [OneV y] [SameC w w1] [CellIn p l ty L] [Upd l i y l'] [Rp p l' m ty' L L'] : StwS w0 L w (bF (st 1 (.pointer (some ⟨p, i, none⟩)) y w1) k) L' k := ⟨fun h hk => RL h hk⟩
end
theorem Sat.frt {A : HP} {w0 w : World} {L M : List HP} (h : Sat w0 L w) (f : Fnt A L M := by repeat (first | exact .here | apply Fnt.there)) : Sat w0 (A :: M) w := h.front f
theorem Sat.got {w0 w : World} {L L' : List HP} (h : Sat w0 L w) (g : Get L L' := by repeat (first | exact .done | (refine .pick (by repeat (first | exact .here | apply Fnt.there)) ?_) | refine .skip ?_)) : Sat w0 L' w := h.get g
end Go.Sx

/- Sz12 -/
namespace Go.Sx
open Go.ChangeShapes Go.WideShapes Go.RowKit
inductive CK2 where
  | int (k : IntKind)
  | str
  | bool
  | sl (es : Nat) (ks : List CK2)
mutual
def Bl (w : World) (B : Nat) : CK2 → Value → Prop
  | .int k, v => ∃ n, v = .int k n ∧ (Lit.int k n).wf = true
  | .str, v => ∃ s, v = .string s ∧ s.size ≤ B
  | .bool, v => ∃ b, v = .bool b
  | .sl es ks, v => ∃ n cs, Rd w es v n cs ∧ n ≤ B ∧ ∀ i, i < n → dI w B ks ((cs.drop (i * es)).take es)
def dI (w : World) (B : Nat) : List CK2 → List Value → Prop
  | [], vs => vs = []
  | c :: cs, vs => ∃ v r, vs = v :: r ∧ Bl w B c v ∧ dI w B cs r
end
section
variable {w : World} {B : Nat}
theorem dI.append : ∀ {a b : List CK2} {x y : List Value}, dI w B a x → dI w B b y → dI w B (a ++ b) (x ++ y)
  | [], _, x, _, h, h' => by simp only [dI] at h; subst h; exact h'
  | _ :: _, _, x, _, h, h' => by
    simp only [dI] at h
    obtain ⟨v, r, rfl, h1, h2⟩ := h
    simp only [List.cons_append, dI]
    exact ⟨v, _, rfl, h1, h2.append h'⟩
theorem dI.length : ∀ {a : List CK2} {x : List Value}, dI w B a x → x.length = a.length
  | [], x, h => by simp only [dI] at h; subst h; rfl
  | _ :: _, x, h => by
    simp only [dI] at h
    obtain ⟨v, r, rfl, _, h2⟩ := h
    simp [h2.length]
theorem Ca {cs : List Value} (h : dI w B [] cs) : cs = [] := by simpa only [dI] using h
theorem kD {k : IntKind} {ks : List CK2} {cs : List Value} (h : dI w B (.int k :: ks) cs) : ∃ (n : Int) (vs : List Value), cs = .int k n :: vs ∧ (Lit.int k n).wf = true ∧ dI w B ks vs := by
  simp only [dI, Bl] at h
  obtain ⟨v, r, rfl, ⟨n, rfl, hn⟩, h2⟩ := h
  exact ⟨n, r, rfl, hn, h2⟩
theorem KG {ks : List CK2} {cs : List Value} (h : dI w B (.bool :: ks) cs) : ∃ (b : Bool) (vs : List Value), cs = .bool b :: vs ∧ dI w B ks vs := by
  simp only [dI, Bl] at h
  obtain ⟨v, r, rfl, ⟨n, rfl⟩, h2⟩ := h
  exact ⟨n, r, rfl, h2⟩
theorem mF {ks : List CK2} {cs : List Value} (h : dI w B (.str :: ks) cs) : ∃ (l : List UInt8) (vs : List Value), cs = .string (bs l) :: vs ∧ l.length ≤ B ∧ dI w B ks vs := by
  simp only [dI, Bl] at h
  obtain ⟨v, r, rfl, ⟨s, rfl, hs⟩, h2⟩ := h
  obtain ⟨l, rfl, hl⟩ := str_bs (s := s)
  exact ⟨l, r, rfl, by omega, h2⟩
theorem Ic {es : Nat} {k ks : List CK2} {cs : List Value} (h : dI w B (.sl es k :: ks) cs) : ∃ (v : Value) (vs : List Value), cs = v :: vs ∧ (∃ n ds, Rd w es v n ds ∧ n ≤ B ∧ ∀ i, i < n → dI w B k ((ds.drop (i * es)).take es)) ∧ dI w B ks vs := by
  simp only [dI, Bl] at h
  obtain ⟨v, r, rfl, h1, h2⟩ := h
  exact ⟨v, r, rfl, h1, h2⟩
end
def yu (P : Program) (r : TypeId → Option (List CK2)) : List Field → Nat → Option (List CK2)
  | [], _ => some []
  | f :: fs, off => match f.offset == off, r f.type with
    | true, some ks => match ks.length == P.cellsOf f.type, yu P r fs (off + ks.length) with
      | true, some l => some (ks ++ l)
      | _, _ => none
    | _, _ => none
def C8 (ks : List CK2) : Nat → List CK2
  | 0 => []
  | n + 1 => ks ++ C8 ks n
def yw (P : Program) : Nat → TypeId → Option (List CK2)
  | 0, _ => none
  | d + 1, t => match P.underlying t with
    | some .bool => some [.bool]
    | some (.int k) => some [.int k]
    | some .string => some [.str]
    | some (.slice e) => match yw P d e with
      | some ks => if 0 < P.cellsOf e ∧ 0 < P.bytesOf e then some [.sl (P.cellsOf e) ks] else none
      | none => none
    | some (.struct fs) => match yu P (yw P d) fs.toList 0 with
      | some ks => if ks.length = P.cellsOf t then some ks else none
      | none => none
    | some (.array n e) => match yw P d e with
      | some ks => if ks.length = P.cellsOf e ∧ n * ks.length = P.cellsOf t then some (C8 ks n) else none
      | none => none
    | _ => none
section
variable {H : Type} {enc : TypeId × Value → H} {P : Program} {w : World} {base : Nat} {held : Bool} {B : Nat}
theorem kG {e : TypeId} : ∀ {l : List (DataW H)} {d : DataW H}, d ∈ l → ∀ n ∈ d.weights P e, n ∈ DataW.weightsAll P e l
  | x :: l, d, hd, n, hn => by
    simp only [DataW.weightsAll, List.mem_append]
    rcases List.mem_cons.1 hd with rfl | hd
    · exact .inl hn
    · exact .inr (kG hd n hn)
  | [], _, hd, _, _ => by simp at hd
theorem Oo {r : TypeId → Option (List CK2)} {R : TypeId → List Value → Option (DataW H × List MemPlace)} {cs : List Value} (hr : ∀ t ks c x, r t = some ks → R t c = some x → (∀ n ∈ x.1.weights P t, n ≤ B) → dI w B ks c) :
    ∀ (fs : List Field) (off : Nat) (ks : List CK2) (xs : List (DataW H × List MemPlace)), yu P r fs off = some ks → fs.mapM (fun f => R f.type ((cs.drop f.offset).take (P.cellsOf f.type))) = some xs →
      (∀ n ∈ DataW.weightsEach P (fs.map (·.type)) (xs.map (·.1)), n ≤ B) → dI w B ks ((cs.drop off).take ks.length) := by
  intro fs
  induction fs with
  | nil => intro off ks xs h _ _; simp [yu] at h; subst h; simp [dI]
  | cons f fs ih =>
    intro off ks xs h hm hw
    unfold yu at h
    split at h
    · rename_i ks1 ho hks
      split at h
      · rename_i l hl hk
        simp only [Option.some.injEq] at h; subst h
        simp only [beq_iff_eq] at ho hl
        simp only [List.mapM_cons, Option.bind_eq_bind, Option.bind_eq_some_iff] at hm
        obtain ⟨x, hx, ys, hys, he⟩ := hm
        simp only [Option.pure_def, Option.some.injEq] at he; subst he
        simp only [List.map_cons, DataW.weightsEach, List.mem_append] at hw
        have f1 := hr _ _ _ _ hks hx fun n hn => hw n (.inl hn)
        have f2 := ih _ _ _ hk hys fun n hn => hw n (.inr hn)
        rw [ho, ← hl] at f1
        have := f1.append f2
        rw [List.length_append, List.take_add, List.drop_drop]
        exact this
      · cases h
    · cases h
theorem Ve {ks : List CK2} {cs : List Value} : ∀ (n o : Nat), (∀ i, i < n → dI w B ks ((cs.drop (o + i * ks.length)).take ks.length)) → dI w B (C8 ks n) ((cs.drop o).take (n * ks.length)) := by
  intro n
  induction n with
  | zero => intro o _; simp [C8, dI]
  | succ n ih =>
    intro o h
    have h0 := h 0 (by omega)
    simp only [Nat.zero_mul, Nat.add_zero] at h0
    have h1 := ih (o + ks.length) fun i hi => by
      have := h (i + 1) (by omega)
      rwa [Nat.add_mul, Nat.one_mul, Nat.add_comm (i * ks.length), ← Nat.add_assoc] at this
    have := h0.append h1
    rw [show (n + 1) * ks.length = ks.length + n * ks.length by rw [Nat.add_mul]; omega, List.take_add, List.drop_drop]
    exact this
theorem mapM_mem {α β : Type} {f : α → Option β} : ∀ {l : List α} {r : List β}, l.mapM f = some r → ∀ x ∈ l, ∃ y ∈ r, f x = some y := by
  intro l
  induction l with
  | nil => intro r _ x hx; simp at hx
  | cons a l ih =>
    intro r h x hx
    simp only [List.mapM_cons, Option.bind_eq_bind, Option.bind_eq_some_iff] at h
    obtain ⟨y, hy, ys, hys, he⟩ := h
    simp only [Option.pure_def, Option.some.injEq] at he; subst he
    rcases List.mem_cons.1 hx with rfl | hx
    · exact ⟨y, by simp, hy⟩
    · obtain ⟨z, hz, h2⟩ := ih hys x hx; exact ⟨z, by simp [hz], h2⟩
theorem Gu {e : TypeId} {es : Nat} {a : Addr} {len cap m : Nat} {R : Nat → List Value → Prop} (he : P.cellsOf e = es) (hpos : 0 < es) (hlc : len ≤ cap) (hm : m = cap)
    (hel : ∀ i, i < m → ∃ cs', w.cells? base (a.add (i * es)) es = some cs' ∧ R i cs') :
    ∃ cs, Rd w es (.slice (some a) len cap) len cs ∧ ∀ i, i < len → R i ((cs.drop (i * es)).take es) := by
  subst hm
  by_cases hc0 : m = 0
  · have : len = 0 := by omega
    subst this
    exact ⟨[], .emp _ _, fun i hi => by omega⟩
  have cell : ∀ k, k < m * es → ∃ u, w.cell? (a.add k) = some u := by
    intro k hk
    have hi : k / es < m := by rw [Nat.div_lt_iff_lt_mul hpos]; exact hk
    obtain ⟨cs', h1, _⟩ := hel _ hi
    obtain ⟨_, h2, h3⟩ := World.cells?_some h1
    have hm := Nat.mod_lt k hpos
    have h4 := h3 (k % es) hm
    rw [add_add, show k / es * es + k % es = k by rw [Nat.mul_comm]; exact Nat.div_add_mod k es] at h4
    exact ⟨cs'[k % es]'(by omega), by rw [h4, List.getElem?_eq_getElem]⟩
  have hpos2 : 0 < m * es := Nat.mul_pos (by omega) hpos
  obtain ⟨b, o, spot⟩ := a
  have hspot : spot = none ∧ ∃ arr ty fz, w.heap[b]? = some (.cells arr ty fz) := by
    obtain ⟨u, hu⟩ := cell 0 hpos2
    simp only [Addr.add, if_true, World.cell?] at hu
    split at hu
    · rename_i arr ty fz hb'
      cases spot with
      | none => exact ⟨rfl, _, _, _, hb'⟩
      | some s => simp at hu
    · cases hu
  obtain ⟨rfl, arr, ty, fz, hb'⟩ := hspot
  have cell2 : ∀ k, k < m * es → o + k < arr.size := by
    intro k hk
    obtain ⟨u, hu⟩ := cell k hk
    rw [addr_add, cell_of hb'] at hu
    rcases Nat.lt_or_ge (o + k) arr.size with h | h
    · exact h
    · rw [Array.getElem?_eq_none h] at hu; cases hu
  have hsz := cell2 (m * es - 1) (by omega)
  have hle := Nat.mul_le_mul_right es hlc
  refine ⟨_, .blk hb' hlc (by omega) rfl, fun i hi => ?_⟩
  obtain ⟨cs', h1, h2⟩ := hel i (by omega)
  obtain ⟨_, h4, h5⟩ := World.cells?_some h1
  have hi2 : i * es + es ≤ len * es := by
    have := Nat.mul_le_mul_right es (show i + 1 ≤ len by omega)
    rw [Nat.add_mul] at this; omega
  have : (((arr.toList.drop o).take (len * es)).drop (i * es)).take es = cs' := by
    apply List.ext_getElem
    · simp; omega
    · intro j j1 j2
      have := h5 j (by omega)
      rw [addr_add, addr_add, cell_of hb', List.getElem?_eq_getElem j2, Array.getElem?_eq_getElem (cell2 (i * es + j) (by omega) |> fun h => by omega)] at this
      simp only [Option.some.injEq] at this
      rw [← this]
      simp [Nat.add_assoc]
  rw [this]; exact h2
theorem Qu : ∀ (d : Nat) (t : TypeId) (ks : List CK2), yw P d t = some ks → ∀ (fuel : Nat) (cs : List Value) (x : DataW H × List MemPlace), DataW.trod enc P w base (fun _ => true) held fuel t cs = some x → (∀ n ∈ x.1.weights P t, n ≤ B) → dI w B ks cs := by
  intro d
  induction d with
  | zero => intro t ks h; simp [yw] at h
  | succ d ih =>
    intro t ks h fuel cs x hx hw
    cases fuel with
    | zero => simp [DataW.trod] at hx
    | succ fuel =>
    unfold yw at h
    split at h
    · rename_i hu
      simp only [Option.some.injEq] at h; subst h
      unfold DataW.trod at hx
      rw [hu] at hx
      split at hx <;> first | (simp_all; done) | (exact (by simp only [dI, Bl]; exact ⟨_, _, rfl, ⟨_, rfl⟩, rfl⟩)) | (rename_i h1; simp at h1)
    · rename_i k hu
      simp only [Option.some.injEq] at h; subst h
      unfold DataW.trod at hx
      rw [hu] at hx
      split at hx
      all_goals first | (rename_i h1; simp at h1; done) | skip
      all_goals first | (simp at hx; done) | skip
      all_goals
        rename_i h1
        simp at h1
        subst h1
        split at hx
        · rename_i h2; obtain ⟨rfl, h3⟩ := h2; simp only [dI, Bl]; exact ⟨_, _, rfl, ⟨_, rfl, h3⟩, rfl⟩
        · simp at hx
    · rename_i hu
      simp only [Option.some.injEq] at h; subst h
      unfold DataW.trod at hx
      rw [hu] at hx
      split at hx
      all_goals first | (rename_i h1; simp at h1; done) | skip
      all_goals first | (simp at hx; done) | skip
      all_goals
        split at hx
        · simp only [Option.some.injEq] at hx; subst hx
          rename_i s _ _
          have := hw s.size (by simp [DataW.weights])
          simp only [dI, Bl]; exact ⟨_, _, rfl, ⟨_, rfl, this⟩, rfl⟩
        · simp at hx
    · rename_i e hu
      split at h
      · rename_i ks' hks
        split at h
        · rename_i hcell
          simp only [Option.some.injEq] at h; subst h
          rcases Go.Deep.open_slice hu hx with ⟨rfl, rfl⟩ | ⟨a, len, cap, m, n, D, Pl, rfl, hb, hlc, hcm, hm, rfl, hel⟩
          · simp only [dI, Bl]
            exact ⟨_, _, rfl, ⟨0, [], .emp _ _, Nat.zero_le _, fun i hi => by omega⟩, rfl⟩
          · simp only [if_true] at hm
            simp only [DataW.weights, hu, List.mem_cons, List.mem_append, List.length_map, List.length_range] at hw
            have hn : len ≤ B := by
              have := hw _ (.inl rfl)
              have h3 := Nat.le_mul_of_pos_right (len + (m - len)) hcell.2
              omega
            obtain ⟨cs, hr, hR⟩ := Gu (R := fun i cs' => i < len → dI w B ks' cs') rfl hcell.1 hlc hm fun i hi => by
              obtain ⟨cs', h1, h2⟩ := hel i hi
              refine ⟨cs', h1, fun hi2 => ih _ _ hks _ _ _ h2 fun n hn => hw n (.inr (.inl (kG (d := D i) ?_ n hn)))⟩
              exact List.mem_map.2 ⟨i, by simpa using hi2, rfl⟩
            simp only [dI, Bl]
            exact ⟨_, _, rfl, ⟨len, cs, hr, hn, fun i hi => hR i hi hi⟩, rfl⟩
        · cases h
      · cases h
    · rename_i fs hu
      split at h
      · rename_i ks' hks
        split at h
        · rename_i hlen
          simp only [Option.some.injEq] at h; subst h
          have : cs.length = P.cellsOf t ∧ ∃ xs, fs.toList.mapM (fun f => DataW.trod enc P w base (fun _ => true) held fuel f.type ((cs.drop f.offset).take (P.cellsOf f.type))) = some xs ∧ x.1 = .agg (xs.map (·.1)) := by
            unfold DataW.trod at hx
            rw [hu] at hx
            split at hx
            all_goals first | (rename_i h1; simp at h1; done) | skip
            all_goals first | (simp at hx; done) | skip
            all_goals first | exact (‹∀ (fs_1 : Array Field), some (TypeDesc.struct fs) = some (TypeDesc.struct fs_1) → False› fs rfl).elim | skip
            all_goals
              have h1 := ‹some (TypeDesc.struct fs) = some (TypeDesc.struct _)›
              cases h1
              split at hx
              · rename_i hl
                simp only [Option.map_eq_some_iff] at hx
                obtain ⟨xs, hxs, rfl⟩ := hx
                exact ⟨hl, xs, hxs, rfl⟩
              · simp at hx
          obtain ⟨hl, xs, hxs, hx1⟩ := this
          rw [hx1] at hw
          simp only [DataW.weights, hu] at hw
          have := Oo (R := DataW.trod enc P w base (fun _ => true) held fuel) (fun t ks c x h1 h2 h3 => ih t ks h1 fuel c x h2 h3) fs.toList 0 ks' xs hks hxs hw
          rw [List.drop_zero, List.take_of_length_le (by omega)] at this
          exact this
        · cases h
      · cases h
    · rename_i n e hu
      split at h
      · rename_i ks' hks
        split at h
        · rename_i hlen
          simp only [Option.some.injEq] at h; subst h
          have : cs.length = P.cellsOf t ∧ ∃ xs, (List.range n).mapM (fun i => DataW.trod enc P w base (fun _ => true) held fuel e ((cs.drop (i * P.cellsOf e)).take (P.cellsOf e))) = some xs ∧ x.1 = .agg (xs.map (·.1)) := by
            unfold DataW.trod at hx
            rw [hu] at hx
            split at hx
            all_goals first | (rename_i h1; simp at h1; done) | skip
            all_goals first | (simp at hx; done) | skip
            all_goals first | exact (‹∀ (n_1 : Nat) (e_1 : TypeId), some (TypeDesc.array n e) = some (TypeDesc.array n_1 e_1) → False› n e rfl).elim | skip
            all_goals
              have h1 := ‹some (TypeDesc.array n e) = some (TypeDesc.array _ _)›
              cases h1
              split at hx
              · rename_i hl
                simp only [Option.map_eq_some_iff] at hx
                obtain ⟨xs, hxs, rfl⟩ := hx
                exact ⟨hl, xs, hxs, rfl⟩
              · simp at hx
          obtain ⟨hl, xs, hxs, hx1⟩ := this
          rw [hx1] at hw
          simp only [DataW.weights, hu] at hw
          have := Ve (w := w) (B := B) (ks := ks') (cs := cs) n 0 fun i hi => by
            obtain ⟨y, hym, hy⟩ := mapM_mem hxs i (by simpa using hi)
            have := ih _ _ hks _ _ _ hy fun n hn => hw n (kG (List.mem_map.2 ⟨y, hym, rfl⟩) n hn)
            rw [Nat.zero_add, hlen.1]; exact this
          rw [List.drop_zero, List.take_of_length_le (by omega)] at this
          exact this
        · cases h
      · cases h
    · cases h
theorem Ns {t : TypeId} {ks : List CK2} {v : Value} {d : DataW H} {ps : List MemPlace} {n0 : Nat} (hks : yw P n0 t = some ks)
    (hd : DataW.Trod enc P w base (fun _ => true) held t v d ps) (hw : ∀ n ∈ d.weights P t, n ≤ B) : dI w B ks v.cells.toList := by
  obtain ⟨fuel, hx⟩ := hd
  exact Qu _ _ _ hks _ _ _ hx hw
theorem SN {t e : TypeId} {v : Value} {r : _root_.Go.Reach} {b0 : Nat} (ht : P.underlying t = some (.slice e)) (hval : Value.okWide P w r b0 t v) : v.cells.toList = [v] := by
  simp only [Value.okWide, ht, Cell.okWide, Cell.ok] at hval
  split at hval <;> first | rfl | (exact hval.elim) | simp_all [Value.cells]
end
theorem BZ {α : Type} {f : α → List Value} {good : α → Prop} {Q : List Value → Prop} {es : Nat} (hf : ∀ c, Q c → ∃ x, c = f x ∧ good x) : ∀ (n : Nat) (cs : List Value), cs.length = n * es → (∀ i, i < n → Q ((cs.drop (i * es)).take es)) →
    ∃ l : List α, l.length = n ∧ cs = l.flatMap f ∧ ∀ x ∈ l, good x := by
  intro n
  induction n with
  | zero => intro cs h _; exact ⟨[], rfl, by simpa using h, by simp⟩
  | succ n ih =>
    intro cs h hx
    obtain ⟨x, e1, g1⟩ := hf _ (hx 0 (by omega))
    obtain ⟨l, e2, e3, g2⟩ := ih (cs.drop es) (by simp [h, Nat.add_mul]) fun i hi => by
      have := hx (i + 1) (by omega)
      rwa [Nat.add_mul, Nat.one_mul, Nat.add_comm (i * es), ← List.drop_drop] at this
    refine ⟨x :: l, by simp [e2], ?_, by simpa using ⟨g1, g2⟩⟩
    rw [List.flatMap_cons, ← e3, ← e1]
    simp
section
variable {w0 w : World} {L : List HP} {k : Value → Prop} {K : Value → World → Prop} {α : Type} {f : α → List Value} {es i : Nat} {ty : TypeId} {v : Value} {l : List α}
theorem jQ {P : Program} {t : TypeId} {x : α} {y : Value} {c : Array Value} {w1 : World} (C : Cod f es) (h : Sat w0 L w) [e : SameC w w1] (hu : P.underlying t = some (.slice ty)) (hc : dx P ty 1 [(0, y)] = some c) (hm : c.toList = f x)
    (hK : ∀ s w', Sat w0 (LsH f es ty s [x] :: L) w' → K s w') : aB P t 1 [(0, y)] w1 K :=
  iD (m := [x]) C (h.to e.same) hu hc (by simp [hm]) hK
theorem xg {P : Program} {t : TypeId} {w1 : World} (C : Cod f es) (h : Sat w0 L w) [e : SameC w w1] (hu : P.underlying t = some (.slice ty)) (hc : dx P ty 0 [] = some #[])
    (hK : ∀ s w', Sat w0 (LsH f es ty s [] :: L) w' → K s w') : aB P t 0 [] w1 K :=
  iD (m := []) C (h.to e.same) hu hc (by simp) hK
end
end Go.Sx

/- Sz13 -/
namespace Go.Sx
section
variable {w0 w w1 : World} {L M : List HP} {k : Value → Prop} {K : Value → World → Prop} {α : Type} {f : α → List Value} {es i j n : Nat} {ty : TypeId} {v : Value} {l : List α} {l' : List Value}
theorem rd_fN (C : Cod f es) (h : Rd w es v l.length (l.flatMap f)) (hi : i < l.length) (hp : Part (f l[i]) j n l') : ldN n (elF es v i j) w = some (.agg l'.toArray) := by
  generalize hcs : l.flatMap f = cs at h
  obtain ⟨m, hm⟩ : ∃ m, m = l.length := ⟨_, rfl⟩
  rw [← hm] at h
  cases h with
  | emp => omega
  | blk hb hn ha hc =>
    rename_i b o cap a ty fz
    have hlen := C.len l[i]
    have hle := hp.le
    have e : elF es (.slice (some ⟨b, o, none⟩) m cap) i j = .pointer (some ⟨b, o + i * es + j, none⟩) := by
      unfold elF elP
      simp only [bq]
      rw [if_pos ⟨by omega, by omega⟩]
      simp [ae]
    have him : i * es + es ≤ m * es := by
      have := Nat.mul_le_mul_right es (show i + 1 ≤ m by omega)
      rw [Nat.add_mul] at this; omega
    rw [e, lX hb (by omega)]
    congr 2
    apply Array.ext'
    rw [Array.toList_extract, List.extract_eq_take_drop]
    have hf := xh C.len l i (by omega)
    rw [hcs, hc] at hf
    rw [show o + i * es + j + n - (o + i * es + j) = n from by omega]
    rw [← hp.eq, ← hf]
    simp only [List.drop_take, List.take_take, List.drop_drop, List.toList_toArray]
    congr 1
    omega
theorem Pi {jk : IntKind} (h : Sat w0 L w) [m : LsIn v L α f es ty l] [C : CodC f es] (hi : i ≤ l.length) (hk : ∀ v', (∀ {L' : List HP} {w' : World}, Sat w0 L' w' → LsIn v L' α f es ty l → Rd w' es v' (l.take i).length ((l.take i).flatMap f)) → k v') : aa (dZ es v none (some (.int jk i)) none) k := by
  have hr := je h (.refl _) m
  obtain ⟨v', e, _⟩ := hr.sub (L := none) (H := some (.int jk i)) (M := none) (lo := 0) (hi := i) .none (.some _ _) (.none _) (Nat.zero_le _) hi
  refine ax e (hk v' fun h' m' => ?_)
  have := Ka C.cod (je h' (.refl _) m') e (lo := 0) (hi := i) .none (.some _ _) (.none _) (Nat.zero_le _) hi
  rw [List.drop_zero] at this
  exact this
theorem HY {jk : IntKind} (h : Sat w0 L w) [m : LsIn v L α f es ty l] [C : CodC f es] (hi : i ≤ l.length) (hk : ∀ v', (∀ {L' : List HP} {w' : World}, Sat w0 L' w' → LsIn v L' α f es ty l → Rd w' es v' (l.drop i).length ((l.drop i).flatMap f)) → k v') : aa (dZ es v (some (.int jk i)) none none) k := by
  have hr := je h (.refl _) m
  obtain ⟨v', e, _⟩ := hr.sub (L := some (.int jk i)) (H := none) (M := none) (lo := i) (hi := l.length) (.some _ _) .none (.none _) hi (Nat.le_refl _)
  refine ax e (hk v' fun h' m' => ?_)
  have := Ka C.cod (je h' (.refl _) m') e (lo := i) (hi := l.length) (.some _ _) .none (.none _) hi (Nat.le_refl _)
  rw [List.take_length] at this
  exact this
theorem Sat.nilLs (f : α → List Value) (es : Nat) (ty : TypeId) (h : Sat w0 L w) : Sat w0 (LsH f es ty (.slice none 0 0) ([] : List α) :: L) w := Sat.nilsl h
end
class RdIn (w0 : World) (L : List HP) (v : Value) (α : outParam Type) (f : outParam (α → List Value)) (es : outParam Nat) (l : outParam (List α)) : Prop where
  rd : ∀ w, Sat w0 L w → Rd w es v l.length (l.flatMap f)
instance {w0 : World} {L : List HP} {v : Value} {α : Type} {f : α → List Value} {es : Nat} {ty : TypeId} {l : List α} : RdIn w0 (LsH f es ty v l :: L) v α f es l := ⟨fun _ h => dw h⟩
instance (priority := low) {w0 : World} {L : List HP} {X : HP} {v : Value} {α : Type} {f : α → List Value} {es : Nat} {l : List α} [m : RdIn w0 L v α f es l] : RdIn w0 (X :: L) v α f es l := ⟨fun w h => m.rd w h.drop⟩
theorem RdIn.arg {w0 : World} {L : List HP} {v : Value} {α : Type} {f : α → List Value} {es : Nat} {l : List α} (h : Rd w0 es v l.length (l.flatMap f)) : RdIn w0 L v α f es l := ⟨fun _ hs => h.sat hs⟩
section
variable {w0 w w1 : World} {L M : List HP} {k : Value → Prop} {K : Value → World → Prop} {α : Type} {f : α → List Value} {es i j n : Nat} {ty : TypeId} {v x : Value} {l : List α} {l' : List Value}
theorem fq (h : Sat w0 L w) [m : RdIn w0 L v α f es l] (hk : k (.int .i64 l.length)) : aa (bI v) k := ax (m.rd w h).len hk
theorem jm (h : Sat w0 L w) [m : RdIn w0 L v α f es l] (hi : i < l.length) (hk : k (elP es v i)) : aa (bq es v (.int .i64 i)) k := ax (fV (m.rd w h) hi) hk
theorem jq (h : Sat w0 L w) [e : SameC w w1] [m : RdIn w0 L v α f es l] (hc : CodC f es) (hi : i < l.length) (hk : k (.agg (f l[i]).toArray)) : aa (ldN es (elP es v i) w1) k := ax (wz hc.cod (m.rd _ (h.to e.same)) hi) hk
theorem oz (h : Sat w0 L w) [m : RdIn w0 L v α f es l] (hc : CodC f es) (hi : i < l.length) (hj : j < es) (hk : k (elF es v i j)) : aa (ae j (elP es v i)) k := ax (Gv hc.cod (m.rd w h) hi hj) hk
theorem jo (h : Sat w0 L w) [e : SameC w w1] [m : RdIn w0 L v α f es l] (hc : CodC f es) (hi : i < l.length) (hx : Nth (f l[i]) j x) (hk : k x) : aa (ld1 (elF es v i j) w1) k := ax (yD hc.cod (m.rd _ (h.to e.same)) hi hx) hk
theorem RQ (h : Sat w0 L w) [e : SameC w w1] [m : RdIn w0 L v α f es l] (hc : CodC f es) (hi : i < l.length) (hp : Part (f l[i]) j n l') (hk : k (.agg l'.toArray)) : aa (ldN n (elF es v i j) w1) k := ax (rd_fN hc.cod (m.rd _ (h.to e.same)) hi hp) hk
theorem gW {x' : Value} {X : Prop} (h : Sat w0 L w) [e : SameC w w1] [m : RdIn w0 L v α f es l] (hc : CodC f es) (hi : i < l.length) (hx : Nth (f l[i]) j x) (hv : x = x') (hX : X) : fok true (ld1 (elF es v i j) w1) x' ∧ X := by
  subst hv; exact ⟨by rw [fD]; exact yD hc.cod (m.rd _ (h.to e.same)) hi hx, hX⟩
theorem gX {x' : Value} {X : Prop} (h : Sat w0 L w) [e : SameC w w1] [m : RdIn w0 L v α f es l] (hc : CodC f es) (hi : i < l.length) (hv : .agg (f l[i]).toArray = x') (hX : X) : fok true (ldN es (elP es v i) w1) x' ∧ X := by
  subst hv; exact ⟨by rw [fD]; exact wz hc.cod (m.rd _ (h.to e.same)) hi, hX⟩
theorem RN {x' : Value} {X : Prop} (h : Sat w0 L w) [m : RdIn w0 L v α f es l] (hv : .int .i64 l.length = x') (hX : X) : fok true (bI v) x' ∧ X := by
  subst hv; exact ⟨by rw [fD]; exact (m.rd w h).len, hX⟩
theorem Zx (C : Cod f 1) (h : Rd w 1 v l.length (l.flatMap f)) (hi : i < l.length) (hx : Nth (f l[i]) 0 x) : ld1 (elP 1 v i) w = some x := by
  obtain ⟨b, o, h1, _, h3⟩ := h.elem C.len rfl hi (j := .i64)
  have e : elP 1 v i = .pointer (some ⟨b, o, none⟩) := by simp [elP, h1]
  rw [e, bu]
  rcases h3 0 with h | h
  · rw [show o + 0 = o from rfl] at h
    rw [h]; exact hx.get
  · omega
theorem jr (h : Sat w0 L w) [e : SameC w w1] [m : RdIn w0 L v α f 1 l] (hc : CodC f 1) (hi : i < l.length) (hx : Nth (f l[i]) 0 x) (hk : k x) : aa (ld1 (elP 1 v i) w1) k := ax (Zx hc.cod (m.rd _ (h.to e.same)) hi hx) hk
theorem gY {x' : Value} {X : Prop} (h : Sat w0 L w) [e : SameC w w1] [m : RdIn w0 L v α f 1 l] (hc : CodC f 1) (hi : i < l.length) (hx : Nth (f l[i]) 0 x) (hv : x = x') (hX : X) : fok true (ld1 (elP 1 v i) w1) x' ∧ X := by
  subst hv; exact ⟨by rw [fD]; exact Zx hc.cod (m.rd _ (h.to e.same)) hi hx, hX⟩
theorem Nc {P : Program} {t xt : TypeId} {bytes : Nat} {s x : Value} {l m : List α} {K : Value → World → Prop} (h : Sat w0 L w) (T : SlT P t ty es bytes) (hxt : nN P xt = true) [e : SameC w w1] (hm : Fnt (LsH f es ty s l) L M) [C : CodC f es] [mx : RdIn w0 L x α f es m]
    (hb : (l.length + m.length) * bytes ≤ 140737488355328) (hK : ∀ s' w', OneV s' → Sat w0 (LsH f es ty s' (l ++ m) :: M) w' → K s' w') : aJ P t xt s x w1 K :=
  have h := h.to e.same
  fI C.cod (h.front hm) T hxt (mx.rd _ h) hb fun s' w' h' => hK s' w' (fT h') h'
end
end Go.Sx

/- Sz14 -/
namespace Go.Sx
instance : CodC cI 1 := ⟨CI⟩
instance (n : Int) : Nth (cI n) 0 (.int .i64 n) := ⟨rfl⟩
section
variable {w0 w w1 : World} {L M : List HP} {k : Value → Prop} {K : Value → World → Prop} {α : Type} {f : α → List Value} {es i j n : Nat} {ty : TypeId} {v : Value} {l : List α}
theorem rd_faF (C : Cod f es) (h : Rd w es v l.length (l.flatMap f)) (hi : i < l.length) : ae n (elF es v i j) = some (elF es v i (j + n)) := by
  obtain ⟨b, o, h1, _, _⟩ := h.elem C.len rfl hi (j := .i64)
  have e : elP es v i = .pointer (some ⟨b, o, none⟩) := by simp [elP, h1]
  have ef : ∀ q, elF es v i q = .pointer (some ⟨b, o + q, none⟩) := fun q => by unfold elF; rw [e]; simp [ae]
  rw [ef, ef]; simp [ae, Nat.add_assoc]
theorem XU (h : Sat w0 L w) [m : RdIn w0 L v α f es l] (hc : CodC f es) (hi : i < l.length) (hk : k (elF es v i (j + n))) : aa (ae n (elF es v i j)) k :=
  ax (rd_faF hc.cod (m.rd w h) hi) hk
end
end Go.Sx

/- Sz15 -/
namespace Go.Sx
open Go
end Go.Sx

/- Sz16 -/
namespace Go.Sx
theorem Dj {P : Program} {w : World} {g : Nat} {t : TypeId} {k : IntKind} {zero : Array Value} (h : w.ShapedOpen P) (hg : g < P.globals.size)
    (h0 : ((begin P (fun _ _ => 0) default).world.heap[g]?).bind Obj.row? = some (zero, t)) (hz : zero.size = 1)
    (hb : P.buildable t = true) (hc : P.cellTypes P.depth t = some [t]) (hu : P.underlying t = some (.int k)) : ∃ n, w.cell? ⟨g, 0, none⟩ = some (.int k n) := by
  obtain ⟨cs, hh, hs, hr⟩ := h.1 g zero t hg h0
  obtain ⟨ts, hts, _, hall⟩ := hr hb
  rw [hc] at hts
  cases hts
  have h1 : 0 < cs.size := by omega
  obtain ⟨u, hu', hok⟩ := hall 0 cs[0] (by simp [h1])
  have : u = t := by simpa using hu'.symm
  subst this
  have hcell : w.cell? ⟨g, 0, none⟩ = some cs[0] := by simp [World.cell?, hh, h1]
  rw [hcell]
  unfold Cell.ok at hok
  rw [hu] at hok
  cases hv : cs[0] <;> rw [hv] at hok <;> first | (simp only at hok; obtain ⟨rfl, _⟩ := hok; exact ⟨_, rfl⟩) | exact ⟨_, rfl⟩ | simp at hok
end Go.Sx

/- So1 -/
namespace Go.Sx
open Go.Proofs (CmpLays)
section
variable {α : Type} [Inhabited α] {f : α → List Value} {es : Nat}
theorem Ib (C : Cod f es) (l : List α) : Go.Sort.flatK f es l.toArray = (l.flatMap f).toArray := by
  refine Go.Sort.ext_get! (by rw [Go.Sort.size_flatK]; simp [lc C l]) fun t ht => ?_
  rw [Go.Sort.size_flatK, List.size_toArray] at ht
  rw [Go.Sort.get_flatK _ _ _ _ (by simpa using ht)]
  have hm := Nat.mod_lt t C.pos
  have hi : t / es < l.length := by rw [Nat.div_lt_iff_lt_mul C.pos]; exact ht
  have h1 := xh C.len l (t / es) hi
  have h2 : (l.flatMap f)[t]? = (f l[t / es])[t % es]? := by
    rw [← h1, List.getElem?_take, if_pos hm, List.getElem?_drop, Nat.div_add_mod']
  have h3 : t < (l.flatMap f).length := by rw [lc C]; exact ht
  have h4 : t % es < (f l[t / es]).length := by rw [C.len]; exact hm
  rw [List.getElem?_eq_getElem h3, List.getElem?_eq_getElem h4] at h2
  have e1 : l.toArray[t / es]! = l[t / es] := by rw [getElem!_pos l.toArray (t / es) (by simpa using hi)]; simp
  rw [e1, getElem!_pos (f l[t / es]) (t % es) h4, getElem!_pos (l.flatMap f).toArray t (by simpa using h3)]
  simp only [List.getElem_toArray]
  exact (Option.some.inj h2).symm
theorem holds_of {w : World} {b o : Nat} {a : Array Value} {ty : TypeId} {l : List α} (C : Cod f es) (hb : w.heap[b]? = some (.cells a ty (0, 0))) (hc : l.flatMap f = (a.toList.drop o).take (l.length * es)) (ha : o + l.length * es ≤ a.size) : Go.Sort.HoldsK f es w b o l.toArray := by
  unfold Go.Sort.HoldsK
  rw [Ib C]
  intro j hj
  have hj : j < l.length * es := by simpa [lc C l] using hj
  have hj2 : j < (l.flatMap f).length := by rw [lc C]; exact hj
  refine ⟨?_, by simp [World.frozen?, hb]⟩
  rw [cell_of hb, getElem!_pos _ _ (by simpa using hj2)]
  simp only [List.getElem_toArray, id]
  have : (l.flatMap f)[j]? = a.toList[o + j]? := by rw [hc, List.getElem?_take, if_pos hj, List.getElem?_drop]
  rw [List.getElem?_eq_getElem hj2] at this
  rw [this]; simp
theorem heap_put {w : World} {b o : Nat} {F : Array Value} (i : Nat) : (Go.Sort.putRow id w b o F).heap[i]? = if i = b then (w.heap[b]?).map (Go.Sort.onCells (Go.Sort.putCells id o F)) else w.heap[i]? := by
  unfold Go.Sort.putRow Go.Sort.mapBlock
  simp only [Array.getElem?_modify]
  by_cases h : i = b
  · subst h; simp
  · rw [if_neg (fun e => h e.symm), if_neg h]
theorem sortW {w : World} {b o q : Nat} {a : Array Value} {ty : TypeId} {l l' : List α} {os : Array Obj} (C : Cod f es) (hb : w.heap[b]? = some (.cells a ty (0, 0))) (hlen : l'.length = l.length) (ha : o + l.length * es ≤ a.size) :
    ∃ a' : Array Value, (Go.Proofs.sortWorldK f es w b o q l'.toArray os).heap[b]? = some (.cells a' ty (0, 0)) ∧ a'.size = a.size ∧ l'.flatMap f = (a'.toList.drop o).take (l.length * es) ∧ Stp [b] [b] w (Go.Proofs.sortWorldK f es w b o q l'.toArray os) := by
  have hlt := dX hb
  have heap : ∀ i, i < w.heap.size → (Go.Proofs.sortWorldK f es w b o q l'.toArray os).heap[i]? = (Go.Sort.putRow id w b o (l'.flatMap f).toArray).heap[i]? := by
    intro i hi
    show (((Go.Sort.putRowK f es (Go.Sort.ahead w q) b o l'.toArray).heap) ++ os)[i]? = _
    have hs : (Go.Sort.putRowK f es (Go.Sort.ahead w q) b o l'.toArray).heap.size = w.heap.size := by
      unfold Go.Sort.putRowK Go.Sort.putRow Go.Sort.mapBlock Go.Sort.ahead; simp
    rw [Array.getElem?_append_left (by rw [hs]; exact hi)]
    unfold Go.Sort.putRowK
    rw [Ib C, heap_put, heap_put]
    rfl
  have hsz : w.heap.size ≤ (Go.Proofs.sortWorldK f es w b o q l'.toArray os).heap.size := by
    show _ ≤ (((Go.Sort.putRowK f es (Go.Sort.ahead w q) b o l'.toArray).heap) ++ os).size
    have hs : (Go.Sort.putRowK f es (Go.Sort.ahead w q) b o l'.toArray).heap.size = w.heap.size := by
      unfold Go.Sort.putRowK Go.Sort.putRow Go.Sort.mapBlock Go.Sort.ahead; simp
    rw [Array.size_append, hs]; omega
  refine ⟨Go.Sort.putCells id o (l'.flatMap f).toArray a, ?_, by simp [Go.Sort.putCells], ?_, ⟨⟨rfl, rfl, rfl, hsz, fun i hi hn => ?_⟩, fun x hx => .inl hx⟩⟩
  · rw [heap b hlt, heap_put, if_pos rfl, hb]; rfl
  · have hl' : (l'.flatMap f).length = l.length * es := by rw [lc C, hlen]
    apply List.ext_getElem?
    intro i
    rw [List.getElem?_take]
    by_cases hi : i < l.length * es
    · rw [if_pos hi, List.getElem?_drop]
      have h1 : o + i < a.size := by omega
      have h2 : i < (l'.flatMap f).length := by omega
      rw [List.getElem?_eq_getElem h2, Array.getElem?_toList]
      simp only [Go.Sort.putCells, Array.getElem?_mapIdx, Array.getElem?_eq_getElem h1, Option.map_some]
      rw [if_pos ⟨by omega, by rw [List.size_toArray]; omega⟩]
      simp only [id, Nat.add_sub_cancel_left]
      rw [getElem!_pos _ _ (by simpa using h2)]
      simp
    · rw [if_neg hi, List.getElem?_eq_none (by omega)]
  · rw [heap i hi, heap_put, if_neg (by simpa using hn)]
end
def Gr (W W' : World) : Prop := ∃ q os', W' = Go.Sort.grow (W.drewN q) os'
theorem Gr.refl (W : World) : Gr W W := ⟨0, #[], by rw [Go.Sort.grow_empty]; rfl⟩
theorem Gr.alloc {W W' : World} (h : Gr W W') (o : Obj) : Gr W (W'.alloc o) := by
  obtain ⟨q, os, rfl⟩ := h
  exact ⟨q, os ++ #[o], by rw [Go.Sort.alloc_eq_grow, Go.Sort.grow_grow]⟩
theorem Gr.drew {W W' : World} (h : Gr W W') : Gr W W'.drew := by
  obtain ⟨q, os, rfl⟩ := h
  exact ⟨q + 1, os, rfl⟩
section
variable {w0 w W : World} {L : List HP} {K : Value → World → Prop}
theorem lJ {t : TypeId} {v : Value} (h : Sat w0 L w) (g : Gr W w) (hK : ∀ p w', Sat w0 (Cl p v.cells t :: L) w' → Gr W w' → K (ptr p) w') : bT t v w K := hK _ _ (h.alloc _) (g.alloc _)
theorem Iq {α : Type} {f : α → List Value} {es : Nat} {P : Program} {t ty : TypeId} {m : List α} {parts : List (Nat × Value)} {c : Array Value} (C : Cod f es) (h : Sat w0 L w) (g : Gr W w) (hu : P.underlying t = some (.slice ty)) (hc : dx P ty m.length parts = some c) (hm : c.toList = m.flatMap f)
    (hK : ∀ s w', Sat w0 (LsH f es ty s m :: L) w' → Gr W w' → K s w') : aB P t m.length parts w K := by
  have key : aB P t m.length parts w fun s w' => Sat w0 (LsH f es ty s m :: L) w' := iD C h hu hc hm fun s w' h => h
  unfold aB at key ⊢
  rw [hu] at key ⊢
  simp only [hc] at key ⊢
  exact hK _ _ key (g.alloc _)
end
theorem swo_of {α : Type} {lt : α → α → Bool} (S : SWO lt) : Go.Sort.SWO lt := ⟨S.irr, fun x y z h1 h2 => S.lt_le h1 (by
    cases h : lt z y with
    | false => rfl
    | true => have := S.asym _ _ h2; rw [this] at h; cases h), fun x y z h1 h2 => by
    cases h : lt x z with
    | false => rfl
    | true =>
      have := S.lt_le h h2
      rw [h1] at this; cases this⟩
def Dt (P : Program) (es : Nat) (ty : TypeId) : FnT := fun args w K => ∃ (α : Type) (_ : Inhabited α) (f : α → List Value) (cf : α → α → Int) (lt : α → α → Bool) (g : Nat) (cb : List Value) (v : Value) (w0 : World) (L : List HP) (l : List α),
  args = [v, .func (.func g) #[] cb.toArray] ∧ Cod f es ∧ Go.Sort.SWO (Go.Proofs.ltOf cf) ∧ (∀ x y, Go.Proofs.ltOf cf x y = lt x y) ∧ (∀ args w, (callFunc g args).run P w = .ok (.enter g args) w) ∧
  (∀ (W : World) (l2 : List α), l2.length = l.length → Sat w0 (LsH f es ty v l2 :: L) W → ∀ (x y : α), Calls P g (#[.agg (f x).toArray, .agg (f y).toArray] ++ cb.toArray) W fun e W' => e = .returned (.int .i64 (cf x y)) ∧ Gr W W') ∧
  Sat w0 (LsH f es ty v l :: L) w ∧ l.length < 4611686018427387904 ∧ ∀ l' w', l'.Perm l → l'.Pairwise (fun x y => lt y x = false) → Sat w0 (LsH f es ty v l' :: L) w' → K (.tuple #[]) w'
theorem Vv {P : Program} {ρ : Go.Shelf.Ren} (S : Go.Proofs.SlLaysF0.n6 P ρ) {es : Nat} {ty : TypeId} (aE : ∀ w, (isAgg (ρ.t 24)).run P w = .ok true w) (zE : ∀ w, (Go.sizeOf (ρ.t 24)).run P w = .ok es w)
    (ef : ∀ args w, (callFunc (ρ.f 6) args).run P w = .ok (.enter (ρ.f 6) args) w) : OkF P (ρ.f 6) (Dt P es ty) := by
  intro args w K ⟨α, inst, f, cf, lt, g, cb, v, w0, L, l, ha, C, hO, hlt, eg, hcmp, hs, hlen, hk⟩
  subst ha
  refine .inl ⟨ef _ _, ?_⟩
  obtain ⟨fp, hO', kk⟩ := Sat.own hs
  generalize hcs : l.flatMap f = cs at hO'
  generalize hn' : l.length = n at hO'
  cases hO' with
  | nil =>
    obtain rfl : l = [] := List.eq_nil_of_length_eq_zero hn'
    refine (Go.Proofs.AnyF.slices_SortFunc_none S none 0 (.func (.func g) #[] cb.toArray) w).mono fun e w' ⟨he, hw⟩ => ?_
    subst hw
    exact ⟨_, he, hk [] w' (.refl _) .nil hs⟩
  | blk hb hn ha hc =>
    rename_i b o cap a
    subst hn'
    have h2 := Nat.mul_le_mul_right es hn
    have hH : Go.Sort.HoldsK f es w b o l.toArray := holds_of C hb (by rw [hcs]; exact hc) (by omega)
    have put : ∀ (l' : List α) (q : Nat) (os : Array Obj), l'.length = l.length → Sat w0 (LsH f es ty (.slice (some ⟨b, o, none⟩) l.length cap) l' :: L) (Go.Proofs.sortWorldK f es w b o q l'.toArray os) := by
      intro l' q os hlen'
      obtain ⟨a', hb', hs', hc', hst⟩ := sortW (q := q) (os := os) C hb hlen' (by omega : o + l.length * es ≤ a.size)
      have := kk _ [b] (.slice (some ⟨b, o, none⟩) l.length cap) l.length (l'.flatMap f) es ty (.blk hb' hn (by omega) (by rw [hc'])) hst
      unfold LsH
      rw [hlen']; exact this
    have hcon := Go.Proofs.AnyQ.slices_SortFunc S es aE zE f C.len (fun x v hv => List.all_eq_true.1 (C.one x) v hv) cf hO g cb.toArray b o cap l.toArray w eg
      (fun m os dk hd x y => by
        obtain ⟨l', rfl⟩ : ∃ l' : List α, dk = l'.toArray := ⟨dk.toList, by simp⟩
        have hl' : l'.length = l.length := by simpa using hd
        exact hcmp _ l' hl' (put l' m os hl') x y) hH (dX hb) (by simpa using hlen)
    rw [List.size_toArray] at hcon
    refine hcon.mono fun e w' ⟨he, d', q, os, hp, hsr, hw⟩ => ?_
    obtain ⟨l', rfl⟩ : ∃ l' : List α, d' = l'.toArray := ⟨d'.toList, by simp⟩
    obtain ⟨hp1, _, hp3⟩ := hp
    have hlen' : l'.length = l.length := by simpa using hp1
    have hperm : l'.Perm l := by
      have := hp3
      simp only [List.extract_toArray, List.extract_eq_take_drop] at this
      simpa [List.take_of_length_le, hlen'] using this
    refine ⟨_, he, hk l' w' hperm ?_ ?_⟩
    · rw [List.pairwise_iff_getElem]
      intro i j hi hj hij
      have := hsr i j (Nat.zero_le _) hij (by omega)
      rw [hlt, getElem!_pos _ _ (by simpa using hj), getElem!_pos _ _ (by simpa using hi)] at this
      simpa using this
    · rw [hw]; exact put l' q os hlen'
theorem SE {P : Program} {i : Nat} {G : FnT} (ok : OkF P i G) (hc : ∀ args w, (callFunc i args).run P w = .ok (.enter i args) w) {args : List Value} {W : World} {r : Value} (h : ai G args W fun v w' => v = r ∧ Gr W w') :
    Calls P i args.toArray W fun e w' => e = .returned r ∧ Gr W w' := by
  obtain ⟨k0, h0, hk⟩ := h
  rcases (ok _ _ _ h0) with ⟨_, hC⟩ | ⟨v, w', hr, _⟩
  · exact hC.mono fun e w' ⟨v, he, hv⟩ => ⟨by rw [he, (hk _ _ hv).1], (hk _ _ hv).2⟩
  · rw [hc] at hr; cases hr
section
variable {α : Type} [Inhabited α] {f : α → List Value} {es : Nat}
theorem BB {P : Program} {g : Nat} {G : FnT} {ty : TypeId} {cf : α → α → Int} {lt : α → α → Bool} {cb : List Value} {v : Value} {l : List α} {w0 w : World} {L : List HP} {K : Value → World → Prop} (h : Sat w0 (LsH f es ty v l :: L) w) (hl : l.length < 4611686018427387904) (C : Cod f es)
    (S : SWO lt) (hlt : ∀ x y, cf x y < 0 ↔ lt x y = true) (ok : OkF P g G) (eg : ∀ args w, (callFunc g args).run P w = .ok (.enter g args) w)
    (hc : ∀ (W : World) (l2 : List α), l2.length = l.length → Sat w0 (LsH f es ty v l2 :: L) W → ∀ (x y : α), ai G ([.agg (f x).toArray, .agg (f y).toArray] ++ cb) W fun v w' => v = .int .i64 (cf x y) ∧ Gr W w')
    (hK : ∀ l' w', l'.Perm l → l'.Pairwise (fun x y => lt y x = false) → Sat w0 (LsH f es ty v l' :: L) w' → K (.tuple #[]) w') : ai (Dt P es ty) [v, .func (.func g) #[] cb.toArray] w K := by
  have e : ∀ x y, Go.Proofs.ltOf cf x y = lt x y := fun x y => by
    unfold Go.Proofs.ltOf
    rw [Bool.eq_iff_iff]; simp [hlt]
  have e2 : Go.Proofs.ltOf cf = lt := by funext x y; exact e x y
  refine aj ⟨α, inferInstance, f, cf, lt, g, cb, v, w0, L, l, rfl, C, by rw [e2]; exact swo_of S, e, eg, fun W l2 hl2 h2 x y => ?_, h, hl, hK⟩
  have := SE ok eg (hc W l2 hl2 h2 x y)
  simpa using this
theorem Oi {P : Program} {g : Nat} {G : FnT} {ty : TypeId} {cf : α → α → Int} {lt : α → α → Bool} {v : Value} {l : List α} {w0 w : World} {L : List HP} {K : Value → World → Prop} (h : Sat w0 (LsH f es ty v l :: L) w) (hl : l.length < 4611686018427387904) (C : Cod f es)
    (S : SWO lt) (hlt : ∀ x y, cf x y < 0 ↔ lt x y = true) (ok : OkF P g G) (eg : ∀ args w, (callFunc g args).run P w = .ok (.enter g args) w)
    (hc : ∀ (W : World) (x y : α), ai G [.agg (f x).toArray, .agg (f y).toArray] W fun v w' => v = .int .i64 (cf x y) ∧ Gr W w')
    (hK : ∀ l' w', l'.Perm l → l'.Pairwise (fun x y => lt y x = false) → Sat w0 (LsH f es ty v l' :: L) w' → K (.tuple #[]) w') : ai (Dt P es ty) [v, .func (.func g) #[] #[]] w K :=
  BB (cb := []) h hl C S hlt ok eg (fun W _ _ _ x y => hc W x y) hK
end
end Go.Sx

/- So2 -/
set_option linter.all false
namespace Go.Sx
open Go.Proofs Go.Maps
section
variable {κ ν : Type} {ek : κ → Value} {ev : ν → Value} {m : List (κ × ν)} {w0 w : World} {L : List HP} {v : Value} {P : Program} {k : TypeId}
end
theorem CQ {w w' : World} (h : RowKit.Below w.heap.size w w') (fp : List Nat) (hf : ∀ b ∈ fp, w.heap.size ≤ b) : Stp [] fp w w' :=
  ⟨⟨h.os, h.tape, h.output, h.size, fun b hb _ => h.block b hb⟩, fun x hx => .inr (hf x hx)⟩
abbrev kSt (s : List UInt8) : Value := .string (bs s)
abbrev cSt (s : List UInt8) : List Value := [.string (bs s)]
end Go.Sx

/- So3 -/
set_option linter.all false
namespace Go.Sx
open Go.Proofs
section
variable {P : Program} {w : World}
structure Wid (P : Program) (F : Fence) : Prop where
  fn : ∀ f, F.fn f
  dp : F.depth = none
  calls : ∀ n f args w R, Calls P f args w R → CallsIn F n P f args w R
theorem Wid.wide : Wid P Fence.wide := ⟨fun _ => trivial, rfl, fun _ _ _ _ _ h => callsIn_wide.2 h⟩
theorem Wid.round (l : Nat) : Wid P (Fence.wide.inRound l) := ⟨fun _ => trivial, rfl, fun _ _ _ _ _ h => CallsIn.inRound l (callsIn_wide.2 h)⟩
theorem rO {F : Fence} (W : Wid P F) {n : Nat} {o : Oper} {a : Act} {next : Act → World → Prop} {Q : Exit → Act → World → Prop} {k : Value → World → Prop}
    (h : zD P (execOp a.eval o) w k) (nd : ∀ c, o.op ≠ .defer c) (hk : ∀ v w', k v w' → next (a.put o.dst v) w') : o.wpIn F n P a w next Q := by
  refine ⟨fun _ _ => W.fn _, ?_⟩
  rw [Oper.semAt_plain _ _ _ nd]
  rcases h with ⟨v, w', hr, h⟩ | ⟨w', hr, h⟩ | ⟨f, args, hr, h⟩
  · rw [hr]; exact hk _ _ h
  · rw [hr]; exact hk _ _ h
  · rw [hr]
    refine ⟨fun hd => by simp [W.dp] at hd, ?_⟩
    refine W.calls _ _ _ _ _ (h.mono ?_)
    rintro e w' ⟨v, rfl, h⟩
    exact hk _ _ h
theorem xX {F : Fence} (W : Wid P F) {n l : Nat} {o : Oper} {a : Act} {next : Act → World → Prop} {Q : Exit → Act → World → Prop} {f x : Operand} {ats : Array TypeId} {R : Ending → World → Prop}
    (ho : o.op = .call { callee := .value f, args := #[x], argTypes := ats }) (hf : a.eval f = .func (.yield l) #[] #[]) (hy : YieldAt F (n - 1) P l #[a.eval x] w R) (hR : ∀ e w', R e w' → ∃ v, e = .returned v ∧ next (a.put o.dst v) w') : o.wpIn F n P a w next Q := by
  refine ⟨fun _ _ => W.fn _, ?_⟩
  rw [Oper.semAt_plain _ _ _ (by rw [ho]; intro c hc; cases hc)]
  obtain ⟨fn, tmps, assign, body, hrun, hr⟩ := hy
  have key : ∀ ρ : Operand → Value, ρ f = .func (.yield l) #[] #[] → (Instr.yield l #[ρ x]).run P w = .ok (.round l fn tmps assign body) w → (execOp ρ o).run P w = .ok (.round l fn tmps assign body) w := by
    intro ρ h1 h2
    simp [execOp, ho, resolve, Deferred.ofValue, h1, invoke, Sem.run_bind, Result.andThen, h2]
  have e := key _ hf hrun
  rw [e]
  refine ⟨fun hd => by simp [W.dp] at hd, hr.mono ?_⟩
  intro e w' h
  obtain ⟨v, he, hn⟩ := hR _ _ h
  subst he
  exact hn
theorem uN {e : Env} {o : Oper} {v : Value} (h : fop P e o.op w = some v) : ∀ c, o.op ≠ .defer c := by
  intro c ho
  rw [ho] at h
  simp [fop] at h
theorem uO {call : eT} {e : Env} {o : Oper} {k : Value → World → Prop} (h : eop P call e o.op w k) : ∀ c, o.op ≠ .defer c := by
  intro c ho
  rw [ho] at h
  simp [eop] at h
structure RelD (nt : Nat) (ds : List Deferred) (e : Env) (a : Act) : Prop where
  sz : a.tmps.size = nt
  df : a.defers = ds
  v : ∀ t, val a t = e t
theorem RelD.put {nt : Nat} {ds : List Deferred} {e : Env} {a : Act} (h : RelD nt ds e a) (d : Option Tmp) (v : Value) : RelD nt ds (Sx.put nt e d v) (a.put d v) := by
  have h2 : Rel nt e { a with defers := [] } := ⟨h.sz, rfl, h.v⟩
  have h3 := h2.put d v
  refine ⟨by rw [size_put, h.sz], by rw [xn, h.df], fun t => ?_⟩
  have := h3.v t
  cases d <;> exact this
theorem mg {F : Fence} (W : Wid P F) {call : eT} (hc : lm P call) {n : Nat} {ops : Array Oper} {nt : Nat} {ds : List Deferred} {k : Env → World → Prop} {Q : Exit → Act → World → Prop}
    (r : List Oper) (hQ : ∀ e' w' a', RelD nt ds e' a' → k e' w' → wpListIn F n P ops Q r a' w') : ∀ (l : List Oper) (e : Env) (w : World) (a : Act), RelD nt ds e a → fP P call ops nt l e w k → wpListIn F n P ops Q (l ++ r) a w := by
  intro l
  induction l with
  | nil => intro e w a hr h; exact hQ e w a hr h
  | cons o l ih =>
    intro e w a hr h
    unfold fP at h
    have hag : ∀ t ∈ o.looksAt ops, val a t = e t := fun t _ => hr.v t
    rw [List.cons_append]
    unfold wpListIn
    split at h
    · rw [pW] at h
      unfold stepG at h
      rw [mf hag]
      split at h
      · rename_i hg
        unfold aa at h
        split at h
        · rename_i v hf
          rw [if_pos hg]
          refine rO W (k := fun v' w' => v' = v ∧ w' = w) ?_ (uN hf) ?_
          · rw [iW hag (iQ hf)]
            exact .inl ⟨v, w, KF hf, rfl, rfl⟩
          · rintro v' w' ⟨rfl, rfl⟩
            exact ih _ _ _ (hr.put _ _) h
        · exact h.elim
      · rename_i hg
        rw [if_neg (by rw [hg]; decide)]
        exact ⟨fun _ _ => W.fn _, ih _ _ _ (hr.put _ _) h⟩
    · unfold lZ dz at h
      rw [mf hag]
      split at h
      · rename_i hg
        rw [if_pos hg]
        refine rO W (k := fun v w' => fP P call ops nt l (put nt e o.dst v) w' k) ?_ (uO h) fun v w' hk => ih _ _ _ (hr.put _ _) hk
        rw [iW hag (lD h)]
        exact Su hc h
      · rename_i hg
        rw [if_neg (by rw [hg]; decide)]
        exact ⟨fun _ _ => W.fn _, ih _ _ _ (hr.put _ _) h⟩
end
theorem born_inj : ∀ {l : List MapEntry}, (l.map (·.born)).Nodup → ∀ {a b : MapEntry}, a ∈ l → b ∈ l → a.born = b.born → a = b
  | [], _, _, _, h, _, _ => by simp at h
  | x :: l, hn, a, b, ha, hb, e => by
    simp only [List.map_cons, List.nodup_cons] at hn
    rcases List.mem_cons.1 ha with rfl | ha'
    · rcases List.mem_cons.1 hb with rfl | hb'
      · rfl
      · exact absurd (by rw [e]; exact List.mem_map_of_mem (f := (·.born)) hb') hn.1
    · rcases List.mem_cons.1 hb with rfl | hb'
      · exact absurd (by rw [← e]; exact List.mem_map_of_mem (f := (·.born)) ha') hn.1
      · exact born_inj hn.2 ha' hb' e
section
variable {κ ν : Type} {ek : κ → Value} {ev : ν → Value} {m : List (κ × ν)} {w0 w : World} {L : List HP} {v : Value}
theorem KQ {K : Value → World → Prop} {it : Value} {rem : List (κ × ν)} (h : Sat w0 (ItH ek ev it v m rem :: L) w)
    (h0 : rem = [] → ∀ w', Sat w0 (ItH ek ev it v m [] :: L) w' → K over w')
    (h1 : ∀ (x : κ × ν) (r1 r2 : List (κ × ν)) (w' : World), rem = r1 ++ x :: r2 → Sat w0 (ItH ek ev it v m (r1 ++ r2) :: L) w' → u7 it w' = some (.tuple #[ek x.1, ev x.2]) → K (.tuple #[.bool true, ek x.1, ev x.2]) w') : bZ it false w K := by
  obtain ⟨q, r, es, clock, seen, ⟨rfl, rfl, hm, hrem, hsub⟩, hs⟩ := y5.1 h
  simp only [bZ, ptr, hs.blk, hs.f1.blk]
  have hall : ∀ e ∈ es.toList, e.born < clock := hm.lt
  have hold : (es.filter fun e => !seen.contains e.born).filter (fun e => decide (e.born < clock)) = es.filter fun e => !seen.contains e.born := by
    apply Array.ext'
    simp only [Array.toList_filter]
    exact List.filter_eq_self.2 fun e he => by simpa using hall e (List.mem_filter.1 he).1
  have hnew : (es.filter fun e => !seen.contains e.born).filter (fun e => decide (e.born ≥ clock)) = #[] := by
    apply Array.ext'
    simp only [Array.toList_filter]
    refine List.filter_eq_nil_iff.2 fun e he => ?_
    have := hall e (List.mem_filter.1 he).1
    simp; omega
  have hC : kW es clock seen = (if (es.filter fun e => !seen.contains e.born).isEmpty then #[none] else #[]) ++ (es.filter fun e => !seen.contains e.born).map some := by
    simp only [kW, hold, hnew, Array.append_empty]
  refine ⟨?_, ?_⟩
  · cases hes : es.toList with
    | nil => have : es = #[] := by apply Array.ext'; simpa using hes
             subst this; simp
    | cons e l =>
      have : e.born < clock := hall e (by rw [hes]; simp)
      have h3 : es.all (fun x => decide (x.born ≥ clock)) = false := by
        rw [Bool.eq_false_iff]
        intro hx
        rw [Array.all_eq_true_iff_forall_mem] at hx
        have := hx e (by rw [← Array.mem_toList_iff, hes]; simp)
        simp at this; omega
      simp [h3]
  · intro j w1 hw1 hj
    have hs1 : Sat w0 (Blk q (.mapIter (some r) clock seen clock) :: Blk r (.map es clock) :: L) w1 := by
      rcases hw1 with rfl | rfl
      · exact hs
      · exact hs.drew
    rw [hC] at hj ⊢
    generalize hl : (es.filter fun e => !seen.contains e.born) = left at *
    have hleft : left.toList = es.toList.filter fun e => !seen.contains e.born := by rw [← hl]; simp
    rw [← hleft] at hrem
    by_cases hemp : left.toList = []
    · have : left = #[] := Array.ext' (by simpa using hemp)
      subst this
      simp at hj ⊢
      subst hj
      simp
      have hr0 : rem = [] := by simpa using hrem
      subst hr0
      exact h0 rfl _ (y5.2 ⟨q, r, es, clock, seen, ⟨rfl, rfl, hm, by rw [← hleft]; simp, hsub⟩, hs1⟩)
    · have hne : left.isEmpty = false := by
        rw [Bool.eq_false_iff]; intro hx
        simp at hx; exact hemp (by simp [hx])
      simp [hne] at hj ⊢
      have hlen := congrArg List.length hrem
      simp at hlen
      have hjr : j < rem.length := by omega
      simp [hj]
      have hkv := congrArg (fun l => l[j]?) hrem
      simp [hj, hjr] at hkv
      have split : rem = rem.take j ++ rem[j] :: rem.drop (j + 1) := by
        rw [List.getElem_cons_drop, List.take_append_drop]
      have := h1 rem[j] (rem.take j) (rem.drop (j + 1)) (dK w1 q (.mapIter (some r) clock (seen.push left[j].born) clock)) split ?_ ?_
      · rw [← hkv.1, ← hkv.2] at this; exact this
      · refine y5.2 ⟨q, r, es, clock, seen.push left[j].born, ⟨rfl, rfl, hm, ?_, ?_⟩, hs1.set _⟩
        · have hnd : (left.toList.map (·.born)).Nodup := by
            rw [hleft]; exact hm.nd.sublist (List.filter_sublist.map _)
          have e1 : es.toList.filter (fun e => !(seen.push left[j].born).contains e.born) = left.toList.eraseIdx j := by
            have e2 : es.toList.filter (fun e => !(seen.push left[j].born).contains e.born) = left.toList.filter (fun e => decide (e.born ≠ left[j].born)) := by
              rw [hleft, List.filter_filter]
              congr 1; funext e
              rw [Bool.eq_iff_iff]; simp; 
              constructor
              · rintro ⟨a, b⟩; exact ⟨b, a⟩
              · rintro ⟨a, b⟩; exact ⟨b, a⟩
            rw [e2]
            have key : ∀ (l : List MapEntry) (j : Nat) (hj : j < l.length), (l.map (·.born)).Nodup → l.filter (fun e => decide (e.born ≠ l[j].born)) = l.eraseIdx j := by
              intro l
              induction l with
              | nil => intro j hj; simp at hj
              | cons a l ih =>
                intro j hj hn
                simp only [List.map_cons, List.nodup_cons] at hn
                cases j with
                | zero =>
                  simp
                  intro x hx e
                  exact hn.1 (by rw [← e]; exact List.mem_map_of_mem hx)
                | succ j =>
                  simp only [List.length_cons, Nat.add_lt_add_iff_right] at hj
                  have : a.born ≠ l[j].born := fun e => hn.1 (by rw [e]; exact List.mem_map_of_mem (List.getElem_mem hj))
                  simp [this]
                  simpa using ih j hj hn.2
            exact key left.toList j (by simpa using hj) hnd
          rw [e1, lW, hrem, ← lW, List.eraseIdx_eq_take_drop_succ]
        · rw [← List.eraseIdx_eq_take_drop_succ]; exact (List.eraseIdx_sublist _ _).trans hsub
      · have hs2 := hs1.set (.mapIter (some r) clock (seen.push left[j].born) clock)
        have hlm : left[j] ∈ es.toList := by
          have : left[j] ∈ left.toList := by rw [← Array.getElem_toList]; exact List.getElem_mem _
          rw [hleft] at this
          exact (List.mem_filter.1 this).1
        have hfd : es.find? (fun e => e.born == left[j].born) = some left[j] := by
          rw [← Array.find?_toList]
          cases hf : es.toList.find? (fun e => e.born == left[j].born) with
          | none =>
            rw [List.find?_eq_none] at hf
            have := hf _ hlm
            simp at this
          | some e =>
            have h3 := List.mem_of_find?_eq_some hf
            have h4 := List.find?_some hf
            simp only [beq_iff_eq] at h4
            rw [born_inj hm.nd h3 hlm h4]
        simp [u7, ptr, hs2.blk, hs2.f1.blk, hfd, hkv.1, hkv.2]
end
def nc : eT := fun _ _ _ _ => False
theorem GK {P : Program} : lm P nc := fun _ _ _ _ h => h.elim
theorem dP {P : Program} {F : Fence} (W : Wid P F) {n i : Nat} {ops : Array Oper} {nt : Nat} {ds : List Deferred} {k : Env → World → Prop} {Q : Exit → Act → World → Prop} {e : Env} {w : World} {a : Act}
    (hr : RelD nt ds e a) (h : fP P nc ops nt ops.toList e w k) (hQ : ∀ e' w' a', RelD nt ds e' a' → k e' w' → Q .normal a' w') : (Code.region i ops false).wpIn F n P Q a w := by
  have := mg W GK (n := n) (Q := Q) [] (fun e' w' a' hr' hk => hQ e' w' a' hr' hk) ops.toList e w a hr h
  rw [List.append_nil] at this
  exact wpIn_region_list this
theorem rW {args : Array Value} {nt : Nat} (hle : args.size ≤ nt) : RelD nt [] (dD args.toList) { tmps := args ++ Array.replicate (nt - args.size) undef, defers := [] } := by
  refine ⟨by simp; omega, rfl, fun t => ?_⟩
  simp only [val, dD, Array.getD_eq_getD_getElem?, List.getD_eq_getElem?_getD, Array.getElem?_toList]
  by_cases ht : t < args.size
  · rw [Array.getElem?_append_left ht]
  · rw [Array.getElem?_append_right (by omega), Array.getElem?_eq_none (xs := args) (by omega)]
    by_cases ht2 : t - args.size < nt - args.size
    · simp [ht2]
    · simp [ht2]
section
variable {κ ν : Type} {ek : κ → Value} {ev : ν → Value} {m : List (κ × ν)} {w0 w : World} {L : List HP} {mv : Value} {P : Program}
theorem N8 {kt et : TypeId} {fv : ν → List Value} {fn : Func} {f es l bx : Nat} {tM tV mt : TypeId} {i0 i1 i2 i3 : Nat} {ops0 ops1 ops2 : Array Oper} {q1 q2 q3 q4 : Oper} {ats : Array TypeId} (hf : P.funcs[f]? = some fn) (hres : fn.results = #[]) (hnt : fn.ntmps = 15)
    (hb : fn.body = some (.seq (.region i0 ops0 false) (.block 0 (.loop (.seq (.region i1 ops1 false) (.seq (.cond (.tmp 8) .skip (.exit 0)) (.block 1 (.seq (.region i2 ops2 false) (.seq (.region i3 #[q1, q2, q3, q4] false) (.cond (.tmp 14) .ret .skip))))))))))
    (f0 : ∀ e w k, fP P nc ops0 15 ops0.toList e w k = (aa (ld1 (e 1) w) fun v => bK P tM v w fun it w' => k (put 15 (put 15 e (some 5) v) (some 6) it) w'))
    (f1 : ∀ e w k, fP P nc ops1 15 ops1.toList e w k = (bZ (e 6) false w fun nx w' => aa (aK nx 0) fun b => k (put 15 (put 15 e (some 7) nx) (some 8) b) w'))
    (f2 : ∀ e w k, fP P nc ops2 15 ops2.toList e w k = (aa (u7 (e 6) w) fun en => aa (aK en 1) fun v => aY P tV w fun p w1 => bF (st es p v w1) fun w2 => k (put 15 (put 15 (put 15 (put 15 e (some 9) en) (some 10) v) (some 4) p) none undef) w2))
    (f3 : ∀ e w k, fP P nc #[q1, q2, q3, q4] 15 [q1, q2] e w k = (aa (ldN es (e 4) w) fun v => k (put 15 (put 15 e (some 11) (e 0)) (some 12) v) w))
    (f4 : ∀ e w k, fP P nc #[q1, q2, q3, q4] 15 [q4] e w k = (aa (dN (e 13)) fun v => k (put 15 e (some 14) v) w))
    (hq : q3.op = .call { callee := .value (.tmp 11), args := #[.tmp 12], argTypes := ats }) (hg : q3.guard = none) (hds : q3.dst = some 13)
    (um : P.underlying tM = some (.map kt et)) (hev : ∀ x, ev x = .agg (fv x).toArray ∧ (fv x).length = es ∧ (fv x).all (·.oneCell') = true) (z : Value) (hz : bO P tV = some z) (hzc : z.cells.size = es)
    (J : List ν → HP) (hY : ∀ xs x (L' : List HP) W, xs.length < m.length → Sat w0 (J xs :: L') W → YieldAt Fence.wide 0 P l #[ev x] W fun e W' => e = .returned (.bool true) ∧ Sat w0 (J (xs ++ [x]) :: L') W')
    (h : Sat w0 (J [] :: Cl bx #[mv] mt :: bS ek ev mv m :: L) w) :
    Calls P f #[.func (.yield l) #[] #[], ptr bx] w fun e W' => (∃ v, e = .returned v) ∧ ∃ xs, xs.Perm (m.map Prod.snd) ∧ Sat w0 (J xs :: Cl bx #[mv] mt :: bS ek ev mv m :: L) W' := by
  refine calls_of_wp hf hb (wpIn_wide (n := 1).1 ?_)
  have hr0 := rW (args := #[.func (.yield l) #[] #[], ptr bx]) (nt := fn.ntmps) (by rw [hnt]; simp)
  generalize ({ tmps := #[.func (.yield l) #[] #[], ptr bx] ++ Array.replicate (fn.ntmps - (#[.func (.yield l) #[] #[], ptr bx] : Array Value).size) undef, defers := [] } : Act) = a0 at hr0 ⊢
  rw [hnt] at hr0
  refine wpIn_seq (dP Wid.wide (k := fun e w => e 0 = .func (.yield l) #[] #[] ∧ ∃ it, e 6 = it ∧ Sat w0 (J [] :: Cl bx #[mv] mt :: ItH ek ev it mv m m :: L) w) hr0 ?_ ?_)
  · rw [f0]
    have h1 : ld1 (dD (#[.func (.yield l) #[] #[], ptr bx] : Array Value).toList 1) w = some mv := by
      show ld1 (ptr bx) w = some mv
      simp [ld1, ptr, cell_of h.f1.cl]
    refine ax h1 ?_
    have h2 : Sat w0 (bS ek ev mv m :: J [] :: Cl bx #[mv] mt :: L) w := h.perm ((List.Perm.swap _ _ _).cons _ |>.trans (List.Perm.swap _ _ _))
    refine KP h2 um fun it w' h3 => ⟨rfl, it, rfl, h3.perm ((List.Perm.swap _ _ _).trans ((List.Perm.swap _ _ _).cons _))⟩
  rintro e w a hr ⟨he0, it, he6, h⟩
  refine wpIn_block (wpIn_loop_rounds (m.length + 1) ?_)
  have loop : ∀ (d : Nat) (rem : List (κ × ν)) (xs : List ν) (e : Env) (w : World) (a : Act), rem.length < d → RelD 15 [] e a → e 0 = .func (.yield l) #[] #[] → e 6 = it → (xs ++ rem.map Prod.snd).Perm (m.map Prod.snd) → Sat w0 (J xs :: Cl bx #[mv] mt :: ItH ek ev it mv m rem :: L) w →
      Code.roundsIn Fence.wide 1 P (.seq (.region i1 ops1 false) (.seq (.cond (.tmp 8) .skip (.exit 0)) (.block 1 (.seq (.region i2 ops2 false) (.seq (.region i3 #[q1, q2, q3, q4] false) (.cond (.tmp 14) .ret .skip)))))) (Exit.inBlock 0 (bodyPost P fn fun e W' => (∃ v, e = .returned v) ∧ ∃ xs, xs.Perm (m.map Prod.snd) ∧ Sat w0 (J xs :: Cl bx #[mv] mt :: bS ek ev mv m :: L) W')) d a w := by
    intro d
    induction d with
    | zero => intro rem xs e w a hd; omega
    | succ d ih =>
      intro rem xs e w a hd hr he0 he6 hp h
      rw [roundsIn_succ]
      have hfr : Sat w0 (ItH ek ev it mv m rem :: J xs :: Cl bx #[mv] mt :: L) w := h.perm ((List.Perm.swap _ _ _).cons _ |>.trans (List.Perm.swap _ _ _))
      refine wpIn_seq (dP Wid.wide (k := fun e w => e 0 = .func (.yield l) #[] #[] ∧ e 6 = it ∧ ((e 8 = .bool false ∧ rem = [] ∧ Sat w0 (ItH ek ev it mv m [] :: J xs :: Cl bx #[mv] mt :: L) w) ∨
        (e 8 = .bool true ∧ ∃ x r1 r2, rem = r1 ++ x :: r2 ∧ Sat w0 (ItH ek ev it mv m (r1 ++ r2) :: J xs :: Cl bx #[mv] mt :: L) w ∧ u7 it w = some (.tuple #[ek x.1, ev x.2])))) hr ?_ ?_)
      · rw [f1, he6]
        refine KQ hfr (fun hn w' h' => ?_) (fun x r1 r2 w' hs h' hen => ?_)
        · exact ⟨he0, he6, .inl ⟨rfl, hn, h'⟩⟩
        · exact ⟨he0, he6, .inr ⟨rfl, x, r1, r2, hs, h', hen⟩⟩
      rintro e w a hr ⟨he0, he6, ⟨h8, hn, h⟩ | ⟨h8, x, r1, r2, hs, h, hen⟩⟩
      · refine wpIn_seq (wpIn_cond_false ((gG fun t _ => hr.v t).trans h8) (wpIn_exit ?_))
        simp only [Exit.then, Exit.inBlock, if_true]
        obtain ⟨v, hv1, hv2⟩ := nU (P := P) (fn := fn) (K := fun _ w => Sat w0 (J xs :: Cl bx #[mv] mt :: bS ek ev mv m :: L) w) hr.v (by
          rw [hres]
          have h3 := it_map h
          exact h3.perm ((List.Perm.swap _ _ _).trans ((List.Perm.swap _ _ _).cons _)))
        exact ⟨hr.df, v, hv1, ⟨v, rfl⟩, xs, by rw [hn] at hp; simpa using hp, hv2⟩
      · refine wpIn_seq (wpIn_cond_true ((gG fun t _ => hr.v t).trans h8) (wpIn_skip ?_))
        refine wpIn_block ?_
        have hrm : rem.length = r1.length + r2.length + 1 := by rw [hs]; simp; omega
        have hxl : xs.length < m.length := by
          have := hp.length_eq
          simp at this; omega
        refine wpIn_seq (dP Wid.wide (k := fun e w => e 0 = .func (.yield l) #[] #[] ∧ e 6 = it ∧ ∃ p, e 4 = ptr p ∧ Sat w0 (Cl p (fv x.2).toArray tV :: ItH ek ev it mv m (r1 ++ r2) :: J xs :: Cl bx #[mv] mt :: L) w) hr ?_ ?_)
        · rw [f2, he6]
          refine ax hen ?_
          refine ax (show aK _ 1 = some (ev x.2) from rfl) ?_
          refine nz h hz fun p w h => ?_
          obtain ⟨hv1, hv2, hv3⟩ := hev x.2
          have hc1 : (ev x.2).cells = (fv x.2).toArray := by rw [hv1]; rfl
          have hst := rR (n := es) h.cl (x := ev x.2) (o := 0) (by rw [hc1]; simpa using hv2) (by rw [hc1]; simpa using hv3) (by omega)
          have hw : wr z.cells 0 (ev x.2).cells.toList = (fv x.2).toArray := by
            apply Array.ext'
            rw [ma _ _ _ (by rw [hc1]; simp [hv2, hzc]), hc1]
            simp [hv2, hzc]
          unfold bF
          rw [show st es (ptr p) (ev x.2) w = _ from hst]
          rw [hw]
          exact ⟨he0, he6, p, rfl, h.setc _⟩
        rintro e w a hr ⟨he0, he6, p, he4, h⟩
        have hpre := mg (F := Fence.wide) (P := P) Wid.wide GK (n := 1) (ops := #[q1, q2, q3, q4]) (nt := 15) (k := fun e w => e 0 = .func (.yield l) #[] #[] ∧ e 6 = it ∧ e 11 = .func (.yield l) #[] #[] ∧ e 12 = ev x.2 ∧ Sat w0 (J xs :: Cl p (fv x.2).toArray tV :: ItH ek ev it mv m (r1 ++ r2) :: Cl bx #[mv] mt :: L) w)
          (Q := Exit.then (fun a w => (Code.cond (.tmp 14) .ret .skip).wpIn Fence.wide 1 P (Exit.inBlock 1 (Exit.then (Code.roundsIn Fence.wide 1 P (.seq (.region i1 ops1 false) (.seq (.cond (.tmp 8) .skip (.exit 0)) (.block 1 (.seq (.region i2 ops2 false) (.seq (.region i3 #[q1, q2, q3, q4] false) (.cond (.tmp 14) .ret .skip)))))) (Exit.inBlock 0 (bodyPost P fn fun e W' => (∃ v, e = .returned v) ∧ ∃ xs, xs.Perm (m.map Prod.snd) ∧ Sat w0 (J xs :: Cl bx #[mv] mt :: bS ek ev mv m :: L) W')) d) (Exit.inBlock 0 (bodyPost P fn fun e W' => (∃ v, e = .returned v) ∧ ∃ xs, xs.Perm (m.map Prod.snd) ∧ Sat w0 (J xs :: Cl bx #[mv] mt :: bS ek ev mv m :: L) W')))) a w) (Exit.inBlock 1 (Exit.then (Code.roundsIn Fence.wide 1 P (.seq (.region i1 ops1 false) (.seq (.cond (.tmp 8) .skip (.exit 0)) (.block 1 (.seq (.region i2 ops2 false) (.seq (.region i3 #[q1, q2, q3, q4] false) (.cond (.tmp 14) .ret .skip)))))) (Exit.inBlock 0 (bodyPost P fn fun e W' => (∃ v, e = .returned v) ∧ ∃ xs, xs.Perm (m.map Prod.snd) ∧ Sat w0 (J xs :: Cl bx #[mv] mt :: bS ek ev mv m :: L) W')) d) (Exit.inBlock 0 (bodyPost P fn fun e W' => (∃ v, e = .returned v) ∧ ∃ xs, xs.Perm (m.map Prod.snd) ∧ Sat w0 (J xs :: Cl bx #[mv] mt :: bS ek ev mv m :: L) W'))))) [q3, q4] ?_ [q1, q2] e w a hr ?_
        · exact wpIn_seq (wpIn_region_list hpre)
        · rintro e w a hr ⟨he0, he6, h11, h12, h⟩
          refine wpListIn_plain hg fun K hK => xX Wid.wide hq ((gG fun t _ => hr.v t).trans h11) (R := fun e W' => e = .returned (.bool true) ∧ Sat w0 (J (xs ++ [x.2]) :: Cl p (fv x.2).toArray tV :: ItH ek ev it mv m (r1 ++ r2) :: Cl bx #[mv] mt :: L) W') ?_ ?_
          · rw [show a.eval (.tmp 12) = ev x.2 from (gG fun t _ => hr.v t).trans h12]
            exact hY xs x.2 _ w hxl h
          · rintro e' w' ⟨rfl, h'⟩
            refine ⟨_, rfl, hK _ _ ?_⟩
            have hr2 := hr.put q3.dst (.bool true)
            show wpListIn _ _ _ _ _ ([q4] ++ []) _ _
            refine mg (F := Fence.wide) (P := P) Wid.wide GK (n := 1) (ops := #[q1, q2, q3, q4]) (nt := 15) (k := fun e w => e 0 = .func (.yield l) #[] #[] ∧ e 6 = it ∧ e 14 = .bool false ∧ Sat w0 (J (xs ++ [x.2]) :: Cl p (fv x.2).toArray tV :: ItH ek ev it mv m (r1 ++ r2) :: Cl bx #[mv] mt :: L) w) [] (fun e w a hr hk => ?_) [q4] _ w' _ hr2 ?_
            · obtain ⟨he0, he6, h14, h⟩ := hk
              refine wpIn_cond_false ((gG fun t _ => hr.v t).trans h14) (wpIn_skip ?_)
              simp only [Exit.inBlock, Exit.then]
              refine ih (r1 ++ r2) (xs ++ [x.2]) e w a (by simp; omega) hr he0 he6 ?_ ?_
              · rw [hs] at hp
                rw [List.append_assoc]
                refine List.Perm.trans (List.Perm.append_left xs ?_) hp
                simp only [List.map_append, List.map_cons, List.singleton_append]
                exact List.perm_middle.symm
              · exact (h.f1.drop).perm ((List.Perm.swap _ _ _).cons _)
            · rw [f4, hds]
              refine ax (show dN _ = some (.bool false) from rfl) ?_
              exact ⟨he0, he6, rfl, h'⟩
        · rw [f3, he4]
          refine ax (v := ev x.2) ?_ ?_
          · have := lX (n := es) (o := 0) h.cl (by simp [(hev x.2).2.1])
            rw [show ldN es (ptr p) w = _ from this, (hev x.2).1]
            simp [← (hev x.2).2.1]
          · exact ⟨he0, he6, he0, rfl, h.perm ((List.Perm.swap _ _ _).cons _ |>.trans (List.Perm.swap _ _ _))⟩
  exact loop _ m [] e w a (by omega) hr he0 he6 (by simp) h
end
def iK (fn : FuncId) (tmps : Array Value) (A B : Code) (D : Nat) : Loop := { state := .ready, pending := none, fn, tmps, params := #[7], assign := A, body := B, defers := D }
section
variable {ν : Type} {fv : ν → List Value} {w0 w : World} {L : List HP} {P : Program}
def JA (fv : ν → List Value) (es : Nat) (tS tV : TypeId) (l D Bs : Nat) (r : Loop) (xs : List ν) : HP := HEx fun sv => HS [Blk l (.loop r), Blk D (.deferred (some [])), Cl Bs #[sv] tS, LsH fv es tV sv xs]
theorem oq {es : Nat} {tS tV : TypeId} {l D Bs : Nat} {r : Loop} {xs : List ν} : Sat w0 (JA fv es tS tV l D Bs r xs :: L) w ↔ ∃ sv, Sat w0 (Blk l (.loop r) :: Blk D (.deferred (some [])) :: Cl Bs #[sv] tS :: LsH fv es tV sv xs :: L) w := by
  simp only [JA, Sat.ex_iff, Sat.hs_iff, List.cons_append, List.nil_append]
theorem yieldA {n es l D Bs N bytes : Nat} {tS tV : TypeId} {i2 i3 : Nat} {opsA opsB : Array Oper} {fn : FuncId} {a : Act} {e : Env} {ds : List Deferred} (C : Cod fv es) (hr : RelD 13 ds e a) (he2 : e 2 = ptr Bs)
    (fA : ∀ e w k, fP P nc opsA 13 opsA.toList e w k = (aY P tV w fun p w1 => bF (st es p (e 7) w1) fun w2 => k (put 13 (put 13 e (some 5) p) none undef) w2))
    (fB : ∀ e w k, fP P nc opsB 13 opsB.toList e w k = (aa (ld1 (e 2) w) fun s => aa (ldN es (e 5) w) fun x => aB P tS 1 [(0, x)] w fun s1 w1 => aJ P tS tS s s1 w1 fun s2 w2 => bF (st 1 (e 2) s2 w2) fun w3 => k (put 13 (put 13 (put 13 (put 13 (put 13 e (some 8) s) (some 9) x) (some 10) s1) (some 11) s2) none undef) w3))
    (uS : P.underlying tS = some (.slice tV)) (T : SlT P tS tV es bytes) (hS : nN P tS = true) (hb : N * bytes ≤ 140737488355328) (fb : ∀ x, dx P tV 1 [(0, .agg (fv x).toArray)] = some (fv x).toArray) (z : Value) (hz : bO P tV = some z) (hzc : z.cells.size = es)
    {xs : List ν} {x : ν} {L' : List HP} {W : World} (hl : xs.length < N)
    (h : Sat w0 (JA fv es tS tV l D Bs (iK fn a.tmps (.region i2 opsA false) (.block 1 (.region i3 opsB false)) D) xs :: L') W) :
    YieldAt Fence.wide n P l #[.agg (fv x).toArray] W fun e W' => e = .returned (.bool true) ∧ Sat w0 (JA fv es tS tV l D Bs (iK fn a.tmps (.region i2 opsA false) (.block 1 (.region i3 opsB false)) D) (xs ++ [x]) :: L') W' := by
  replace h := oq.1 h
  obtain ⟨sv, h⟩ := h
  have hry := run_yield (P := P) (args := #[.agg (fv x).toArray]) h.blk rfl
  refine ⟨fn, a.tmps.setIfInBounds 7 (.agg (fv x).toArray), .region i2 opsA false, .block 1 (.region i3 opsB false), by simpa [iK] using hry, roundIn_of_wpIn trivial ?_⟩
  have hr1 : RelD 13 [] (put 13 e (some 7) (.agg (fv x).toArray)) { tmps := a.tmps.setIfInBounds 7 (.agg (fv x).toArray), defers := [] } := by
    have := hr.put (some 7) (.agg (fv x).toArray)
    exact ⟨this.sz, rfl, this.v⟩
  refine dP (Wid.round l) (k := fun e' w => e' 2 = ptr Bs ∧ ∃ q, e' 5 = ptr q ∧ Sat w0 (Blk l (.loop (iK fn a.tmps (.region i2 opsA false) (.block 1 (.region i3 opsB false)) D)) :: Cl q (fv x).toArray tV :: Blk D (.deferred (some [])) :: Cl Bs #[sv] tS :: LsH fv es tV sv xs :: L') w) hr1 ?_ ?_
  · rw [fA]
    refine nz h hz fun q w h => ?_
    have hlen := C.len x
    have hone := C.one x
    have hst := rR (n := es) h.cl (x := .agg (fv x).toArray) (o := 0) (by simpa [Value.cells] using hlen) (by simpa [Value.cells] using hone) (by omega)
    have hw : wr z.cells 0 (Value.agg (fv x).toArray).cells.toList = (fv x).toArray := by
      apply Array.ext'
      have hc1 : (Value.agg (fv x).toArray).cells = (fv x).toArray := rfl
      rw [ma _ _ _ (by rw [hc1]; simp [hlen, hzc]), hc1]
      simp [hlen, hzc]
    unfold bF
    rw [show put 13 e (some 7) (Value.agg (fv x).toArray) 7 = Value.agg (fv x).toArray from rfl, show st es (ptr q) (.agg (fv x).toArray) w = _ from hst, hw]
    exact ⟨he2, q, rfl, (h.setc _).f1⟩
  rintro e1 w1 a1 hr1 ⟨he2, q, he5, h⟩
  refine ⟨_, run_beginRound h.blk rfl, ?_⟩
  have h2 : Sat w0 (Blk l (.loop { iK fn a.tmps (.region i2 opsA false) (.block 1 (.region i3 opsB false)) D with state := .busy }) :: Cl q (fv x).toArray tV :: Blk D (.deferred (some [])) :: Cl Bs #[sv] tS :: LsH fv es tV sv xs :: L') (w1.putObj l (.loop { iK fn a.tmps (.region i2 opsA false) (.block 1 (.region i3 opsB false)) D with state := .busy })) := h.set _
  generalize w1.putObj l (.loop { iK fn a.tmps (.region i2 opsA false) (.block 1 (.region i3 opsB false)) D with state := .busy }) = W2 at h2 ⊢
  refine wpIn_block (dP (Wid.round l) (k := fun e w => ∃ sv', Sat w0 (Blk l (.loop { iK fn a.tmps (.region i2 opsA false) (.block 1 (.region i3 opsB false)) D with state := .busy }) :: Blk D (.deferred (some [])) :: Cl Bs #[sv'] tS :: LsH fv es tV sv' (xs ++ [x]) :: L') w) hr1 ?_ ?_)
  · rw [fB, he2, he5]
    have h3 : Sat w0 (LsH fv es tV sv xs :: Cl Bs #[sv] tS :: Cl q (fv x).toArray tV :: Blk l (.loop { iK fn a.tmps (.region i2 opsA false) (.block 1 (.region i3 opsB false)) D with state := .busy }) :: Blk D (.deferred (some [])) :: L') W2 := h2.get (.pick (.there (.there (.there (.there .here)))) (.pick (.there (.there (.there .here))) (.pick (.there .here) (.pick .here (.pick .here .done)))))
    have e1 : ld1 (ptr Bs) W2 = some sv := by
      have := cell_of h3.f1.cl (i := 0)
      simp only [ld1, ptr]; rw [this]; rfl
    have e2 : ldN es (ptr q) W2 = some (.agg (fv x).toArray) := by
      have hq := (h3.perm (List.Perm.trans (List.Perm.swap _ _ _) ((List.Perm.swap _ _ _).cons _)) |>.f1).cl
      have := lX (n := es) (o := 0) hq (by simp [C.len x])
      rw [show ldN es (ptr q) W2 = _ from this]
      simp [← C.len x]
    refine ax e1 ?_
    refine ax e2 ?_
    refine jQ (x := x) C h3 uS (fb x) rfl fun s1 w h => ?_
    refine fI (l := xs) (m := [x]) C h.f1 T hS (dw h) (by
      have h1 : xs.length + [x].length ≤ N := by simp; omega
      exact Nat.le_trans (Nat.mul_le_mul_right _ h1) hb) fun s2 w h => ?_
    have := fT h
    show bF (st 1 (.pointer (some ⟨Bs, 0, none⟩)) s2 w) _
    refine RL h fun _ h => ?_
    exact ⟨s2, h.get (.pick (.there (.there (.there (.there .here)))) (.pick (.there (.there (.there (.there .here)))) (.pick (.there (.there .here)) (.pick .here (.skip (.skip .done))))))⟩
  · rintro e2 w2 a2 hr2 ⟨sv', h⟩
    simp only [Exit.inBlock, roundPost]
    refine ⟨_, _, run_endRound none h.blk, rfl, oq.2 ⟨sv', ?_⟩⟩
    exact h.set _
theorem DK {κ : Type} {ek : κ → Value} {ev : ν → Value} {m : List (κ × ν)} {mv : Value} {fnF : Func} {f g es bx bytes : Nat} {tS tV mt : TypeId} {i0 i1 i2 i3 i4 : Nat} {ops0 ops1 opsA opsB ops4 : Array Oper} (C : Cod fv es) (hf : P.funcs[f]? = some fnF) (hres : fnF.results = #[.tmp 4]) (hnt : fnF.ntmps = 13)
    (hb : fnF.body = some (.seq (.region i0 ops0 false) (.seq (.seq (.region i1 ops1 false) (.block 0 (.rangeFunc (.tmp 6) #[7] (.region i2 opsA false) (.block 1 (.region i3 opsB false))))) (.seq (.region i4 ops4 false) .ret))))
    (f0 : ∀ e w k, fP P nc ops0 13 ops0.toList e w k = (bT tS (e 0) w fun p w1 => k (put 13 (put 13 e (some 2) p) (some 4) (.slice none 0 0)) w1))
    (f1 : ∀ e w k, fP P nc ops1 13 ops1.toList e w k = k (put 13 e (some 6) (e 1)) w)
    (fA : ∀ e w k, fP P nc opsA 13 opsA.toList e w k = (aY P tV w fun p w1 => bF (st es p (e 7) w1) fun w2 => k (put 13 (put 13 e (some 5) p) none undef) w2))
    (fB : ∀ e w k, fP P nc opsB 13 opsB.toList e w k = (aa (ld1 (e 2) w) fun s => aa (ldN es (e 5) w) fun x => aB P tS 1 [(0, x)] w fun s1 w1 => aJ P tS tS s s1 w1 fun s2 w2 => bF (st 1 (e 2) s2 w2) fun w3 => k (put 13 (put 13 (put 13 (put 13 (put 13 e (some 8) s) (some 9) x) (some 10) s1) (some 11) s2) none undef) w3))
    (f4 : ∀ e w k, fP P nc ops4 13 ops4.toList e w k = (aa (ld1 (e 2) w) fun s => k (put 13 (put 13 e (some 12) s) (some 4) s) w))
    (uS : P.underlying tS = some (.slice tV)) (T : SlT P tS tV es bytes) (hS : nN P tS = true) (hbd : m.length * bytes ≤ 140737488355328) (fb : ∀ x, dx P tV 1 [(0, .agg (fv x).toArray)] = some (fv x).toArray) (z : Value) (hz : bO P tV = some z) (hzc : z.cells.size = es)
    (eg : ∀ args w, (callFunc g args).run P w = .ok (.enter g args) w) (hev : ∀ x, ev x = .agg (fv x).toArray)
    (hI : ∀ (l : Nat) (J : List ν → HP) (W : World) (L' : List HP), (∀ xs x (L'' : List HP) W, xs.length < m.length → Sat w0 (J xs :: L'') W → YieldAt Fence.wide 0 P l #[ev x] W fun e W' => e = .returned (.bool true) ∧ Sat w0 (J (xs ++ [x]) :: L'') W') →
      Sat w0 (J [] :: Cl bx #[mv] mt :: bS ek ev mv m :: L') W → Calls P g #[.func (.yield l) #[] #[], ptr bx] W fun e W' => (∃ v, e = .returned v) ∧ ∃ xs, xs.Perm (m.map Prod.snd) ∧ Sat w0 (J xs :: Cl bx #[mv] mt :: bS ek ev mv m :: L') W')
    (h : Sat w0 (Cl bx #[mv] mt :: bS ek ev mv m :: L) w) :
    Calls P f #[.slice none 0 0, .func (.func g) #[] #[ptr bx]] w fun e w' => ∃ v, e = .returned v ∧ ∃ xs : List ν, xs.Perm (m.map Prod.snd) ∧ Sat w0 (LsH fv es tV v xs :: Cl bx #[mv] mt :: bS ek ev mv m :: L) w' := by
  refine callsIn_wide.1 (callsIn_of_wp_marks (n := 2) hf hb trivial ?_)
  have hr0 := rW (args := #[.slice none 0 0, .func (.func g) #[] #[ptr bx]]) (nt := fnF.ntmps) (by rw [hnt]; simp)
  generalize ({ tmps := #[.slice none 0 0, .func (.func g) #[] #[ptr bx]] ++ Array.replicate (fnF.ntmps - (#[.slice none 0 0, .func (.func g) #[] #[ptr bx]] : Array Value).size) undef, defers := [] } : Act) = a0 at hr0 ⊢
  rw [hnt] at hr0
  refine wpIn_seq (dP Wid.wide (k := fun e w => e 1 = .func (.func g) #[] #[ptr bx] ∧ ∃ Bs, e 2 = ptr Bs ∧ Sat w0 (Cl Bs #[.slice none 0 0] tS :: Cl bx #[mv] mt :: bS ek ev mv m :: L) w) hr0 ?_ ?_)
  · rw [f0]
    exact gB h fun p w h => ⟨rfl, p, rfl, h⟩
  rintro e w a hr ⟨he1, Bs, he2, h⟩
  refine wpIn_seq (wpIn_seq (dP Wid.wide (k := fun e w => e 6 = .func (.func g) #[] #[ptr bx] ∧ e 2 = ptr Bs ∧ Sat w0 (Cl Bs #[.slice none 0 0] tS :: Cl bx #[mv] mt :: bS ek ev mv m :: L) w) hr ?_ ?_))
  · rw [f1]
    exact ⟨he1, he2, h⟩
  clear hr he1 he2 h
  rintro e w a hr ⟨he6, he2, h⟩
  refine wpIn_block (wpIn_rangeFunc ?_)
  intro fn _
  have hev6 : a.eval (.tmp 6) = .func (.func g) #[] #[ptr bx] := (gG fun t _ => hr.v t).trans he6
  have h1 := (h.alloc (.deferred (some []))).alloc (.loop (iK fn a.tmps (.region i2 opsA false) (.block 1 (.region i3 opsB false)) w.heap.size))
  rw [show (w.alloc (.deferred (some []))).heap.size = w.heap.size + 1 from by simp] at h1
  generalize hD : w.heap.size = D at h1
  obtain ⟨W1, hW1⟩ : ∃ W1, (w.alloc (.deferred (some []))).alloc (.loop (iK fn a.tmps (.region i2 opsA false) (.block 1 (.region i3 opsB false)) D)) = W1 := ⟨_, rfl⟩
  rw [hW1] at h1
  refine ⟨D + 1, [{ target := .collected D, args := #[] }], W1, { target := .fn (.func g) #[ptr bx], args := #[.func (.yield (D + 1)) #[] #[]] }, W1, g, #[.func (.yield (D + 1)) #[] #[], ptr bx], W1, ?_, ?_, fun _ _ => trivial, ?_, fun _ => by omega, ?_⟩
  · rw [← hW1, ← hD]; exact run_enterLoop_outer fn a.tmps #[7] _ _
  · have key : ∀ ρ : Operand → Value, ρ (.tmp 6) = .func (.func g) #[] #[ptr bx] → (∀ v, ρ (.const v) = v) → (resolve ρ (rangeCall (.tmp 6) (D + 1)) 0).run P W1 = .ok { target := .fn (.func g) #[ptr bx], args := #[.func (.yield (D + 1)) #[] #[]] } W1 := by
      intro ρ h1 h2
      simp [resolve, rangeCall, Deferred.ofValue, h1, h2]
    exact key _ hev6 fun _ => rfl
  · simp [invoke, eg]
  · refine callsIn_wide.2 ((hI (D + 1) (JA fv es tS tV (D + 1) D Bs (iK fn a.tmps (.region i2 opsA false) (.block 1 (.region i3 opsB false)) D)) W1 L ?_ ?_).mono ?_)
    · intro xs x L'' W hl hs
      rw [hev x]
      exact yieldA (N := m.length) C hr he2 fA fB uS T hS hbd fb z hz hzc hl hs
    · refine oq.2 ⟨.slice none 0 0, ?_⟩
      have h2 := yQ (f := fv) (es := es) (ty := tV) h1
      exact h2.get (.pick (.there .here) (.pick (.there .here) (.pick (.there .here) (.pick .here .done))))
    · rintro e' W2 ⟨⟨v, rfl⟩, xs, hp, hs⟩
      replace hs := oq.1 hs
      obtain ⟨sv, hs⟩ := hs
      refine ⟨_, _, run_endLoop hs.blk (by simp [iK]), ?_⟩
      have hs2 : Sat w0 (Blk (D + 1) _ :: Blk D (.deferred (some [])) :: Cl Bs #[sv] tS :: LsH fv es tV sv xs :: Cl bx #[mv] mt :: bS ek ev mv m :: L) (W2.putObj (D + 1) (.loop { iK fn a.tmps (.region i2 opsA false) (.block 1 (.region i3 opsB false)) D with state := .exhausted })) := hs.set _
      generalize W2.putObj (D + 1) (.loop { iK fn a.tmps (.region i2 opsA false) (.block 1 (.region i3 opsB false)) D with state := .exhausted }) = W3 at hs2 ⊢
      show Exit.inBlock 0 _ Exit.normal _ W3
      simp only [Exit.inBlock, Exit.then]
      have hrD : RelD 13 [{ target := .collected D, args := #[] }] e { a with defers := [{ target := .collected D, args := #[] }] ++ a.defers } := ⟨hr.sz, by simp [hr.df], hr.v⟩
      have hs3 : Sat w0 (Cl Bs #[sv] tS :: Blk D (.deferred (some [])) :: LsH fv es tV sv xs :: Cl bx #[mv] mt :: bS ek ev mv m :: L) W3 := hs2.get (.pick (.there (.there .here)) (.pick (.there .here) (.skip .done)))
      refine wpIn_seq (dP Wid.wide (k := fun e w => e 4 = sv ∧ Sat w0 (Cl Bs #[sv] tS :: Blk D (.deferred (some [])) :: LsH fv es tV sv xs :: Cl bx #[mv] mt :: bS ek ev mv m :: L) w) hrD ?_ ?_)
      · rw [f4, he2]
        have e1 : ld1 (ptr Bs) W3 = some sv := by
          have := cell_of hs3.cl (i := 0)
          simp only [ld1, ptr]; rw [this]; rfl
        exact ax e1 ⟨rfl, hs3⟩
      · rintro e3 w3 a3 hr3 ⟨he4, h3⟩
        refine wpIn_ret ?_
        show LeavesInM _ _ _ _ _ _ a3.defers .returning w3
        rw [hr3.df]
        have hb3 := h3.f1.blk
        refine ⟨by simp, .inl ⟨_, _, rfl, run_takeDeferred hb3, ?_⟩⟩
        have h4 : Sat w0 (Blk D (.deferred none) :: Cl Bs #[sv] tS :: LsH fv es tV sv xs :: Cl bx #[mv] mt :: bS ek ev mv m :: L) (w3.putObj D (.deferred none)) := h3.f1.set _
        have e4 : a3.tmps.getD 4 undef = sv := (hr3.v 4).trans he4
        exact ⟨_, results_tmp hres _ _ _, _, rfl, xs, hp, by rw [e4]; exact h4.drop.drop⟩
end
def Z5 (P : Program) (tV g es bytes : Nat) : FnT := fun args w K => ∃ (κ ν : Type) (ek : κ → Value) (ev : ν → Value) (fv : ν → List Value) (m : List (κ × ν)) (mv : Value) (bx : Nat) (mt : TypeId) (w0 : World) (L : List HP),
  args = [.slice none 0 0, .func (.func g) #[] #[ptr bx]] ∧ Cod fv es ∧ (∀ x, ev x = .agg (fv x).toArray) ∧ (∀ x, dx P tV 1 [(0, .agg (fv x).toArray)] = some (fv x).toArray) ∧ m.length * bytes ≤ 140737488355328 ∧
  Sat w0 (Cl bx #[mv] mt :: bS ek ev mv m :: L) w ∧ ∀ l v w', l.Perm (m.map Prod.snd) → Sat w0 (LsH fv es tV v l :: Cl bx #[mv] mt :: bS ek ev mv m :: L) w' → K v w'
theorem SS {P : Program} {tV g es bytes : Nat} {κ ν : Type} {ek : κ → Value} {ev : ν → Value} {fv : ν → List Value} {m : List (κ × ν)} {mv : Value} {bx : Nat} {mt : TypeId} {w0 w : World} {L : List HP} {K : Value → World → Prop} (C : Cod fv es) (hev : ∀ x, ev x = .agg (fv x).toArray) (hfb : ∀ x, dx P tV 1 [(0, .agg (fv x).toArray)] = some (fv x).toArray)
    (hbd : m.length * bytes ≤ 140737488355328) (h : Sat w0 (Cl bx #[mv] mt :: bS ek ev mv m :: L) w) (hK : ∀ l v w', l.Perm (m.map Prod.snd) → Sat w0 (LsH fv es tV v l :: Cl bx #[mv] mt :: bS ek ev mv m :: L) w' → K v w') : ai (Z5 P tV g es bytes) [.slice none 0 0, .func (.func g) #[] #[ptr bx]] w K :=
  aj ⟨κ, ν, ek, ev, fv, m, mv, bx, mt, w0, L, rfl, C, hev, hfb, hbd, h, hK⟩
def sA : Code → Code | .seq a _ => a | c => c
def sB : Code → Code | .seq _ b => b | c => c
def rfA : Code → Code | .rangeFunc _ _ a _ => a | c => c
def rfB : Code → Code | .rangeFunc _ _ _ b => b | c => c
def opsOf : Code → Array Oper | .region _ ops _ => ops | _ => #[]
def opAt (a : Array Oper) (i : Nat) : Oper := (a[i]?).getD { dst := none, op := .move (.tmp 0), type := 0, pos := "", after := #[], guard := none }
end Go.Sx

/- Ty -/
namespace Go.Proofs.Gong
open Go Go.Sx Go.Proofs
set_option linter.all false
set_option maxRecDepth 100000
set_option maxHeartbeats 4000000
variable {kn kr : ET} {ke : JT}
theorem mixed : Tryz.prog.follows .mixedOrders = true := by kernel_rfl
theorem z3 : bO Tryz.prog 3 = some (.int .i64 0) := by kernel_rfl
theorem u22 : Tryz.prog.underlying 22 = some (.slice 48) := by kernel_rfl
theorem Qj : nN Tryz.prog 22 = true := by kernel_rfl
theorem Oj : SlT Tryz.prog 22 48 11 128 := .of (by kernel_rfl) (by kernel_rfl) (by kernel_rfl) (by omega) (by omega)
theorem u23 : Tryz.prog.underlying 23 = some (.slice 3) := by kernel_rfl
theorem ss23 : nN Tryz.prog 23 = true := by kernel_rfl
theorem sl23 : SlT Tryz.prog 23 3 1 8 := .of (by kernel_rfl) (by kernel_rfl) (by kernel_rfl) (by omega) (by omega)
theorem u32 : Tryz.prog.underlying 32 = some (.slice 9) := by kernel_rfl
theorem ss32 : nN Tryz.prog 32 = true := by kernel_rfl
theorem Qn : SlT Tryz.prog 32 9 1 16 := .of (by kernel_rfl) (by kernel_rfl) (by kernel_rfl) (by omega) (by omega)
theorem z48 : bO Tryz.prog 48 = some (.agg #[(.int .i64 0), (.string ⟨#[]⟩), (.string ⟨#[]⟩), (.string ⟨#[]⟩), (.int .i64 0), (.string ⟨#[]⟩), (.int .i64 0), (.int .i64 0), (.int .i64 0), (.bool false), (.string ⟨#[]⟩)]) := by kernel_rfl
theorem z55 : bO Tryz.prog 55 = some (.agg #[(.slice none 0 0), (.slice none 0 0), (.slice none 0 0), (.int .i64 0), (.int .i64 0), (.int .i64 0), (.int .i64 0), (.int .i64 0), (.int .i64 0), (.slice none 0 0)]) := by kernel_rfl
theorem z87 : bO Tryz.prog 87 = some (.agg #[.nilFunc]) := by kernel_rfl
theorem FY : Tryz.prog.underlying 110 = some (.map 3 48) := by kernel_rfl
theorem Qc : Tryz.prog.underlying 111 = some (.map 117 3) := by kernel_rfl
theorem z117 : bO Tryz.prog 117 = some (.agg #[(.string ⟨#[]⟩), (.string ⟨#[]⟩), (.string ⟨#[]⟩)]) := by kernel_rfl
theorem um120 : Tryz.prog.underlying 120 = some (.map 3 159) := by kernel_rfl
theorem Qe : Tryz.prog.underlying 126 = some (.slice 130) := by kernel_rfl
theorem Bz : nN Tryz.prog 126 = true := by kernel_rfl
theorem BC : SlT Tryz.prog 126 130 15 160 := .of (by kernel_rfl) (by kernel_rfl) (by kernel_rfl) (by omega) (by omega)
theorem u132 : Tryz.prog.underlying 132 = some (.slice 166) := by kernel_rfl
theorem sl132 : SlT Tryz.prog 132 166 1 8 := .of (by kernel_rfl) (by kernel_rfl) (by kernel_rfl) (by omega) (by omega)
theorem Jv : bO Tryz.prog 135 = some (.agg #[(.slice none 0 0), .nilFunc, (.int .i64 0)]) := by kernel_rfl
theorem N9 : Tryz.prog.underlying 181 = some (.slice 5) := by kernel_rfl
theorem Zv : SlT Tryz.prog 181 5 1 1 := .of (by kernel_rfl) (by kernel_rfl) (by kernel_rfl) (by omega) (by omega)
theorem z212 : bO Tryz.prog 212 = some (.pointer none) := by kernel_rfl
theorem u272 : Tryz.prog.underlying 272 = some (.slice 277) := by kernel_rfl
theorem Zu : SlT Tryz.prog 272 277 4 16 := .of (by kernel_rfl) (by kernel_rfl) (by kernel_rfl) (by omega) (by omega)
theorem z293 : bO Tryz.prog 293 = some (.agg #[(.pointer none), (.slice none 0 0)]) := by kernel_rfl
theorem u297 : Tryz.prog.underlying 297 = some (.slice 32) := by kernel_rfl
theorem z342 : bO Tryz.prog 342 = some (.agg #[(.int .i64 0), (.int .i64 0), (.int .i64 0), (.int .i64 0), (.int .i64 0), (.int .i64 0)]) := by kernel_rfl
end Go.Proofs.Gong

/- Fb -/
namespace Go.Proofs.Gong
open Go Go.Sx Go.Proofs
set_option linter.all false
set_option maxRecDepth 100000
set_option maxHeartbeats 4000000
variable {kn kr : ET} {ke : JT}
theorem KL (x0 : ByteArray) (x1 : ByteArray) (x2 : Int) : aD Tryz.prog 46 [(0, (.string x0)), (1, (.string x1)), (3, (.int .i64 x2))] = some (.agg #[.string x0, .string x1, (.string ⟨#[]⟩), .int .i64 x2, (.string ⟨#[]⟩)]) := by kernel_rfl
theorem KJ (x0 : Int) (x2 : ByteArray) (x3 : ByteArray) (x4 : ByteArray) (x5 : Int) (x6 : ByteArray) (x7 : Int) : aD Tryz.prog 48 [(0, (.int .i64 x0)), (1, (.agg #[.string x2, .string x3, .string x4, .int .i64 x5, .string x6])), (2, (.int .i64 x7))] = some (.agg #[.int .i64 x0, .string x2, .string x3, .string x4, .int .i64 x5, .string x6, .int .i64 x7, (.int .i64 0), (.int .i64 0), (.bool false), (.string ⟨#[]⟩)]) := by kernel_rfl
theorem fb53  : aD Tryz.prog 53 [] = some (.agg #[(.slice none 0 0), (.slice none 0 0), (.slice none 0 0)]) := by kernel_rfl
theorem ze (x0 : Int) (x1 : Int) (x2 : Int) (x3 : Int) (x4 : Int) : aD Tryz.prog 55 [(1, (.int .i64 x0)), (2, (.int .i64 x1)), (4, (.int .i64 x2)), (5, (.int .i64 x3)), (6, (.int .i64 x4))] = some (.agg #[(.slice none 0 0), (.slice none 0 0), (.slice none 0 0), .int .i64 x0, .int .i64 x1, (.int .i64 0), .int .i64 x2, .int .i64 x3, .int .i64 x4, (.slice none 0 0)]) := by kernel_rfl
theorem u6 (x1 : Option Addr) (n1 c1 : Nat) (x2 : Option Addr) (n2 c2 : Nat) (x3 : Option Addr) (n3 c3 : Nat) (x4 : Int) (x5 : Int) (x6 : Int) (x7 : Int) (x8 : Int) : aD Tryz.prog 61 [(0, (.agg #[.slice x1 n1 c1, .slice x2 n2 c2, .slice x3 n3 c3])), (1, (.int .i64 x4)), (2, (.int .i64 x5)), (4, (.int .i64 x6)), (5, (.int .i64 x7)), (6, (.int .i64 x8))] = some (.agg #[.slice x1 n1 c1, .slice x2 n2 c2, .slice x3 n3 c3, .int .i64 x4, .int .i64 x5, (.int .i64 0), .int .i64 x6, .int .i64 x7, .int .i64 x8, (.slice none 0 0)]) := by kernel_rfl
theorem Dv (x1 : Option Addr) (n1 c1 : Nat) (x2 : Option Addr) (n2 c2 : Nat) (x3 : Option Addr) (n3 c3 : Nat) (x4 : Option Addr) (x5 : Option Addr) (x6 : Int) : aD Tryz.prog 68 [(0, (.agg #[.slice x1 n1 c1, .slice x2 n2 c2, .slice x3 n3 c3])), (1, (.pointer x4)), (2, (.pointer x5)), (3, (.int .i64 x6))] = some (.agg #[.slice x1 n1 c1, .slice x2 n2 c2, .slice x3 n3 c3, .pointer x4, .pointer x5, .int .i64 x6, (.int .i64 0), (.int .i64 0), (.int .i64 0), (.int .i64 0), (.int .i64 0), (.int .i64 0), (.int .i64 0), (.int .i64 0), (.slice none 0 0)]) := by kernel_rfl
theorem Sk (x0 : Option Addr) (x1 : Option Addr) : aD Tryz.prog 74 [(0, (.pointer x0)), (1, (.pointer x1))] = some (.agg #[.pointer x0, .pointer x1, (.int .i64 0), (.int .i64 0), (.int .i64 0), (.int .i64 0), (.int .i64 0), (.int .i64 0), (.int .i64 0)]) := by kernel_rfl
theorem Sj (x0 : Option Addr) (x1 : Option Addr) : aD Tryz.prog 81 [(0, (.pointer x0)), (1, (.pointer x1))] = some (.agg #[.pointer x0, .pointer x1, (.int .i64 0), (.int .i64 0), (.int .i64 0), (.int .i64 0), (.int .i64 0), (.int .i64 0), (.int .i64 0)]) := by kernel_rfl
theorem Ba (x0 : Option Addr) (n0 c0 : Nat) (x1 : Option Addr) (x2 : Option Addr) (x3 : Int) : aD Tryz.prog 109 [(0, (.slice x0 n0 c0)), (1, (.pointer x1)), (2, (.pointer x2)), (3, (.int .i64 x3))] = some (.agg #[.slice x0 n0 c0, .pointer x1, .pointer x2, .int .i64 x3, (.int .i64 0), (.int .i64 0), (.int .i64 0), (.int .i64 0), (.int .i64 0), (.int .i64 0), (.int .i64 0), (.int .i64 0)]) := by kernel_rfl
theorem Ik (x0 : Int) (x1 : Int) (x2 : Int) : aD Tryz.prog 128 [(0, (.int .i64 x0)), (1, (.int .i64 x1)), (2, (.int .i64 x2))] = some (.agg #[.int .i64 x0, .int .i64 x1, .int .i64 x2, (.int .i64 0), (.int .i64 0), (.int .i64 0), (.slice none 0 0)]) := by kernel_rfl
theorem Nk (x0 : Int) : aD Tryz.prog 135 [(2, (.int .i64 x0))] = some (.agg #[(.slice none 0 0), .nilFunc, .int .i64 x0]) := by kernel_rfl
theorem Pt (x0 : Int) (x1 : Int) : aD Tryz.prog 222 [(0, (.int .i64 x0)), (1, (.int .i64 x1))] = some (.agg #[.int .i64 x0, .int .i64 x1, (.slice none 0 0)]) := by kernel_rfl
theorem X4 (x0 : Option Addr) : aD Tryz.prog 245 [(0, (.pointer x0))] = some (.agg #[.pointer x0]) := by kernel_rfl
theorem wY (x1 : Option Addr) (x2 : Int) (x3 : Int) (x4 : Option Nat) (x5 : Option Nat) : aD Tryz.prog 249 [(0, (.agg #[.pointer x1])), (1, (.int .i64 x2)), (2, (.int .i64 x3)), (3, (.map x4)), (4, (.map x5))] = some (.agg #[.pointer x1, .int .i64 x2, .int .i64 x3, .map x4, .map x5]) := by kernel_rfl
theorem X3 (x0 : ByteArray) : aD Tryz.prog 271 [(0, (.string x0))] = some (.agg #[.string x0, (.bool false)]) := by kernel_rfl
theorem X0 (x0 : ByteArray) : aD Tryz.prog 274 [(0, (.string x0))] = some (.agg #[.string x0, (.slice none 0 0)]) := by kernel_rfl
theorem Dw (x0 : Option Addr) : aD Tryz.prog 277 [(0, (.pointer x0))] = some (.agg #[.pointer x0, (.bool false), (.bool false), (.int .u8 0)]) := by kernel_rfl
theorem Ij (x0 : Option Addr) (x1 : Bool) (x2 : Int) : aD Tryz.prog 277 [(0, (.pointer x0)), (2, (.bool x1)), (3, (.int .u8 x2))] = some (.agg #[.pointer x0, (.bool false), .bool x1, .int .u8 x2]) := by kernel_rfl
theorem XZ (x0 : Bool) : aD Tryz.prog 277 [(1, (.bool x0))] = some (.agg #[(.pointer none), .bool x0, (.bool false), (.int .u8 0)]) := by kernel_rfl
theorem sS (x0 : Int) (x1 : Int) (x2 : Int) (x3 : Int) (x4 : Int) (x5 : Int) : aD Tryz.prog 342 [(0, (.int .i64 x0)), (1, (.int .i64 x1)), (2, (.int .i64 x2)), (3, (.int .i64 x3)), (4, (.int .i64 x4)), (5, (.int .i64 x5))] = some (.agg #[.int .i64 x0, .int .i64 x1, .int .i64 x2, .int .i64 x3, .int .i64 x4, .int .i64 x5]) := by kernel_rfl
end Go.Proofs.Gong

/- Book -/
namespace Go.Proofs.Gong
open Go Go.Sx Go.Proofs
set_option linter.all false
set_option maxRecDepth 100000
set_option maxHeartbeats 4000000
variable {kn kr : ET} {ke : JT}
def T8 : List (Nat × FnT) := []
def F8 (x0 x1 : Value) (w : World) (K : V1) : Prop :=
aa (gI x0 x1) fun v1 =>
aa (bH v1 x1) fun v2 =>
aa (gI v2 x1) fun v3 =>
K v3 w
def G8 : FnT := fun args w K => on2 (fun x0 x1 => F8 x0 x1 w K) args
theorem c8 {x0 x1 : Value} {w : World} {K : V1} (h : F8 x0 x1 w K) : ai G8 [x0, x1] w K := aj (dm (p := fun x0 x1 => F8 x0 x1 w K) h)
theorem ok8 : OkF Tryz.prog 8 G8 := by
  refine aO (aN (l := T8) trivial) mixed (n := fuel) Tryz.func8 Tryz.call8 fun args w K h => ?_
  obtain ⟨x0, x1, rfl, hh⟩ := dn h
  exact az (c := ah Tryz.f8) (by kernel_rfl) (by kernel_rfl) (Eq.mp (by kernel_rfl) hh)
def T62 : List (Nat × FnT) := []
def F62 (x0 : Value) (w : World) (K : V1) : Prop :=
aa (bGe x0 (.int .i64 0)) fun v1 =>
aS (gd true v1) x0 fun v2 =>
Sx.stepG (gd true v1) (bLe v2 (.int .i64 2305843009213693952)) fun v3 =>
aa (aG v1 v3 (.bool false)) fun v4 =>
K v4 w
def G62 : FnT := fun args w K => on1 (fun x0 => F62 x0 w K) args
theorem c62 {x0 : Value} {w : World} {K : V1} (h : F62 x0 w K) : ai G62 [x0] w K := aj (bL (p := fun x0 => F62 x0 w K) h)
theorem ok62 : OkF Tryz.prog 62 G62 := by
  refine aO (aN (l := T62) trivial) mixed (n := fuel) Tryz.func62 Tryz.call62 fun args w K h => ?_
  obtain ⟨x0, rfl, hh⟩ := bJ h
  exact az (c := ah Tryz.f62) (by kernel_rfl) (by kernel_rfl) (Eq.mp (by kernel_rfl) hh)
end Go.Proofs.Gong

/- Norm -/
namespace Go.Proofs.Gong
open Go Go.Sx Go.Proofs
set_option linter.all false
set_option maxRecDepth 100000
set_option maxHeartbeats 4000000
variable {kn kr : ET} {ke : JT}
def T257 : List (Nat × FnT) := []
def YH (x0 : Value) (w : World) (K : V1) : Prop :=
aa (bLt x0 (.int .u8 128)) fun v1 =>
ifB v1 (
aa (iG .i64 x0) fun v2 =>
K (.tuple #[(.int .i64 1), v2]) w) (
aa (rf x0 (.int .u64 5)) fun v3 =>
aa (bEq Tryz.prog 5 (.tmp 11) (.const (.int .u8 6)) v3 (.int .u8 6)) fun v4 =>
ifB v4 (
aa (l6 .and x0 (.int .u8 31)) fun v5 =>
aa (iG .i64 v5) fun v6 =>
K (.tuple #[(.int .i64 2), v6]) w) (
aa (rf x0 (.int .u64 4)) fun v7 =>
aa (bEq Tryz.prog 5 (.tmp 18) (.const (.int .u8 14)) v7 (.int .u8 14)) fun v8 =>
ifB v8 (
aa (l6 .and x0 (.int .u8 15)) fun v9 =>
aa (iG .i64 v9) fun v10 =>
K (.tuple #[(.int .i64 3), v10]) w) (
aa (rf x0 (.int .u64 3)) fun v11 =>
aa (bEq Tryz.prog 5 (.tmp 25) (.const (.int .u8 30)) v11 (.int .u8 30)) fun v12 =>
ifB v12 (
aa (l6 .and x0 (.int .u8 7)) fun v13 =>
aa (iG .i64 v13) fun v14 =>
K (.tuple #[(.int .i64 4), v14]) w) (
K (.tuple #[(.int .i64 0), (.int .i64 0)]) w))))
def Tq : FnT := fun args w K => on1 (fun x0 => YH x0 w K) args
theorem c257 {x0 : Value} {w : World} {K : V1} (h : YH x0 w K) : ai Tq [x0] w K := aj (bL (p := fun x0 => YH x0 w K) h)
theorem ok257 : OkF Tryz.prog 257 Tq := by
  refine aO (aN (l := T257) trivial) mixed (n := fuel) Tryz.func257 Tryz.call257 fun args w K h => ?_
  obtain ⟨x0, rfl, hh⟩ := bJ h
  exact az (c := ah Tryz.f257) (by kernel_rfl) (by kernel_rfl) (Eq.mp (by kernel_rfl) hh)
def T258 : List (Nat × FnT) := []
def YG (x0 : Value) (w : World) (K : V1) : Prop :=
aa (bGe x0 (.int .i64 0)) fun v1 =>
aS (gd true v1) x0 fun v2 =>
Sx.stepG (gd true v1) (bLe v2 (.int .i64 1114111)) fun v3 =>
aa (aG v1 v3 (.bool false)) fun v4 =>
aS (gd true v4) x0 fun v5 =>
Sx.stepG (gd true v4) (bLt v5 (.int .i64 55296)) fun v6 =>
aS (gd true v4) v6 fun v7 =>
aS (gd false v7) x0 fun v8 =>
Sx.stepG (gd false v7) (bGt v8 (.int .i64 57343)) fun v9 =>
Sx.stepG (gd true v4) (aG v7 (.bool true) v9) fun v10 =>
aa (aG v4 v10 (.bool false)) fun v11 =>
K v11 w
def Tp : FnT := fun args w K => on1 (fun x0 => YG x0 w K) args
theorem c258 {x0 : Value} {w : World} {K : V1} (h : YG x0 w K) : ai Tp [x0] w K := aj (bL (p := fun x0 => YG x0 w K) h)
theorem ok258 : OkF Tryz.prog 258 Tp := by
  refine aO (aN (l := T258) trivial) mixed (n := fuel) Tryz.func258 Tryz.call258 fun args w K h => ?_
  obtain ⟨x0, rfl, hh⟩ := bJ h
  exact az (c := ah Tryz.f258) (by kernel_rfl) (by kernel_rfl) (Eq.mp (by kernel_rfl) hh)
def T259 : List (Nat × FnT) := []
def YF (x0 : Value) (w : World) (K : V1) : Prop :=
aa (bEq Tryz.prog 3 (.tmp 3) (.const (.int .i64 2)) x0 (.int .i64 2)) fun v1 =>
ifB v1 (
K (.int .i64 128) w) (
aa (bEq Tryz.prog 3 (.tmp 3) (.const (.int .i64 3)) x0 (.int .i64 3)) fun v2 =>
ifB v2 (
K (.int .i64 2048) w) (
aa (bEq Tryz.prog 3 (.tmp 3) (.const (.int .i64 4)) x0 (.int .i64 4)) fun v3 =>
ifB v3 (
K (.int .i64 65536) w) (
K (.int .i64 0) w)))
def Tn : FnT := fun args w K => on1 (fun x0 => YF x0 w K) args
theorem c259 {x0 : Value} {w : World} {K : V1} (h : YF x0 w K) : ai Tn [x0] w K := aj (bL (p := fun x0 => YF x0 w K) h)
theorem ok259 : OkF Tryz.prog 259 Tn := by
  refine aO (aN (l := T259) trivial) mixed (n := fuel) Tryz.func259 Tryz.call259 fun args w K h => ?_
  obtain ⟨x0, rfl, hh⟩ := bJ h
  exact az (c := ah Tryz.f259) (by kernel_rfl) (by kernel_rfl) (Eq.mp (by kernel_rfl) hh)
def Ld : List (Nat × FnT) := [(257, Tq), (258, Tp), (259, Tn)]
def EB (s2 s3 : Value) (w : World) (K : V1) : Prop :=
ai Tp [s2] w fun v2 w1 =>
aa (dN v2) fun v3 =>
aS (gd false v3) s2 fun v4 =>
aS (gd false v3) s3 fun v5 =>
dz (gd false v3) (fun k => ai Tn [v5] w1 k) w1 fun v7 w6 =>
Sx.stepG (gd false v3) (bLt v4 v7) fun v8 =>
aa (aG v3 (.bool true) v8) fun v9 =>
ifB v9 (
K (.tuple #[(.int .i64 0), (.int .i64 0), (.int .i64 40)]) w6) (
K (.tuple #[s2, s3, (.int .i64 0)]) w6)
def rE (s2 s3 : Value) (w : World) (K : V1) : Prop := EB s2 s3 w K
theorem VX {K : V1}
    (hn : HN (fun e w => K (.tuple #[(e 2), (e 3), (e 4)]) w) kn) (hr : HR Tryz.prog [.tmp 2, .tmp 3, .tmp 4] K kr) (he : HE noE ke) :
    ∀ e w, rE (e 2) (e 3) w K → aA Tryz.prog (au Ld) 51 fuel ((flat (ah Tryz.f209)).drop 8) e w kn kr ke := by
  intro e w h
  unfold rE at h
  have e1 : ∀ (_ : Unit), EB (e 2) (e 3) w K = aA Tryz.prog (au Ld) 51 fuel ((flat (ah Tryz.f209)).drop 8) e w (fun e w => K (.tuple #[(e 2), (e 3), (e 4)]) w) (aW Tryz.prog [.tmp 2, .tmp 3, .tmp 4] K) noE := by intro _; kernel_rfl
  exact bQ (Eq.mp (e1 ()) h) hn hr he
def xz (s0 s2 s3 s5 : Value) (w : World) (K : V1) (Y0 : V4) (Y1 : V2) : Prop :=
aa (bLt s5 s3) fun v10 =>
ifB v10 (
aa (dG s0 s5) fun v11 =>
aa (rf v11 (.int .u64 6)) fun v12 =>
aa (bNe Tryz.prog 5 (.tmp 30) (.const (.int .u8 2)) v12 (.int .u8 2)) fun v13 =>
ifB v13 (
K (.tuple #[(.int .i64 0), (.int .i64 0), (.int .i64 40)]) w) (
aa (SL s2 (.int .u64 6)) fun v14 =>
aa (dG s0 s5) fun v15 =>
aa (l6 .and v15 (.int .u8 63)) fun v16 =>
aa (iG .i64 v16) fun v17 =>
aa (l6 .or v14 v17) fun v18 =>
aa (bH s5 (.int .i64 1)) fun v19 =>
Y0 s0 v18 s3 v19 w)) (
Y1 s2 s3 w)
def jT : Nat → Value → Value → Value → Value → World → (V1) → Prop
  | 0, _, _, _, _, _, _ => False
  | n + 1, s0, s2, s3, s5, w, K => xz s0 s2 s3 s5 w K (fun a0 a2 a3 a5 w => jT n a0 a2 a3 a5 w K) (fun a2 a3 w => rE a2 a3 w K)
def zX (s0 s2 s3 s5 : Value) (w : World) (K : V1) : Prop := jT fuel s0 s2 s3 s5 w K
theorem VY {K : V1}
    (hn : HN (fun e w => K (.tuple #[(e 2), (e 3), (e 4)]) w) kn) (hr : HR Tryz.prog [.tmp 2, .tmp 3, .tmp 4] K kr) (he : HE noE ke) :
    ∀ e w, zX (e 0) (e 2) (e 3) (e 5) w K → aA Tryz.prog (au Ld) 51 fuel ((flat (ah Tryz.f209)).drop 7) e w kn kr ke := by
  intro e w h
  unfold zX at h
  refine bM (id := 0) (body := (aU (bi (aV (flat (ah Tryz.f209)) 7)))) (l2 := (flat (ah Tryz.f209)).drop 8) (by kernel_rfl) ?_
  refine bV (FL := fun m e w => jT m (e 0) (e 2) (e 3) (e 5) w K) (fr := aW Tryz.prog [.tmp 2, .tmp 3, .tmp 4] K) (fe := (bB 0 (fun e w => rE (e 2) (e 3) w K) noE)) (fun _ _ h => h) ?_ hr (bD (fun e w h => VX hn hr he e w h) he) fuel e w h
  intro m e w h
  have h : jT (m + 1) (e 0) (e 2) (e 3) (e 5) w K := h
  rw [jT] at h
  have e1 : ∀ (Y0 : V4) (Y1 : V2), xz (e 0) (e 2) (e 3) (e 5) w K Y0 Y1 = aA Tryz.prog (au Ld) 51 fuel (flat (aU (bi (aV (flat (ah Tryz.f209)) 7)))) e w (fun e w => Y0 (e 0) (e 2) (e 3) (e 5) w) (aW Tryz.prog [.tmp 2, .tmp 3, .tmp 4] K) (bB 0 (fun e w => Y1 (e 2) (e 3) w) noE) := by intro Y0 Y1; kernel_rfl
  exact Eq.mp (e1 (fun a0 a2 a3 a5 w => jT m a0 a2 a3 a5 w K) (fun a2 a3 w => rE a2 a3 w K)) h
def EC (s0 : Value) (w : World) (K : V1) (Y0 : V4) : Prop :=
aa (bEq Tryz.prog 9 (.tmp 6) (.const (.string ⟨#[]⟩)) s0 (.string ⟨#[]⟩)) fun v20 =>
ifB v20 (
K (.tuple #[(.int .i64 0), (.int .i64 0), (.int .i64 40)]) w) (
aa (dG s0 (.int .i64 0)) fun v21 =>
ai Tq [v21] w fun v23 w22 =>
aa (aK v23 0) fun v24 =>
aa (aK v23 1) fun v25 =>
aa (bEq Tryz.prog 3 (.tmp 14) (.const (.int .i64 0)) v24 (.int .i64 0)) fun v26 =>
aS (gd false v26) v24 fun v27 =>
aS (gd false v26) s0 fun v28 =>
Sx.stepG (gd false v26) (ik v28) fun v29 =>
Sx.stepG (gd false v26) (bGt v27 v29) fun v30 =>
aa (aG v26 (.bool true) v30) fun v31 =>
ifB v31 (
K (.tuple #[(.int .i64 0), (.int .i64 0), (.int .i64 40)]) w22) (
Y0 s0 v25 v24 (.int .i64 1) w22))
def ED (s0 : Value) (w : World) (K : V1) : Prop := EC s0 w K (fun a0 a2 a3 a5 w => zX a0 a2 a3 a5 w K)
theorem VZ {K : V1}
    (hn : HN (fun e w => K (.tuple #[(e 2), (e 3), (e 4)]) w) kn) (hr : HR Tryz.prog [.tmp 2, .tmp 3, .tmp 4] K kr) (he : HE noE ke) :
    ∀ e w, ED (e 0) w K → aA Tryz.prog (au Ld) 51 fuel ((flat (ah Tryz.f209)).drop 0) e w kn kr ke := by
  intro e w h
  unfold ED at h
  have e1 : ∀ (Y0 : V4), EC (e 0) w K Y0 = aA Tryz.prog (au Ld) 51 fuel (((flat (ah Tryz.f209)).drop 0).take 7) e w (fun e w => Y0 (e 0) (e 2) (e 3) (e 5) w) (aW Tryz.prog [.tmp 2, .tmp 3, .tmp 4] K) noE := by intro Y0; kernel_rfl
  exact seg 7 (Eq.mp (e1 (fun a0 a2 a3 a5 w => zX a0 a2 a3 a5 w K)) h) (fun e w h => VY hn hr he e w h) hr he
def UI (x0 : Value) (w : World) (K : V1) : Prop := ED x0 w K
def TC : FnT := fun args w K => on1 (fun x0 => UI x0 w K) args
theorem c209 {x0 : Value} {w : World} {K : V1} (h : UI x0 w K) : ai TC [x0] w K := aj (bL (p := fun x0 => UI x0 w K) h)
theorem ok209 : OkF Tryz.prog 209 TC := by
  refine aO (aN (l := Ld) ⟨ok257, ok258, ok259, trivial⟩) mixed (n := fuel) Tryz.func209 Tryz.call209 fun args w K h => ?_
  obtain ⟨x0, rfl, hh⟩ := bJ h
  unfold UI at hh
  exact az (c := ah Tryz.f209) (by kernel_rfl) (by kernel_rfl) (VZ (fun _ _ h => h) (fun _ _ h => h) (fun _ _ _ h => h) (dD [x0]) w hh)
def Lf : List (Nat × FnT) := [(209, TC)]
def xJ (s4 : Value) (w : World) (K : V1) : Prop :=
K (.tuple #[s4, (.int .i64 0)]) w
def rH (s4 : Value) (w : World) (K : V1) : Prop := xJ s4 w K
theorem WI {K : V1}
    (hn : HN (fun e w => K (.tuple #[(e 2), (e 3)]) w) kn) (hr : HR Tryz.prog [.tmp 2, .tmp 3] K kr) (he : HE noE ke) :
    ∀ e w, rH (e 4) w K → aA Tryz.prog (au Lf) 27 fuel ((flat (ah Tryz.f160)).drop 3) e w kn kr ke := by
  intro e w h
  unfold rH at h
  have e1 : ∀ (_ : Unit), xJ (e 4) w K = aA Tryz.prog (au Lf) 27 fuel ((flat (ah Tryz.f160)).drop 3) e w (fun e w => K (.tuple #[(e 2), (e 3)]) w) (aW Tryz.prog [.tmp 2, .tmp 3] K) noE := by intro _; kernel_rfl
  exact bQ (Eq.mp (e1 ()) h) hn hr he
def xK (s0 s4 : Value) (w : World) (K : V1) (Y0 : V2) (Y1 : V1) : Prop :=
aa (bNe Tryz.prog 9 (.tmp 8) (.const (.string ⟨#[]⟩)) s0 (.string ⟨#[]⟩)) fun v1 =>
ifB v1 (
ai TC [s0] w fun v3 w2 =>
aa (aK v3 0) fun v4 =>
aa (aK v3 1) fun v5 =>
aa (aK v3 2) fun v6 =>
aa (bNe Tryz.prog 33 (.tmp 16) (.const (.int .i64 0)) v6 (.int .i64 0)) fun v7 =>
ifB v7 (
K (.tuple #[(.slice none 0 0), v6]) w2) (
aB Tryz.prog 23 1 [(0, v4)] w2 fun v9 w8 =>
aJ Tryz.prog 23 23 s4 v9 w8 fun v11 w10 =>
aa (di s0 (some v5) none) fun v12 =>
Y0 v12 v11 w10)) (
Y1 s4 w)
def jZ : Nat → Value → Value → World → (V1) → Prop
  | 0, _, _, _, _ => False
  | n + 1, s0, s4, w, K => xK s0 s4 w K (fun a0 a4 w => jZ n a0 a4 w K) (fun a4 w => rH a4 w K)
def Ah (s0 s4 : Value) (w : World) (K : V1) : Prop := jZ fuel s0 s4 w K
theorem WJ {K : V1}
    (hn : HN (fun e w => K (.tuple #[(e 2), (e 3)]) w) kn) (hr : HR Tryz.prog [.tmp 2, .tmp 3] K kr) (he : HE noE ke) :
    ∀ e w, Ah (e 0) (e 4) w K → aA Tryz.prog (au Lf) 27 fuel ((flat (ah Tryz.f160)).drop 2) e w kn kr ke := by
  intro e w h
  unfold Ah at h
  refine bM (id := 0) (body := (aU (bi (aV (flat (ah Tryz.f160)) 2)))) (l2 := (flat (ah Tryz.f160)).drop 3) (by kernel_rfl) ?_
  refine bV (FL := fun m e w => jZ m (e 0) (e 4) w K) (fr := aW Tryz.prog [.tmp 2, .tmp 3] K) (fe := (bB 0 (fun e w => rH (e 4) w K) noE)) (fun _ _ h => h) ?_ hr (bD (fun e w h => WI hn hr he e w h) he) fuel e w h
  intro m e w h
  have h : jZ (m + 1) (e 0) (e 4) w K := h
  rw [jZ] at h
  have e1 : ∀ (Y0 : V2) (Y1 : V1), xK (e 0) (e 4) w K Y0 Y1 = aA Tryz.prog (au Lf) 27 fuel (flat (aU (bi (aV (flat (ah Tryz.f160)) 2)))) e w (fun e w => Y0 (e 0) (e 4) w) (aW Tryz.prog [.tmp 2, .tmp 3] K) (bB 0 (fun e w => Y1 (e 4) w) noE) := by intro Y0 Y1; kernel_rfl
  exact Eq.mp (e1 (fun a0 a4 w => jZ m a0 a4 w K) (fun a4 w => rH a4 w K)) h
def E8 (s0 : Value) (w : World) (_K : V1) (Y0 : V2) : Prop :=
Y0 s0 (.slice none 0 0) w
def E9 (s0 : Value) (w : World) (K : V1) : Prop := E8 s0 w K (fun a0 a4 w => Ah a0 a4 w K)
theorem WK {K : V1}
    (hn : HN (fun e w => K (.tuple #[(e 2), (e 3)]) w) kn) (hr : HR Tryz.prog [.tmp 2, .tmp 3] K kr) (he : HE noE ke) :
    ∀ e w, E9 (e 0) w K → aA Tryz.prog (au Lf) 27 fuel ((flat (ah Tryz.f160)).drop 0) e w kn kr ke := by
  intro e w h
  unfold E9 at h
  have e1 : ∀ (Y0 : V2), E8 (e 0) w K Y0 = aA Tryz.prog (au Lf) 27 fuel (((flat (ah Tryz.f160)).drop 0).take 2) e w (fun e w => Y0 (e 0) (e 4) w) (aW Tryz.prog [.tmp 2, .tmp 3] K) noE := by intro Y0; kernel_rfl
  exact seg 2 (Eq.mp (e1 (fun a0 a4 w => Ah a0 a4 w K)) h) (fun e w h => WJ hn hr he e w h) hr he
def UT (x0 : Value) (w : World) (K : V1) : Prop := E9 x0 w K
def TR : FnT := fun args w K => on1 (fun x0 => UT x0 w K) args
theorem c160 {x0 : Value} {w : World} {K : V1} (h : UT x0 w K) : ai TR [x0] w K := aj (bL (p := fun x0 => UT x0 w K) h)
theorem ok160 : OkF Tryz.prog 160 TR := by
  refine aO (aN (l := Lf) ⟨ok209, trivial⟩) mixed (n := fuel) Tryz.func160 Tryz.call160 fun args w K h => ?_
  obtain ⟨x0, rfl, hh⟩ := bJ h
  unfold UT at hh
  exact az (c := ah Tryz.f160) (by kernel_rfl) (by kernel_rfl) (WK (fun _ _ h => h) (fun _ _ h => h) (fun _ _ _ h => h) (dD [x0]) w hh)
def T162 : List (Nat × FnT) := []
def YY (x0 : Value) (w : World) (K : V1) : Prop :=
aa (bLt x0 (.int .i64 32)) fun v1 =>
aS (gd false v1) x0 fun v2 =>
Sx.stepG (gd false v1) (bEq Tryz.prog 3 (.tmp 6) (.const (.int .i64 127)) v2 (.int .i64 127)) fun v3 =>
aa (aG v1 (.bool true) v3) fun v4 =>
K v4 w
def TM : FnT := fun args w K => on1 (fun x0 => YY x0 w K) args
theorem c162 {x0 : Value} {w : World} {K : V1} (h : YY x0 w K) : ai TM [x0] w K := aj (bL (p := fun x0 => YY x0 w K) h)
theorem ok162 : OkF Tryz.prog 162 TM := by
  refine aO (aN (l := T162) trivial) mixed (n := fuel) Tryz.func162 Tryz.call162 fun args w K h => ?_
  obtain ⟨x0, rfl, hh⟩ := bJ h
  exact az (c := ah Tryz.f162) (by kernel_rfl) (by kernel_rfl) (Eq.mp (by kernel_rfl) hh)
def Bh : List (Nat × FnT) := [(162, TM)]
def Ey (w : World) (K : V1) : Prop :=
K (.int .i64 (-1)) w
def vD (w : World) (K : V1) : Prop := Ey w K
theorem VU {K : V1}
    (hn : HN (fun e w => K (e 4) w) kn) (hr : HR Tryz.prog [.tmp 4] K kr) (he : HE noE ke) :
    ∀ e w, vD w K → aA Tryz.prog (au Bh) 19 fuel ((flat (ah Tryz.f210)).drop 3) e w kn kr ke := by
  intro e w h
  unfold vD at h
  have e1 : ∀ (_ : Unit), Ey w K = aA Tryz.prog (au Bh) 19 fuel ((flat (ah Tryz.f210)).drop 3) e w (fun e w => K (e 4) w) (aW Tryz.prog [.tmp 4] K) noE := by intro _; kernel_rfl
  exact bQ (Eq.mp (e1 ()) h) hn hr he
def xy (s0 s1 s7 s8 : Value) (w : World) (K : V1) (Y0 : V4) (Y1 : V0) : Prop :=
aa (bLt s8 s7) fun v1 =>
ifB v1 (
aa (bq 1 s0 s8) fun v2 =>
aa (ld1 v2 w) fun v3 =>
gP (au Bh) s1 [v3] w fun v5 w4 =>
ifB v5 (
K s8 w4) (
aa (bH s8 (.int .i64 1)) fun v6 =>
Y0 s0 s1 s7 v6 w4)) (
Y1 w)
def jS : Nat → Value → Value → Value → Value → World → (V1) → Prop
  | 0, _, _, _, _, _, _ => False
  | n + 1, s0, s1, s7, s8, w, K => xy s0 s1 s7 s8 w K (fun a0 a1 a7 a8 w => jS n a0 a1 a7 a8 w K) (fun w => vD w K)
def zW (s0 s1 s7 s8 : Value) (w : World) (K : V1) : Prop := jS fuel s0 s1 s7 s8 w K
theorem VV {K : V1}
    (hn : HN (fun e w => K (e 4) w) kn) (hr : HR Tryz.prog [.tmp 4] K kr) (he : HE noE ke) :
    ∀ e w, zW (e 0) (e 1) (e 7) (e 8) w K → aA Tryz.prog (au Bh) 19 fuel ((flat (ah Tryz.f210)).drop 2) e w kn kr ke := by
  intro e w h
  unfold zW at h
  refine bM (id := 0) (body := (aU (bi (aV (flat (ah Tryz.f210)) 2)))) (l2 := (flat (ah Tryz.f210)).drop 3) (by kernel_rfl) ?_
  refine bV (FL := fun m e w => jS m (e 0) (e 1) (e 7) (e 8) w K) (fr := aW Tryz.prog [.tmp 4] K) (fe := (bB 0 (fun e w => vD w K) noE)) (fun _ _ h => h) ?_ hr (bD (fun e w h => VU hn hr he e w h) he) fuel e w h
  intro m e w h
  have h : jS (m + 1) (e 0) (e 1) (e 7) (e 8) w K := h
  rw [jS] at h
  have e1 : ∀ (Y0 : V4) (Y1 : V0), xy (e 0) (e 1) (e 7) (e 8) w K Y0 Y1 = aA Tryz.prog (au Bh) 19 fuel (flat (aU (bi (aV (flat (ah Tryz.f210)) 2)))) e w (fun e w => Y0 (e 0) (e 1) (e 7) (e 8) w) (aW Tryz.prog [.tmp 4] K) (bB 0 (fun e w => Y1 w) noE) := by intro Y0 Y1; kernel_rfl
  exact Eq.mp (e1 (fun a0 a1 a7 a8 w => jS m a0 a1 a7 a8 w K) (fun w => vD w K)) h
def Ez (s0 s1 : Value) (w : World) (_K : V1) (Y0 : V4) : Prop :=
aa (bI s0) fun v7 =>
Y0 s0 s1 v7 (.int .i64 0) w
def EA (s0 s1 : Value) (w : World) (K : V1) : Prop := Ez s0 s1 w K (fun a0 a1 a7 a8 w => zW a0 a1 a7 a8 w K)
theorem VW {K : V1}
    (hn : HN (fun e w => K (e 4) w) kn) (hr : HR Tryz.prog [.tmp 4] K kr) (he : HE noE ke) :
    ∀ e w, EA (e 0) (e 1) w K → aA Tryz.prog (au Bh) 19 fuel ((flat (ah Tryz.f210)).drop 0) e w kn kr ke := by
  intro e w h
  unfold EA at h
  have e1 : ∀ (Y0 : V4), Ez (e 0) (e 1) w K Y0 = aA Tryz.prog (au Bh) 19 fuel (((flat (ah Tryz.f210)).drop 0).take 2) e w (fun e w => Y0 (e 0) (e 1) (e 7) (e 8) w) (aW Tryz.prog [.tmp 4] K) noE := by intro Y0; kernel_rfl
  exact seg 2 (Eq.mp (e1 (fun a0 a1 a7 a8 w => zW a0 a1 a7 a8 w K)) h) (fun e w h => VV hn hr he e w h) hr he
def UH (x0 x1 : Value) (w : World) (K : V1) : Prop := EA x0 x1 w K
def Yk : FnT := fun args w K => on2 (fun x0 x1 => UH x0 x1 w K) args
theorem c210 {x0 x1 : Value} {w : World} {K : V1} (h : UH x0 x1 w K) : ai Yk [x0, x1] w K := aj (dm (p := fun x0 x1 => UH x0 x1 w K) h)
theorem ok210 : OkF Tryz.prog 210 Yk := by
  refine aO (aN (l := Bh) ⟨ok162, trivial⟩) mixed (n := fuel) Tryz.func210 Tryz.call210 fun args w K h => ?_
  obtain ⟨x0, x1, rfl, hh⟩ := dn h
  unfold UH at hh
  exact az (c := ah Tryz.f210) (by kernel_rfl) (by kernel_rfl) (VW (fun _ _ h => h) (fun _ _ h => h) (fun _ _ _ h => h) (dD [x0, x1]) w hh)
def T161 : List (Nat × FnT) := [(210, Yk)]
def YZ (x0 x1 : Value) (w : World) (K : V1) : Prop :=
ai Yk [x0, x1] w fun v2 w1 =>
aa (bGe v2 (.int .i64 0)) fun v3 =>
K v3 w1
def TQ : FnT := fun args w K => on2 (fun x0 x1 => YZ x0 x1 w K) args
theorem c161 {x0 x1 : Value} {w : World} {K : V1} (h : YZ x0 x1 w K) : ai TQ [x0, x1] w K := aj (dm (p := fun x0 x1 => YZ x0 x1 w K) h)
theorem ok161 : OkF Tryz.prog 161 TQ := by
  refine aO (aN (l := T161) ⟨ok210, trivial⟩) mixed (n := fuel) Tryz.func161 Tryz.call161 fun args w K h => ?_
  obtain ⟨x0, x1, rfl, hh⟩ := dn h
  exact az (c := ah Tryz.f161) (by kernel_rfl) (by kernel_rfl) (Eq.mp (by kernel_rfl) hh)
def T112 : List (Nat × FnT) := [(160, TR), (161, TQ)]
def Zj (x0 x1 : Value) (w : World) (K : V1) : Prop :=
ai TR [x0] w fun v2 w1 =>
aa (aK v2 0) fun v3 =>
aa (aK v2 1) fun v4 =>
ai TQ [v3, (.func (.func 162) #[] #[])] w1 fun v6 w5 =>
aa (bEq Tryz.prog 33 (.tmp 15) (.const (.int .i64 0)) v4 (.int .i64 0)) fun v7 =>
aS (gd true v7) v6 fun v8 =>
Sx.stepG (gd true v7) (dN v8) fun v9 =>
aa (aG v7 v9 (.bool false)) fun v10 =>
aS (gd true v10) x0 fun v11 =>
Sx.stepG (gd true v10) (ik v11) fun v12 =>
aS (gd true v10) x1 fun v13 =>
Sx.stepG (gd true v10) (bLe v12 v13) fun v14 =>
aa (aG v10 v14 (.bool false)) fun v15 =>
K v15 w5
def IZ : FnT := fun args w K => on2 (fun x0 x1 => Zj x0 x1 w K) args
theorem c112 {x0 x1 : Value} {w : World} {K : V1} (h : Zj x0 x1 w K) : ai IZ [x0, x1] w K := aj (dm (p := fun x0 x1 => Zj x0 x1 w K) h)
theorem ok112 : OkF Tryz.prog 112 IZ := by
  refine aO (aN (l := T112) ⟨ok160, ok161, trivial⟩) mixed (n := fuel) Tryz.func112 Tryz.call112 fun args w K h => ?_
  obtain ⟨x0, x1, rfl, hh⟩ := dn h
  exact az (c := ah Tryz.f112) (by kernel_rfl) (by kernel_rfl) (Eq.mp (by kernel_rfl) hh)
def T66 : List (Nat × FnT) := [(112, IZ)]
def F66 (x0 : Value) (w : World) (K : V1) : Prop :=
bT 46 x0 w fun v2 w1 =>
aa (ae 0 v2) fun v3 =>
aa (ld1 v3 w1) fun v4 =>
aa (bNe Tryz.prog 9 (.tmp 5) (.const (.string ⟨#[]⟩)) v4 (.string ⟨#[]⟩)) fun v5 =>
Sx.stepG (gd true v5) (ae 1 v2) fun v6 =>
Sx.stepG (gd true v5) (ld1 v6 w1) fun v7 =>
Sx.stepG (gd true v5) (bNe Tryz.prog 9 (.tmp 9) (.const (.string ⟨#[]⟩)) v7 (.string ⟨#[]⟩)) fun v8 =>
aa (aG v5 v8 (.bool false)) fun v9 =>
Sx.stepG (gd true v9) (ae 0 v2) fun v10 =>
Sx.stepG (gd true v9) (ld1 v10 w1) fun v11 =>
dz (gd true v9) (fun k => ai IZ [v11, (.int .i64 64)] w1 k) w1 fun v13 w12 =>
aa (aG v9 v13 (.bool false)) fun v14 =>
Sx.stepG (gd true v14) (ae 1 v2) fun v15 =>
Sx.stepG (gd true v14) (ld1 v15 w12) fun v16 =>
dz (gd true v14) (fun k => ai IZ [v16, (.int .i64 64)] w12 k) w12 fun v18 w17 =>
aa (aG v14 v18 (.bool false)) fun v19 =>
aa (dN v19) fun v20 =>
Sx.stepG (gd false v20) (ae 2 v2) fun v21 =>
Sx.stepG (gd false v20) (ld1 v21 w17) fun v22 =>
dz (gd false v20) (fun k => ai IZ [v22, (.int .i64 128)] w17 k) w17 fun v24 w23 =>
Sx.stepG (gd false v20) (dN v24) fun v25 =>
aa (aG v20 (.bool true) v25) fun v26 =>
Sx.stepG (gd false v26) (ae 4 v2) fun v27 =>
Sx.stepG (gd false v26) (ld1 v27 w23) fun v28 =>
dz (gd false v26) (fun k => ai IZ [v28, (.int .i64 1024)] w23 k) w23 fun v30 w29 =>
Sx.stepG (gd false v26) (dN v30) fun v31 =>
aa (aG v26 (.bool true) v31) fun v32 =>
Sx.stepG (gd false v32) (ae 3 v2) fun v33 =>
Sx.stepG (gd false v32) (ld1 v33 w29) fun v34 =>
Sx.stepG (gd false v32) (bLt v34 (.int .i64 0)) fun v35 =>
aa (aG v32 (.bool true) v35) fun v36 =>
Sx.stepG (gd false v36) (ae 3 v2) fun v37 =>
Sx.stepG (gd false v36) (ld1 v37 w29) fun v38 =>
Sx.stepG (gd false v36) (bGt v38 (.int .i64 5)) fun v39 =>
aa (aG v36 (.bool true) v39) fun v40 =>
ifB v40 (
K (.int .i64 180) w29) (
K (.int .i64 0) w29)
def G66 : FnT := fun args w K => on1 (fun x0 => F66 x0 w K) args
theorem c66 {x0 : Value} {w : World} {K : V1} (h : F66 x0 w K) : ai G66 [x0] w K := aj (bL (p := fun x0 => F66 x0 w K) h)
theorem ok66 : OkF Tryz.prog 66 G66 := by
  refine aO (aN (l := T66) ⟨ok112, trivial⟩) mixed (n := fuel) Tryz.func66 Tryz.call66 fun args w K h => ?_
  obtain ⟨x0, rfl, hh⟩ := bJ h
  exact az (c := ah Tryz.f66) (by kernel_rfl) (by kernel_rfl) (Eq.mp (by kernel_rfl) hh)
def DN : List (Nat × FnT) := []
def Ea (s5 : Value) (w : World) (K : V1) : Prop :=
K s5 w
def vw (s5 : Value) (w : World) (K : V1) : Prop := Ea s5 w K
theorem VB {K : V1}
    (hn : HN (fun e w => K (e 4) w) kn) (hr : HR Tryz.prog [.tmp 4] K kr) (he : HE noE ke) :
    ∀ e w, vw (e 5) w K → aA Tryz.prog (au DN) 38 fuel ((flat (ah Tryz.f254)).drop 6) e w kn kr ke := by
  intro e w h
  unfold vw at h
  have e1 : ∀ (_ : Unit), Ea (e 5) w K = aA Tryz.prog (au DN) 38 fuel ((flat (ah Tryz.f254)).drop 6) e w (fun e w => K (e 4) w) (aW Tryz.prog [.tmp 4] K) noE := by intro _; kernel_rfl
  exact bQ (Eq.mp (e1 ()) h) hn hr he
def xw (s0 s1 s5 s6 : Value) (w : World) (_K : V1) (Y0 : V4) (Y1 : V1) : Prop :=
aa (bLt s6 s1) fun v1 =>
ifB v1 (
aa (nP s5 (.int .i64 64)) fun v2 =>
aa (dG s0 s6) fun v3 =>
aa (gI v3 (.int .u8 64)) fun v4 =>
aa (iG .i64 v4) fun v5 =>
aa (bH v2 v5) fun v6 =>
aa (bH s6 (.int .i64 1)) fun v7 =>
Y0 s0 s1 v6 v7 w) (
Y1 s5 w)
def jR : Nat → Value → Value → Value → Value → World → (V1) → Prop
  | 0, _, _, _, _, _, _ => False
  | n + 1, s0, s1, s5, s6, w, K => xw s0 s1 s5 s6 w K (fun a0 a1 a5 a6 w => jR n a0 a1 a5 a6 w K) (fun a5 w => vw a5 w K)
def zP (s0 s1 s5 s6 : Value) (w : World) (K : V1) : Prop := jR fuel s0 s1 s5 s6 w K
theorem VC {K : V1}
    (hn : HN (fun e w => K (e 4) w) kn) (hr : HR Tryz.prog [.tmp 4] K kr) (he : HE noE ke) :
    ∀ e w, zP (e 0) (e 1) (e 5) (e 6) w K → aA Tryz.prog (au DN) 38 fuel ((flat (ah Tryz.f254)).drop 5) e w kn kr ke := by
  intro e w h
  unfold zP at h
  refine bM (id := 1) (body := (aU (bi (aV (flat (ah Tryz.f254)) 5)))) (l2 := (flat (ah Tryz.f254)).drop 6) (by kernel_rfl) ?_
  refine bV (FL := fun m e w => jR m (e 0) (e 1) (e 5) (e 6) w K) (fr := aW Tryz.prog [.tmp 4] K) (fe := (bB 1 (fun e w => vw (e 5) w K) noE)) (fun _ _ h => h) ?_ hr (bD (fun e w h => VB hn hr he e w h) he) fuel e w h
  intro m e w h
  have h : jR (m + 1) (e 0) (e 1) (e 5) (e 6) w K := h
  rw [jR] at h
  have e1 : ∀ (Y0 : V4) (Y1 : V1), xw (e 0) (e 1) (e 5) (e 6) w K Y0 Y1 = aA Tryz.prog (au DN) 38 fuel (flat (aU (bi (aV (flat (ah Tryz.f254)) 5)))) e w (fun e w => Y0 (e 0) (e 1) (e 5) (e 6) w) (aW Tryz.prog [.tmp 4] K) (bB 1 (fun e w => Y1 (e 5) w) noE) := by intro Y0 Y1; kernel_rfl
  exact Eq.mp (e1 (fun a0 a1 a5 a6 w => jR m a0 a1 a5 a6 w K) (fun a5 w => vw a5 w K)) h
def Eb (s0 s1 s5 : Value) (w : World) (_K : V1) (Y0 : V4) : Prop :=
Y0 s0 s1 s5 (.int .i64 1) w
def vz (s0 s1 s5 : Value) (w : World) (K : V1) : Prop := Eb s0 s1 s5 w K (fun a0 a1 a5 a6 w => zP a0 a1 a5 a6 w K)
theorem VD {K : V1}
    (hn : HN (fun e w => K (e 4) w) kn) (hr : HR Tryz.prog [.tmp 4] K kr) (he : HE noE ke) :
    ∀ e w, vz (e 0) (e 1) (e 5) w K → aA Tryz.prog (au DN) 38 fuel ((flat (ah Tryz.f254)).drop 4) e w kn kr ke := by
  intro e w h
  unfold vz at h
  have e1 : ∀ (Y0 : V4), Eb (e 0) (e 1) (e 5) w K Y0 = aA Tryz.prog (au DN) 38 fuel (((flat (ah Tryz.f254)).drop 4).take 1) e w (fun e w => Y0 (e 0) (e 1) (e 5) (e 6) w) (aW Tryz.prog [.tmp 4] K) noE := by intro Y0; kernel_rfl
  exact seg 1 (Eq.mp (e1 (fun a0 a1 a5 a6 w => zP a0 a1 a5 a6 w K)) h) (fun e w h => VC hn hr he e w h) hr he
def Ec (s0 s1 : Value) (w : World) (K : V1) (Y0 : V3) : Prop :=
aa (dG s0 (.int .i64 0)) fun v8 =>
aa (iG .i64 v8) fun v9 =>
aa (bEq Tryz.prog 3 (.tmp 10) (.const (.int .i64 1)) s1 (.int .i64 1)) fun v10 =>
ifB v10 (
K v9 w) (
aa (bEq Tryz.prog 3 (.tmp 10) (.const (.int .i64 2)) s1 (.int .i64 2)) fun v11 =>
ifB v11 (
aa (gI v9 (.int .i64 32)) fun v12 =>
Y0 s0 s1 v12 w) (
aa (bEq Tryz.prog 3 (.tmp 10) (.const (.int .i64 3)) s1 (.int .i64 3)) fun v13 =>
ifB v13 (
aa (gI v9 (.int .i64 16)) fun v14 =>
Y0 s0 s1 v14 w) (
aa (gI v9 (.int .i64 8)) fun v15 =>
Y0 s0 s1 v15 w)))
def Ed (s0 s1 : Value) (w : World) (K : V1) : Prop := Ec s0 s1 w K (fun a0 a1 a5 w => vz a0 a1 a5 w K)
theorem VE {K : V1}
    (hn : HN (fun e w => K (e 4) w) kn) (hr : HR Tryz.prog [.tmp 4] K kr) (he : HE noE ke) :
    ∀ e w, Ed (e 0) (e 1) w K → aA Tryz.prog (au DN) 38 fuel ((flat (ah Tryz.f254)).drop 0) e w kn kr ke := by
  intro e w h
  unfold Ed at h
  have e1 : ∀ (Y0 : V3), Ec (e 0) (e 1) w K Y0 = aA Tryz.prog (au DN) 38 fuel (((flat (ah Tryz.f254)).drop 0).take 4) e w (fun e w => Y0 (e 0) (e 1) (e 5) w) (aW Tryz.prog [.tmp 4] K) noE := by intro Y0; kernel_rfl
  exact seg 4 (Eq.mp (e1 (fun a0 a1 a5 w => vz a0 a1 a5 w K)) h) (fun e w h => VD hn hr he e w h) hr he
def UB (x0 x1 : Value) (w : World) (K : V1) : Prop := Ed x0 x1 w K
def Tu : FnT := fun args w K => on2 (fun x0 x1 => UB x0 x1 w K) args
theorem c254 {x0 x1 : Value} {w : World} {K : V1} (h : UB x0 x1 w K) : ai Tu [x0, x1] w K := aj (dm (p := fun x0 x1 => UB x0 x1 w K) h)
theorem ok254 : OkF Tryz.prog 254 Tu := by
  refine aO (aN (l := DN) trivial) mixed (n := fuel) Tryz.func254 Tryz.call254 fun args w K h => ?_
  obtain ⟨x0, x1, rfl, hh⟩ := dn h
  unfold UB at hh
  exact az (c := ah Tryz.f254) (by kernel_rfl) (by kernel_rfl) (VE (fun _ _ h => h) (fun _ _ h => h) (fun _ _ _ h => h) (dD [x0, x1]) w hh)
def T255 : List (Nat × FnT) := []
def YI (x0 : Value) (w : World) (K : V1) : Prop :=
aa (bGe x0 (.int .i64 0)) fun v1 =>
aS (gd true v1) x0 fun v2 =>
Sx.stepG (gd true v1) (bLe v2 (.int .i64 1114111)) fun v3 =>
aa (aG v1 v3 (.bool false)) fun v4 =>
aS (gd true v4) x0 fun v5 =>
Sx.stepG (gd true v4) (bLt v5 (.int .i64 55296)) fun v6 =>
aS (gd true v4) v6 fun v7 =>
aS (gd false v7) x0 fun v8 =>
Sx.stepG (gd false v7) (bGt v8 (.int .i64 57343)) fun v9 =>
Sx.stepG (gd true v4) (aG v7 (.bool true) v9) fun v10 =>
aa (aG v4 v10 (.bool false)) fun v11 =>
K v11 w
def Tt : FnT := fun args w K => on1 (fun x0 => YI x0 w K) args
theorem c255 {x0 : Value} {w : World} {K : V1} (h : YI x0 w K) : ai Tt [x0] w K := aj (bL (p := fun x0 => YI x0 w K) h)
theorem ok255 : OkF Tryz.prog 255 Tt := by
  refine aO (aN (l := T255) trivial) mixed (n := fuel) Tryz.func255 Tryz.call255 fun args w K h => ?_
  obtain ⟨x0, rfl, hh⟩ := bJ h
  exact az (c := ah Tryz.f255) (by kernel_rfl) (by kernel_rfl) (Eq.mp (by kernel_rfl) hh)
def T256 : List (Nat × FnT) := []
def Mq (x0 : Value) (w : World) (K : V1) : Prop :=
aa (bLt x0 (.int .i64 128)) fun v1 =>
ifB v1 (
aa (iG .u8 x0) fun v2 =>
aB Tryz.prog 181 1 [(0, v2)] w fun v4 w3 =>
aa (gF v4 w3) fun v5 =>
K v5 w3) (
aa (bLt x0 (.int .i64 2048)) fun v6 =>
ifB v6 (
aa (iM x0 (.int .i64 64)) fun v7 =>
aa (bH (.int .i64 192) v7) fun v8 =>
aa (iG .u8 v8) fun v9 =>
aa (gI x0 (.int .i64 64)) fun v10 =>
aa (bH (.int .i64 128) v10) fun v11 =>
aa (iG .u8 v11) fun v12 =>
aB Tryz.prog 181 2 [(0, v9), (1, v12)] w fun v14 w13 =>
aa (gF v14 w13) fun v15 =>
K v15 w13) (
aa (bLt x0 (.int .i64 65536)) fun v16 =>
ifB v16 (
aa (iM x0 (.int .i64 4096)) fun v17 =>
aa (bH (.int .i64 224) v17) fun v18 =>
aa (iG .u8 v18) fun v19 =>
aa (iM x0 (.int .i64 64)) fun v20 =>
aa (gI v20 (.int .i64 64)) fun v21 =>
aa (bH (.int .i64 128) v21) fun v22 =>
aa (iG .u8 v22) fun v23 =>
aa (gI x0 (.int .i64 64)) fun v24 =>
aa (bH (.int .i64 128) v24) fun v25 =>
aa (iG .u8 v25) fun v26 =>
aB Tryz.prog 181 3 [(0, v19), (1, v23), (2, v26)] w fun v28 w27 =>
aa (gF v28 w27) fun v29 =>
K v29 w27) (
aa (iM x0 (.int .i64 262144)) fun v30 =>
aa (bH (.int .i64 240) v30) fun v31 =>
aa (iG .u8 v31) fun v32 =>
aa (iM x0 (.int .i64 4096)) fun v33 =>
aa (gI v33 (.int .i64 64)) fun v34 =>
aa (bH (.int .i64 128) v34) fun v35 =>
aa (iG .u8 v35) fun v36 =>
aa (iM x0 (.int .i64 64)) fun v37 =>
aa (gI v37 (.int .i64 64)) fun v38 =>
aa (bH (.int .i64 128) v38) fun v39 =>
aa (iG .u8 v39) fun v40 =>
aa (gI x0 (.int .i64 64)) fun v41 =>
aa (bH (.int .i64 128) v41) fun v42 =>
aa (iG .u8 v42) fun v43 =>
aB Tryz.prog 181 4 [(0, v32), (1, v36), (2, v40), (3, v43)] w fun v45 w44 =>
aa (gF v45 w44) fun v46 =>
K v46 w44)))
def DV : FnT := fun args w K => on1 (fun x0 => Mq x0 w K) args
theorem Ya {x0 : Value} {w : World} {K : V1} (h : Mq x0 w K) : ai DV [x0] w K := aj (bL (p := fun x0 => Mq x0 w K) h)
theorem ok256 : OkF Tryz.prog 256 DV := by
  refine aO (aN (l := T256) trivial) mixed (n := fuel) Tryz.func256 Tryz.call256 fun args w K h => ?_
  obtain ⟨x0, rfl, hh⟩ := bJ h
  exact az (c := ah Tryz.f256) (by kernel_rfl) (by kernel_rfl) (Eq.mp (by kernel_rfl) hh)
def Le : List (Nat × FnT) := [(254, Tu), (255, Tt), (256, DV)]
def xA (w : World) (K : V1) : Prop :=
K (.tuple #[(.int .i64 0), (.int .i64 0), (.int .i64 40)]) w
def rF (w : World) (K : V1) : Prop := xA w K
theorem V9 {K : V1}
    (hn : HN (fun e w => K (.tuple #[(e 2), (e 3), (e 4)]) w) kn) (hr : HR Tryz.prog [.tmp 2, .tmp 3, .tmp 4] K kr) (he : HE noE ke) :
    ∀ e w, rF w K → aA Tryz.prog (au Le) 32 fuel ((flat (ah Tryz.f208)).drop 3) e w kn kr ke := by
  intro e w h
  unfold rF at h
  have e1 : ∀ (_ : Unit), xA w K = aA Tryz.prog (au Le) 32 fuel ((flat (ah Tryz.f208)).drop 3) e w (fun e w => K (.tuple #[(e 2), (e 3), (e 4)]) w) (aW Tryz.prog [.tmp 2, .tmp 3, .tmp 4] K) noE := by intro _; kernel_rfl
  exact bQ (Eq.mp (e1 ()) h) hn hr he
def xB (s0 s5 : Value) (w : World) (K : V1) (Y0 : V2) (Y1 : V0) : Prop :=
aa (bLe s5 (.int .i64 4)) fun v1 =>
aS (gd true v1) s5 fun v2 =>
aS (gd true v1) s0 fun v3 =>
Sx.stepG (gd true v1) (ik v3) fun v4 =>
Sx.stepG (gd true v1) (bLe v2 v4) fun v5 =>
aa (aG v1 v5 (.bool false)) fun v6 =>
ifB v6 (
ai Tu [s0, s5] w fun v8 w7 =>
ai Tt [v8] w7.drew fun v10 w9 =>
aS (gd true v10) v8 fun v11 =>
aS (gd true v10) s0 fun v12 =>
aS (gd true v10) s5 fun v13 =>
Sx.stepG (gd true v10) (di v12 none (some v13)) fun v14 =>
dz (gd true v10) (fun k => ai DV [v11] w9 k) w9 fun v16 w15 =>
Sx.stepG (gd true v10) (bEq Tryz.prog 9 (.tmp 24) (.tmp 27) v16 v14) fun v17 =>
aa (aG v10 v17 (.bool false)) fun v18 =>
ifB v18 (
K (.tuple #[v8, s5, (.int .i64 0)]) w15) (
aa (bH s5 (.int .i64 1)) fun v19 =>
Y0 s0 v19 w15)) (
Y1 w)
def jA : Nat → Value → Value → World → (V1) → Prop
  | 0, _, _, _, _ => False
  | n + 1, s0, s5, w, K => xB s0 s5 w K (fun a0 a5 w => jA n a0 a5 w K) (fun w => rF w K)
def zY (s0 s5 : Value) (w : World) (K : V1) : Prop := jA fuel s0 s5 w K
theorem Wd {K : V1}
    (hn : HN (fun e w => K (.tuple #[(e 2), (e 3), (e 4)]) w) kn) (hr : HR Tryz.prog [.tmp 2, .tmp 3, .tmp 4] K kr) (he : HE noE ke) :
    ∀ e w, zY (e 0) (e 5) w K → aA Tryz.prog (au Le) 32 fuel ((flat (ah Tryz.f208)).drop 2) e w kn kr ke := by
  intro e w h
  unfold zY at h
  refine bM (id := 0) (body := (aU (bi (aV (flat (ah Tryz.f208)) 2)))) (l2 := (flat (ah Tryz.f208)).drop 3) (by kernel_rfl) ?_
  refine bV (FL := fun m e w => jA m (e 0) (e 5) w K) (fr := aW Tryz.prog [.tmp 2, .tmp 3, .tmp 4] K) (fe := (bB 0 (fun e w => rF w K) noE)) (fun _ _ h => h) ?_ hr (bD (fun e w h => V9 hn hr he e w h) he) fuel e w h
  intro m e w h
  have h : jA (m + 1) (e 0) (e 5) w K := h
  rw [jA] at h
  have e1 : ∀ (Y0 : V2) (Y1 : V0), xB (e 0) (e 5) w K Y0 Y1 = aA Tryz.prog (au Le) 32 fuel (flat (aU (bi (aV (flat (ah Tryz.f208)) 2)))) e w (fun e w => Y0 (e 0) (e 5) w) (aW Tryz.prog [.tmp 2, .tmp 3, .tmp 4] K) (bB 0 (fun e w => Y1 w) noE) := by intro Y0 Y1; kernel_rfl
  exact Eq.mp (e1 (fun a0 a5 w => jA m a0 a5 w K) (fun w => rF w K)) h
def EE (s0 : Value) (w : World) (_K : V1) (Y0 : V2) : Prop :=
Y0 s0 (.int .i64 1) w
def EF (s0 : Value) (w : World) (K : V1) : Prop := EE s0 w K (fun a0 a5 w => zY a0 a5 w K)
theorem We {K : V1}
    (hn : HN (fun e w => K (.tuple #[(e 2), (e 3), (e 4)]) w) kn) (hr : HR Tryz.prog [.tmp 2, .tmp 3, .tmp 4] K kr) (he : HE noE ke) :
    ∀ e w, EF (e 0) w K → aA Tryz.prog (au Le) 32 fuel ((flat (ah Tryz.f208)).drop 0) e w kn kr ke := by
  intro e w h
  unfold EF at h
  have e1 : ∀ (Y0 : V2), EE (e 0) w K Y0 = aA Tryz.prog (au Le) 32 fuel (((flat (ah Tryz.f208)).drop 0).take 2) e w (fun e w => Y0 (e 0) (e 5) w) (aW Tryz.prog [.tmp 2, .tmp 3, .tmp 4] K) noE := by intro Y0; kernel_rfl
  exact seg 2 (Eq.mp (e1 (fun a0 a5 w => zY a0 a5 w K)) h) (fun e w h => Wd hn hr he e w h) hr he
def UJ (x0 : Value) (w : World) (K : V1) : Prop := EF x0 w K
def TD : FnT := fun args w K => on1 (fun x0 => UJ x0 w K) args
theorem c208 {x0 : Value} {w : World} {K : V1} (h : UJ x0 w K) : ai TD [x0] w K := aj (bL (p := fun x0 => UJ x0 w K) h)
theorem ok208 : OkF Tryz.prog 208 TD := by
  refine aO (aN (l := Le) ⟨ok254, ok255, ok256, trivial⟩) mixed (n := fuel) Tryz.func208 Tryz.call208 fun args w K h => ?_
  obtain ⟨x0, rfl, hh⟩ := bJ h
  unfold UJ at hh
  exact az (c := ah Tryz.f208) (by kernel_rfl) (by kernel_rfl) (We (fun _ _ h => h) (fun _ _ h => h) (fun _ _ _ h => h) (dD [x0]) w hh)
def Lg : List (Nat × FnT) := [(208, TD)]
def xL (s4 : Value) (w : World) (K : V1) : Prop :=
K (.tuple #[s4, (.int .i64 0)]) w
def rJ (s4 : Value) (w : World) (K : V1) : Prop := xL s4 w K
theorem WL {K : V1}
    (hn : HN (fun e w => K (.tuple #[(e 2), (e 3)]) w) kn) (hr : HR Tryz.prog [.tmp 2, .tmp 3] K kr) (he : HE noE ke) :
    ∀ e w, rJ (e 4) w K → aA Tryz.prog (au Lg) 32 fuel ((flat (ah Tryz.f159)).drop 4) e w kn kr ke := by
  intro e w h
  unfold rJ at h
  have e1 : ∀ (_ : Unit), xL (e 4) w K = aA Tryz.prog (au Lg) 32 fuel ((flat (ah Tryz.f159)).drop 4) e w (fun e w => K (.tuple #[(e 2), (e 3)]) w) (aW Tryz.prog [.tmp 2, .tmp 3] K) noE := by intro _; kernel_rfl
  exact bQ (Eq.mp (e1 ()) h) hn hr he
def xM (s0 s4 s5 : Value) (w : World) (K : V1) (Y0 : V3) (Y1 : V1) : Prop :=
aa (ik s0) fun v1 =>
aa (bLt s5 v1) fun v2 =>
ifB v2 (
aa (di s0 (some s5) none) fun v3 =>
ai TD [v3] w fun v5 w4 =>
aa (aK v5 0) fun v6 =>
aa (aK v5 1) fun v7 =>
aa (aK v5 2) fun v8 =>
aa (bNe Tryz.prog 33 (.tmp 21) (.const (.int .i64 0)) v8 (.int .i64 0)) fun v9 =>
ifB v9 (
K (.tuple #[(.slice none 0 0), v8]) w4) (
aB Tryz.prog 23 1 [(0, v6)] w4 fun v11 w10 =>
aJ Tryz.prog 23 23 s4 v11 w10 fun v13 w12 =>
aa (bH s5 v7) fun v14 =>
Y0 s0 v13 v14 w12)) (
Y1 s4 w)
def kg : Nat → Value → Value → Value → World → (V1) → Prop
  | 0, _, _, _, _, _ => False
  | n + 1, s0, s4, s5, w, K => xM s0 s4 s5 w K (fun a0 a4 a5 w => kg n a0 a4 a5 w K) (fun a4 w => rJ a4 w K)
def Ai (s0 s4 s5 : Value) (w : World) (K : V1) : Prop := kg fuel s0 s4 s5 w K
theorem WM {K : V1}
    (hn : HN (fun e w => K (.tuple #[(e 2), (e 3)]) w) kn) (hr : HR Tryz.prog [.tmp 2, .tmp 3] K kr) (he : HE noE ke) :
    ∀ e w, Ai (e 0) (e 4) (e 5) w K → aA Tryz.prog (au Lg) 32 fuel ((flat (ah Tryz.f159)).drop 3) e w kn kr ke := by
  intro e w h
  unfold Ai at h
  refine bM (id := 0) (body := (aU (bi (aV (flat (ah Tryz.f159)) 3)))) (l2 := (flat (ah Tryz.f159)).drop 4) (by kernel_rfl) ?_
  refine bV (FL := fun m e w => kg m (e 0) (e 4) (e 5) w K) (fr := aW Tryz.prog [.tmp 2, .tmp 3] K) (fe := (bB 0 (fun e w => rJ (e 4) w K) noE)) (fun _ _ h => h) ?_ hr (bD (fun e w h => WL hn hr he e w h) he) fuel e w h
  intro m e w h
  have h : kg (m + 1) (e 0) (e 4) (e 5) w K := h
  rw [kg] at h
  have e1 : ∀ (Y0 : V3) (Y1 : V1), xM (e 0) (e 4) (e 5) w K Y0 Y1 = aA Tryz.prog (au Lg) 32 fuel (flat (aU (bi (aV (flat (ah Tryz.f159)) 3)))) e w (fun e w => Y0 (e 0) (e 4) (e 5) w) (aW Tryz.prog [.tmp 2, .tmp 3] K) (bB 0 (fun e w => Y1 (e 4) w) noE) := by intro Y0 Y1; kernel_rfl
  exact Eq.mp (e1 (fun a0 a4 a5 w => kg m a0 a4 a5 w K) (fun a4 w => rJ a4 w K)) h
def Fa (s0 : Value) (w : World) (_K : V1) (Y0 : V3) : Prop :=
Y0 s0 (.slice none 0 0) (.int .i64 0) w
def Fb (s0 : Value) (w : World) (K : V1) : Prop := Fa s0 w K (fun a0 a4 a5 w => Ai a0 a4 a5 w K)
theorem WN {K : V1}
    (hn : HN (fun e w => K (.tuple #[(e 2), (e 3)]) w) kn) (hr : HR Tryz.prog [.tmp 2, .tmp 3] K kr) (he : HE noE ke) :
    ∀ e w, Fb (e 0) w K → aA Tryz.prog (au Lg) 32 fuel ((flat (ah Tryz.f159)).drop 0) e w kn kr ke := by
  intro e w h
  unfold Fb at h
  have e1 : ∀ (Y0 : V3), Fa (e 0) w K Y0 = aA Tryz.prog (au Lg) 32 fuel (((flat (ah Tryz.f159)).drop 0).take 3) e w (fun e w => Y0 (e 0) (e 4) (e 5) w) (aW Tryz.prog [.tmp 2, .tmp 3] K) noE := by intro Y0; kernel_rfl
  exact seg 3 (Eq.mp (e1 (fun a0 a4 a5 w => Ai a0 a4 a5 w K)) h) (fun e w h => WM hn hr he e w h) hr he
def UU (x0 : Value) (w : World) (K : V1) : Prop := Fb x0 w K
def TS : FnT := fun args w K => on1 (fun x0 => UU x0 w K) args
theorem c159 {x0 : Value} {w : World} {K : V1} (h : UU x0 w K) : ai TS [x0] w K := aj (bL (p := fun x0 => UU x0 w K) h)
theorem ok159 : OkF Tryz.prog 159 TS := by
  refine aO (aN (l := Lg) ⟨ok208, trivial⟩) mixed (n := fuel) Tryz.func159 Tryz.call159 fun args w K h => ?_
  obtain ⟨x0, rfl, hh⟩ := bJ h
  unfold UU at hh
  exact az (c := ah Tryz.f159) (by kernel_rfl) (by kernel_rfl) (WN (fun _ _ h => h) (fun _ _ h => h) (fun _ _ _ h => h) (dD [x0]) w hh)
def Li : List (Nat × FnT) := [(159, TS)]
def xU (s0 s1 s6 : Value) (w : World) (K : V1) : Prop :=
aa (bEq Tryz.prog 33 (.tmp 31) (.const (.int .i64 0)) s6 (.int .i64 0)) fun v1 =>
aS (gd true v1) s0 fun v2 =>
Sx.stepG (gd true v1) (ik v2) fun v3 =>
aS (gd true v1) s1 fun v4 =>
Sx.stepG (gd true v1) (bLe v3 v4) fun v5 =>
aa (aG v1 v5 (.bool false)) fun v6 =>
K v6 w
def rM (s0 s1 s6 : Value) (w : World) (K : V1) : Prop := xU s0 s1 s6 w K
theorem Xm {K : V1}
    (hn : HN (fun e w => K (e 4) w) kn) (hr : HR Tryz.prog [.tmp 4] K kr) (he : HE noE ke) :
    ∀ e w, rM (e 0) (e 1) (e 6) w K → aA Tryz.prog (au Li) 39 fuel ((flat (ah Tryz.f111)).drop 4) e w kn kr ke := by
  intro e w h
  unfold rM at h
  have e1 : ∀ (_ : Unit), xU (e 0) (e 1) (e 6) w K = aA Tryz.prog (au Li) 39 fuel ((flat (ah Tryz.f111)).drop 4) e w (fun e w => K (e 4) w) (aW Tryz.prog [.tmp 4] K) noE := by intro _; kernel_rfl
  exact bQ (Eq.mp (e1 ()) h) hn hr he
def uu (s0 s1 s5 s6 s7 : Value) (w : World) (K : V1) (Y0 : V5) (Y1 : V3) : Prop :=
aa (bI s5) fun v7 =>
aa (bLt s7 v7) fun v8 =>
ifB v8 (
aa (bq 1 s5 s7) fun v9 =>
aa (ld1 v9 w) fun v10 =>
aa (bLt v10 (.int .i64 32)) fun v11 =>
aS (gd false v11) s5 fun v12 =>
aS (gd false v11) s7 fun v13 =>
Sx.stepG (gd false v11) (bq 1 v12 v13) fun v14 =>
Sx.stepG (gd false v11) (ld1 v14 w) fun v15 =>
Sx.stepG (gd false v11) (bEq Tryz.prog 3 (.tmp 28) (.const (.int .i64 127)) v15 (.int .i64 127)) fun v16 =>
aa (aG v11 (.bool true) v16) fun v17 =>
ifB v17 (
K (.bool false) w) (
aa (bH s7 (.int .i64 1)) fun v18 =>
Y0 s0 s1 s5 s6 v18 w)) (
Y1 s0 s1 s6 w)
def ja : Nat → Value → Value → Value → Value → Value → World → (V1) → Prop
  | 0, _, _, _, _, _, _, _ => False
  | n + 1, s0, s1, s5, s6, s7, w, K => uu s0 s1 s5 s6 s7 w K (fun a0 a1 a5 a6 a7 w => ja n a0 a1 a5 a6 a7 w K) (fun a0 a1 a6 w => rM a0 a1 a6 w K)
def vR (s0 s1 s5 s6 s7 : Value) (w : World) (K : V1) : Prop := ja fuel s0 s1 s5 s6 s7 w K
theorem Xn {K : V1}
    (hn : HN (fun e w => K (e 4) w) kn) (hr : HR Tryz.prog [.tmp 4] K kr) (he : HE noE ke) :
    ∀ e w, vR (e 0) (e 1) (e 5) (e 6) (e 7) w K → aA Tryz.prog (au Li) 39 fuel ((flat (ah Tryz.f111)).drop 3) e w kn kr ke := by
  intro e w h
  unfold vR at h
  refine bM (id := 0) (body := (aU (bi (aV (flat (ah Tryz.f111)) 3)))) (l2 := (flat (ah Tryz.f111)).drop 4) (by kernel_rfl) ?_
  refine bV (FL := fun m e w => ja m (e 0) (e 1) (e 5) (e 6) (e 7) w K) (fr := aW Tryz.prog [.tmp 4] K) (fe := (bB 0 (fun e w => rM (e 0) (e 1) (e 6) w K) noE)) (fun _ _ h => h) ?_ hr (bD (fun e w h => Xm hn hr he e w h) he) fuel e w h
  intro m e w h
  have h : ja (m + 1) (e 0) (e 1) (e 5) (e 6) (e 7) w K := h
  rw [ja] at h
  have e1 : ∀ (Y0 : V5) (Y1 : V3), uu (e 0) (e 1) (e 5) (e 6) (e 7) w K Y0 Y1 = aA Tryz.prog (au Li) 39 fuel (flat (aU (bi (aV (flat (ah Tryz.f111)) 3)))) e w (fun e w => Y0 (e 0) (e 1) (e 5) (e 6) (e 7) w) (aW Tryz.prog [.tmp 4] K) (bB 0 (fun e w => Y1 (e 0) (e 1) (e 6) w) noE) := by intro Y0 Y1; kernel_rfl
  exact Eq.mp (e1 (fun a0 a1 a5 a6 a7 w => ja m a0 a1 a5 a6 a7 w K) (fun a0 a1 a6 w => rM a0 a1 a6 w K)) h
def FM (s0 s1 : Value) (w : World) (_K : V1) (Y0 : V5) : Prop :=
ai TS [s0] w fun v20 w19 =>
aa (aK v20 0) fun v21 =>
aa (aK v20 1) fun v22 =>
Y0 s0 s1 v21 v22 (.int .i64 0) w19
def FN (s0 s1 : Value) (w : World) (K : V1) : Prop := FM s0 s1 w K (fun a0 a1 a5 a6 a7 w => vR a0 a1 a5 a6 a7 w K)
theorem Xo {K : V1}
    (hn : HN (fun e w => K (e 4) w) kn) (hr : HR Tryz.prog [.tmp 4] K kr) (he : HE noE ke) :
    ∀ e w, FN (e 0) (e 1) w K → aA Tryz.prog (au Li) 39 fuel ((flat (ah Tryz.f111)).drop 0) e w kn kr ke := by
  intro e w h
  unfold FN at h
  have e1 : ∀ (Y0 : V5), FM (e 0) (e 1) w K Y0 = aA Tryz.prog (au Li) 39 fuel (((flat (ah Tryz.f111)).drop 0).take 3) e w (fun e w => Y0 (e 0) (e 1) (e 5) (e 6) (e 7) w) (aW Tryz.prog [.tmp 4] K) noE := by intro Y0; kernel_rfl
  exact seg 3 (Eq.mp (e1 (fun a0 a1 a5 a6 a7 w => vR a0 a1 a5 a6 a7 w K)) h) (fun e w h => Xn hn hr he e w h) hr he
def U0 (x0 x1 : Value) (w : World) (K : V1) : Prop := FN x0 x1 w K
def I1 : FnT := fun args w K => on2 (fun x0 x1 => U0 x0 x1 w K) args
theorem c111 {x0 x1 : Value} {w : World} {K : V1} (h : U0 x0 x1 w K) : ai I1 [x0, x1] w K := aj (dm (p := fun x0 x1 => U0 x0 x1 w K) h)
theorem ok111 : OkF Tryz.prog 111 I1 := by
  refine aO (aN (l := Li) ⟨ok159, trivial⟩) mixed (n := fuel) Tryz.func111 Tryz.call111 fun args w K h => ?_
  obtain ⟨x0, x1, rfl, hh⟩ := dn h
  unfold U0 at hh
  exact az (c := ah Tryz.f111) (by kernel_rfl) (by kernel_rfl) (Xo (fun _ _ h => h) (fun _ _ h => h) (fun _ _ _ h => h) (dD [x0, x1]) w hh)
def T61 : List (Nat × FnT) := [(111, I1)]
def F61 (x0 : Value) (w : World) (K : V1) : Prop :=
bT 46 x0 w fun v2 w1 =>
aa (ae 0 v2) fun v3 =>
aa (ld1 v3 w1) fun v4 =>
aa (bEq Tryz.prog 9 (.tmp 4) (.const (.string ⟨#[]⟩)) v4 (.string ⟨#[]⟩)) fun v5 =>
Sx.stepG (gd false v5) (ae 1 v2) fun v6 =>
Sx.stepG (gd false v5) (ld1 v6 w1) fun v7 =>
Sx.stepG (gd false v5) (bEq Tryz.prog 9 (.tmp 8) (.const (.string ⟨#[]⟩)) v7 (.string ⟨#[]⟩)) fun v8 =>
aa (aG v5 (.bool true) v8) fun v9 =>
Sx.stepG (gd false v9) (ae 0 v2) fun v10 =>
Sx.stepG (gd false v9) (ld1 v10 w1) fun v11 =>
dz (gd false v9) (fun k => ai I1 [v11, (.int .i64 64)] w1 k) w1 fun v13 w12 =>
Sx.stepG (gd false v9) (dN v13) fun v14 =>
aa (aG v9 (.bool true) v14) fun v15 =>
Sx.stepG (gd false v15) (ae 1 v2) fun v16 =>
Sx.stepG (gd false v15) (ld1 v16 w12) fun v17 =>
dz (gd false v15) (fun k => ai I1 [v17, (.int .i64 64)] w12 k) w12 fun v19 w18 =>
Sx.stepG (gd false v15) (dN v19) fun v20 =>
aa (aG v15 (.bool true) v20) fun v21 =>
Sx.stepG (gd false v21) (ae 2 v2) fun v22 =>
Sx.stepG (gd false v21) (ld1 v22 w18) fun v23 =>
dz (gd false v21) (fun k => ai I1 [v23, (.int .i64 128)] w18 k) w18 fun v25 w24 =>
Sx.stepG (gd false v21) (dN v25) fun v26 =>
aa (aG v21 (.bool true) v26) fun v27 =>
Sx.stepG (gd false v27) (ae 4 v2) fun v28 =>
Sx.stepG (gd false v27) (ld1 v28 w24) fun v29 =>
dz (gd false v27) (fun k => ai I1 [v29, (.int .i64 1024)] w24 k) w24 fun v31 w30 =>
Sx.stepG (gd false v27) (dN v31) fun v32 =>
aa (aG v27 (.bool true) v32) fun v33 =>
Sx.stepG (gd false v33) (ae 3 v2) fun v34 =>
Sx.stepG (gd false v33) (ld1 v34 w30) fun v35 =>
Sx.stepG (gd false v33) (bLt v35 (.int .i64 0)) fun v36 =>
aa (aG v33 (.bool true) v36) fun v37 =>
Sx.stepG (gd false v37) (ae 3 v2) fun v38 =>
Sx.stepG (gd false v37) (ld1 v38 w30) fun v39 =>
Sx.stepG (gd false v37) (bGt v39 (.int .i64 5)) fun v40 =>
aa (aG v37 (.bool true) v40) fun v41 =>
ifB v41 (
K (.int .i64 180) w30) (
K (.int .i64 0) w30)
def G61 : FnT := fun args w K => on1 (fun x0 => F61 x0 w K) args
theorem c61 {x0 : Value} {w : World} {K : V1} (h : F61 x0 w K) : ai G61 [x0] w K := aj (bL (p := fun x0 => F61 x0 w K) h)
theorem ok61 : OkF Tryz.prog 61 G61 := by
  refine aO (aN (l := T61) ⟨ok111, trivial⟩) mixed (n := fuel) Tryz.func61 Tryz.call61 fun args w K h => ?_
  obtain ⟨x0, rfl, hh⟩ := bJ h
  exact az (c := ah Tryz.f61) (by kernel_rfl) (by kernel_rfl) (Eq.mp (by kernel_rfl) hh)
end Go.Proofs.Gong
