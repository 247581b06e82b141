/- A part of the proofs: what stands below it, told in lemmas. No condition. -/
import Derived.Test.YtjjnkobkjdopbaaGreatDoorP0
import Derived.ChangeSame
import Derived.WideKeyArgs
import Derived.RowKit
import Derived.Below
import Derived.OpenShut
import Derived.Deep.Slices
import Derived.ChangeMaps5
import Derived.Laws.Externs
import Derived.SizedLaws
import Derived.Lib.LaidTab
import Derived.Shelf.SlIterI.Nil
import Derived.Shelf.SlIter.Nil
import Derived.Shelf.SortM.Plain
import Derived.Shelf.SortM.SortNone
import Derived.RangeFuncLeaves
import Derived.RangeFuncBound
import Derived.RangeFuncCalls
import Derived.OwnWalkIn
import Derived.TacticsIn
import Derived.Test.YtjjnkobkjdopbaaGreatDoorProg
set_option linter.all false

/- Sz3 -/
namespace Go.Sx
open Go.ChangeShapes Go.WideShapes Go.RowKit
section
variable {H : Type} {enc : TypeId × Value → H} {P : Program}
theorem trodAll_stays (hl : laidOutB P = true) {W W' : World} {sp' : Nat → Bool} {base : Nat} : ∀ {ts : List TypeId} {vs : List Value} {ds : List (DataW H)} {ps : List MemPlace}, (∀ t ∈ ts, P.readableRec t = true ∧ t < P.types.size) →
    DataW.TrodAll enc P W base (fun _ => true) true ts vs ds ps → (∀ p ∈ ps, W.sameAt W' p) → (∀ p ∈ ps, sp' p.block = true) → DataW.TrodAll enc P W' base sp' true ts vs ds ps := by
  intro ts
  induction ts with
  | nil => intro vs ds ps _ h _ _; obtain ⟨rfl, rfl, rfl⟩ := trodAll_nil h; exact trodAll_mk0
  | cons t ts ih =>
    intro vs ds ps hr h h1 h2
    cases vs with
    | nil => exact h.elim
    | cons v vs =>
      cases ds with
      | nil => exact h.elim
      | cons d ds =>
        obtain ⟨p, q, hp, hq, rfl⟩ := h
        have := hr t (by simp)
        exact ⟨p, q, WideElems.Trod_stays hl this.1 this.2 hp (fun x hx => h1 x (by simp [hx])) (fun x hx => h2 x (by simp [hx])), ih (fun t ht => hr t (by simp [ht])) hq (fun x hx => h1 x (by simp [hx])) (fun x hx => h2 x (by simp [hx])), rfl⟩
theorem law_post (hl : laidOutB P = true) {f : Func} {s : ChangeSpec} {apart fresh handsOn again : Bool} {W W' : World} {args : Array Value} {ds gs : List (DataW H)} {before : List MemPlace} {tb : TypeId}
    (hp : f.params.toList.all (fun t => P.readableRec t && decide (t < P.types.size)) = true) (hW : DataW.Whole enc P f.params.toList s.vars apart W args.toList ds gs before) (hv : s.vars = [])
    (hs : s.fn H ds = { results := [.lit (.bool true)], args := ds }) (hr : f.resultTypes = #[tb]) (hb : P.underlying tb = some .bool) (hf : Fr [] W W') : s.post enc P f apart fresh handsOn again W args (.bool true) W' := by
  have hlt := hW.lt
  have hW0 := hW
  obtain ⟨p, q, hA, hV, rfl, hfz, hnd⟩ := hW
  rw [hv] at hV
  obtain ⟨rfl, rfl⟩ := trodVars_none hV
  simp only [List.append_nil] at *
  have hB := hf.below
  have hpar : ∀ t ∈ f.params.toList, P.readableRec t = true ∧ t < P.types.size := fun t ht => by
    have := List.all_eq_true.1 hp t ht
    simpa using this
  have hsame : ∀ x ∈ p, W.sameAt W' x := fun x hx => hB.same (hlt x hx)
  have hargs : ∀ sp : Nat → Bool, (∀ x ∈ p, sp x.block = true) → DataW.TrodAll enc P W' 0 sp true f.params.toList args.toList ds p := fun sp hsp => trodAll_stays hl hpar hA hsame hsp
  have hres : ∀ (b : Nat) (sp : Nat → Bool) (hd : Bool), DataW.TrodAll enc P W' b sp hd f.resultTypes.toList ((Value.bool true).resultList f.resultTypes.size) [.lit (.bool true)] [] := by
    intro b sp hd
    rw [hr]
    exact trodAll_mk1 (shut_bool hb true)
  have hfn : s.fn H (ds ++ []) = { results := [.lit (.bool true)], args := ds } := by rw [List.append_nil]; exact hs
  refine ⟨ds, [], p, [], p, [], hW0, by rw [hfn]; exact hres _ _ _, by rw [hfn]; exact hargs _ fun x hx => by simpa using hlt x hx, by rw [hfn, hv]; rfl, hB.frame _, fun _ => ⟨?_, [.lit (.bool true)] ++ ds, [], p, ⟨p, [], ?_, by rw [hv]; rfl, by simp, ?_, ?_⟩, ?_⟩⟩
  · exact ok_one hr rfl (by simp [Value.okWide, hb, Cell.okWide, Cell.ok])
  · have := trodAll_append (hargs (fun _ => true) fun _ _ => rfl) (hres 0 (fun _ => true) true)
    simpa using this
  · intro b off hx
    rw [hB.frozen (p := ⟨b, off, none⟩) (hlt _ hx)]
    exact hfz b off hx
  · exact hnd
  · exact fun x hx _ => hx
theorem law_calls {i : Nat} {G : FnT} (ok : OkF P i G) (hc : ∀ args w, (callFunc i args).run P w = .ok (.enter i args) w) {args : List Value} {W : World} (h : callP G args W fun v w' => v = .bool true ∧ Sat W [] w') :
    Calls P i args.toArray W fun e w' => e = .returned (.bool true) ∧ Fr [] W w' := by
  obtain ⟨k0, h0, hk⟩ := h
  rcases (ok _ _ _ h0) with ⟨_, hC⟩ | ⟨v, w', hr, _⟩
  · exact hC.mono fun e w' ⟨v, he, hv⟩ => ⟨by rw [he, (hk _ _ hv).1], (hk _ _ hv).2.fr⟩
  · rw [hc] at hr; cases hr
end
end Go.Sx

/- Sz4 -/
namespace Go.Sx
open Go.ChangeShapes Go.WideShapes Go.RowKit
inductive CK where
  | int (k : IntKind)
  | str
  | bool
def Fit (c : CK) (v : Value) : Prop := match c with
  | .int k => ∃ n, v = .int k n ∧ (Lit.int k n).wf = true
  | .str => ∃ s, v = .string s ∧ s.size ≤ maxLen
  | .bool => ∃ b, v = .bool b
def FitL : List CK → List Value → Prop
  | [], [] => True
  | c :: cs, v :: vs => Fit c v ∧ FitL cs vs
  | _, _ => False
theorem FitL.append : ∀ {a b : List CK} {x y : List Value}, FitL a x → FitL b y → FitL (a ++ b) (x ++ y)
  | [], _, [], _, _, h => h
  | _ :: _, _, _ :: _, _, h, h' => ⟨h.1, h.2.append h'⟩
  | [], _, _ :: _, _, h, _ => h.elim
  | _ :: _, _, [], _, h, _ => h.elim
theorem FitL.length : ∀ {a : List CK} {x : List Value}, FitL a x → x.length = a.length
  | [], [], _ => rfl
  | _ :: _, _ :: _, h => by simp [h.2.length]
  | [], _ :: _, h => h.elim
  | _ :: _, [], h => h.elim
section
variable {H : Type} {enc : TypeId × Value → H} {P : Program} {w : World} {base : Nat} {sp : Nat → Bool} {held : Bool}
theorem add_add (a : Addr) (x y : Nat) : (a.add x).add y = a.add (x + y) := by
  unfold Addr.add
  by_cases hx : x = 0 <;> by_cases hy : y = 0 <;> simp [hx, hy]
  omega
theorem flat_at {α : Type} {f : α → List Value} {es : Nat} (hf : ∀ x, (f x).length = es) : ∀ (l : List α) (i : Nat) (hi : i < l.length), ((l.flatMap f).drop (i * es)).take es = f l[i]
  | x :: l, 0, _ => by
    rw [List.flatMap_cons, Nat.zero_mul, List.drop_zero, List.take_left' (hf x)]; rfl
  | x :: l, i + 1, hi => by
    rw [List.flatMap_cons, Nat.add_mul, Nat.one_mul, Nat.add_comm, ← List.drop_drop, List.drop_left' (hf x)]
    exact flat_at hf l i (by simpa using hi)
theorem Rd.elem {α : Type} {f : α → List Value} {es n i : Nat} {v : Value} {l : List α} {j : IntKind} (h : Rd w es v n (l.flatMap f)) (hf : ∀ x, (f x).length = es) (hn : n = l.length) (hi : i < l.length) :
    ∃ b o, pIndexL es v (.int j i) = some (.pointer (some ⟨b, o, none⟩)) ∧ ldN es (.pointer (some ⟨b, o, none⟩)) w = some (.agg (f l[i]).toArray) ∧ ∀ k, w.cell? ⟨b, o + k, none⟩ = (f l[i])[k]? ∨ es ≤ k := by
  have hc2 := flat_at hf l i hi
  generalize l.flatMap f = cs at h hc2
  cases h with
  | emp => omega
  | blk hb hn ha hc =>
    rename_i b o cap a ty fz
    have e1 : i * es + es ≤ n * es := by
      have := Nat.mul_le_mul_right es (show i + 1 ≤ n by omega)
      rw [Nat.add_mul] at this; omega
    have e2 : f l[i] = (a.toList.drop (o + i * es)).take es := by
      rw [← hc2, hc, List.drop_take, List.take_take, List.drop_drop, Nat.min_eq_left (by omega)]
    refine ⟨b, o + i * es, ?_, ?_, fun k => ?_⟩
    · simp only [pIndexL]; rw [if_pos ⟨by omega, by omega⟩]; simp
    · rw [ldN_of hb (by omega), e2]
      congr 2
      apply Array.ext'
      simp only [Array.toList_extract, List.extract_eq_take_drop]
      rw [show o + i * es + es - (o + i * es) = es by omega]
    · rcases Nat.lt_or_ge k es with hk | hk
      · left
        rw [cell_of hb, e2, List.getElem?_take_of_lt hk, List.getElem?_drop, Array.getElem?_toList]
      · exact .inr hk
end
end Go.Sx

/- Sz5 -/
namespace Go.Sx
section
variable {κ ν : Type}
structure MapOk (ek : κ → Value) (ev : ν → Value) (es : Array MapEntry) (clock : Nat) (m : List (κ × ν)) : Prop where
  kv : es.toList.map (fun e => (e.key, e.val)) = m.map (fun x => (ek x.1, ev x.2))
  nd : (es.toList.map (·.born)).Nodup
  lt : ∀ e ∈ es.toList, e.born < clock
  kd : (m.map Prod.fst).Nodup
def MapH (ek : κ → Value) (ev : ν → Value) (v : Value) (m : List (κ × ν)) : HP := HEx fun r => HEx fun es => HEx fun clock => HPr (v = .map (some r) ∧ MapOk ek ev es clock m) (Blk r (.map es clock))
variable {ek : κ → Value} {ev : ν → Value} {m : List (κ × ν)} {w0 w : World} {L : List HP} {v : Value}
theorem map_iff : Sat w0 (MapH ek ev v m :: L) w ↔ ∃ r es clock, (v = .map (some r) ∧ MapOk ek ev es clock m) ∧ Sat w0 (Blk r (.map es clock) :: L) w := by
  simp only [MapH, Sat.ex_iff, Sat.pr_iff]
def ItH (ek : κ → Value) (ev : ν → Value) (it v : Value) (m rem : List (κ × ν)) : HP := HEx fun q => HEx fun r => HEx fun es => HEx fun clock => HEx fun seen =>
  HPr (it = ptr q ∧ v = .map (some r) ∧ MapOk ek ev es clock m ∧ (es.toList.filter (fun e => !seen.contains e.born)).map (fun e => (e.key, e.val)) = rem.map (fun x => (ek x.1, ev x.2)) ∧ rem.Sublist m)
    (HSt (Blk q (.mapIter (some r) clock seen clock)) (Blk r (.map es clock)))
theorem it_iff {it : Value} {rem : List (κ × ν)} : Sat w0 (ItH ek ev it v m rem :: L) w ↔ ∃ q r es clock seen, (it = ptr q ∧ v = .map (some r) ∧ MapOk ek ev es clock m ∧ (es.toList.filter (fun e => !seen.contains e.born)).map (fun e => (e.key, e.val)) = rem.map (fun x => (ek x.1, ev x.2)) ∧ rem.Sublist m) ∧
    Sat w0 (Blk q (.mapIter (some r) clock seen clock) :: Blk r (.map es clock) :: L) w := by
  simp only [ItH, Sat.ex_iff, Sat.pr_iff, Sat.star_iff]
theorem it_map {it : Value} {rem : List (κ × ν)} (h : Sat w0 (ItH ek ev it v m rem :: L) w) : Sat w0 (MapH ek ev v m :: L) w := by
  obtain ⟨q, r, es, clock, seen, ⟨_, h2, h3, _⟩, h5⟩ := it_iff.1 h
  exact map_iff.2 ⟨r, es, clock, ⟨h2, h3⟩, h5.drop⟩
theorem map_eraseIdx' {α β : Type} (f : α → β) : ∀ (l : List α) (j : Nat), (l.eraseIdx j).map f = (l.map f).eraseIdx j
  | [], _ => by simp
  | _ :: _, 0 => by simp
  | a :: l, j + 1 => by simp [map_eraseIdx' f l j]
theorem eMakeMap_sat {K : Value → World → Prop} (ek : κ → Value) (ev : ν → Value) (h : Sat w0 L w) (hK : ∀ v w', Sat w0 (MapH ek ev v ([] : List (κ × ν)) :: L) w' → K v w') : eMakeMap none w K :=
  hK _ _ (map_iff.2 ⟨_, _, _, ⟨rfl, ⟨by simp, by simp, by simp, by simp⟩⟩, h.alloc _⟩)
theorem eRange_sat {P : Program} {kt : TypeId} {K : Value → World → Prop} (h : Sat w0 (MapH ek ev v m :: L) w) {t et : TypeId} (hu : P.underlying t = some (.map kt et))
    (hK : ∀ it w', Sat w0 (ItH ek ev it v m m :: L) w' → K it w') : eRange P t v w K := by
  obtain ⟨r, es, clock, ⟨rfl, hm⟩, hs⟩ := map_iff.1 h
  simp only [eRange, hu, hs.blk]
  exact hK _ _ (it_iff.2 ⟨_, r, es, clock, #[], ⟨rfl, rfl, hm, by rw [List.filter_eq_self.2 (by simp)]; exact hm.kv, List.Sublist.refl _⟩, hs.alloc _⟩)
end
section
variable {κ ν : Type} [DecidableEq κ]
def aGet (k : κ) : List (κ × ν) → Option ν
  | [] => none
  | x :: r => if k = x.1 then some x.2 else aGet k r
def aSet (k : κ) (v : ν) : List (κ × ν) → List (κ × ν)
  | [] => [(k, v)]
  | x :: r => if k = x.1 then (k, v) :: r else x :: aSet k v r
def aDel (k : κ) : List (κ × ν) → List (κ × ν)
  | [] => []
  | x :: r => if k = x.1 then r else x :: aDel k r
def aFind (ev : ν → Value) (k : κ) : List (κ × ν) → Nat → Option (Nat × Value)
  | [], _ => none
  | x :: r, i => if k = x.1 then some (i, ev x.2) else aFind ev k r (i + 1)
structure KeyT (P : Program) (kt : TypeId) (ek : κ → Value) : Prop where
  u : (P.underlying kt).isSome = true
  ck : ∀ k, ckv P 10000 kt (ek k) = true
  eq : ∀ a b, eqv P Op.maxDepth kt (ek a) (ek b) = some (decide (a = b))
  sb : ∀ a, Instr.sameBits 10000 (ek a) (ek a) = true
variable {P : Program} {kt : TypeId} {ek : κ → Value} {ev : ν → Value} {m : List (κ × ν)} {k : κ}
theorem aFind_some {j i : Nat} {val : Value} : ∀ {m : List (κ × ν)} {i : Nat}, aFind ev k m i = some (j, val) → ∃ b, i ≤ j ∧ m[j - i]? = some (k, b) ∧ val = ev b ∧ aGet k m = some b ∧ (∀ x, aSet k x m = m.set (j - i) (k, x)) ∧ aDel k m = m.eraseIdx (j - i) := by
  intro m
  induction m with
  | nil => intro i h; simp [aFind] at h
  | cons y r ih =>
    intro i h
    unfold aFind at h
    by_cases hk : k = y.1
    · simp [hk] at h
      obtain ⟨rfl, rfl⟩ := h
      exact ⟨y.2, Nat.le_refl _, by simp [hk], rfl, by simp [aGet, hk], by simp [aSet, hk], by simp [aDel, hk]⟩
    · simp only [hk, if_false] at h
      obtain ⟨b, h1, h2, h3, h4, h5, h6⟩ := ih h
      have e : j - i = j - (i + 1) + 1 := by omega
      exact ⟨b, by omega, by rw [e]; simpa using h2, h3, by simp [aGet, hk, h4], fun x => by rw [e]; simp [aSet, hk, h5], by rw [e]; simp [aDel, hk, h6]⟩
theorem aFind_none : ∀ {m : List (κ × ν)} {i : Nat}, aFind ev k m i = none → aGet k m = none ∧ (∀ x, aSet k x m = m ++ [(k, x)]) ∧ aDel k m = m ∧ k ∉ m.map Prod.fst := by
  intro m
  induction m with
  | nil => intro i _; simp [aGet, aSet, aDel]
  | cons y r ih =>
    intro i h
    unfold aFind at h
    by_cases hk : k = y.1
    · simp [hk] at h
    · simp only [hk, if_false] at h
      obtain ⟨h1, h2, h3, h4⟩ := ih h
      refine ⟨by simp [aGet, hk, h1], fun x => by simp [aSet, hk, h2], by simp [aDel, hk, h3], ?_⟩
      rw [List.map_cons, List.mem_cons]; rintro (h | h)
      · exact hk h
      · exact h4 h
theorem mFind_al (K : KeyT P kt ek) : ∀ (l : List MapEntry) (m : List (κ × ν)) (i : Nat), l.map (fun e => (e.key, e.val)) = m.map (fun x => (ek x.1, ev x.2)) → mFind (eqv P Op.maxDepth kt (ek k)) l i = some (aFind ev k m i) := by
  intro l
  induction l with
  | nil => intro m i h; cases m with | nil => rfl | cons => simp at h
  | cons e l ih =>
    intro m i h
    cases m with
    | nil => simp at h
    | cons x m =>
      simp only [List.map_cons, List.cons.injEq, Prod.mk.injEq] at h
      obtain ⟨⟨h1, h2⟩, h3⟩ := h
      unfold mFind aFind
      rw [h1, K.eq]
      by_cases hk : k = x.1
      · simp [hk, h2]
      · simp [hk, ih _ _ h3]
theorem aGet_mem {k : κ} {x : ν} : ∀ {m : List (κ × ν)}, aGet k m = some x → (k, x) ∈ m
  | [], h => by simp [aGet] at h
  | y :: r, h => by
    unfold aGet at h
    by_cases hk : k = y.1
    · simp [hk] at h; subst h; subst hk; simp
    · simp only [hk, if_false] at h; exact List.mem_cons_of_mem _ (aGet_mem h)
theorem mem_aGet {k : κ} {x : ν} : ∀ {m : List (κ × ν)}, (m.map Prod.fst).Nodup → (k, x) ∈ m → aGet k m = some x
  | [], _, h => by simp at h
  | y :: r, hn, h => by
    simp only [List.map_cons, List.nodup_cons] at hn
    unfold aGet
    rcases List.mem_cons.1 h with rfl | h
    · simp
    · have : ¬ k = y.1 := fun e => hn.1 (by rw [← e]; exact List.mem_map_of_mem (f := Prod.fst) h)
      simp only [this, if_false]; exact mem_aGet hn.2 h
section
variable {w0 w : World} {L : List HP} {v : Value}
theorem look_map (h : Sat w0 (MapH ek ev v m :: L) w) (K : KeyT P kt ek) {t et : TypeId} {z : Value} (hu : P.underlying t = some (.map kt et)) (hz : fZero P et = some z) (ok : Bool) (k : κ) :
    fLook P t v (ek k) ok w = some (if ok then .tuple #[(aGet k m).elim z ev, .bool (aGet k m).isSome] else (aGet k m).elim z ev) := by
  obtain ⟨r, es, clock, ⟨rfl, hm⟩, hs⟩ := map_iff.1 h
  simp only [fLook, hu, mapOf, hs.blk]
  rw [if_pos ⟨K.ck k, K.u⟩, mFind_al K _ _ 0 hm.kv]
  cases hf : aFind ev k m 0 with
  | none => simp [(aFind_none hf).1, hz]
  | some x =>
    obtain ⟨j, val⟩ := x
    obtain ⟨b, _, _, rfl, h4, _⟩ := aFind_some (i := 0) hf
    simp [h4]
theorem look1 (h : Sat w0 (MapH ek ev v m :: L) w) (K : KeyT P kt ek) {t et : TypeId} {z : Value} (hu : P.underlying t = some (.map kt et)) (hz : fZero P et = some z) (k : κ) : fLook P t v (ek k) false w = some ((aGet k m).elim z ev) := by
  rw [look_map h K hu hz]; rfl
theorem look2 (h : Sat w0 (MapH ek ev v m :: L) w) (K : KeyT P kt ek) {t et : TypeId} {z : Value} (hu : P.underlying t = some (.map kt et)) (hz : fZero P et = some z) (k : κ) : fLook P t v (ek k) true w = some (.tuple #[(aGet k m).elim z ev, .bool (aGet k m).isSome]) := by
  rw [look_map h K hu hz]; rfl
theorem aSet_keys {x : ν} (h : (m.map Prod.fst).Nodup) : ((aSet k x m).map Prod.fst).Nodup := by
  cases hf : aFind (fun _ : ν => Value.int .i64 0) k m 0 with
  | none =>
    obtain ⟨_, h2, _, h4⟩ := aFind_none hf
    rw [h2, List.map_append, List.nodup_append]
    refine ⟨h, by simp, fun a ha b hb => ?_⟩
    simp at hb; subst hb; intro e; subst e; exact h4 ha
  | some y =>
    obtain ⟨j, val⟩ := y
    obtain ⟨b, _, h2, _, _, h5, _⟩ := aFind_some (i := 0) hf
    rw [h5, List.map_set]
    have : (m.map Prod.fst).set (j - 0) k = m.map Prod.fst := by
      apply List.ext_getElem?
      intro i
      rw [List.getElem?_set]
      split
      · rename_i hi; subst hi
        split
        · simp at h2; simp [h2]
        · rename_i hn; have := (List.getElem?_eq_some_iff.1 h2).1; simp at hn; omega
      · rfl
    rw [this]; exact h
theorem eMapSet_sat {K : Value → World → Prop} (h : Sat w0 (MapH ek ev v m :: L) w) (T : KeyT P kt ek) {t et : TypeId} (hu : P.underlying t = some (.map kt et)) (k : κ) (x : ν)
    (hK : ∀ w', Sat w0 (MapH ek ev v (aSet k x m) :: L) w' → K unit w') : eMapSet P t v (ek k) (ev x) w K := by
  obtain ⟨r, es, clock, ⟨rfl, hm⟩, hs⟩ := map_iff.1 h
  simp only [eMapSet, hu, hs.blk]
  refine ⟨⟨T.ck k, T.u⟩, ?_⟩
  rw [mFind_al T _ _ 0 hm.kv]
  have kd := aSet_keys (k := k) (x := x) hm.kd
  cases hf : aFind ev k m 0 with
  | none =>
    obtain ⟨_, h2, _, h4⟩ := aFind_none hf
    refine hK _ (map_iff.2 ⟨r, _, _, ⟨rfl, ?_, ?_, ?_, kd⟩, hs.set _⟩)
    · rw [h2]; simp [hm.kv]
    · simp only [Array.toList_push, List.map_append, List.nodup_append]
      refine ⟨hm.nd, by simp, fun a ha b hb => ?_⟩
      simp at hb; subst hb
      obtain ⟨e, he, rfl⟩ := List.mem_map.1 ha
      have := hm.lt e he; omega
    · intro e he
      simp only [Array.toList_push, List.mem_append, List.mem_singleton] at he
      rcases he with he | rfl
      · have := hm.lt e he; omega
      · simp
  | some y =>
    obtain ⟨j, val⟩ := y
    obtain ⟨b, _, h2, _, _, h5, _⟩ := aFind_some (i := 0) hf
    simp only [Nat.sub_zero] at h2 h5
    have hj : j < m.length := by
      rcases Nat.lt_or_ge j m.length with h | h
      · exact h
      · rw [List.getElem?_eq_none h] at h2; cases h2
    have hlen := congrArg List.length hm.kv
    simp at hlen
    have hje : j < es.size := by omega
    have hkey : es[j].key = ek k := by
      have := congrArg (fun l => l[j]?) hm.kv
      simp [hje, h2] at this
      exact this.1
    refine ⟨?_, hK _ (map_iff.2 ⟨r, _, _, ⟨rfl, ?_, ?_, ?_, kd⟩, hs.set _⟩)⟩
    · simp [hje, hkey, T.sb]
    · rw [h5, List.map_set]
      apply List.ext_getElem?
      intro i
      have := congrArg (fun l => l[i]?) hm.kv
      simp only [List.getElem?_map, Array.getElem?_toList, Array.getElem?_modify, List.getElem?_set] at this ⊢
      by_cases hi : j = i
      · subst hi; simp [hje, hj]
      · simp [hi]; simpa using this
    · have : (es.modify j fun e => { e with key := ek k, val := ev x }).toList.map (·.born) = es.toList.map (·.born) := by
        apply List.ext_getElem?
        intro i
        simp only [List.getElem?_map, Array.getElem?_toList, Array.getElem?_modify]
        split
        · cases es[i]? <;> simp
        · rfl
      rw [this]; exact hm.nd
    · intro e he
      obtain ⟨i, hi, rfl⟩ := List.getElem_of_mem he
      simp at hi
      simp only [Array.getElem_toList, Array.getElem_modify]
      have := hm.lt es[i] (by simp)
      split <;> exact this
theorem eDelete_sat {K : Value → World → Prop} (h : Sat w0 (MapH ek ev v m :: L) w) (T : KeyT P kt ek) {t et : TypeId} (hu : P.underlying t = some (.map kt et)) (k : κ)
    (hK : ∀ w', Sat w0 (MapH ek ev v (aDel k m) :: L) w' → K unit w') : eDelete P t v (ek k) w K := by
  obtain ⟨r, es, clock, ⟨rfl, hm⟩, hs⟩ := map_iff.1 h
  simp only [eDelete, hu, hs.blk]
  refine ⟨⟨T.ck k, T.u⟩, ?_⟩
  rw [mFind_al T _ _ 0 hm.kv]
  cases hf : aFind ev k m 0 with
  | none =>
    obtain ⟨_, _, h3, _⟩ := aFind_none hf
    refine hK _ (map_iff.2 ⟨r, _, _, ⟨rfl, ?_⟩, hs.set _⟩)
    rw [h3]; exact hm
  | some y =>
    obtain ⟨j, val⟩ := y
    obtain ⟨b, _, h2, _, _, _, h6⟩ := aFind_some (i := 0) hf
    simp only [Nat.sub_zero] at h2 h6
    have hj : j < m.length := by
      rcases Nat.lt_or_ge j m.length with h | h
      · exact h
      · rw [List.getElem?_eq_none h] at h2; cases h2
    have hlen := congrArg List.length hm.kv
    simp at hlen
    have e : (es.eraseIdxIfInBounds j).toList = es.toList.eraseIdx j := by
      rw [Array.toList_eraseIdxIfInBounds]
    have sub := List.eraseIdx_sublist es.toList j
    refine hK _ (map_iff.2 ⟨r, _, _, ⟨rfl, ?_, ?_, ?_, ?_⟩, hs.set _⟩)
    · rw [e, h6, map_eraseIdx', map_eraseIdx', hm.kv]
    · rw [e]; exact hm.nd.sublist (sub.map _)
    · rw [e]; exact fun x hx => hm.lt x (sub.subset hx)
    · rw [h6]; exact hm.kd.sublist ((List.eraseIdx_sublist m j).map _)
end
end
theorem KeyT.int {P : Program} {kt : TypeId} (h : P.underlying kt = some (.int .i64)) : KeyT P kt (fun n : Int => Value.int .i64 n) where
  u := by simp [h]
  ck := fun k => by simp [ckv, h]
  eq := fun a b => by simp [eqv, Op.maxDepth, h]; rw [Bool.eq_iff_iff]; simp
  sb := fun a => by simp [Instr.sameBits]
theorem KeyT.str {P : Program} {kt : TypeId} (h : P.underlying kt = some .string) : KeyT P kt (fun n : ByteArray => Value.string n) where
  u := by simp [h]
  ck := fun k => by simp [ckv, h]
  eq := fun a b => by simp [eqv, Op.maxDepth, h, sEq_eq]
  sb := fun a => by simp [Instr.sameBits]
end Go.Sx

/- Sz6 -/
namespace Go.Sx
structure Cod {α : Type} (f : α → List Value) (es : Nat) : Prop where
  len : ∀ x, (f x).length = es
  one : ∀ x, (f x).all (·.oneCell') = true
  pos : 0 < es
def LsH {α : Type} (f : α → List Value) (es : Nat) (ty : TypeId) (v : Value) (l : List α) : HP := SlH es ty v l.length (l.flatMap f)
def elP (es : Nat) (v : Value) (i : Int) : Value := (pIndexL es v (.int .i64 i)).getD undef
section
variable {α : Type} {f : α → List Value} {es : Nat} {ty : TypeId} {v : Value} {l : List α} {w0 w : World} {L : List HP}
theorem flat_len (C : Cod f es) (l : List α) : (l.flatMap f).length = l.length * es := by
  induction l with
  | nil => simp
  | cons x l ih => simp [ih, C.len, Nat.add_mul, Nat.add_comm]
theorem flat_one (C : Cod f es) (l : List α) : (l.flatMap f).all (·.oneCell') = true := by
  induction l with
  | nil => simp
  | cons x l ih => rw [List.flatMap_cons, List.all_append, C.one, ih]; rfl
theorem flat_take (C : Cod f es) : ∀ (l : List α) (i : Nat), (l.flatMap f).take (i * es) = (l.take i).flatMap f
  | [], i => by simp
  | x :: l, 0 => by simp
  | x :: l, i + 1 => by
    rw [List.flatMap_cons, Nat.add_mul, Nat.one_mul, Nat.add_comm, List.take_append_add_of_len (C.len x), flat_take C l i, List.take_succ_cons, List.flatMap_cons]
theorem flat_drop (C : Cod f es) : ∀ (l : List α) (i : Nat), (l.flatMap f).drop (i * es) = (l.drop i).flatMap f
  | [], i => by simp
  | x :: l, 0 => by simp
  | x :: l, i + 1 => by
    rw [List.flatMap_cons, Nat.add_mul, Nat.one_mul, Nat.add_comm, ← List.drop_drop, List.drop_left' (C.len x), flat_drop C l i, List.drop_succ_cons]
theorem flat_set (C : Cod f es) (l : List α) (i : Nat) (x : α) (hi : i < l.length) : (l.flatMap f).take (i * es) ++ f x ++ (l.flatMap f).drop (i * es + es) = (l.set i x).flatMap f := by
  rw [flat_take C, show i * es + es = (i + 1) * es by rw [Nat.add_mul]; omega, flat_drop C, List.set_eq_take_append_cons_drop, if_pos hi]
  simp
theorem ls_rd (h : Sat w0 (LsH f es ty v l :: L) w) : Rd w es v l.length (l.flatMap f) := Sat.rd h
theorem ls_one (h : Sat w0 (LsH f es ty v l :: L) w) : OneV v := (ls_rd h).one
theorem ls_len (h : Sat w0 (LsH f es ty v l :: L) w) : lenL v = some (.int .i64 l.length) := (ls_rd h).len
theorem rd_ix {n : Nat} {cs : List Value} (h : Rd w es v n cs) {i : Nat} (hi : i < n) : ∃ b o, pIndexL es v (.int .i64 i) = some (.pointer (some ⟨b, o, none⟩)) ∧ elP es v i = .pointer (some ⟨b, o, none⟩) := by
  cases h with
  | emp => omega
  | blk hb hn ha hc =>
    rename_i b o cap a ty fz
    have e : pIndexL es (.slice (some ⟨b, o, none⟩) n cap) (.int .i64 i) = some (.pointer (some ⟨b, o + i * es, none⟩)) := by
      simp only [pIndexL]; rw [if_pos ⟨by omega, by omega⟩]; simp
    exact ⟨b, o + i * es, e, by simp [elP, e]⟩
theorem ix_el {n : Nat} {cs : List Value} (h : Rd w es v n cs) {i : Nat} (hi : i < n) : pIndexL es v (.int .i64 i) = some (elP es v i) := by
  obtain ⟨b, o, h1, h2⟩ := rd_ix h hi
  rw [h1, h2]
theorem rd_ld (C : Cod f es) (h : Rd w es v l.length (l.flatMap f)) {i : Nat} (hi : i < l.length) : ldN es (elP es v i) w = some (.agg (f l[i]).toArray) := by
  obtain ⟨b, o, h1, h2, _⟩ := h.elem C.len rfl hi (j := .i64)
  have : elP es v i = .pointer (some ⟨b, o, none⟩) := by simp [elP, h1]
  rw [this, h2]
theorem rd_ld1 {g : α → Value} (h : Rd w 1 v l.length (l.flatMap fun x => [g x])) {i : Nat} (hi : i < l.length) : ld1 (elP 1 v i) w = some (g l[i]) := by
  obtain ⟨b, o, h1, _, h3⟩ := h.elem (fun _ => rfl) rfl hi (j := .i64)
  have : elP 1 v i = .pointer (some ⟨b, o, none⟩) := by simp [elP, h1]
  rw [this]
  have := h3 0
  simpa using this
theorem rd_fld (C : Cod f es) (h : Rd w es v l.length (l.flatMap f)) {i k : Nat} (hi : i < l.length) (hk : k < es) : ∃ a, pFieldAddr k (elP es v i) = some (.pointer (some a)) ∧ w.cell? a = (f l[i])[k]? := by
  obtain ⟨b, o, h1, _, h3⟩ := h.elem C.len rfl hi (j := .i64)
  have : elP es v i = .pointer (some ⟨b, o, none⟩) := by simp [elP, h1]
  rw [this]
  refine ⟨⟨b, o + k, none⟩, rfl, ?_⟩
  rcases h3 k with h | h
  · exact h
  · omega
theorem ls_st (C : Cod f es) (h : Sat w0 (LsH f es ty v l :: L) w) {i : Nat} (hi : i < l.length) (x : α) {y : Value} (hy : y.cells = (f x).toArray) {k : World → Prop} (hk : ∀ w', Sat w0 (LsH f es ty v (l.set i x) :: L) w' → k w') :
    bindW (st es (elP es v i) y w) k := by
  obtain ⟨fp, hO, kk⟩ := Sat.own h
  generalize hcs : l.flatMap f = cs at hO kk
  generalize hn' : l.length = n at hO kk
  cases hO with
  | nil => omega
  | blk hb hn ha hc =>
    rename_i b q cap a
    have e : elP es (.slice (some ⟨b, q, none⟩) n cap) i = .pointer (some ⟨b, q + i * es, none⟩) := by
      simp only [elP, pIndexL]; rw [if_pos ⟨by omega, by omega⟩]; simp
    have h1 : i * es + es ≤ n * es := by
      have := Nat.mul_le_mul_right es (show i + 1 ≤ n by omega)
      rw [Nat.add_mul] at this; omega
    have h2 := Nat.mul_le_mul_right es hn
    have hlx : (f x).length = es := C.len x
    rw [e, st_cells hb (by rw [hy]; simpa using hlx) (by rw [hy]; exact C.one x) (by omega)]
    refine hk _ ?_
    unfold LsH
    rw [List.length_set, hn']
    refine kk _ [b] _ _ _ _ _ (.blk (setBlk_same hb) hn ?_ ?_) (.set _ _ (by simp))
    · have : ∀ (vs : List Value) (c : Array Value) (o : Nat), (wr c o vs).size = c.size := by
        intro vs; induction vs with
        | nil => intro c o; rfl
        | cons v vs ih => intro c o; simp [wr, ih]
      rw [this]; exact ha
    · rw [hy, wr_toList _ _ _ (by simp [hlx]; omega), ← flat_set C l i x (by omega), hcs, hc]
      have e1 : List.take (q + i * es) a.toList = List.take q a.toList ++ List.take (i * es) (List.drop q a.toList) := by rw [List.take_add]
      have e2 : (List.take q a.toList).length = q := by simp; omega
      rw [e1]
      simp only [List.append_assoc]
      rw [List.drop_left' e2, List.take_take, Nat.min_eq_left (by omega)]
      rw [show n * es = i * es + (es + (n * es - i * es - es)) by omega, List.take_append_add_of_len (by simp; omega), List.take_append_add_of_len hlx]
      congr 2
      rw [List.drop_take, List.drop_drop]
      congr 1
      · omega
      · congr 1; simp [hlx]; omega
theorem ls_app {P : Program} {t xt : TypeId} {bytes : Nat} {s x : Value} {m : List α} {K : Value → World → Prop} (C : Cod f es) (h : Sat w0 (LsH f es ty s l :: L) w) (T : SlT P t ty es bytes) (hxt : isSS P xt = true)
    (hR : Rd w es x m.length (m.flatMap f)) (hb : (l.length + m.length) * bytes ≤ 140737488355328) (hK : ∀ s' w', Sat w0 (LsH f es ty s' (l ++ m) :: L) w' → K s' w') : eAppend P t xt s x w K := by
  refine eAppend_sat h T hxt hR (flat_one C m) hb fun s' w' h' => hK s' w' ?_
  unfold LsH
  rw [List.length_append, List.flatMap_append]; exact h'
theorem ls_lit {P : Program} {t : TypeId} {m : List α} {parts : List (Nat × Value)} {K : Value → World → Prop} {c : Array Value} (C : Cod f es) (h : Sat w0 L w) (hu : P.underlying t = some (.slice ty)) (hc : fBuildSl P ty m.length parts = some c) (hm : c.toList = m.flatMap f)
    (hK : ∀ s w', Sat w0 (LsH f es ty s m :: L) w' → K s w') : eBuildSl P t m.length parts w K := by
  refine eBuildSl_sat (es := es) h hu hc ?_ fun s w' h' => hK s w' ?_
  · have := congrArg List.length hm
    rw [flat_len C] at this; simpa using this
  · unfold LsH; rw [← hm]; exact h'
theorem rd_sub {lo hi : Nat} {A H M : Option Value} {v' : Value} (C : Cod f es) (h : Rd w es v l.length (l.flatMap f)) (hs : pSliceL es v A H M = some v') (hL : Bd 0 A lo) (hH : Bd l.length H hi) (hM : BdM hi l.length H M) (h1 : lo ≤ hi) (h2 : hi ≤ l.length) :
    Rd w es v' ((l.take hi).drop lo).length (((l.take hi).drop lo).flatMap f) := by
  have := h.sub' hs hL hH hM h1 h2
  rw [flat_take C, flat_drop C] at this
  have e : ((l.take hi).drop lo).length = hi - lo := by simp; omega
  rw [e]; exact this
end
def cI (n : Int) : List Value := [.int .i64 n]
theorem CI : Cod cI 1 := ⟨fun _ => rfl, fun _ => rfl, by omega⟩
end Go.Sx

/- Sz7 -/
namespace Go.Sx
section
variable {α : Type}
structure PermOn (a b : Nat) (l l' : List α) : Prop where
  perm : l'.Perm l
  out : ∀ i, (i < a ∨ b ≤ i) → l'[i]? = l[i]?
theorem PermOn.refl (a b : Nat) (l : List α) : PermOn a b l l := ⟨.refl _, fun _ _ => rfl⟩
theorem PermOn.trans {a b : Nat} {l m n : List α} (h : PermOn a b l m) (h' : PermOn a b m n) : PermOn a b l n := ⟨h'.perm.trans h.perm, fun i hi => (h'.out i hi).trans (h.out i hi)⟩
theorem PermOn.wide {a b a' b' : Nat} {l m : List α} (h : PermOn a b l m) (ha : a' ≤ a) (hb : b ≤ b') : PermOn a' b' l m := ⟨h.perm, fun i hi => h.out i (by omega)⟩
theorem PermOn.len {a b : Nat} {l m : List α} (h : PermOn a b l m) : m.length = l.length := h.perm.length_eq
theorem take_eq_of {l m : List α} {a : Nat} (h : ∀ i, i < a → m[i]? = l[i]?) : m.take a = l.take a := by
  apply List.ext_getElem?
  intro i
  simp only [List.getElem?_take]
  split
  · exact h i ‹_›
  · rfl
theorem drop_eq_of {l m : List α} {a : Nat} (h : ∀ i, a ≤ i → m[i]? = l[i]?) : m.drop a = l.drop a := by
  apply List.ext_getElem?
  intro i
  simp only [List.getElem?_drop]
  exact h _ (by omega)
theorem PermOn.mid {a b : Nat} {l m : List α} (h : PermOn a b l m) (hab : a ≤ b) : ((m.take b).drop a).Perm ((l.take b).drop a) := by
  have e : ∀ x : List α, x = x.take a ++ ((x.take b).drop a ++ x.drop b) := fun x => by
    have : x.take a = (x.take b).take a := by rw [List.take_take, Nat.min_eq_left hab]
    rw [this, ← List.append_assoc, List.take_append_drop, List.take_append_drop]
  have hp := h.perm
  rw [e m, e l, take_eq_of fun i hi => h.out i (.inl hi), drop_eq_of fun i hi => h.out i (.inr hi)] at hp
  have := (List.perm_append_left_iff _).1 hp
  exact (List.perm_append_right_iff _).1 this
theorem PermOn.all {a b : Nat} {l m : List α} (h : PermOn a b l m) {p : α → Prop} (hp : ∀ i x, a ≤ i → i < b → l[i]? = some x → p x) : ∀ i x, a ≤ i → i < b → m[i]? = some x → p x := by
  intro i x ha hb hx
  have hm : x ∈ (m.take b).drop a := by
    apply List.mem_of_getElem? (i := i - a)
    rw [List.getElem?_drop, List.getElem?_take_of_lt (by omega), show a + (i - a) = i by omega, hx]
  have := (h.mid (by omega)).subset hm
  obtain ⟨j, hj⟩ := List.getElem?_of_mem this
  have hj' := hj
  rw [List.getElem?_drop, List.getElem?_take] at hj
  split at hj
  · exact hp (a + j) x (by omega) ‹_› hj
  · cases hj
def swapL (l : List α) (i j : Nat) : List α := match l[i]?, l[j]? with | some x, some y => (l.set i y).set j x | _, _ => l
theorem swapL_eq {l : List α} {i j : Nat} (hi : i < l.length) (hj : j < l.length) : swapL l i j = (l.set i l[j]).set j l[i] := by simp [swapL, hi, hj]
theorem swapL_get {l : List α} {i j : Nat} (hi : i < l.length) (hj : j < l.length) (k : Nat) : (swapL l i j)[k]? = if k = j then some l[i] else if k = i then some l[j] else l[k]? := by
  rw [swapL_eq hi hj]
  simp only [List.getElem?_set, List.length_set]
  by_cases h1 : j = k
  · subst h1; simp [hj]
  · by_cases h2 : i = k
    · subst h2; simp [h1, hi, Ne.symm h1]
    · simp [h1, h2, Ne.symm h1, Ne.symm h2]
theorem swapL_perm {l : List α} {i j : Nat} (hi : i < l.length) (hj : j < l.length) : (swapL l i j).Perm l := by
  have h := Array.swap_perm (xs := l.toArray) (i := i) (j := j) (by simpa using hi) (by simpa using hj)
  have e : (l.toArray.swap i j (by simpa using hi) (by simpa using hj)).toList = swapL l i j := by
    rw [swapL_eq hi hj]; simp [Array.swap]
  have := h.toList
  rw [e] at this
  exact this
theorem PermOn.swap {a b i j : Nat} {l : List α} (hi : a ≤ i ∧ i < b) (hj : a ≤ j ∧ j < b) (hb : b ≤ l.length) : PermOn a b l (swapL l i j) :=
  ⟨swapL_perm (by omega) (by omega), fun k hk => by
    rw [swapL_get (by omega) (by omega)]
    rw [if_neg (by omega), if_neg (by omega)]⟩
structure SWO (lt : α → α → Bool) : Prop where
  asym : ∀ a b, lt a b = true → lt b a = false
  tr : ∀ a b c, lt b a = false → lt c b = false → lt c a = false
variable {lt : α → α → Bool}
theorem SWO.irr (S : SWO lt) (a : α) : lt a a = false := by
  cases h : lt a a with
  | false => rfl
  | true => have := S.asym a a h; rw [this] at h; cases h
def SortOn (lt : α → α → Bool) (a b : Nat) (l : List α) : Prop := ∀ i j x y, a ≤ i → i < j → j < b → l[i]? = some x → l[j]? = some y → lt y x = false
theorem SortOn.small {a b : Nat} {l : List α} (h : b ≤ a + 1) : SortOn lt a b l := fun i j x y h1 h2 h3 => by omega
theorem SortOn.of_eq {a b : Nat} {l m : List α} (h : SortOn lt a b l) (e : ∀ i, a ≤ i → i < b → m[i]? = l[i]?) : SortOn lt a b m :=
  fun i j x y h1 h2 h3 hx hy => h i j x y h1 h2 h3 (by rw [← e i h1 (by omega)]; exact hx) (by rw [← e j (by omega) h3]; exact hy)
theorem SortOn.step (S : SWO lt) {a b : Nat} {l : List α} (h : ∀ i x y, a ≤ i → i + 1 < b → l[i]? = some x → l[i + 1]? = some y → lt y x = false) : SortOn lt a b l := by
  intro i j x y h1 h2 h3 hx hy
  induction j generalizing y with
  | zero => omega
  | succ j ih =>
    by_cases e : i = j
    · subst e; exact h i x y h1 h3 hx hy
    · have hj : j < l.length := by have := (List.getElem?_eq_some_iff.1 hy).1; omega
      have hz : l[j]? = some l[j] := List.getElem?_eq_getElem hj
      exact S.tr _ _ _ (ih l[j] (by omega) (by omega) hz) (h j l[j] y (by omega) h3 hz hy)
theorem SortOn.sorted {l : List α} (h : SortOn lt 0 l.length l) : l.Pairwise fun x y => lt y x = false := by
  rw [List.pairwise_iff_getElem]
  intro i j hi hj hij
  exact h i j _ _ (by omega) hij hj (List.getElem?_eq_getElem hi) (List.getElem?_eq_getElem hj)
end
end Go.Sx

/- Sz8 -/
namespace Go.Sx
section
variable {κ ν : Type} {ek : κ → Value} {ev : ν → Value} {m : List (κ × ν)} {w0 w : World} {L : List HP} {v : Value}
end
section
variable {P : Program} {t : TypeId} {x y : Operand}
theorem bEq_nils {e : TypeId} (h : P.underlying t = some (.slice e)) (a : Option Addr) (n c : Nat) : bEq P t x y (.slice a n c) (.slice none 0 0) = some (.bool a.isNone) := by
  cases a <;> simp [bEq, bEqv, eqPlain, eqv, Op.maxDepth, h]
end
end Go.Sx

/- Sz9 -/
namespace Go.Sx
def bs (l : List UInt8) : ByteArray := ⟨l.toArray⟩
theorem mk_bs (l : List UInt8) : ByteArray.mk l.toArray = bs l := by unfold bs; rfl
theorem bs_of (s : ByteArray) : s = bs s.data.toList := by cases s; simp [bs]
@[simp] theorem bs_size (l : List UInt8) : (bs l).size = l.length := by simp [bs, ByteArray.size]
@[simp] theorem bs_data (l : List UInt8) : (bs l).data.toList = l := by simp [bs]
@[simp] theorem bs_append (a b : List UInt8) : bs a ++ bs b = bs (a ++ b) := by
  apply ByteArray.ext; simp [bs, ByteArray.data_append]
@[simp] theorem bs_inj {a b : List UInt8} : bs a = bs b ↔ a = b := by simp [bs]
@[simp] theorem bs_extract (l : List UInt8) (i j : Nat) : (bs l).extract i j = bs ((l.take j).drop i) := by
  apply ByteArray.ext
  rw [ByteArray.data_extract]
  simp only [bs, List.extract_toArray, List.extract_eq_take_drop]
  rw [List.drop_take]
@[simp] theorem bs_get (l : List UInt8) (i : Nat) : (bs l)[i]? = l[i]? := by
  by_cases h : i < l.length
  · rw [List.getElem?_eq_getElem h, getElem?_pos (bs l) i (by simpa using h)]
    simp [bs, ByteArray.getElem_eq_getElem_data]
  · rw [List.getElem?_eq_none (by omega), getElem?_neg (bs l) i (by simpa using h)]
theorem ix_txt {l : List UInt8} {i : Nat} {j : IntKind} (h : i < l.length) : pIndexS (.string (bs l)) (.int j i) = some (.int .u8 l[i].toNat) := by
  simp [pIndexS, h]
  rfl
theorem sub_from {l : List UInt8} {i : Nat} {j : IntKind} (h : i ≤ l.length) : pSliceS (.string (bs l)) (some (.int j i)) none = some (.string (bs (l.drop i))) := by
  simp [pSliceS, hiB, bnd, h]
theorem sub_to {l : List UInt8} {i : Nat} {j : IntKind} (h : i ≤ l.length) : pSliceS (.string (bs l)) none (some (.int j i)) = some (.string (bs (l.take i))) := by
  simp [pSliceS, hiB, bnd]
  rw [if_pos (by omega)]
theorem add_txt {a b : List UInt8} (h : a.length + b.length ≤ 9223372036854775807) : bAdd (.string (bs a)) (.string (bs b)) = some (.string (bs (a ++ b))) := by
  have e : IntKind.i64.max = 9223372036854775807 := by decide
  simp only [bAdd, bs_size, e]
  rw [if_neg (by omega), bs_append]
def cellsB (l : List UInt8) : List Value := l.map fun b => .int .u8 b.toNat
@[simp] theorem cellsB_len (l : List UInt8) : (cellsB l).length = l.length := by simp [cellsB]
@[simp] theorem bytesOf_cells : ∀ l : List UInt8, bytesOf (cellsB l) = some l
  | [] => rfl
  | b :: l => by
    show bytesOf (.int .u8 b.toNat :: cellsB l) = _
    simp [bytesOf, bytesOf_cells l]
theorem cBytes_rd {w : World} {v : Value} {n : Nat} {l : List UInt8} (h : Rd w 1 v n (cellsB l)) (h0 : 0 < n) : cBytes v w = some (.string (bs l)) := by
  have hl := h.length
  generalize hc : cellsB l = cs at h hl
  cases h with
  | emp => omega
  | blk hb hn ha hcs =>
    rename_i b o cap a ty fz
    subst hcs
    simp only [cBytes, hb]
    rw [if_pos (by omega)]
    have : (a.extract o (o + n)).toList = (a.toList.drop o).take (n * 1) := by simp [List.take_drop]
    rw [this, ← hc, bytesOf_cells]
    rfl
theorem cBytes_arr {w : World} {b i n : Nat} {c : Array Value} {ty : TypeId} {fz : Nat × Nat} {j : IntKind} {l : List UInt8} (h : w.heap[b]? = some (.cells c ty fz)) (hn : c.size = n) (hi : i ≤ n) (hl : c.toList.drop i = cellsB l) :
    ∃ v, pSliceA n 1 (.pointer (some ⟨b, 0, none⟩)) (some (.int j i)) none none = some v ∧ cBytes v w = some (.string (bs l)) := by
  have e : ∀ a, cBytes (.slice (some ⟨b, a, none⟩) (n - i) (n - i)) w = if a + (n - i) ≤ c.size then (bytesOf (c.extract a (a + (n - i))).toList).map fun l => .string ⟨l.toArray⟩ else none := by
    intro a; simp [cBytes, h]
  have hll := congrArg List.length hl
  simp at hll
  simp [pSliceA, hiB, bnd]
  rw [if_pos (by omega)]
  simp only
  by_cases hni : n = i
  · subst hni
    refine ⟨_, rfl, ?_⟩
    rw [if_pos rfl, e, if_pos (by omega)]
    have : l = [] := by cases l; rfl; simp at hll; omega
    subst this
    simp [bytesOf]; rfl
  · refine ⟨_, rfl, ?_⟩
    have e0 : (if i = 0 then (⟨b, 0, none⟩ : Addr) else ⟨b, i, none⟩) = ⟨b, i, none⟩ := by split <;> simp_all
    rw [if_neg hni]
    simp only [Addr.add, Nat.zero_add, Nat.mul_one]
    rw [e0, e, if_pos (by omega)]
    have : (c.extract i (i + (n - i))).toList = c.toList.drop i := by
      simp
      rw [List.take_of_length_le (by simp; omega)]
    rw [this, hl, bytesOf_cells]
    rfl
section
variable {w0 w : World} {L : List HP}
theorem eToBytes_sat {P : Program} {s d el : TypeId} {l : List UInt8} {K : Value → World → Prop} (h : Sat w0 L w) (us : P.underlying s = some .string) (ud : P.underlying d = some (.slice el)) (ue : P.underlying el = some (.int .u8))
    (hK : ∀ v w' b o, Sat w0 (Blk b o :: L) w' → Rd w' 1 v l.length (cellsB l) → K v w') : eToBytes P s d (.string (bs l)) w K := by
  simp only [eToBytes, us, ud, ue]
  intro cap hc
  have h1 := (h.drew).alloc (.cells (((bs l).data.map fun b => .int .u8 b.toNat) ++ Array.replicate (cap - (bs l).size) (.int .u8 0)) el (cap, cap + 1))
  refine hK _ _ _ _ h1 ?_
  have hb := h1.blk
  simp at hc
  simp only [sl, bs_size]
  refine .blk (o := 0) hb hc ?_ ?_
  · simp [bs]
  · simp [bs, cellsB]
end
theorem bShr_nat {n k : Nat} {j j' : IntKind} (h : k ≤ j.bits) : bShr (.int j n) (.int j' k) = some (.int j ((n / 2 ^ k : Nat))) := by
  simp only [bShr]
  rw [if_neg (by omega)]
  simp only [Int.toNat_natCast, Nat.min_eq_left h]
  congr 2
  rw [Int.fdiv_eq_ediv_of_nonneg _ (by exact_mod_cast Nat.zero_le _)]
  exact_mod_cast rfl
theorem wrap_u64 {n : Nat} (h : n < 18446744073709551616) : IntKind.u64.wrap n = n := by
  have e : IntKind.u64.wrap n = Int.emod n 18446744073709551616 := by rfl
  rw [e]; exact Int.emod_eq_of_lt (by omega) (by omega)
theorem wrap_u8 (n : Nat) : IntKind.u8.wrap n = (n % 256 : Nat) := by
  have e : IntKind.u8.wrap n = (n : Int) % 256 := by rfl
  rw [e]; omega
theorem bOr_i64 {a b : Nat} (ha : a < 9223372036854775808) (hb : b < 9223372036854775808) : bBit .or (.int .i64 a) (.int .i64 b) = some (.int .i64 ((a ||| b : Nat))) := by
  have h : a ||| b < 2 ^ 63 := Nat.or_lt_two_pow (by omega) (by omega)
  have e : (2 : Nat) ^ IntKind.i64.bits = 18446744073709551616 := by decide
  simp only [bBit, bBits, if_true, Option.map_some]
  congr 2
  rw [BitVec.toNat_or]
  simp only [BitVec.ofInt_natCast, BitVec.toNat_ofNat, e]
  rw [Nat.mod_eq_of_lt (show a < _ by omega), Nat.mod_eq_of_lt (show b < _ by omega)]
  exact wrap_id ⟨by omega, by omega⟩
theorem bOr_u64 {a b : Nat} (ha : a < 18446744073709551616) (hb : b < 18446744073709551616) : bBit .or (.int .u64 a) (.int .u64 b) = some (.int .u64 ((a ||| b : Nat))) := by
  have h : a ||| b < 2 ^ 64 := Nat.or_lt_two_pow (by omega) (by omega)
  have e : (2 : Nat) ^ IntKind.u64.bits = 18446744073709551616 := by decide
  simp only [bBit, bBits, if_true, Option.map_some]
  congr 2
  rw [BitVec.toNat_or]
  simp only [BitVec.ofInt_natCast, BitVec.toNat_ofNat, e]
  rw [Nat.mod_eq_of_lt (show a < _ by omega), Nat.mod_eq_of_lt (show b < _ by omega)]
  exact wrap_u64 (by omega)
theorem andNot_all : ∀ n : Fin 256, bBits .andNot .u8 (n.val : Int) 128 = some ((n.val % 128 : Nat) : Int) := by decide +kernel
theorem bAndNot_u8 (b : UInt8) : bBit .andNot (.int .u8 b.toNat) (.int .u8 128) = some (.int .u8 ((b.toNat % 128 : Nat))) := by
  have := andNot_all ⟨b.toNat, b.toNat_lt⟩
  simp only at this
  simp only [bBit, if_true, this, Option.map_some]
theorem or_add {a b i : Nat} (h : b < 2 ^ i) : (a * 2 ^ i) ||| b = a * 2 ^ i + b := by
  rw [Nat.mul_comm, Nat.two_pow_add_eq_or_of_lt h]
end Go.Sx

/- Sz10 -/
namespace Go.Sx
open Go.ChangeShapes Go.WideShapes Go.RowKit
section
variable {H : Type} {enc : TypeId × Value → H} {P : Program} {w : World} {base : Nat} {held : Bool}
end
theorem str_bs {s : ByteArray} : ∃ l : List UInt8, s = bs l ∧ l.length = s.size := ⟨s.data.toList, bs_of s, by rw [Array.length_toList]; rfl⟩
theorem on0_mk {p : Prop} (h : p) : on0 p [] := h
theorem on1_mk {p : Value → Prop} {a : Value} (h : p a) : on1 p [a] := h
theorem on2_mk {p : Value → Value → Prop} {a b : Value} (h : p a b) : on2 p [a, b] := h
theorem on3_mk {p : Value → Value → Value → Prop} {a b c : Value} (h : p a b c) : on3 p [a, b, c] := h
theorem on5_mk {p : Value → Value → Value → Value → Value → Prop} {a b c d e : Value} (h : p a b c d e) : on5 p [a, b, c, d, e] := h
end Go.Sx

/- Sz11 -/
namespace Go.Sx
inductive Rep (A B : HP) : List HP → List HP → Prop
  | here {L : List HP} : Rep A B (A :: L) (B :: L)
  | there {X : HP} {L L' : List HP} : Rep A B L L' → Rep A B (X :: L) (X :: L')
inductive Fnt (A : HP) : List HP → List HP → Prop
  | here {L : List HP} : Fnt A (A :: L) L
  | there {X : HP} {L M : List HP} : Fnt A L M → Fnt A (X :: L) (X :: M)
inductive Get : List HP → List HP → Prop
  | done {L : List HP} : Get L L
  | skip {X : HP} {L L' : List HP} : Get L L' → Get (X :: L) L'
  | pick {A : HP} {L M L' : List HP} : Fnt A L M → Get M L' → Get L (A :: L')
theorem Fnt.perm {A : HP} {L M : List HP} (f : Fnt A L M) : L.Perm (A :: M) := by
  induction f with
  | here => exact .refl _
  | there _ ih => exact (ih.cons _).trans (.swap _ _ _)
theorem Rep.split {A B : HP} {L L' : List HP} (r : Rep A B L L') : ∃ M, L.Perm (A :: M) ∧ (B :: M).Perm L' := by
  induction r with
  | here => exact ⟨_, .refl _, .refl _⟩
  | there _ ih => obtain ⟨M, h1, h2⟩ := ih; exact ⟨_ :: M, (h1.cons _).trans (.swap _ _ _), (List.Perm.swap _ _ _).trans (h2.cons _)⟩
class Nth (l : List Value) (i : Nat) (v : outParam Value) : Prop where
  get : l[i]? = some v
instance {a : Value} {l : List Value} : Nth (a :: l) 0 a := ⟨rfl⟩
instance {a b : Value} {l : List Value} {n : Nat} [h : Nth l n a] : Nth (b :: l) (n + 1) a := ⟨by simpa using h.get⟩
class Upd (l : List Value) (i : Nat) (y : Value) (l' : outParam (List Value)) : Prop where
  lt : i < l.length
  eq : l.set i y = l'
instance {a y : Value} {l : List Value} : Upd (a :: l) 0 y (y :: l) := ⟨by simp, rfl⟩
instance {y b : Value} {l l' : List Value} {n : Nat} [h : Upd l n y l'] : Upd (b :: l) (n + 1) y (b :: l') := ⟨by simpa using h.lt, by simp [h.eq]⟩
class Part (l : List Value) (o n : Nat) (l' : outParam (List Value)) : Prop where
  le : o + n ≤ l.length
  eq : (l.drop o).take n = l'
instance {l : List Value} : Part l 0 0 [] := ⟨by simp, by simp⟩
instance {a : Value} {l l' : List Value} {n : Nat} [h : Part l 0 n l'] : Part (a :: l) 0 (n + 1) (a :: l') := ⟨by have := h.le; simp; omega, by simpa using h.eq⟩
instance {a : Value} {l l' : List Value} {o n : Nat} [h : Part l o n l'] : Part (a :: l) (o + 1) n l' := ⟨by have := h.le; simp; omega, by simpa using h.eq⟩
theorem Part.all (l : List Value) : Part l 0 l.length l := ⟨by simp, by simp⟩
class Ups (l : List Value) (o : Nat) (ys : List Value) (l' : outParam (List Value)) : Prop where
  le : o + ys.length ≤ l.length
  eq : l.take o ++ (ys ++ l.drop (o + ys.length)) = l'
instance {l : List Value} : Ups l 0 [] l := ⟨by simp, by simp⟩
instance {a y : Value} {l ys l' : List Value} [h : Ups l 0 ys l'] : Ups (a :: l) 0 (y :: ys) (y :: l') := ⟨by have := h.le; simp at *; omega, by simpa using h.eq⟩
instance {a : Value} {l ys l' : List Value} {o : Nat} [h : Ups l o ys l'] : Ups (a :: l) (o + 1) ys (a :: l') := ⟨by have := h.le; simp; omega, by rw [Nat.add_right_comm]; simpa using h.eq⟩
theorem Ups.all {l ys : List Value} (h : l.length = ys.length) : Ups l 0 ys ys := ⟨by omega, by simp; omega⟩
class CellIn (p : Nat) (l : outParam (List Value)) (ty : outParam TypeId) (L : List HP) : Prop where
  mem : Cl p l.toArray ty ∈ L
instance {p : Nat} {l : List Value} {ty : TypeId} {L : List HP} : CellIn p l ty (Cl p l.toArray ty :: L) := ⟨.head _⟩
instance (priority := low) {p : Nat} {l : List Value} {ty : TypeId} {X : HP} {L : List HP} [h : CellIn p l ty L] : CellIn p l ty (X :: L) := ⟨.tail _ h.mem⟩
class Rp (p : Nat) (l' : List Value) (l : outParam (List Value)) (ty : outParam TypeId) (L : List HP) (L' : outParam (List HP)) : Prop where
  rep : Rep (Cl p l.toArray ty) (Cl p l'.toArray ty) L L'
instance {p : Nat} {l l' : List Value} {ty : TypeId} {L : List HP} : Rp p l' l ty (Cl p l.toArray ty :: L) (Cl p l'.toArray ty :: L) := ⟨.here⟩
instance (priority := low) {p : Nat} {l l' : List Value} {ty : TypeId} {X : HP} {L L' : List HP} [h : Rp p l' l ty L L'] : Rp p l' l ty (X :: L) (X :: L') := ⟨.there h.rep⟩
class LsIn (v : Value) (L : List HP) (α : outParam Type) (f : outParam (α → List Value)) (es : outParam Nat) (ty : outParam TypeId) (l : outParam (List α)) : Prop where
  fnt : ∃ M, Fnt (LsH f es ty v l) L M
instance {v : Value} {L : List HP} {α : Type} {f : α → List Value} {es : Nat} {ty : TypeId} {l : List α} : LsIn v (LsH f es ty v l :: L) α f es ty l := ⟨_, .here⟩
instance (priority := low) {v : Value} {X : HP} {L : List HP} {α : Type} {f : α → List Value} {es : Nat} {ty : TypeId} {l : List α} [h : LsIn v L α f es ty l] : LsIn v (X :: L) α f es ty l := ⟨h.fnt.elim fun M h => ⟨X :: M, .there h⟩⟩
class CodC {α : Type} (f : α → List Value) (es : outParam Nat) : Prop where
  cod : Cod f es
class SameC (w w' : World) : Prop where
  same : Same w w'
instance {w : World} : SameC w w := ⟨.refl _⟩
instance {w w' : World} [h : SameC w w'] : SameC w w'.drew := ⟨h.same.trans (.drew _)⟩
def elF (es : Nat) (v : Value) (i : Int) (k : Nat) : Value := (pFieldAddr k (elP es v i)).getD undef
section
variable {w0 w : World} {L L' M : List HP} {A B : HP} {k : Value → Prop} {K : Value → World → Prop}
theorem Sat.front (h : Sat w0 L w) (f : Fnt A L M) : Sat w0 (A :: M) w := h.perm f.perm
theorem Sat.get (h : Sat w0 L w) (g : Get L L') : Sat w0 L' w := by
  obtain ⟨hf, hh, h1, h2⟩ := h
  have key : ∀ {L L' : List HP}, Get L L' → ∀ {a : Hp}, SepL L a → ∃ b, SepL L' b ∧ ∀ i o, b i = some o → a i = some o := by
    intro L L' g
    induction g with
    | done => exact fun h => ⟨_, h, fun _ _ h => h⟩
    | skip _ ih =>
      intro a h
      obtain ⟨b, hb, h3⟩ := h.drop
      obtain ⟨c, hc, h4⟩ := ih hb
      exact ⟨c, hc, fun i o h => h3 i o (h4 i o h)⟩
    | pick f _ ih =>
      intro a h
      obtain ⟨x, y, hd, rfl, hP, hL⟩ := h.perm f.perm
      obtain ⟨c, hc, h4⟩ := ih hL
      refine ⟨hOr x c, ⟨x, c, fun i o hx => ?_, rfl, hP, hc⟩, fun i o h => ?_⟩
      · cases hci : c i with
        | none => rfl
        | some z => have h6 := h4 i z hci; rw [hd i o hx] at h6; cases h6
      · unfold hOr at h
        cases hx : x i with
        | some z => rw [hx] at h; simp at h; subst h; exact hOr_l hx
        | none => rw [hx] at h; simp at h; exact hOr_r hd (h4 i o h)
  obtain ⟨b, hb, h3⟩ := key g h1
  exact ⟨hf, b, hb, fun i o h => h2 i o (h3 i o h)⟩
theorem Sat.mem {b : Nat} {o : Obj} (h : Sat w0 L w) (hm : Blk b o ∈ L) : w.heap[b]? = some o := by
  obtain ⟨X, Y, rfl⟩ := List.append_of_mem hm
  exact (h.perm List.perm_middle).blk
theorem Sat.memc {b : Nat} {c : Array Value} {ty : TypeId} (h : Sat w0 L w) (hm : Cl b c ty ∈ L) : w.heap[b]? = some (.cells c ty (0, 0)) := h.mem hm
theorem Sat.rep {w' : World} (h : Sat w0 L w) (r : Rep A B L L') (f : ∀ M, Sat w0 (A :: M) w → Sat w0 (B :: M) w') : Sat w0 L' w' := by
  obtain ⟨M, h1, h2⟩ := r.split
  exact (f M (h.perm h1)).perm h2
theorem go_cell {p i : Nat} {c : Array Value} {ty : TypeId} {v : Value} (h : Sat w0 L w) (hm : Cl p c ty ∈ L) (hc : c[i]? = some v) : w.cell? ⟨p, i, none⟩ = some v := by
  rw [cell_of (h.memc hm), hc]
theorem ld1_cells {p i : Nat} {l : List Value} {ty : TypeId} {v : Value} {w1 : World} (h : Sat w0 L w) [e : SameC w w1] [hm : CellIn p l ty L] [hc : Nth l i v] : ld1 (.pointer (some ⟨p, i, none⟩)) w1 = some v := by
  rw [ld1_ptr]; exact go_cell (h.to e.same) hm.mem (by rw [List.getElem?_toArray]; exact hc.get)
theorem ld_part {p o n : Nat} {l l' : List Value} {ty : TypeId} {w1 : World} (h : Sat w0 L w) (e : Same w w1) (hm : Cl p l.toArray ty ∈ L) (hc : Part l o n l') : ldN n (.pointer (some ⟨p, o, none⟩)) w1 = some (.agg l'.toArray) := by
  rw [ldN_of ((h.to e).memc hm) (by simpa using hc.le)]
  congr 2
  apply Array.ext'
  rw [Array.toList_extract, List.extract_eq_take_drop]
  simpa using hc.eq
theorem go_some {o : Option Value} {v : Value} (h : o = some v) (hk : k v) : bindP o k := by rw [h, bindP_some]; exact hk
theorem go_ld1 {p i : Nat} {l : List Value} {ty : TypeId} {v : Value} {w1 : World} (h : Sat w0 L w) [SameC w w1] [CellIn p l ty L] [Nth l i v] (hk : k v) : bindP (ld1 (.pointer (some ⟨p, i, none⟩)) w1) k :=
  go_some (ld1_cells h) hk
theorem go_ldN {p o n : Nat} {l l' : List Value} {ty : TypeId} {w1 : World} (h : Sat w0 L w) [e : SameC w w1] [hm : CellIn p l ty L] [hc : Part l o n l'] (hk : k (.agg l'.toArray)) : bindP (ldN n (.pointer (some ⟨p, o, none⟩)) w1) k :=
  go_some (ld_part h e.same hm.mem hc) hk
theorem go_ldA {p n : Nat} {l : List Value} {ty : TypeId} {w1 : World} (h : Sat w0 L w) [e : SameC w w1] [hm : CellIn p l ty L] (hc : l.length = n) (hk : k (.agg l.toArray)) : bindP (ldN n (.pointer (some ⟨p, 0, none⟩)) w1) k :=
  go_some (ld_part h e.same hm.mem (hc ▸ Part.all l)) hk
theorem go_st {p i : Nat} {l l' m : List Value} {ty ty' : TypeId} {y : Value} [OneV y] {k : World → Prop} {w1 : World} (h : Sat w0 L w) [e : SameC w w1] [hm : CellIn p l ty L] [hc : Upd l i y l'] [r : Rp p l' m ty' L L']
    (hk : ∀ w', Sat w0 L' w' → k w') : bindW (st 1 (.pointer (some ⟨p, i, none⟩)) y w1) k := by
  have h := h.to e.same
  have hb := h.memc hm.mem
  rw [st_at hb y (by simpa using hc.lt)]
  rw [bindW_some]
  refine hk _ (h.rep r.rep fun M h => ?_)
  have h2 := h.cl
  rw [hb] at h2
  simp only [Option.some.injEq, Obj.cells.injEq, and_true] at h2
  obtain ⟨e1, rfl⟩ := h2
  obtain rfl : l = m := by simpa using congrArg Array.toList e1
  rw [List.setIfInBounds_toArray, hc.eq]; exact h.setc _
theorem go_stW {p o n : Nat} {l ys l' m : List Value} {ty ty' : TypeId} {k : World → Prop} {w1 : World} (h : Sat w0 L w) (e : Same w w1) (hm : Cl p l.toArray ty ∈ L) (hn : ys.length = n) (h1 : ys.all (·.oneCell') = true) (hc : Ups l o ys l') (r : Rep (Cl p m.toArray ty') (Cl p l'.toArray ty') L L')
    (hk : ∀ w', Sat w0 L' w' → k w') : bindW (st n (.pointer (some ⟨p, o, none⟩)) (.agg ys.toArray) w1) k := by
  have h := h.to e
  have hb := h.memc hm
  have hle := hc.le
  rw [st_cells hb (by simpa using hn) (by simpa using h1) (by simp; omega), bindW_some]
  refine hk _ (h.rep r fun M h => ?_)
  have h2 := h.cl
  rw [hb] at h2
  simp only [Option.some.injEq, Obj.cells.injEq, and_true] at h2
  obtain ⟨e1, rfl⟩ := h2
  obtain rfl : l = m := by simpa using congrArg Array.toList e1
  have e : wr l.toArray o (Value.agg ys.toArray).cells.toList = l'.toArray := by
    apply Array.ext'
    rw [wr_toList _ _ _ (by simp; omega)]
    simpa using hc.eq
  rw [e]; exact h.setc _
theorem go_stN {p o n : Nat} {l ys l' m : List Value} {ty ty' : TypeId} {k : World → Prop} {w1 : World} (h : Sat w0 L w) [e : SameC w w1] [hm : CellIn p l ty L] [hc : Ups l o ys l'] [r : Rp p l' m ty' L L'] (hn : ys.length = n) (h1 : ys.all (·.oneCell') = true)
    (hk : ∀ w', Sat w0 L' w' → k w') : bindW (st n (.pointer (some ⟨p, o, none⟩)) (.agg ys.toArray) w1) k :=
  go_stW h e.same hm.mem hn h1 hc r.rep hk
theorem go_stA {p n : Nat} {l ys m : List Value} {ty ty' : TypeId} {k : World → Prop} {w1 : World} (h : Sat w0 L w) [e : SameC w w1] [hm : CellIn p l ty L] [r : Rp p ys m ty' L L'] (hl : l.length = n) (hn : ys.length = n) (h1 : ys.all (·.oneCell') = true)
    (hk : ∀ w', Sat w0 L' w' → k w') : bindW (st n (.pointer (some ⟨p, 0, none⟩)) (.agg ys.toArray) w1) k :=
  go_stW h e.same hm.mem hn h1 (Ups.all (by omega)) r.rep hk
theorem go_box {t : TypeId} {v : Value} {l : List Value} {w1 : World} (h : Sat w0 L w) [e : SameC w w1] (hc : v.cells = l.toArray) (hK : ∀ p w', Sat w0 (Cl p l.toArray t :: L) w' → K (.pointer (some ⟨p, 0, none⟩)) w') : eBox t v w1 K := by
  refine eBox_sat (h.to e.same) fun p w' h' => hK p w' ?_
  rw [← hc]; exact h'
theorem go_alloc {Pg : Program} {t : TypeId} {z : Value} {l : List Value} {w1 : World} (h : Sat w0 L w) [e : SameC w w1] (hz : fZero Pg t = some z) (hc : z.cells = l.toArray) (hK : ∀ p w', Sat w0 (Cl p l.toArray t :: L) w' → K (.pointer (some ⟨p, 0, none⟩)) w') : eAlloc Pg t w1 K := by
  refine eAlloc_sat (h.to e.same) hz fun p w' h' => hK p w' ?_
  rw [← hc]; exact h'
theorem go_rd {p i : Nat} {l : List Value} {ty : TypeId} {v v' : Value} {X : Prop} {w1 : World} (h : Sat w0 L w) [e : SameC w w1] [hm : CellIn p l ty L] [hc : Nth l i v] (hv : v = v') (hX : X) : fok true (ld1 (.pointer (some ⟨p, i, none⟩)) w1) v' ∧ X := by
  subst hv
  exact ⟨by rw [fok_true]; exact ld1_cells h, hX⟩
theorem go_rdN {p o n : Nat} {l l' : List Value} {ty : TypeId} {v' : Value} {X : Prop} {w1 : World} (h : Sat w0 L w) [e : SameC w w1] [hm : CellIn p l ty L] [hc : Part l o n l'] (hv : .agg l'.toArray = v') (hX : X) : fok true (ldN n (.pointer (some ⟨p, o, none⟩)) w1) v' ∧ X := by
  subst hv
  exact ⟨by rw [fok_true]; exact ld_part h e.same hm.mem hc, hX⟩
theorem go_look1 {Pg : Program} {κ ν : Type} [DecidableEq κ] {ek : κ → Value} {ev : ν → Value} {v : Value} {m : List (κ × ν)} {kt t et : TypeId} {z : Value} {w1 : World} (h : Sat w0 L w) [e : SameC w w1] (hm : Fnt (MapH ek ev v m) L M) (T : KeyT Pg kt ek)
    (hu : Pg.underlying t = some (.map kt et)) (hz : fZero Pg et = some z) (q : κ) (hk : k ((aGet q m).elim z ev)) : bindP (fLook Pg t v (ek q) false w1) k :=
  go_some (look1 ((h.to e.same).front hm) T hu hz q) hk
theorem go_look2 {Pg : Program} {κ ν : Type} [DecidableEq κ] {ek : κ → Value} {ev : ν → Value} {v : Value} {m : List (κ × ν)} {kt t et : TypeId} {z : Value} {w1 : World} (h : Sat w0 L w) [e : SameC w w1] (hm : Fnt (MapH ek ev v m) L M) (T : KeyT Pg kt ek)
    (hu : Pg.underlying t = some (.map kt et)) (hz : fZero Pg et = some z) (q : κ) (hk : k (.tuple #[(aGet q m).elim z ev, .bool (aGet q m).isSome])) : bindP (fLook Pg t v (ek q) true w1) k :=
  go_some (look2 ((h.to e.same).front hm) T hu hz q) hk
theorem ls_of {α : Type} {f : α → List Value} {es : Nat} {ty : TypeId} {v : Value} {l : List α} {w1 : World} (h : Sat w0 L w) (e : Same w w1) (m : LsIn v L α f es ty l) : Rd w1 es v l.length (l.flatMap f) := by
  obtain ⟨M, hm⟩ := m.fnt
  exact ls_rd ((h.to e).front hm)
theorem rd_fa {α : Type} {f : α → List Value} {es i j : Nat} {v : Value} {l : List α} (C : Cod f es) (h : Rd w es v l.length (l.flatMap f)) (hi : i < l.length) (hj : j < es) : pFieldAddr j (elP es v i) = some (elF es v i j) := by
  obtain ⟨a, h1, _⟩ := rd_fld C h hi hj
  unfold elF; rw [h1]; rfl
theorem rd_f1 {α : Type} {f : α → List Value} {es i j : Nat} {v x : Value} {l : List α} (C : Cod f es) (h : Rd w es v l.length (l.flatMap f)) (hi : i < l.length) (hx : Nth (f l[i]) j x) : ld1 (elF es v i j) w = some x := by
  have hj : j < es := by
    have := (List.getElem?_eq_some_iff.1 hx.get).1
    rwa [C.len] at this
  obtain ⟨a, h1, h2⟩ := rd_fld C h hi hj
  have : elF es v i j = .pointer (some a) := by unfold elF; rw [h1]; rfl
  rw [this, ld1_ptr, h2, hx.get]
theorem go_lenL {α : Type} {f : α → List Value} {es : Nat} {ty : TypeId} {v : Value} {l : List α} (h : Sat w0 L w) [m : LsIn v L α f es ty l] (hk : k (.int .i64 l.length)) : bindP (lenL v) k :=
  go_some (ls_of h (.refl _) m).len hk
theorem go_ix {α : Type} {f : α → List Value} {es i : Nat} {ty : TypeId} {v : Value} {l : List α} (h : Sat w0 L w) [m : LsIn v L α f es ty l] (hi : i < l.length) (hk : k (elP es v i)) : bindP (pIndexL es v (.int .i64 i)) k :=
  go_some (ix_el (ls_of h (.refl _) m) hi) hk
theorem go_elN {α : Type} {f : α → List Value} {es i : Nat} {ty : TypeId} {v : Value} {l : List α} {w1 : World} (h : Sat w0 L w) [e : SameC w w1] [m : LsIn v L α f es ty l] [C : CodC f es] (hi : i < l.length) (hk : k (.agg (f l[i]).toArray)) : bindP (ldN es (elP es v i) w1) k :=
  go_some (rd_ld C.cod (ls_of h e.same m) hi) hk
theorem go_fa {α : Type} {f : α → List Value} {es i j : Nat} {ty : TypeId} {v : Value} {l : List α} (h : Sat w0 L w) [m : LsIn v L α f es ty l] [C : CodC f es] (hi : i < l.length) (hj : j < es) (hk : k (elF es v i j)) : bindP (pFieldAddr j (elP es v i)) k :=
  go_some (rd_fa C.cod (ls_of h (.refl _) m) hi hj) hk
theorem go_f1 {α : Type} {f : α → List Value} {es i j : Nat} {ty : TypeId} {v x : Value} {l : List α} {w1 : World} (h : Sat w0 L w) [e : SameC w w1] [m : LsIn v L α f es ty l] [C : CodC f es] (hi : i < l.length) (hx : Nth (f l[i]) j x) (hk : k x) : bindP (ld1 (elF es v i j) w1) k :=
  go_some (rd_f1 C.cod (ls_of h e.same m) hi hx) hk
theorem go_rf1 {α : Type} {f : α → List Value} {es i j : Nat} {ty : TypeId} {v x x' : Value} {l : List α} {X : Prop} {w1 : World} (h : Sat w0 L w) [e : SameC w w1] [m : LsIn v L α f es ty l] [C : CodC f es] (hi : i < l.length) (hx : Nth (f l[i]) j x) (hv : x = x') (hX : X) : fok true (ld1 (elF es v i j) w1) x' ∧ X := by
  subst hv
  exact ⟨by rw [fok_true]; exact rd_f1 C.cod (ls_of h e.same m) hi hx, hX⟩
theorem go_rel {α : Type} {f : α → List Value} {es i : Nat} {ty : TypeId} {v x' : Value} {l : List α} {X : Prop} {w1 : World} (h : Sat w0 L w) [e : SameC w w1] [m : LsIn v L α f es ty l] [C : CodC f es] (hi : i < l.length) (hv : .agg (f l[i]).toArray = x') (hX : X) : fok true (ldN es (elP es v i) w1) x' ∧ X := by
  subst hv
  exact ⟨by rw [fok_true]; exact rd_ld C.cod (ls_of h e.same m) hi, hX⟩
theorem go_rlen {α : Type} {f : α → List Value} {es : Nat} {ty : TypeId} {v x' : Value} {l : List α} {X : Prop} (h : Sat w0 L w) [m : LsIn v L α f es ty l] (hv : .int .i64 l.length = x') (hX : X) : fok true (lenL v) x' ∧ X := by
  subst hv
  exact ⟨by rw [fok_true]; exact (ls_of h (.refl _) m).len, hX⟩
theorem bAdd_i64 {a b : Int} (h : -9223372036854775808 ≤ a + b ∧ a + b ≤ 9223372036854775807) : bAdd (.int .i64 a) (.int .i64 b) = some (.int .i64 (a + b)) := by rw [bAdd_int, wrap_id h]
theorem bSub_i64 {a b : Int} (h : -9223372036854775808 ≤ a - b ∧ a - b ≤ 9223372036854775807) : bSub (.int .i64 a) (.int .i64 b) = some (.int .i64 (a - b)) := by rw [bSub_int, wrap_id h]
theorem pMin_int {j : IntKind} {a b : Int} : pMin (.int j a) (.int j b) = some (.int j (min a b)) := by
  simp only [pMin]; congr 2; rw [Int.min_def]; split <;> split <;> omega
theorem pMax_int {j : IntKind} {a b : Int} : pMax (.int j a) (.int j b) = some (.int j (max a b)) := by
  simp only [pMax]; congr 2; rw [Int.max_def]; split <;> split <;> omega
end
theorem evA : (∀ (v : Value) (k : Value → Prop), bindP (some v) k = k v) ∧ (∀ (o : Option Value) (k : Value → Prop), Sx.stepG true o k = bindP o k) ∧ (∀ (o : Option Value) (k : Value → Prop), Sx.stepG false o k = k undef) ∧
    (∀ (v : Value) (k : Value → Prop), stepM true v k = k v) ∧ (∀ (v : Value) (k : Value → Prop), stepM false v k = k undef) ∧
    (∀ (E : (Value → World → Prop) → Prop) (w : World) (K : Value → World → Prop), stepE true E w K = E K) ∧ (∀ (E : (Value → World → Prop) → Prop) (w : World) (K : Value → World → Prop), stepE false E w K = K undef w) ∧
    (∀ (w : World) (q : World → Prop), bindW (some w) q = q w) ∧ (∀ a b : Prop, ifB (.bool true) a b = a) ∧ (∀ a b : Prop, ifB (.bool false) a b = b) ∧ (∀ b : Bool, gd true (.bool b) = b) ∧ (∀ b : Bool, gd false (.bool b) = !b) ∧
    (∀ a b : Value, pPick (.bool true) a b = some a) ∧ (∀ a b : Value, pPick (.bool false) a b = some b) ∧ (∀ a : Addr, pNil (.pointer (some a)) = some (.pointer (some a))) ∧ (∀ off b o : Nat, pFieldAddr off (.pointer (some ⟨b, o, none⟩)) = some (.pointer (some ⟨b, o + off, none⟩))) ∧
    (∀ b : Bool, uNot (.bool b) = some (.bool !b)) ∧ (∀ b : Bool, gd b undef = false) :=
  ⟨fun _ _ => bindP_some _, fun _ _ => stepG_true _, fun _ _ => stepG_false _, fun _ _ => stepM_true _, fun _ _ => stepM_false _, fun _ _ _ => stepE_true _, fun _ _ _ => stepE_false _, fun _ _ => bindW_some _, fun _ _ => ifB_true, fun _ _ => ifB_false, gd_true, gd_false, pPick_true, pPick_false, pNil_ptr, pFieldAddr_ptr, uNot_bool, fun b => by cases b <;> rfl⟩
theorem evB : (∀ j (a b : Int), bLt (.int j a) (.int j b) = some (.bool (a < b))) ∧ (∀ j (a b : Int), bLe (.int j a) (.int j b) = some (.bool (a ≤ b))) ∧ (∀ j (a b : Int), bGt (.int j a) (.int j b) = some (.bool (a > b))) ∧ (∀ j (a b : Int), bGe (.int j a) (.int j b) = some (.bool (a ≥ b))) ∧
    (∀ P t x y j (a b : Int), bEq P t x y (.int j a) (.int j b) = some (.bool (decide (a = b)))) ∧ (∀ P t x y j (a b : Int), bNe P t x y (.int j a) (.int j b) = some (.bool (!decide (a = b)))) ∧
    (∀ P t x y (a b : ByteArray), bEq P t x y (.string a) (.string b) = some (.bool (decide (a = b)))) ∧ (∀ P t x y (a b : ByteArray), bNe P t x y (.string a) (.string b) = some (.bool (!decide (a = b)))) ∧
    (∀ (l : List Value) i, pTuple (.tuple l.toArray) i = l[i]?) ∧ (∀ (a : Value) (l : List Value), (a :: l)[0]? = some a) ∧ (∀ (a : Value) (l : List Value) i, (a :: l)[i + 1]? = l[i]?) ∧
    (∀ a n c, lenL (.slice a n c) = some (.int .i64 (n : Nat))) ∧ (∀ s : ByteArray, lenS (.string s) = some (.int .i64 s.size)) ∧ (∀ l : List UInt8, (bs l).size = l.length) ∧ (∀ j (a b : Int), pMin (.int j a) (.int j b) = some (.int j (min a b))) ∧ (∀ j (a b : Int), pMax (.int j a) (.int j b) = some (.int j (max a b))) ∧
    (∀ l : List UInt8, ByteArray.mk l.toArray = bs l) ∧ (∀ a b : List UInt8, (bs a = bs b) = (a = b)) ∧
    (∀ v w, ld1 v w.drew = ld1 v w) ∧ (∀ n v w, ldN n v w.drew = ldN n v w) ∧ (∀ v w, lenM v w.drew = lenM v w) ∧ (∀ v w, cBytes v w.drew = cBytes v w) ∧ (∀ P t m k b w, fLook P t m k b w.drew = fLook P t m k b w) ∧ (∀ v, fok true (some v) v = True) :=
  ⟨bLt_int, bLe_int, bGt_int, bGe_int, fun _ _ _ _ => bEq_int, fun _ _ _ _ => bNe_int, fun _ _ _ _ _ _ => by rw [bEq_str, bs_beq], fun _ _ _ _ _ _ => by rw [bNe_str, bs_beq], pTuple_mk, fun _ _ => List.getElem?_cons_zero, fun _ _ _ => List.getElem?_cons_succ, lenL_mk, lenS_mk, bs_size, fun _ _ _ => pMin_int, fun _ _ _ => pMax_int, mk_bs, fun _ _ => by rw [bs_inj], fun _ _ => rfl, fun _ _ _ => rfl, fun _ _ => rfl, fun _ _ => rfl, fun _ _ _ _ _ _ => rfl, fun _ => by rw [fok_true]; simp⟩
theorem evC : (∀ p, ptr p = .pointer (some ⟨p, 0, none⟩)) ∧ (∀ n : Nat, 0 + n = n) ∧ ((!true) = false) ∧ ((!false) = true) ∧ (∀ (α : Type) (a : α), (some a).isNone = false) ∧ (∀ α : Type, (none : Option α).isNone = true) ∧ (∀ (α : Type) (a : α), (some a).isSome = true) ∧ (∀ α : Type, (none : Option α).isSome = false) ∧
    (∀ [i : Decidable True], @decide True i = true) ∧ (∀ [i : Decidable False], @decide False i = false) ∧ (∀ (α : Type) (a : α), (a = a) = True) ∧ (∀ p : Prop, (True ∧ p) = p) ∧ (∀ a b c : Prop, ((a ∧ b) ∧ c) = (a ∧ b ∧ c)) :=
  ⟨fun _ => rfl, Nat.zero_add, rfl, rfl, fun _ _ => rfl, fun _ => rfl, fun _ _ => rfl, fun _ => rfl, fun {_} => by simp, fun {_} => by simp, fun _ _ => by simp, fun _ => by simp, fun _ _ _ => propext and_assoc⟩
theorem Sat.frt {A : HP} {w0 w : World} {L M : List HP} (h : Sat w0 L w) (f : Fnt A L M := by repeat (first | exact .here | apply Fnt.there)) : Sat w0 (A :: M) w := h.front f
theorem Sat.got {w0 w : World} {L L' : List HP} (h : Sat w0 L w) (g : Get L L' := by repeat (first | exact .done | (refine .pick (by repeat (first | exact .here | apply Fnt.there)) ?_) | refine .skip ?_)) : Sat w0 L' w := h.get g
end Go.Sx

/- Sz12 -/
namespace Go.Sx
open Go.ChangeShapes Go.WideShapes Go.RowKit
inductive CK2 where
  | int (k : IntKind)
  | str
  | bool
  | sl (es : Nat) (ks : List CK2)
mutual
def Fit2 (w : World) (B : Nat) : CK2 → Value → Prop
  | .int k, v => ∃ n, v = .int k n ∧ (Lit.int k n).wf = true
  | .str, v => ∃ s, v = .string s ∧ s.size ≤ B
  | .bool, v => ∃ b, v = .bool b
  | .sl es ks, v => ∃ n cs, Rd w es v n cs ∧ n ≤ B ∧ ∀ i, i < n → FitL2 w B ks ((cs.drop (i * es)).take es)
def FitL2 (w : World) (B : Nat) : List CK2 → List Value → Prop
  | [], vs => vs = []
  | c :: cs, vs => ∃ v r, vs = v :: r ∧ Fit2 w B c v ∧ FitL2 w B cs r
end
section
variable {w : World} {B : Nat}
theorem FitL2.append : ∀ {a b : List CK2} {x y : List Value}, FitL2 w B a x → FitL2 w B b y → FitL2 w B (a ++ b) (x ++ y)
  | [], _, x, _, h, h' => by simp only [FitL2] at h; subst h; exact h'
  | _ :: _, _, x, _, h, h' => by
    simp only [FitL2] at h
    obtain ⟨v, r, rfl, h1, h2⟩ := h
    simp only [List.cons_append, FitL2]
    exact ⟨v, _, rfl, h1, h2.append h'⟩
theorem FitL2.length : ∀ {a : List CK2} {x : List Value}, FitL2 w B a x → x.length = a.length
  | [], x, h => by simp only [FitL2] at h; subst h; rfl
  | _ :: _, x, h => by
    simp only [FitL2] at h
    obtain ⟨v, r, rfl, _, h2⟩ := h
    simp [h2.length]
theorem fitL2_nil {cs : List Value} (h : FitL2 w B [] cs) : cs = [] := by simpa only [FitL2] using h
theorem fitL2_int {k : IntKind} {ks : List CK2} {cs : List Value} (h : FitL2 w B (.int k :: ks) cs) : ∃ (n : Int) (vs : List Value), cs = .int k n :: vs ∧ (Lit.int k n).wf = true ∧ FitL2 w B ks vs := by
  simp only [FitL2, Fit2] at h
  obtain ⟨v, r, rfl, ⟨n, rfl, hn⟩, h2⟩ := h
  exact ⟨n, r, rfl, hn, h2⟩
theorem fitL2_str {ks : List CK2} {cs : List Value} (h : FitL2 w B (.str :: ks) cs) : ∃ (l : List UInt8) (vs : List Value), cs = .string (bs l) :: vs ∧ l.length ≤ B ∧ FitL2 w B ks vs := by
  simp only [FitL2, Fit2] at h
  obtain ⟨v, r, rfl, ⟨s, rfl, hs⟩, h2⟩ := h
  obtain ⟨l, rfl, hl⟩ := str_bs (s := s)
  exact ⟨l, r, rfl, by omega, h2⟩
theorem fitL2_sl {es : Nat} {k ks : List CK2} {cs : List Value} (h : FitL2 w B (.sl es k :: ks) cs) : ∃ (v : Value) (vs : List Value), cs = v :: vs ∧ (∃ n ds, Rd w es v n ds ∧ n ≤ B ∧ ∀ i, i < n → FitL2 w B k ((ds.drop (i * es)).take es)) ∧ FitL2 w B ks vs := by
  simp only [FitL2, Fit2] at h
  obtain ⟨v, r, rfl, h1, h2⟩ := h
  exact ⟨v, r, rfl, h1, h2⟩
end
def scal2F (P : Program) (r : TypeId → Option (List CK2)) : List Field → Nat → Option (List CK2)
  | [], _ => some []
  | f :: fs, off => match f.offset == off, r f.type with
    | true, some ks => match ks.length == P.cellsOf f.type, scal2F P r fs (off + ks.length) with
      | true, some l => some (ks ++ l)
      | _, _ => none
    | _, _ => none
def repCK2 (ks : List CK2) : Nat → List CK2
  | 0 => []
  | n + 1 => ks ++ repCK2 ks n
def scal2 (P : Program) : Nat → TypeId → Option (List CK2)
  | 0, _ => none
  | d + 1, t => match P.underlying t with
    | some .bool => some [.bool]
    | some (.int k) => some [.int k]
    | some .string => some [.str]
    | some (.slice e) => match scal2 P d e with
      | some ks => if 0 < P.cellsOf e ∧ 0 < P.bytesOf e then some [.sl (P.cellsOf e) ks] else none
      | none => none
    | some (.struct fs) => match scal2F P (scal2 P d) fs.toList 0 with
      | some ks => if ks.length = P.cellsOf t then some ks else none
      | none => none
    | some (.array n e) => match scal2 P d e with
      | some ks => if ks.length = P.cellsOf e ∧ n * ks.length = P.cellsOf t then some (repCK2 ks n) else none
      | none => none
    | _ => none
section
variable {H : Type} {enc : TypeId × Value → H} {P : Program} {w : World} {base : Nat} {held : Bool} {B : Nat}
theorem weightsAll_mem {e : TypeId} : ∀ {l : List (DataW H)} {d : DataW H}, d ∈ l → ∀ n ∈ d.weights P e, n ∈ DataW.weightsAll P e l
  | x :: l, d, hd, n, hn => by
    simp only [DataW.weightsAll, List.mem_append]
    rcases List.mem_cons.1 hd with rfl | hd
    · exact .inl hn
    · exact .inr (weightsAll_mem hd n hn)
  | [], _, hd, _, _ => by simp at hd
theorem scal2F_ok {r : TypeId → Option (List CK2)} {R : TypeId → List Value → Option (DataW H × List MemPlace)} {cs : List Value} (hr : ∀ t ks c x, r t = some ks → R t c = some x → (∀ n ∈ x.1.weights P t, n ≤ B) → FitL2 w B ks c) :
    ∀ (fs : List Field) (off : Nat) (ks : List CK2) (xs : List (DataW H × List MemPlace)), scal2F P r fs off = some ks → fs.mapM (fun f => R f.type ((cs.drop f.offset).take (P.cellsOf f.type))) = some xs →
      (∀ n ∈ DataW.weightsEach P (fs.map (·.type)) (xs.map (·.1)), n ≤ B) → FitL2 w B ks ((cs.drop off).take ks.length) := by
  intro fs
  induction fs with
  | nil => intro off ks xs h _ _; simp [scal2F] at h; subst h; simp [FitL2]
  | cons f fs ih =>
    intro off ks xs h hm hw
    unfold scal2F at h
    split at h
    · rename_i ks1 ho hks
      split at h
      · rename_i l hl hk
        simp only [Option.some.injEq] at h; subst h
        simp only [beq_iff_eq] at ho hl
        simp only [List.mapM_cons, Option.bind_eq_bind, Option.bind_eq_some_iff] at hm
        obtain ⟨x, hx, ys, hys, he⟩ := hm
        simp only [Option.pure_def, Option.some.injEq] at he; subst he
        simp only [List.map_cons, DataW.weightsEach, List.mem_append] at hw
        have f1 := hr _ _ _ _ hks hx fun n hn => hw n (.inl hn)
        have f2 := ih _ _ _ hk hys fun n hn => hw n (.inr hn)
        rw [ho, ← hl] at f1
        have := f1.append f2
        rw [List.length_append, List.take_add, List.drop_drop]
        exact this
      · cases h
    · cases h
theorem rep2_ok {ks : List CK2} {cs : List Value} : ∀ (n o : Nat), (∀ i, i < n → FitL2 w B ks ((cs.drop (o + i * ks.length)).take ks.length)) → FitL2 w B (repCK2 ks n) ((cs.drop o).take (n * ks.length)) := by
  intro n
  induction n with
  | zero => intro o _; simp [repCK2, FitL2]
  | succ n ih =>
    intro o h
    have h0 := h 0 (by omega)
    simp only [Nat.zero_mul, Nat.add_zero] at h0
    have h1 := ih (o + ks.length) fun i hi => by
      have := h (i + 1) (by omega)
      rwa [Nat.add_mul, Nat.one_mul, Nat.add_comm (i * ks.length), ← Nat.add_assoc] at this
    have := h0.append h1
    rw [show (n + 1) * ks.length = ks.length + n * ks.length by rw [Nat.add_mul]; omega, List.take_add, List.drop_drop]
    exact this
theorem mapM_mem {α β : Type} {f : α → Option β} : ∀ {l : List α} {r : List β}, l.mapM f = some r → ∀ x ∈ l, ∃ y ∈ r, f x = some y := by
  intro l
  induction l with
  | nil => intro r _ x hx; simp at hx
  | cons a l ih =>
    intro r h x hx
    simp only [List.mapM_cons, Option.bind_eq_bind, Option.bind_eq_some_iff] at h
    obtain ⟨y, hy, ys, hys, he⟩ := h
    simp only [Option.pure_def, Option.some.injEq] at he; subst he
    rcases List.mem_cons.1 hx with rfl | hx
    · exact ⟨y, by simp, hy⟩
    · obtain ⟨z, hz, h2⟩ := ih hys x hx; exact ⟨z, by simp [hz], h2⟩
theorem rd_of_slice {e : TypeId} {es : Nat} {a : Addr} {len cap m : Nat} {R : Nat → List Value → Prop} (he : P.cellsOf e = es) (hpos : 0 < es) (hlc : len ≤ cap) (hm : m = cap)
    (hel : ∀ i, i < m → ∃ cs', w.cells? base (a.add (i * es)) es = some cs' ∧ R i cs') :
    ∃ cs, Rd w es (.slice (some a) len cap) len cs ∧ ∀ i, i < len → R i ((cs.drop (i * es)).take es) := by
  subst hm
  by_cases hc0 : m = 0
  · have : len = 0 := by omega
    subst this
    exact ⟨[], .emp _ _, fun i hi => by omega⟩
  have cell : ∀ k, k < m * es → ∃ u, w.cell? (a.add k) = some u := by
    intro k hk
    have hi : k / es < m := by rw [Nat.div_lt_iff_lt_mul hpos]; exact hk
    obtain ⟨cs', h1, _⟩ := hel _ hi
    obtain ⟨_, h2, h3⟩ := World.cells?_some h1
    have hm := Nat.mod_lt k hpos
    have h4 := h3 (k % es) hm
    rw [add_add, show k / es * es + k % es = k by rw [Nat.mul_comm]; exact Nat.div_add_mod k es] at h4
    exact ⟨cs'[k % es]'(by omega), by rw [h4, List.getElem?_eq_getElem]⟩
  have hpos2 : 0 < m * es := Nat.mul_pos (by omega) hpos
  obtain ⟨b, o, spot⟩ := a
  have hspot : spot = none ∧ ∃ arr ty fz, w.heap[b]? = some (.cells arr ty fz) := by
    obtain ⟨u, hu⟩ := cell 0 hpos2
    simp only [Addr.add, if_true, World.cell?] at hu
    split at hu
    · rename_i arr ty fz hb'
      cases spot with
      | none => exact ⟨rfl, _, _, _, hb'⟩
      | some s => simp at hu
    · cases hu
  obtain ⟨rfl, arr, ty, fz, hb'⟩ := hspot
  have cell2 : ∀ k, k < m * es → o + k < arr.size := by
    intro k hk
    obtain ⟨u, hu⟩ := cell k hk
    rw [addr_add, cell_of hb'] at hu
    rcases Nat.lt_or_ge (o + k) arr.size with h | h
    · exact h
    · rw [Array.getElem?_eq_none h] at hu; cases hu
  have hsz := cell2 (m * es - 1) (by omega)
  have hle := Nat.mul_le_mul_right es hlc
  refine ⟨_, .blk hb' hlc (by omega) rfl, fun i hi => ?_⟩
  obtain ⟨cs', h1, h2⟩ := hel i (by omega)
  obtain ⟨_, h4, h5⟩ := World.cells?_some h1
  have hi2 : i * es + es ≤ len * es := by
    have := Nat.mul_le_mul_right es (show i + 1 ≤ len by omega)
    rw [Nat.add_mul] at this; omega
  have : (((arr.toList.drop o).take (len * es)).drop (i * es)).take es = cs' := by
    apply List.ext_getElem
    · simp; omega
    · intro j j1 j2
      have := h5 j (by omega)
      rw [addr_add, addr_add, cell_of hb', List.getElem?_eq_getElem j2, Array.getElem?_eq_getElem (cell2 (i * es + j) (by omega) |> fun h => by omega)] at this
      simp only [Option.some.injEq] at this
      rw [← this]
      simp [Nat.add_assoc]
  rw [this]; exact h2
theorem scal2_ok : ∀ (d : Nat) (t : TypeId) (ks : List CK2), scal2 P d t = some ks → ∀ (fuel : Nat) (cs : List Value) (x : DataW H × List MemPlace), DataW.trod enc P w base (fun _ => true) held fuel t cs = some x → (∀ n ∈ x.1.weights P t, n ≤ B) → FitL2 w B ks cs := by
  intro d
  induction d with
  | zero => intro t ks h; simp [scal2] at h
  | succ d ih =>
    intro t ks h fuel cs x hx hw
    cases fuel with
    | zero => simp [DataW.trod] at hx
    | succ fuel =>
    unfold scal2 at h
    split at h
    · rename_i hu
      simp only [Option.some.injEq] at h; subst h
      unfold DataW.trod at hx
      rw [hu] at hx
      split at hx <;> first | (simp_all; done) | (exact (by simp only [FitL2, Fit2]; exact ⟨_, _, rfl, ⟨_, rfl⟩, rfl⟩)) | (rename_i h1; simp at h1)
    · rename_i k hu
      simp only [Option.some.injEq] at h; subst h
      unfold DataW.trod at hx
      rw [hu] at hx
      split at hx
      all_goals first | (rename_i h1; simp at h1; done) | skip
      all_goals first | (simp at hx; done) | skip
      all_goals
        rename_i h1
        simp at h1
        subst h1
        split at hx
        · rename_i h2; obtain ⟨rfl, h3⟩ := h2; simp only [FitL2, Fit2]; exact ⟨_, _, rfl, ⟨_, rfl, h3⟩, rfl⟩
        · simp at hx
    · rename_i hu
      simp only [Option.some.injEq] at h; subst h
      unfold DataW.trod at hx
      rw [hu] at hx
      split at hx
      all_goals first | (rename_i h1; simp at h1; done) | skip
      all_goals first | (simp at hx; done) | skip
      all_goals
        split at hx
        · simp only [Option.some.injEq] at hx; subst hx
          rename_i s _ _
          have := hw s.size (by simp [DataW.weights])
          simp only [FitL2, Fit2]; exact ⟨_, _, rfl, ⟨_, rfl, this⟩, rfl⟩
        · simp at hx
    · rename_i e hu
      split at h
      · rename_i ks' hks
        split at h
        · rename_i hcell
          simp only [Option.some.injEq] at h; subst h
          rcases Go.Deep.open_slice hu hx with ⟨rfl, rfl⟩ | ⟨a, len, cap, m, n, D, Pl, rfl, hb, hlc, hcm, hm, rfl, hel⟩
          · simp only [FitL2, Fit2]
            exact ⟨_, _, rfl, ⟨0, [], .emp _ _, Nat.zero_le _, fun i hi => by omega⟩, rfl⟩
          · simp only [if_true] at hm
            simp only [DataW.weights, hu, List.mem_cons, List.mem_append, List.length_map, List.length_range] at hw
            have hn : len ≤ B := by
              have := hw _ (.inl rfl)
              have h3 := Nat.le_mul_of_pos_right (len + (m - len)) hcell.2
              omega
            obtain ⟨cs, hr, hR⟩ := rd_of_slice (R := fun i cs' => i < len → FitL2 w B ks' cs') rfl hcell.1 hlc hm fun i hi => by
              obtain ⟨cs', h1, h2⟩ := hel i hi
              refine ⟨cs', h1, fun hi2 => ih _ _ hks _ _ _ h2 fun n hn => hw n (.inr (.inl (weightsAll_mem (d := D i) ?_ n hn)))⟩
              exact List.mem_map.2 ⟨i, by simpa using hi2, rfl⟩
            simp only [FitL2, Fit2]
            exact ⟨_, _, rfl, ⟨len, cs, hr, hn, fun i hi => hR i hi hi⟩, rfl⟩
        · cases h
      · cases h
    · rename_i fs hu
      split at h
      · rename_i ks' hks
        split at h
        · rename_i hlen
          simp only [Option.some.injEq] at h; subst h
          have : cs.length = P.cellsOf t ∧ ∃ xs, fs.toList.mapM (fun f => DataW.trod enc P w base (fun _ => true) held fuel f.type ((cs.drop f.offset).take (P.cellsOf f.type))) = some xs ∧ x.1 = .agg (xs.map (·.1)) := by
            unfold DataW.trod at hx
            rw [hu] at hx
            split at hx
            all_goals first | (rename_i h1; simp at h1; done) | skip
            all_goals first | (simp at hx; done) | skip
            all_goals first | exact (‹∀ (fs_1 : Array Field), some (TypeDesc.struct fs) = some (TypeDesc.struct fs_1) → False› fs rfl).elim | skip
            all_goals
              have h1 := ‹some (TypeDesc.struct fs) = some (TypeDesc.struct _)›
              cases h1
              split at hx
              · rename_i hl
                simp only [Option.map_eq_some_iff] at hx
                obtain ⟨xs, hxs, rfl⟩ := hx
                exact ⟨hl, xs, hxs, rfl⟩
              · simp at hx
          obtain ⟨hl, xs, hxs, hx1⟩ := this
          rw [hx1] at hw
          simp only [DataW.weights, hu] at hw
          have := scal2F_ok (R := DataW.trod enc P w base (fun _ => true) held fuel) (fun t ks c x h1 h2 h3 => ih t ks h1 fuel c x h2 h3) fs.toList 0 ks' xs hks hxs hw
          rw [List.drop_zero, List.take_of_length_le (by omega)] at this
          exact this
        · cases h
      · cases h
    · rename_i n e hu
      split at h
      · rename_i ks' hks
        split at h
        · rename_i hlen
          simp only [Option.some.injEq] at h; subst h
          have : cs.length = P.cellsOf t ∧ ∃ xs, (List.range n).mapM (fun i => DataW.trod enc P w base (fun _ => true) held fuel e ((cs.drop (i * P.cellsOf e)).take (P.cellsOf e))) = some xs ∧ x.1 = .agg (xs.map (·.1)) := by
            unfold DataW.trod at hx
            rw [hu] at hx
            split at hx
            all_goals first | (rename_i h1; simp at h1; done) | skip
            all_goals first | (simp at hx; done) | skip
            all_goals first | exact (‹∀ (n_1 : Nat) (e_1 : TypeId), some (TypeDesc.array n e) = some (TypeDesc.array n_1 e_1) → False› n e rfl).elim | skip
            all_goals
              have h1 := ‹some (TypeDesc.array n e) = some (TypeDesc.array _ _)›
              cases h1
              split at hx
              · rename_i hl
                simp only [Option.map_eq_some_iff] at hx
                obtain ⟨xs, hxs, rfl⟩ := hx
                exact ⟨hl, xs, hxs, rfl⟩
              · simp at hx
          obtain ⟨hl, xs, hxs, hx1⟩ := this
          rw [hx1] at hw
          simp only [DataW.weights, hu] at hw
          have := rep2_ok (w := w) (B := B) (ks := ks') (cs := cs) n 0 fun i hi => by
            obtain ⟨y, hym, hy⟩ := mapM_mem hxs i (by simpa using hi)
            have := ih _ _ hks _ _ _ hy fun n hn => hw n (weightsAll_mem (List.mem_map.2 ⟨y, hym, rfl⟩) n hn)
            rw [Nat.zero_add, hlen.1]; exact this
          rw [List.drop_zero, List.take_of_length_le (by omega)] at this
          exact this
        · cases h
      · cases h
    · cases h
theorem arg_any {t : TypeId} {ks : List CK2} {v : Value} {d : DataW H} {ps : List MemPlace} {n0 : Nat} (hks : scal2 P n0 t = some ks)
    (hd : DataW.Trod enc P w base (fun _ => true) held t v d ps) (hw : ∀ n ∈ d.weights P t, n ≤ B) : FitL2 w B ks v.cells.toList := by
  obtain ⟨fuel, hx⟩ := hd
  exact scal2_ok _ _ _ hks _ _ _ hx hw
theorem arg_sl {t e : TypeId} {v : Value} {r : _root_.Go.Reach} {b0 : Nat} (ht : P.underlying t = some (.slice e)) (hval : Value.okWide P w r b0 t v) : v.cells.toList = [v] := by
  simp only [Value.okWide, ht, Cell.okWide, Cell.ok] at hval
  split at hval <;> first | rfl | (exact hval.elim) | simp_all [Value.cells]
end
theorem fit_list2 {α : Type} {f : α → List Value} {good : α → Prop} {Q : List Value → Prop} {es : Nat} (hf : ∀ c, Q c → ∃ x, c = f x ∧ good x) : ∀ (n : Nat) (cs : List Value), cs.length = n * es → (∀ i, i < n → Q ((cs.drop (i * es)).take es)) →
    ∃ l : List α, l.length = n ∧ cs = l.flatMap f ∧ ∀ x ∈ l, good x := by
  intro n
  induction n with
  | zero => intro cs h _; exact ⟨[], rfl, by simpa using h, by simp⟩
  | succ n ih =>
    intro cs h hx
    obtain ⟨x, e1, g1⟩ := hf _ (hx 0 (by omega))
    obtain ⟨l, e2, e3, g2⟩ := ih (cs.drop es) (by simp [h, Nat.add_mul]) fun i hi => by
      have := hx (i + 1) (by omega)
      rwa [Nat.add_mul, Nat.one_mul, Nat.add_comm (i * es), ← List.drop_drop] at this
    refine ⟨x :: l, by simp [e2], ?_, by simpa using ⟨g1, g2⟩⟩
    rw [List.flatMap_cons, ← e3, ← e1]
    simp
section
variable {w0 w : World} {L : List HP} {k : Value → Prop} {K : Value → World → Prop} {α : Type} {f : α → List Value} {es i : Nat} {ty : TypeId} {v : Value} {l : List α}
theorem go_subFrom {j : IntKind} (h : Sat w0 L w) [m : LsIn v L α f es ty l] [C : CodC f es] (hi : i ≤ l.length) (hk : ∀ v', Rd w es v' (l.drop i).length ((l.drop i).flatMap f) → k v') : bindP (pSliceL es v (some (.int j i)) none none) k := by
  have hr := ls_of h (.refl _) m
  obtain ⟨v', e, _⟩ := hr.sub (L := some (.int j i)) (H := none) (M := none) (lo := i) (hi := l.length) (.some _ _) .none (.none _) hi (Nat.le_refl _)
  have := rd_sub C.cod hr e (lo := i) (hi := l.length) (.some _ _) .none (.none _) hi (Nat.le_refl _)
  rw [List.take_length] at this
  exact go_some e (hk v' this)
theorem go_lit1 {P : Program} {t : TypeId} {x : α} {y : Value} {c : Array Value} {w1 : World} (C : Cod f es) (h : Sat w0 L w) [e : SameC w w1] (hu : P.underlying t = some (.slice ty)) (hc : fBuildSl P ty 1 [(0, y)] = some c) (hm : c.toList = f x)
    (hK : ∀ s w', Sat w0 (LsH f es ty s [x] :: L) w' → K s w') : eBuildSl P t 1 [(0, y)] w1 K :=
  ls_lit (m := [x]) C (h.to e.same) hu hc (by simp [hm]) hK
theorem go_lit0 {P : Program} {t : TypeId} {w1 : World} (C : Cod f es) (h : Sat w0 L w) [e : SameC w w1] (hu : P.underlying t = some (.slice ty)) (hc : fBuildSl P ty 0 [] = some #[])
    (hK : ∀ s w', Sat w0 (LsH f es ty s [] :: L) w' → K s w') : eBuildSl P t 0 [] w1 K :=
  ls_lit (m := []) C (h.to e.same) hu hc (by simp) hK
end
end Go.Sx

/- Sz13 -/
namespace Go.Sx
section
variable {w0 w w1 : World} {L M : List HP} {k : Value → Prop} {K : Value → World → Prop} {α : Type} {f : α → List Value} {es i j n : Nat} {ty : TypeId} {v : Value} {l : List α} {l' : List Value}
theorem rd_fN (C : Cod f es) (h : Rd w es v l.length (l.flatMap f)) (hi : i < l.length) (hp : Part (f l[i]) j n l') : ldN n (elF es v i j) w = some (.agg l'.toArray) := by
  generalize hcs : l.flatMap f = cs at h
  obtain ⟨m, hm⟩ : ∃ m, m = l.length := ⟨_, rfl⟩
  rw [← hm] at h
  cases h with
  | emp => omega
  | blk hb hn ha hc =>
    rename_i b o cap a ty fz
    have hlen := C.len l[i]
    have hle := hp.le
    have e : elF es (.slice (some ⟨b, o, none⟩) m cap) i j = .pointer (some ⟨b, o + i * es + j, none⟩) := by
      unfold elF elP
      simp only [pIndexL]
      rw [if_pos ⟨by omega, by omega⟩]
      simp [pFieldAddr]
    have him : i * es + es ≤ m * es := by
      have := Nat.mul_le_mul_right es (show i + 1 ≤ m by omega)
      rw [Nat.add_mul] at this; omega
    rw [e, ldN_of hb (by omega)]
    congr 2
    apply Array.ext'
    rw [Array.toList_extract, List.extract_eq_take_drop]
    have hf := flat_at C.len l i (by omega)
    rw [hcs, hc] at hf
    rw [show o + i * es + j + n - (o + i * es + j) = n from by omega]
    rw [← hp.eq, ← hf]
    simp only [List.drop_take, List.take_take, List.drop_drop, List.toList_toArray]
    congr 1
    omega
theorem Sat.nilLs (f : α → List Value) (es : Nat) (ty : TypeId) (h : Sat w0 L w) : Sat w0 (LsH f es ty (.slice none 0 0) ([] : List α) :: L) w := Sat.nilsl h
theorem go_app {P : Program} {t xt : TypeId} {bytes : Nat} {s x : Value} {l m : List α} {tx : TypeId} {K : Value → World → Prop} (h : Sat w0 L w) (T : SlT P t ty es bytes) (hxt : isSS P xt = true) [e : SameC w w1] (hm : Fnt (LsH f es ty s l) L M) [C : CodC f es] [mx : LsIn x L α f es tx m]
    (hb : (l.length + m.length) * bytes ≤ 140737488355328) (hK : ∀ s' w', OneV s' → Sat w0 (LsH f es ty s' (l ++ m) :: M) w' → K s' w') : eAppend P t xt s x w1 K :=
  have h := h.to e.same
  ls_app C.cod (h.front hm) T hxt (ls_of h (.refl _) mx) hb fun s' w' h' => hK s' w' (ls_one h') h'
end
class RdIn (w0 : World) (L : List HP) (v : Value) (α : outParam Type) (f : outParam (α → List Value)) (es : outParam Nat) (l : outParam (List α)) : Prop where
  rd : ∀ w, Sat w0 L w → Rd w es v l.length (l.flatMap f)
instance {w0 : World} {L : List HP} {v : Value} {α : Type} {f : α → List Value} {es : Nat} {ty : TypeId} {l : List α} : RdIn w0 (LsH f es ty v l :: L) v α f es l := ⟨fun _ h => ls_rd h⟩
instance (priority := low) {w0 : World} {L : List HP} {X : HP} {v : Value} {α : Type} {f : α → List Value} {es : Nat} {l : List α} [m : RdIn w0 L v α f es l] : RdIn w0 (X :: L) v α f es l := ⟨fun w h => m.rd w h.drop⟩
theorem RdIn.arg {w0 : World} {L : List HP} {v : Value} {α : Type} {f : α → List Value} {es : Nat} {l : List α} (h : Rd w0 es v l.length (l.flatMap f)) : RdIn w0 L v α f es l := ⟨fun _ hs => h.sat hs⟩
section
variable {w0 w w1 : World} {L M : List HP} {k : Value → Prop} {K : Value → World → Prop} {α : Type} {f : α → List Value} {es i j n : Nat} {ty : TypeId} {v x : Value} {l : List α} {l' : List Value}
theorem go_lenR (h : Sat w0 L w) [m : RdIn w0 L v α f es l] (hk : k (.int .i64 l.length)) : bindP (lenL v) k := go_some (m.rd w h).len hk
theorem go_ixR (h : Sat w0 L w) [m : RdIn w0 L v α f es l] (hi : i < l.length) (hk : k (elP es v i)) : bindP (pIndexL es v (.int .i64 i)) k := go_some (ix_el (m.rd w h) hi) hk
theorem go_elR (h : Sat w0 L w) [e : SameC w w1] [m : RdIn w0 L v α f es l] (hc : CodC f es) (hi : i < l.length) (hk : k (.agg (f l[i]).toArray)) : bindP (ldN es (elP es v i) w1) k := go_some (rd_ld hc.cod (m.rd _ (h.to e.same)) hi) hk
theorem go_faR (h : Sat w0 L w) [m : RdIn w0 L v α f es l] (hc : CodC f es) (hi : i < l.length) (hj : j < es) (hk : k (elF es v i j)) : bindP (pFieldAddr j (elP es v i)) k := go_some (rd_fa hc.cod (m.rd w h) hi hj) hk
theorem go_f1R (h : Sat w0 L w) [e : SameC w w1] [m : RdIn w0 L v α f es l] (hc : CodC f es) (hi : i < l.length) (hx : Nth (f l[i]) j x) (hk : k x) : bindP (ld1 (elF es v i j) w1) k := go_some (rd_f1 hc.cod (m.rd _ (h.to e.same)) hi hx) hk
theorem go_fNR (h : Sat w0 L w) [e : SameC w w1] [m : RdIn w0 L v α f es l] (hc : CodC f es) (hi : i < l.length) (hp : Part (f l[i]) j n l') (hk : k (.agg l'.toArray)) : bindP (ldN n (elF es v i j) w1) k := go_some (rd_fN hc.cod (m.rd _ (h.to e.same)) hi hp) hk
theorem go_rf1R {x' : Value} {X : Prop} (h : Sat w0 L w) [e : SameC w w1] [m : RdIn w0 L v α f es l] (hc : CodC f es) (hi : i < l.length) (hx : Nth (f l[i]) j x) (hv : x = x') (hX : X) : fok true (ld1 (elF es v i j) w1) x' ∧ X := by
  subst hv; exact ⟨by rw [fok_true]; exact rd_f1 hc.cod (m.rd _ (h.to e.same)) hi hx, hX⟩
theorem go_relR {x' : Value} {X : Prop} (h : Sat w0 L w) [e : SameC w w1] [m : RdIn w0 L v α f es l] (hc : CodC f es) (hi : i < l.length) (hv : .agg (f l[i]).toArray = x') (hX : X) : fok true (ldN es (elP es v i) w1) x' ∧ X := by
  subst hv; exact ⟨by rw [fok_true]; exact rd_ld hc.cod (m.rd _ (h.to e.same)) hi, hX⟩
theorem go_rlenR {x' : Value} {X : Prop} (h : Sat w0 L w) [m : RdIn w0 L v α f es l] (hv : .int .i64 l.length = x') (hX : X) : fok true (lenL v) x' ∧ X := by
  subst hv; exact ⟨by rw [fok_true]; exact (m.rd w h).len, hX⟩
theorem rd_e1 (C : Cod f 1) (h : Rd w 1 v l.length (l.flatMap f)) (hi : i < l.length) (hx : Nth (f l[i]) 0 x) : ld1 (elP 1 v i) w = some x := by
  obtain ⟨b, o, h1, _, h3⟩ := h.elem C.len rfl hi (j := .i64)
  have e : elP 1 v i = .pointer (some ⟨b, o, none⟩) := by simp [elP, h1]
  rw [e, ld1_ptr]
  rcases h3 0 with h | h
  · rw [show o + 0 = o from rfl] at h
    rw [h]; exact hx.get
  · omega
theorem go_e1R (h : Sat w0 L w) [e : SameC w w1] [m : RdIn w0 L v α f 1 l] (hc : CodC f 1) (hi : i < l.length) (hx : Nth (f l[i]) 0 x) (hk : k x) : bindP (ld1 (elP 1 v i) w1) k := go_some (rd_e1 hc.cod (m.rd _ (h.to e.same)) hi hx) hk
theorem go_re1R {x' : Value} {X : Prop} (h : Sat w0 L w) [e : SameC w w1] [m : RdIn w0 L v α f 1 l] (hc : CodC f 1) (hi : i < l.length) (hx : Nth (f l[i]) 0 x) (hv : x = x') (hX : X) : fok true (ld1 (elP 1 v i) w1) x' ∧ X := by
  subst hv; exact ⟨by rw [fok_true]; exact rd_e1 hc.cod (m.rd _ (h.to e.same)) hi hx, hX⟩
theorem go_appR {P : Program} {t xt : TypeId} {bytes : Nat} {s x : Value} {l m : List α} {K : Value → World → Prop} (h : Sat w0 L w) (T : SlT P t ty es bytes) (hxt : isSS P xt = true) [e : SameC w w1] (hm : Fnt (LsH f es ty s l) L M) [C : CodC f es] [mx : RdIn w0 L x α f es m]
    (hb : (l.length + m.length) * bytes ≤ 140737488355328) (hK : ∀ s' w', OneV s' → Sat w0 (LsH f es ty s' (l ++ m) :: M) w' → K s' w') : eAppend P t xt s x w1 K :=
  have h := h.to e.same
  ls_app C.cod (h.front hm) T hxt (mx.rd _ h) hb fun s' w' h' => hK s' w' (ls_one h') h'
end
end Go.Sx

/- Sz14 -/
namespace Go.Sx
instance : CodC cI 1 := ⟨CI⟩
instance (n : Int) : Nth (cI n) 0 (.int .i64 n) := ⟨rfl⟩
section
variable {w0 w w1 : World} {L M : List HP} {k : Value → Prop} {K : Value → World → Prop} {α : Type} {f : α → List Value} {es i j n : Nat} {ty : TypeId} {v : Value} {l : List α}
end
end Go.Sx

/- Sz15 -/
namespace Go.Sx
open Go
end Go.Sx

/- So2 -/
set_option linter.all false
namespace Go.Sx
open Go.Proofs Go.Maps
abbrev Rany : Value → Option (DataW Unit × List MemPlace) := fun _ => some (.nil, [])
section
variable {κ ν : Type} {ek : κ → Value} {ev : ν → Value} {m : List (κ × ν)} {w0 w : World} {L : List HP} {v : Value} {P : Program} {k : TypeId}
theorem map_own (kl : κ → Lit) (hk : ∀ x ∈ m, keyOf P k (ek x.1) = some (kl x.1)) (hinj : ∀ x y, ek x = ek y → x = y) (h : Sat w0 (MapH ek ev v m :: L) w) (hl : m.length ≤ maxLen) :
    ∃ b D, v = .map (some b) ∧ b < w.heap.size ∧ w.ownsMap P k Rany b m.length D ∧ (∃ es, D = .map es ∧ (es.map Prod.fst).Perm (m.map fun x => kl x.1)) := by
  obtain ⟨r, es, clock, ⟨rfl, hm⟩, hs⟩ := map_iff.1 h
  have hlen : es.size = m.length := by
    have := congrArg List.length hm.kv
    simpa using this
  have hkeys : es.toList.map (·.key) = m.map fun x => ek x.1 := by
    have := congrArg (List.map Prod.fst) hm.kv
    simpa [List.map_map, Function.comp_def] using this
  have hkd : ((m.map Prod.fst).map ek).Nodup := by
    refine List.pairwise_map.2 (hm.kd.imp fun hne e => hne (hinj _ _ e))
  have hrd : ∀ x ∈ es.toList, ∃ y ∈ m, x.key = ek y.1 := by
    intro x hx
    have : x.key ∈ es.toList.map (·.key) := List.mem_map.2 ⟨x, hx, rfl⟩
    rw [hkeys] at this
    obtain ⟨y, hy, e⟩ := List.mem_map.1 this
    exact ⟨y, hy, e.symm⟩
  have hrg : ∀ x ∈ es.toList, ∀ y ∈ m, x.key = ek y.1 → WideElems.rd P k Rany x = some (kl y.1, (.nil : DataW Unit)) := by
    intro x hx y hy e
    simp [WideElems.rd, e, hk y hy, Rany]
  refine ⟨r, _, rfl, lt_of_blk hs.blk, ⟨es, clock, hs.blk, ⟨by omega, ⟨hm.lt, hm.nd, ?_⟩, ?_⟩, by omega, rfl⟩, _, rfl, ?_⟩
  · rw [hkeys]
    simpa [List.map_map, Function.comp_def] using hkd
  · intro x hx
    obtain ⟨y, hy, e⟩ := hrd x hx
    exact ⟨_, hrg x hx y hy e⟩
  · have h1 : ((es.toList.map (WideElems.rg P k Rany)).foldr DataW.insert []).Perm (es.toList.map (WideElems.rg P k Rany)) := WideShapes.sorted_perm _
    refine (h1.map Prod.fst).trans ?_
    have h2 : (es.toList.map (WideElems.rg P k Rany)).map Prod.fst = m.map fun x => kl x.1 := by
      rw [List.map_map]
      have h3 : ∀ (l : List MapEntry) (n : List (κ × ν)), (∀ x ∈ l, x ∈ es.toList) → (∀ y ∈ n, y ∈ m) → l.map (·.key) = n.map (fun x => ek x.1) → l.map (Prod.fst ∘ WideElems.rg P k Rany) = n.map fun x => kl x.1 := by
        intro l
        induction l with
        | nil => intro n _ _ e; cases n with
          | nil => rfl
          | cons a n => simp at e
        | cons x l ih =>
          intro n hx hn e
          cases n with
          | nil => simp at e
          | cons y n =>
            simp only [List.map_cons, List.cons.injEq] at e ⊢
            refine ⟨?_, ih n (fun z hz => hx z (List.mem_cons_of_mem _ hz)) (fun z hz => hn z (List.mem_cons_of_mem _ hz)) e.2⟩
            simp [WideElems.rg, hrg x (hx x (by simp)) y (hn y (by simp)) e.1]
      exact h3 _ _ (fun _ h => h) (fun _ h => h) hkeys
    rw [h2]
end
theorem stp_of_below {w w' : World} (h : RowKit.Below w.heap.size w w') (fp : List Nat) (hf : ∀ b ∈ fp, w.heap.size ≤ b) : Stp [] fp w w' :=
  ⟨⟨h.os, h.tape, h.output, h.size, fun b hb _ => h.block b hb⟩, fun x hx => .inr (hf x hx)⟩
theorem Sat.row {w0 w w' : World} {L : List HP} {ty : TypeId} {es n : Nat} {v : Value} {xs : List Value} (h : Sat w0 L w) (hb : RowKit.Below w.heap.size w w') (hr : w'.ownsRow w.heap.size ty es v n xs) : Sat w0 (SlH es ty v n xs :: L) w' := by
  rcases hr with ⟨hx, ⟨rfl, rfl⟩ | ⟨g, cap, cur, rfl, hg, hc, h1, h2, h3, h4⟩⟩
  · obtain rfl : xs = [] := List.eq_nil_of_length_eq_zero (by simpa using hx)
    exact h.ofOwn .nil (stp_of_below hb [] (by simp))
  · exact h.ofOwn (.blk (b := g) (o := 0) (cap := cap) hc h1 (by omega) (by simpa using h4.symm)) (stp_of_below hb [g] (by simpa using hg))
abbrev kSt (s : List UInt8) : Value := .string (bs s)
abbrev cSt (s : List UInt8) : List Value := [.string (bs s)]
def gSortedS (g : Nat) (ty : TypeId) : FnT := fun args w K => ∃ (ν : Type) (ev : ν → Value) (m : List (List UInt8 × ν)) (mv : Value) (bx : Nat) (mt : TypeId) (w0 : World) (L : List HP),
  args = [.func (.func g) #[] #[ptr bx]] ∧ Sat w0 (Cl bx #[mv] mt :: MapH kSt ev mv m :: L) w ∧ (∀ x ∈ m, x.1.length ≤ maxLen) ∧ m.length ≤ 8796093022208 ∧
  ∀ l v w', l.Perm (m.map Prod.fst) → l.Pairwise (· ≤ ·) → Sat w0 (LsH cSt 1 ty v l :: Cl bx #[mv] mt :: MapH kSt ev mv m :: L) w' → K v w'
theorem okSortedS {P : Program} {ρk ρs ρt : Go.Shelf.Ren} {f g : Nat} {ty : TypeId} (Kl : SlLaysZ.n7 P ρk) (S : SlLaysZ.n6 P ρs) (T : SlLaysM.n6 P ρt) (hf : ρs.f 6 = f) (hg : ρk.f 10 = g) (ht : ρs.t 26 = ty) (hst : ρs.f 9 = ρt.f 6)
    (ef : ∀ args w, (callFunc f args).run P w = .ok (.enter f args) w) (e9 : ∀ args w, (callFunc (ρt.f 6) args).run P w = .ok (.enter (ρt.f 6) args) w) (eg : ∀ args w, (callFunc g args).run P w = .ok (.enter g args) w) : OkF P f (gSortedS g ty) := by
  subst hf hg ht
  intro args w K ⟨ν, ev, m, mv, bx, mt, w0, L, ha, hs, hr, hl, hk⟩
  subst ha
  refine .inl ⟨ef _ _, ?_⟩
  have hml : m.length ≤ maxLen := by unfold maxLen; omega
  have hs2 := hs.drop
  obtain ⟨b, D, rfl, hb, hown, es, rfl, hp⟩ := map_own (P := P) (k := ρk.t 26) (fun x => .string x) (fun x hx => by
    have := hr x hx
    simp [keyOf, Kl.t26, mapKey, bs, ByteArray.size, this]) (fun x y e => by simpa using e) hs2 hml
  have hsz : Maps.size (.map es : DataW Unit) = m.length := by
    have := hp.length_eq
    simpa [Maps.size] using this
  have hik : strKeys (.map es : DataW Unit) = (es.map Prod.fst).map strOf := by simp [strKeys]
  have hpk : (strKeys (.map es : DataW Unit)).Perm (m.map Prod.fst) := by
    rw [hik]
    refine (hp.map strOf).trans ?_
    rw [List.map_map]
    exact List.Perm.of_eq (List.map_congr_left fun x _ => rfl)
  have hcell : w.cell? ⟨bx, 0, none⟩ = some (.map (some b)) := by rw [cell_of hs.cl]; rfl
  have hseq := AnyZ.keys_gives (ρ := ρk) { Kl with } Fence.wide 2 trivial rfl (by omega) bx b m.length (.map es) w (lt_of_blk hs.cl) hcell hown
  have hsort : AnyZ.SortsIn P ρs Fence.wide (5 - 1) := by
    constructor
    · intro blk off cap ss W hH hblk hsz
      rw [hst]
      exact callsIn_wide.2 (AnyM.slices_Sort_string T blk off cap ss W hH hblk hsz)
    · intro p cap W
      rw [hst]
      exact callsIn_wide.2 (AnyM.slices_Sort_string_none T p cap W)
  have hcon := callsIn_wide.1 (AnyZ.sorted_in S Fence.wide 5 trivial trivial trivial trivial rfl (by omega) hsort (by rw [hst]; exact e9) (ρk.f 10) #[.pointer (some ⟨bx, 0, none⟩)] trivial eg _ _ (by rw [hsz]; exact hml) (by rw [hsz]; omega) w hseq)
  refine hcon.mono ?_
  rintro e w' ⟨v, ss, rfl, hS, hrow, _, hbl⟩
  refine ⟨_, rfl, hk (ss.mergeSort fun x y => decide (x ≤ y)) v w' (((List.mergeSort_perm ss _).trans hS).trans hpk) ?_ ?_⟩
  · have := List.pairwise_mergeSort (le := fun x y : List UInt8 => decide (x ≤ y)) (fun a b c h1 h2 => by simp only [decide_eq_true_eq] at *; exact List.le_trans h1 h2) (fun a b => by simp only [Bool.or_eq_true, decide_eq_true_eq]; exact List.le_total a b) ss
    exact this.imp fun h => by simpa using h
  · have := hs.row hbl hrow
    unfold LsH
    have e1 : (ss.mergeSort fun x y => decide (x ≤ y)).flatMap cSt = (ss.mergeSort fun x y => decide (x ≤ y)).map encStr := by
      induction (ss.mergeSort fun x y => decide (x ≤ y)) with
      | nil => rfl
      | cons a l ih => simp only [List.flatMap_cons, List.map_cons, ih]; rfl
    rw [e1, List.length_mergeSort]
    exact this
theorem sortedS_sat {g : Nat} {ty : TypeId} {ν : Type} {ev : ν → Value} {m : List (List UInt8 × ν)} {mv : Value} {bx : Nat} {mt : TypeId} {w0 w : World} {L : List HP} {K : Value → World → Prop} (h : Sat w0 (Cl bx #[mv] mt :: MapH kSt ev mv m :: L) w)
    (hr : ∀ x ∈ m, x.1.length ≤ maxLen) (hl : m.length ≤ 8796093022208)
    (hK : ∀ l v w', l.Perm (m.map Prod.fst) → l.Pairwise (· ≤ ·) → Sat w0 (LsH cSt 1 ty v l :: Cl bx #[mv] mt :: MapH kSt ev mv m :: L) w' → K v w') : callP (gSortedS g ty) [.func (.func g) #[] #[ptr bx]] w K :=
  callP_intro ⟨ν, ev, m, mv, bx, mt, w0, L, rfl, h, hr, hl, hK⟩
end Go.Sx

/- So3 -/
set_option linter.all false
namespace Go.Sx
open Go.Proofs
section
variable {P : Program} {w : World}
structure Wid (P : Program) (F : Fence) : Prop where
  fn : ∀ f, F.fn f
  dp : F.depth = none
  calls : ∀ n f args w R, Calls P f args w R → CallsIn F n P f args w R
theorem Wid.wide : Wid P Fence.wide := ⟨fun _ => trivial, rfl, fun _ _ _ _ _ h => callsIn_wide.2 h⟩
structure RelD (nt : Nat) (ds : List Deferred) (e : Env) (a : Act) : Prop where
  sz : a.tmps.size = nt
  df : a.defers = ds
  v : ∀ t, val a t = e t
theorem RelD.put {nt : Nat} {ds : List Deferred} {e : Env} {a : Act} (h : RelD nt ds e a) (d : Option Tmp) (v : Value) : RelD nt ds (Sx.put nt e d v) (a.put d v) := by
  have h2 : Rel nt e { a with defers := [] } := ⟨h.sz, rfl, h.v⟩
  have h3 := h2.put d v
  refine ⟨by rw [size_put, h.sz], by rw [dfr_put, h.df], fun t => ?_⟩
  have := h3.v t
  cases d <;> exact this
end
theorem born_inj : ∀ {l : List MapEntry}, (l.map (·.born)).Nodup → ∀ {a b : MapEntry}, a ∈ l → b ∈ l → a.born = b.born → a = b
  | [], _, _, _, h, _, _ => by simp at h
  | x :: l, hn, a, b, ha, hb, e => by
    simp only [List.map_cons, List.nodup_cons] at hn
    rcases List.mem_cons.1 ha with rfl | ha'
    · rcases List.mem_cons.1 hb with rfl | hb'
      · rfl
      · exact absurd (by rw [e]; exact List.mem_map_of_mem (f := (·.born)) hb') hn.1
    · rcases List.mem_cons.1 hb with rfl | hb'
      · exact absurd (by rw [← e]; exact List.mem_map_of_mem (f := (·.born)) ha') hn.1
      · exact born_inj hn.2 ha' hb' e
section
variable {κ ν : Type} {ek : κ → Value} {ev : ν → Value} {m : List (κ × ν)} {w0 w : World} {L : List HP} {v : Value}
theorem eNext_sat2 {K : Value → World → Prop} {it : Value} {rem : List (κ × ν)} (h : Sat w0 (ItH ek ev it v m rem :: L) w)
    (h0 : rem = [] → ∀ w', Sat w0 (ItH ek ev it v m [] :: L) w' → K over w')
    (h1 : ∀ (x : κ × ν) (r1 r2 : List (κ × ν)) (w' : World), rem = r1 ++ x :: r2 → Sat w0 (ItH ek ev it v m (r1 ++ r2) :: L) w' → fEntry it w' = some (.tuple #[ek x.1, ev x.2]) → K (.tuple #[.bool true, ek x.1, ev x.2]) w') : eNext it false w K := by
  obtain ⟨q, r, es, clock, seen, ⟨rfl, rfl, hm, hrem, hsub⟩, hs⟩ := it_iff.1 h
  simp only [eNext, ptr, hs.blk, hs.f1.blk]
  have hall : ∀ e ∈ es.toList, e.born < clock := hm.lt
  have hold : (es.filter fun e => !seen.contains e.born).filter (fun e => decide (e.born < clock)) = es.filter fun e => !seen.contains e.born := by
    apply Array.ext'
    simp only [Array.toList_filter]
    exact List.filter_eq_self.2 fun e he => by simpa using hall e (List.mem_filter.1 he).1
  have hnew : (es.filter fun e => !seen.contains e.born).filter (fun e => decide (e.born ≥ clock)) = #[] := by
    apply Array.ext'
    simp only [Array.toList_filter]
    refine List.filter_eq_nil_iff.2 fun e he => ?_
    have := hall e (List.mem_filter.1 he).1
    simp; omega
  have hC : nextC es clock seen = (if (es.filter fun e => !seen.contains e.born).isEmpty then #[none] else #[]) ++ (es.filter fun e => !seen.contains e.born).map some := by
    simp only [nextC, hold, hnew, Array.append_empty]
  refine ⟨?_, ?_⟩
  · cases hes : es.toList with
    | nil => have : es = #[] := by apply Array.ext'; simpa using hes
             subst this; simp
    | cons e l =>
      have : e.born < clock := hall e (by rw [hes]; simp)
      have h3 : es.all (fun x => decide (x.born ≥ clock)) = false := by
        rw [Bool.eq_false_iff]
        intro hx
        rw [Array.all_eq_true_iff_forall_mem] at hx
        have := hx e (by rw [← Array.mem_toList_iff, hes]; simp)
        simp at this; omega
      simp [h3]
  · intro j w1 hw1 hj
    have hs1 : Sat w0 (Blk q (.mapIter (some r) clock seen clock) :: Blk r (.map es clock) :: L) w1 := by
      rcases hw1 with rfl | rfl
      · exact hs
      · exact hs.drew
    rw [hC] at hj ⊢
    generalize hl : (es.filter fun e => !seen.contains e.born) = left at *
    have hleft : left.toList = es.toList.filter fun e => !seen.contains e.born := by rw [← hl]; simp
    rw [← hleft] at hrem
    by_cases hemp : left.toList = []
    · have : left = #[] := Array.ext' (by simpa using hemp)
      subst this
      simp at hj ⊢
      subst hj
      simp
      have hr0 : rem = [] := by simpa using hrem
      subst hr0
      exact h0 rfl _ (it_iff.2 ⟨q, r, es, clock, seen, ⟨rfl, rfl, hm, by rw [← hleft]; simp, hsub⟩, hs1⟩)
    · have hne : left.isEmpty = false := by
        rw [Bool.eq_false_iff]; intro hx
        simp at hx; exact hemp (by simp [hx])
      simp [hne] at hj ⊢
      have hlen := congrArg List.length hrem
      simp at hlen
      have hjr : j < rem.length := by omega
      simp [hj]
      have hkv := congrArg (fun l => l[j]?) hrem
      simp [hj, hjr] at hkv
      have split : rem = rem.take j ++ rem[j] :: rem.drop (j + 1) := by
        rw [List.getElem_cons_drop, List.take_append_drop]
      have := h1 rem[j] (rem.take j) (rem.drop (j + 1)) (setBlk w1 q (.mapIter (some r) clock (seen.push left[j].born) clock)) split ?_ ?_
      · rw [← hkv.1, ← hkv.2] at this; exact this
      · refine it_iff.2 ⟨q, r, es, clock, seen.push left[j].born, ⟨rfl, rfl, hm, ?_, ?_⟩, hs1.set _⟩
        · have hnd : (left.toList.map (·.born)).Nodup := by
            rw [hleft]; exact hm.nd.sublist (List.filter_sublist.map _)
          have e1 : es.toList.filter (fun e => !(seen.push left[j].born).contains e.born) = left.toList.eraseIdx j := by
            have e2 : es.toList.filter (fun e => !(seen.push left[j].born).contains e.born) = left.toList.filter (fun e => decide (e.born ≠ left[j].born)) := by
              rw [hleft, List.filter_filter]
              congr 1; funext e
              rw [Bool.eq_iff_iff]; simp; 
              constructor
              · rintro ⟨a, b⟩; exact ⟨b, a⟩
              · rintro ⟨a, b⟩; exact ⟨b, a⟩
            rw [e2]
            have key : ∀ (l : List MapEntry) (j : Nat) (hj : j < l.length), (l.map (·.born)).Nodup → l.filter (fun e => decide (e.born ≠ l[j].born)) = l.eraseIdx j := by
              intro l
              induction l with
              | nil => intro j hj; simp at hj
              | cons a l ih =>
                intro j hj hn
                simp only [List.map_cons, List.nodup_cons] at hn
                cases j with
                | zero =>
                  simp
                  intro x hx e
                  exact hn.1 (by rw [← e]; exact List.mem_map_of_mem hx)
                | succ j =>
                  simp only [List.length_cons, Nat.add_lt_add_iff_right] at hj
                  have : a.born ≠ l[j].born := fun e => hn.1 (by rw [e]; exact List.mem_map_of_mem (List.getElem_mem hj))
                  simp [this]
                  simpa using ih j hj hn.2
            exact key left.toList j (by simpa using hj) hnd
          rw [e1, map_eraseIdx', hrem, ← map_eraseIdx', List.eraseIdx_eq_take_drop_succ]
        · rw [← List.eraseIdx_eq_take_drop_succ]; exact (List.eraseIdx_sublist _ _).trans hsub
      · have hs2 := hs1.set (.mapIter (some r) clock (seen.push left[j].born) clock)
        have hlm : left[j] ∈ es.toList := by
          have : left[j] ∈ left.toList := by rw [← Array.getElem_toList]; exact List.getElem_mem _
          rw [hleft] at this
          exact (List.mem_filter.1 this).1
        have hfd : es.find? (fun e => e.born == left[j].born) = some left[j] := by
          rw [← Array.find?_toList]
          cases hf : es.toList.find? (fun e => e.born == left[j].born) with
          | none =>
            rw [List.find?_eq_none] at hf
            have := hf _ hlm
            simp at this
          | some e =>
            have h3 := List.mem_of_find?_eq_some hf
            have h4 := List.find?_some hf
            simp only [beq_iff_eq] at h4
            rw [born_inj hm.nd h3 hlm h4]
        simp [fEntry, ptr, hs2.blk, hs2.f1.blk, hfd, hkv.1, hkv.2]
end
section
variable {κ ν : Type} {ek : κ → Value} {ev : ν → Value} {m : List (κ × ν)} {w0 w : World} {L : List HP} {mv : Value} {P : Program}
end
section
variable {ν : Type} {fv : ν → List Value} {w0 w : World} {L : List HP} {P : Program}
end
end Go.Sx

/- Ty -/
namespace Go.Proofs.Gong
open Go Go.Sx Go.Proofs
set_option linter.all false
set_option maxRecDepth 100000
variable {kn kr : ET} {ke : JT}
theorem mixed : Tryz.prog.follows .mixedOrders = true := by kernel_rfl
theorem z3 : fZero Tryz.prog 3 = some (.int .i64 0) := by kernel_rfl
theorem z4 : fZero Tryz.prog 4 = some (.bool false) := by kernel_rfl
theorem z5 : fZero Tryz.prog 5 = some (.int .u8 0) := by kernel_rfl
theorem z9 : fZero Tryz.prog 9 = some (.string ⟨#[]⟩) := by kernel_rfl
theorem u22 : Tryz.prog.underlying 22 = some (.slice 9) := by kernel_rfl
theorem ss22 : isSS Tryz.prog 22 = true := by kernel_rfl
theorem sl22 : SlT Tryz.prog 22 9 1 16 := .of (by kernel_rfl) (by kernel_rfl) (by kernel_rfl) (by omega) (by omega)
theorem z22 : fZero Tryz.prog 22 = some (.slice none 0 0) := by kernel_rfl
theorem z23 : fZero Tryz.prog 23 = some (.agg #[(.int .i64 0), (.int .i64 0)]) := by kernel_rfl
theorem up25 : Tryz.prog.underlying 25 = some (.pointer 50) := by kernel_rfl
theorem z25 : fZero Tryz.prog 25 = some (.pointer none) := by kernel_rfl
theorem z26 : fZero Tryz.prog 26 = some (.int .i64 0) := by kernel_rfl
theorem up29 : Tryz.prog.underlying 29 = some (.pointer 52) := by kernel_rfl
theorem z29 : fZero Tryz.prog 29 = some (.pointer none) := by kernel_rfl
theorem u45 : Tryz.prog.underlying 45 = some (.slice 3) := by kernel_rfl
theorem ss45 : isSS Tryz.prog 45 = true := by kernel_rfl
theorem sl45 : SlT Tryz.prog 45 3 1 8 := .of (by kernel_rfl) (by kernel_rfl) (by kernel_rfl) (by omega) (by omega)
theorem um48 : Tryz.prog.underlying 48 = some (.map 9 58) := by kernel_rfl
theorem z57 : fZero Tryz.prog 57 = some (.agg #[(.string ⟨#[]⟩), (.int .i64 0)]) := by kernel_rfl
theorem z58 : fZero Tryz.prog 58 = some (.agg #[(.string ⟨#[]⟩), (.int .i64 0)]) := by kernel_rfl
theorem u60 : Tryz.prog.underlying 60 = some (.slice 37) := by kernel_rfl
theorem z64 : fZero Tryz.prog 64 = some (.pointer none) := by kernel_rfl
theorem u86 : Tryz.prog.underlying 86 = some (.slice 5) := by kernel_rfl
theorem ss86 : isSS Tryz.prog 86 = true := by kernel_rfl
theorem sl86 : SlT Tryz.prog 86 5 1 1 := .of (by kernel_rfl) (by kernel_rfl) (by kernel_rfl) (by omega) (by omega)
theorem z94 : fZero Tryz.prog 94 = some (.agg #[(.int .u8 0), (.int .u8 0), (.int .u8 0), (.int .u8 0), (.int .u8 0), (.int .u8 0), (.int .u8 0), (.int .u8 0)]) := by kernel_rfl
theorem z116 : fZero Tryz.prog 116 = some (.agg #[(.int .u8 0), (.int .u8 0), (.int .u8 0), (.int .u8 0), (.int .u8 0), (.int .u8 0), (.int .u8 0), (.int .u8 0), (.int .u8 0)]) := by kernel_rfl
end Go.Proofs.Gong

/- Al0 -/
namespace Go.Proofs.Gong
open Go Go.Sx Go.Proofs
set_option maxRecDepth 100000
section
variable {κ ν : Type} [DecidableEq κ] {k : κ} {x : ν} {m : List (κ × ν)}
theorem aGet_none_of {k : κ} {m : List (κ × ν)} (h : ∀ y, (k, y) ∉ m) : aGet k m = none := by
  cases hg : aGet k m with
  | none => rfl
  | some y => exact absurd (aGet_mem hg) (h y)
theorem aSet_new {k : κ} {x : ν} : ∀ {m : List (κ × ν)}, aGet k m = none → aSet k x m = m ++ [(k, x)]
  | [], _ => rfl
  | z :: r, h => by
    unfold aGet at h
    by_cases hk : k = z.1
    · simp [hk] at h
    · simp only [hk, if_false] at h
      simp [aSet, hk, aSet_new h]
theorem aDel_perm {k : κ} {x : ν} : ∀ {m : List (κ × ν)}, aGet k m = some x → ((k, x) :: aDel k m).Perm m
  | [], h => by simp [aGet] at h
  | z :: r, h => by
    unfold aGet at h
    by_cases hk : k = z.1
    · simp only [hk, if_true, Option.some.injEq] at h
      subst h
      simp [aDel, hk]
    · simp only [hk, if_false] at h
      simp only [aDel, hk, if_false]
      exact (List.Perm.swap _ _ _).trans ((aDel_perm h).cons z)
theorem aSet_perm {k : κ} {x y : ν} : ∀ {m : List (κ × ν)}, aGet k m = some y → (aSet k x m).Perm ((k, x) :: aDel k m)
  | [], h => by simp [aGet] at h
  | z :: r, h => by
    unfold aGet at h
    by_cases hk : k = z.1
    · simp [aSet, aDel, hk]
    · simp only [hk, if_false] at h
      simp only [aDel, aSet, hk, if_false]
      exact ((aSet_perm h).cons z).trans (List.Perm.swap _ _ _)
end
end Go.Proofs.Gong

/- Ks0 -/
namespace Go.Proofs.Gong
open Go Go.Sx Go.Proofs
theorem aDel_no {κ ν : Type} [DecidableEq κ] {k : κ} : ∀ {m : List (κ × ν)}, aGet k m = none → aDel k m = m
  | [], _ => rfl
  | z :: r, h => by
    unfold aGet at h
    by_cases hk : k = z.1
    · simp [hk] at h
    · simp only [hk, if_false] at h
      simp [aDel, hk, aDel_no h]
structure STO {κ : Type} (lt : κ → κ → Bool) : Prop where
  irr : ∀ a, lt a a = false
  trans : ∀ {a b c}, lt a b = true → lt b c = true → lt a c = true
  tot : ∀ {a b}, lt a b = false → lt b a = false → a = b
section
variable {α κ ν : Type} [DecidableEq κ] (lt : κ → κ → Bool) (key : α → κ) (val : α → ν)
def kGet (k : κ) (l : List α) : Option α := l.find? fun x => decide (key x = k)
def kDel (k : κ) (l : List α) : List α := l.filter fun x => decide (key x ≠ k)
def kIns (x : α) (l : List α) : List α := l.takeWhile (fun d => lt (key d) (key x)) ++ x :: l.dropWhile (fun d => lt (key d) (key x))
def kPut (x : α) (l : List α) : List α := kIns lt key x (kDel key (key x) l)
def kRep (x : α) (l : List α) : List α := l.map fun d => if key d = key x then x else d
def KAsc (l : List α) : Prop := l.Pairwise fun a b => lt (key a) (key b) = true
structure KInv (M : List (κ × ν)) (l : List α) : Prop where
  pm : M.Perm (l.map fun x => (key x, val x))
  asc : KAsc lt key l
variable {lt key val}
theorem KAsc.ne (S : STO lt) {l : List α} (h : KAsc lt key l) : l.Pairwise fun a b => key a ≠ key b :=
  h.imp fun h e => by rw [e, S.irr] at h; cases h
theorem kasc_nd (S : STO lt) {l : List α} (h : KAsc lt key l) : (l.map key).Nodup := List.pairwise_map.2 (h.ne S)
theorem kasc_split (S : STO lt) {l : List α} {x : α} (h : KAsc lt key l) (hx : x ∈ l) : ∃ a b, l = a ++ x :: b ∧ (∀ d ∈ a, key d ≠ key x) ∧ (∀ d ∈ b, key d ≠ key x) := by
  obtain ⟨a, b, rfl⟩ := List.append_of_mem hx
  have h2 := h.ne S
  rw [List.pairwise_append] at h2
  exact ⟨a, b, rfl, fun d hd => h2.2.2 d hd x (by simp), fun d hd e => (List.pairwise_cons.1 h2.2.1).1 d hd e.symm⟩
theorem kasc_eq (S : STO lt) {l : List α} {x y : α} (h : KAsc lt key l) (hx : x ∈ l) (hy : y ∈ l) (e : key x = key y) : x = y := by
  obtain ⟨a, b, rfl, h1, h2⟩ := kasc_split S h hx
  rcases List.mem_append.1 hy with g | g
  · exact absurd e.symm (h1 y g)
  · rcases List.mem_cons.1 g with rfl | g
    · rfl
    · exact absurd e.symm (h2 y g)
theorem kGet_mem {l : List α} {k : κ} {x : α} (h : kGet key k l = some x) : x ∈ l ∧ key x = k := by
  unfold kGet at h
  exact ⟨List.mem_of_find?_eq_some h, by simpa using List.find?_some h⟩
theorem kGet_none {l : List α} {k : κ} : kGet key k l = none ↔ ∀ x ∈ l, key x ≠ k := by
  unfold kGet
  rw [List.find?_eq_none]
  simp
theorem kGet_of (S : STO lt) {l : List α} {x : α} (h : KAsc lt key l) (hx : x ∈ l) : kGet key (key x) l = some x := by
  cases hg : kGet key (key x) l with
  | none => exact absurd rfl (kGet_none.1 hg x hx)
  | some y =>
    obtain ⟨h1, h2⟩ := kGet_mem hg
    rw [kasc_eq S h h1 hx h2]
theorem kIns_perm (x : α) (l : List α) : (kIns lt key x l).Perm (x :: l) := by
  unfold kIns
  exact List.perm_middle.trans (by rw [List.takeWhile_append_dropWhile])
theorem kIns_asc (S : STO lt) {x : α} : ∀ {l : List α}, KAsc lt key l → (∀ d ∈ l, key d ≠ key x) → KAsc lt key (kIns lt key x l)
  | [], _, _ => by simp [kIns, KAsc]
  | d :: r, h, hn => by
    obtain ⟨h1, h2⟩ := List.pairwise_cons.1 h
    by_cases g : lt (key d) (key x) = true
    · have e : kIns lt key x (d :: r) = d :: kIns lt key x r := by simp [kIns, g]
      rw [e]
      refine List.pairwise_cons.2 ⟨fun y hy => ?_, kIns_asc S h2 fun y hy => hn y (List.mem_cons_of_mem _ hy)⟩
      rcases List.mem_cons.1 ((kIns_perm x r).mem_iff.1 hy) with rfl | hy
      · exact g
      · exact h1 y hy
    · have g2 : lt (key d) (key x) = false := by simpa using g
      have e : kIns lt key x (d :: r) = x :: d :: r := by simp [kIns, g2]
      rw [e]
      have hxd : lt (key x) (key d) = true := by
        cases hh : lt (key x) (key d) with
        | true => rfl
        | false => exact absurd (S.tot g2 hh) (hn d (by simp))
      refine List.pairwise_cons.2 ⟨fun y hy => ?_, h⟩
      rcases List.mem_cons.1 hy with rfl | hy
      · exact hxd
      · exact S.trans hxd (h1 y hy)
theorem kDel_asc {l : List α} {k : κ} (h : KAsc lt key l) : KAsc lt key (kDel key k l) := h.filter _
theorem kDel_no {l : List α} {k : κ} : ∀ d ∈ kDel key k l, key d ≠ k := fun d hd => by simpa using (List.mem_filter.1 hd).2
theorem kDel_sub {l : List α} {k : κ} : ∀ d ∈ kDel key k l, d ∈ l := fun _ hd => (List.mem_filter.1 hd).1
theorem kDel_id {l : List α} {k : κ} (h : ∀ d ∈ l, key d ≠ k) : kDel key k l = l := List.filter_eq_self.2 fun d hd => by simpa using h d hd
theorem kDel_len {l : List α} {k : κ} : (kDel key k l).length ≤ l.length := List.length_filter_le _ _
theorem kDel_split {l r : List α} {x : α} (h1 : ∀ d ∈ l, key d ≠ key x) (h2 : ∀ d ∈ r, key d ≠ key x) : kDel key (key x) (l ++ x :: r) = l ++ r := by
  unfold kDel
  rw [List.filter_append, List.filter_cons, List.filter_eq_self.2 (fun d hd => by simpa using h1 d hd), List.filter_eq_self.2 (fun d hd => by simpa using h2 d hd)]
  simp
theorem kPut_asc (S : STO lt) {l : List α} {x : α} (h : KAsc lt key l) : KAsc lt key (kPut lt key x l) := kIns_asc S (kDel_asc h) kDel_no
theorem kPut_perm (l : List α) (x : α) : (kPut lt key x l).Perm (x :: kDel key (key x) l) := kIns_perm _ _
theorem kPut_len {l : List α} {x : α} : (kPut lt key x l).length ≤ l.length + 1 := by
  have := (kPut_perm (lt := lt) (key := key) l x).length_eq
  have := kDel_len (key := key) (l := l) (k := key x)
  simp at *; omega
theorem kPut_mem {l : List α} {x d : α} : d ∈ kPut lt key x l ↔ d = x ∨ (d ∈ l ∧ key d ≠ key x) := by
  rw [(kPut_perm l x).mem_iff, List.mem_cons]
  simp [kDel, List.mem_filter]
theorem kasc_unique (S : STO lt) {l m : List α} (h1 : KAsc lt key l) (h2 : KAsc lt key m) (hp : l.Perm m) : l = m :=
  List.Perm.eq_of_pairwise (le := fun a b : α => lt (key a) (key b) = true) (fun a b _ _ h1 h2 => by have := S.trans h1 h2; rw [S.irr] at this; cases this) h1 h2 hp
theorem kRep_split {l r : List α} {b x : α} (e : key b = key x) (h1 : ∀ d ∈ l, key d ≠ key x) (h2 : ∀ d ∈ r, key d ≠ key x) : kRep key x (l ++ b :: r) = l ++ x :: r := by
  unfold kRep
  rw [List.map_append, List.map_cons, if_pos e]
  congr 1
  · conv => rhs; rw [← List.map_id l]
    exact List.map_congr_left fun d hd => by rw [if_neg (h1 d hd)]; rfl
  · congr 1
    conv => rhs; rw [← List.map_id r]
    exact List.map_congr_left fun d hd => by rw [if_neg (h2 d hd)]; rfl
theorem kPut_rep (S : STO lt) {l : List α} {x b : α} (h : KAsc lt key l) (hb : b ∈ l) (e : key b = key x) : kPut lt key x l = kRep key x l := by
  obtain ⟨a, r, rfl, h1, h2⟩ := kasc_split S h hb
  rw [e] at h1 h2
  rw [kRep_split e h1 h2]
  refine kasc_unique S (kPut_asc S h) ?_ ?_
  · unfold KAsc at h ⊢
    rw [List.pairwise_append, List.pairwise_cons] at h ⊢
    refine ⟨h.1, ⟨fun y hy => by rw [← e]; exact h.2.1.1 y hy, h.2.1.2⟩, fun y hy z hz => ?_⟩
    rcases List.mem_cons.1 hz with rfl | hz
    · rw [← e]; exact h.2.2 y hy b (by simp)
    · exact h.2.2 y hy z (by simp [hz])
  · refine (kPut_perm _ _).trans ?_
    rw [show kDel key (key x) (a ++ b :: r) = a ++ r from by rw [← e]; exact kDel_split (by rw [e]; exact h1) (by rw [e]; exact h2)]
    exact List.perm_middle.symm
section
variable {M : List (κ × ν)} {l : List α}
theorem KInv.nil : KInv lt key val ([] : List (κ × ν)) [] := ⟨.nil, .nil⟩
variable (H : KInv lt key val M l) (S : STO lt)
include H
theorem KInv.len : M.length = l.length := by have := H.pm.length_eq; simpa using this
include S
theorem KInv.keys : (M.map Prod.fst).Nodup := by
  refine ((H.pm.map Prod.fst).nodup_iff).2 ?_
  rw [List.map_map]
  exact kasc_nd S H.asc
theorem KInv.get (k : κ) : aGet k M = (kGet key k l).map val := by
  cases hg : kGet key k l with
  | none =>
    refine aGet_none_of fun y hy => ?_
    obtain ⟨x, hx, e⟩ := List.mem_map.1 (H.pm.mem_iff.1 hy)
    simp only [Prod.mk.injEq] at e
    exact kGet_none.1 hg x hx e.1
  | some x =>
    obtain ⟨h1, rfl⟩ := kGet_mem hg
    exact mem_aGet (H.keys S) (H.pm.mem_iff.2 (List.mem_map.2 ⟨x, h1, rfl⟩))
theorem KInv.del (k : κ) : KInv lt key val (aDel k M) (kDel key k l) := by
  refine ⟨?_, kDel_asc H.asc⟩
  cases hg : kGet key k l with
  | none =>
    rw [kDel_id (kGet_none.1 hg)]
    have : aGet k M = none := by rw [H.get S, hg]; rfl
    rw [aDel_no this]
    exact H.pm
  | some x =>
    obtain ⟨h1, rfl⟩ := kGet_mem hg
    have hv : aGet (key x) M = some (val x) := by rw [H.get S, hg]; rfl
    obtain ⟨a, b, rfl, h2, h3⟩ := kasc_split S H.asc h1
    rw [kDel_split h2 h3]
    have := ((aDel_perm hv).trans H.pm)
    rw [List.map_append, List.map_cons] at this
    rw [List.map_append]
    exact List.Perm.cons_inv (this.trans List.perm_middle)
theorem KInv.put (x : α) : KInv lt key val (aSet (key x) (val x) M) (kPut lt key x l) := by
  refine ⟨?_, kPut_asc S H.asc⟩
  have hp := ((kPut_perm (lt := lt) (key := key) l x).map fun x => (key x, val x))
  rw [List.map_cons] at hp
  refine .trans ?_ hp.symm
  have hd := (H.del S (key x)).pm
  cases hg : kGet key (key x) l with
  | none =>
    have h0 : aGet (key x) M = none := by rw [H.get S, hg]; rfl
    rw [aSet_new h0]
    rw [aDel_no h0] at hd
    exact List.perm_append_comm.trans (hd.cons _)
  | some y =>
    obtain ⟨h1, e⟩ := kGet_mem hg
    have hv : aGet (key x) M = some (val y) := by rw [H.get S, hg]; rfl
    exact (aSet_perm hv).trans (hd.cons _)
theorem KInv.sorted {ks : List κ} (hp : ks.Perm (M.map Prod.fst)) (hs : ks.Pairwise fun a b => lt b a = false) : ks = l.map key := by
  have h2 : ks.Perm (l.map key) := by
    refine hp.trans ((H.pm.map Prod.fst).trans ?_)
    rw [List.map_map]; exact .refl _
  refine List.Perm.eq_of_pairwise (le := fun a b : κ => lt b a = false) (fun a b _ _ h1 h2 => S.tot h2 h1) hs ?_ h2
  refine List.pairwise_map.2 (H.asc.imp fun {a b} h => ?_)
  cases hh : lt (key b) (key a) with
  | false => rfl
  | true => have := S.trans h hh; rw [S.irr] at this; cases this
end
end
def ltI (a b : Int) : Bool := decide (a < b)
theorem STO.int : STO ltI := ⟨fun a => by simp [ltI], fun h1 h2 => by simp [ltI] at *; omega, fun h1 h2 => by simp [ltI] at *; omega⟩
def ltS (a b : List UInt8) : Bool := decide (a < b)
theorem STO.txt : STO ltS := ⟨fun a => by simp [ltS, List.lt_irrefl], fun h1 h2 => by simp only [ltS, decide_eq_true_eq] at *; exact List.lt_trans h1 h2, fun h1 h2 => by
  simp only [ltS, decide_eq_false_iff_not] at *
  exact List.le_antisymm (List.not_lt.1 h2) (List.not_lt.1 h1)⟩
end Go.Proofs.Gong

/- Book -/
namespace Go.Proofs.Gong
open Go Go.Sx Go.Proofs
set_option linter.all false
set_option maxRecDepth 100000
variable {kn kr : ET} {ke : JT}
def T8 : List (Nat × FnT) := []
def F8 (x0 x1 : Value) (w : World) (K : V1) : Prop :=
bindP (bRem x0 x1) fun v1 =>
bindP (bAdd v1 x1) fun v2 =>
bindP (bRem v2 x1) fun v3 =>
K v3 w
def G8 : FnT := fun args w K => on2 (fun x0 x1 => F8 x0 x1 w K) args
theorem c8 {x0 x1 : Value} {w : World} {K : V1} (h : F8 x0 x1 w K) : callP G8 [x0, x1] w K := callP_intro (on2_mk (p := fun x0 x1 => F8 x0 x1 w K) h)
theorem ok8 : OkF Tryz.prog 8 G8 := by
  refine okF_of (tab_ok (l := T8) trivial) mixed (n := fuel) Tryz.func8 Tryz.call8 fun args w K h => ?_
  obtain ⟨x0, x1, rfl, hh⟩ := of_on2 h
  exact fnD_list (c := bodyOf Tryz.f8) (by kernel_rfl) (by kernel_rfl) (Eq.mp (by kernel_rfl) hh)
end Go.Proofs.Gong

/- Bk0 -/
namespace Go.Proofs.Gong
open Go Go.Sx Go.Proofs
def bel (x n : Int) : Int := (x.tmod n + n).tmod n
section
variable {w : World} {K : Value → World → Prop}
theorem Below_spec {x n : Int} (hn : 0 < n) (hn2 : n ≤ 4611686018427387904) (hK : ∀ r : Int, 0 ≤ r → r < n → r = bel x n → K (.int .i64 r) w) : callP G8 [.int .i64 x, .int .i64 n] w K := by
  refine c8 ?_
  unfold F8
  have h1 := Int.tmod_lt_of_pos x hn
  have h2 : -n < x.tmod n := by
    have := Int.lt_tmod_of_pos x hn
    omega
  have h3 := Int.tmod_nonneg n (show (0 : Int) ≤ x.tmod n + n by omega)
  have h4 := Int.tmod_lt_of_pos (x.tmod n + n) hn
  simp [bRem_int _ _ _ (show n ≠ 0 by omega), wrap_id (show -9223372036854775808 ≤ x.tmod n + n ∧ x.tmod n + n ≤ 9223372036854775807 by omega)]
  exact hK _ h3 h4 rfl
end
end Go.Proofs.Gong

/- Oc0 -/
namespace Go.Proofs.Gong
open Go Go.Sx
def hiG (m : Nat) : List UInt8 := if m = 0 then [] else hiG (m / 128) ++ [UInt8.ofNat (m % 128 + 128)]
termination_by m
decreasing_by omega
def grp (n : Nat) : List UInt8 := hiG (n / 128) ++ [UInt8.ofNat (n % 128)]
theorem hiG_0 : hiG 0 = [] := by rw [hiG]; rfl
theorem hiG_pos {m : Nat} (h : m ≠ 0) : hiG m = hiG (m / 128) ++ [UInt8.ofNat (m % 128 + 128)] := by rw [hiG, if_neg h]
theorem hiG_len : ∀ (k m : Nat), m < 128 ^ k → (hiG m).length ≤ k
  | 0, m, h => by
    have : m = 0 := by simpa using h
    subst this; simp [hiG_0]
  | k + 1, m, h => by
    by_cases h0 : m = 0
    · subst h0; simp [hiG_0]
    · rw [hiG_pos h0]
      have := hiG_len k (m / 128) (by rw [Nat.pow_succ] at h; omega)
      simp; exact this
theorem grp_len {n : Nat} (h : n < 9223372036854775808) : (grp n).length ≤ 9 := by
  have := hiG_len 8 (n / 128) (by have : 128 ^ 8 = 72057594037927936 := by decide
                                  omega)
  simp [grp]; exact this
theorem grp_ne (n : Nat) : grp n ≠ [] := by simp [grp]
def rdG (most : Int) : Nat → Bool → Nat → List UInt8 → Int × Nat × List UInt8
  | 0, _, _, _ => (3, 0, [])
  | _ + 1, _, _, [] => (10, 0, [])
  | k + 1, f, n, b :: s =>
    if f = true ∧ b.toNat = 128 then (3, 0, []) else
    if most < (n * 128 + b.toNat % 128 : Nat) then (2, 0, []) else
    if b.toNat < 128 then (0, n * 128 + b.toNat % 128, s) else rdG most k false (n * 128 + b.toNat % 128) s
theorem ofNat_toNat {x : Nat} (h : x < 256) : (UInt8.ofNat x).toNat = x := by simp; omega
theorem rdG_hi {most : Int} : ∀ (m : Nat), (m : Int) ≤ most → ∀ (k : Nat) (t : List UInt8), rdG most (k + (hiG m).length) true 0 (hiG m ++ t) = rdG most k (decide (m = 0)) m t := by
  intro m
  induction m using Nat.strongRecOn with
  | _ m ih =>
    intro hm k t
    by_cases h0 : m = 0
    · subst h0; simp [hiG_0]
    · rw [hiG_pos h0, List.length_append, List.append_assoc]
      have := ih (m / 128) (by omega) (by omega) (k + 1) ([UInt8.ofNat (m % 128 + 128)] ++ t)
      rw [show k + ((hiG (m / 128)).length + [UInt8.ofNat (m % 128 + 128)].length) = k + 1 + (hiG (m / 128)).length by simp; omega, this]
      simp only [List.singleton_append, rdG]
      rw [ofNat_toNat (by omega)]
      have e : m / 128 * 128 + (m % 128 + 128) % 128 = m := by omega
      rw [e, if_neg (by rintro ⟨h1, h2⟩; simp at h1; omega), if_neg (by omega), if_neg (by omega)]
      simp [h0]
theorem rdG_grp {most : Int} {n : Nat} (h : n < 9223372036854775808) (hm : (n : Int) ≤ most) (t : List UInt8) : rdG most 9 true 0 (grp n ++ t) = (0, n, t) := by
  have hl := hiG_len 8 (n / 128) (by have : 128 ^ 8 = 72057594037927936 := by decide
                                     omega)
  unfold grp
  rw [List.append_assoc, show 9 = (8 - (hiG (n / 128)).length) + 1 + (hiG (n / 128)).length by omega, rdG_hi _ (by omega)]
  simp only [List.singleton_append, rdG]
  rw [ofNat_toNat (by omega)]
  have e : n / 128 * 128 + n % 128 % 128 = n := by omega
  rw [e, if_neg (by omega), if_neg (by omega), if_pos (by omega)]
theorem rdG_back {most : Int} : ∀ (k : Nat) (f : Bool) (n0 : Nat) (s : List UInt8) (n : Nat) (r : List UInt8), rdG most k f n0 s = (0, n, r) → (f = true ↔ n0 = 0) → ∃ c, s = c ++ r ∧ hiG n0 ++ c = grp n ∧ (n : Int) ≤ most := by
  intro k
  induction k with
  | zero => intro f n0 s n r h; simp [rdG] at h
  | succ k ih =>
    intro f n0 s n r h hf
    cases s with
    | nil => simp [rdG] at h
    | cons b s =>
      simp only [rdG] at h
      split at h
      · simp at h
      · rename_i h1
        split at h
        · simp at h
        · rename_i h2
          have hb := b.toNat_lt
          split at h
          · rename_i h3
            simp only [Prod.mk.injEq, true_and] at h
            obtain ⟨rfl, rfl⟩ := h
            refine ⟨[b], rfl, ?_, by omega⟩
            unfold grp
            rw [show (n0 * 128 + b.toNat % 128) / 128 = n0 by omega, show (n0 * 128 + b.toNat % 128) % 128 = b.toNat by omega]
            simp
          · rename_i h3
            have hne : n0 * 128 + b.toNat % 128 ≠ 0 := by
              intro h0
              apply h1
              exact ⟨hf.2 (by omega), by omega⟩
            obtain ⟨c, rfl, hc, hm⟩ := ih false _ s n r h ⟨(fun h => by cases h), fun h => absurd h hne⟩
            refine ⟨b :: c, rfl, ?_, hm⟩
            rw [hiG_pos hne] at hc
            rw [show (n0 * 128 + b.toNat % 128) / 128 = n0 by omega, show (n0 * 128 + b.toNat % 128) % 128 + 128 = b.toNat by omega] at hc
            simpa using hc
theorem rdG_grp_back {most : Int} {s : List UInt8} {n : Nat} {r : List UInt8} (h : rdG most 9 true 0 s = (0, n, r)) : s = grp n ++ r ∧ (n : Int) ≤ most := by
  obtain ⟨c, h1, h2, h3⟩ := rdG_back 9 true 0 s n r h (by simp)
  rw [hiG_0, List.nil_append] at h2
  exact ⟨h2 ▸ h1, h3⟩
theorem rdG_len {most : Int} : ∀ (k : Nat) (f : Bool) (n0 : Nat) (s : List UInt8), (rdG most k f n0 s).2.2.length ≤ s.length := by
  intro k
  induction k with
  | zero => intro f n0 s; simp [rdG]
  | succ k ih =>
    intro f n0 s
    cases s with
    | nil => simp [rdG]
    | cons b s =>
      simp only [rdG]
      split
      · simp
      · split
        · simp
        · split
          · simp
          · have := ih false (n0 * 128 + b.toNat % 128) s
            simp; omega
theorem rdG_suf {most : Int} {s : List UInt8} (h : (rdG most 9 true 0 s).1 = 0) : s.drop (s.length - (rdG most 9 true 0 s).2.2.length) = (rdG most 9 true 0 s).2.2 := by
  cases hx : rdG most 9 true 0 s with
  | mk c x =>
    obtain ⟨n, r⟩ := x
    rw [hx] at h
    simp only at h
    subst h
    have := (rdG_grp_back hx).1
    simp only
    rw [this]; simp
theorem flat1 {α β : Type} (g : α → β) : ∀ l : List α, (l.flatMap fun b => [g b]) = l.map g
  | [] => rfl
  | a :: l => by rw [List.flatMap_cons, flat1 g l]; rfl
def txtL (s : List UInt8) : List UInt8 := grp s.length ++ s
def padL : Nat → Nat → List UInt8
  | 0, _ => []
  | w + 1, n => padL w (n / 256) ++ [UInt8.ofNat (n % 256)]
theorem padL_len : ∀ (w n : Nat), (padL w n).length = w
  | 0, _ => rfl
  | w + 1, n => by simp [padL, padL_len w]
def numL (s : List UInt8) : Nat := s.foldl (fun n b => n * 256 + b.toNat) 0
theorem numL_snoc (s : List UInt8) (b : UInt8) : numL (s ++ [b]) = numL s * 256 + b.toNat := by simp [numL]
theorem numL_pad : ∀ (w n : Nat), n < 256 ^ w → numL (padL w n) = n
  | 0, n, h => by
    have : n = 0 := by simpa using h
    subst this; rfl
  | w + 1, n, h => by
    rw [padL, numL_snoc, numL_pad w _ (by rw [Nat.pow_succ] at h; omega), ofNat_toNat (by omega)]
    omega
theorem numL_lt : ∀ (w : Nat) (s : List UInt8), s.length = w → numL s < 256 ^ w
  | 0, s, h => by
    have : s = [] := List.length_eq_zero_iff.1 h
    subst this; decide
  | w + 1, s, h => by
    have hne : s ≠ [] := by intro h0; subst h0; simp at h
    have e := List.dropLast_concat_getLast hne
    rw [← e, numL_snoc]
    have := numL_lt w s.dropLast (by simp [h])
    have := (s.getLast hne).toNat_lt
    rw [Nat.pow_succ]; omega
theorem padL_drop : ∀ (w d n : Nat), (padL (d + w) n).drop d = padL w n
  | 0, d, n => by rw [List.drop_of_length_le (by simp [padL_len])]; rfl
  | w + 1, d, n => by
    rw [show d + (w + 1) = (d + w) + 1 by omega, padL, List.drop_append_of_le_length (by simp [padL_len]), padL_drop w d]
    rfl
abbrev Rdr := Int × List UInt8
def rGrp (most : Int) (r : Rdr) : Nat × Rdr := if r.1 ≠ 0 then (0, r) else
  if (rdG most 9 true 0 r.2).1 = 0 then ((rdG most 9 true 0 r.2).2.1, 0, (rdG most 9 true 0 r.2).2.2) else (0, (rdG most 9 true 0 r.2).1, r.2)
def rBytes (n : Int) (r : Rdr) : List UInt8 × Rdr := if r.1 ≠ 0 then ([], r) else if n < 0 then ([], 1, r.2) else if (r.2.length : Int) < n then ([], 10, r.2) else (r.2.take n.toNat, 0, r.2.drop n.toNat)
def rWide (w : Int) (r : Rdr) : Nat × Rdr := if r.1 ≠ 0 then (0, r) else if w < 1 ∨ 8 < w then (0, 1, r.2) else if (r.2.length : Int) < w then (0, 10, r.2) else
  if 9223372036854775808 ≤ numL (r.2.take w.toNat) then (0, 1, r.2) else (numL (r.2.take w.toNat), 0, r.2.drop w.toNat)
theorem numL_nil : numL [] = 0 := rfl
theorem rWide_of {n : Nat} (hn : 1 ≤ n ∧ n ≤ 8) (r : Rdr) : rWide n r = if 9223372036854775808 ≤ numL (rBytes n r).1 then (0, 1, r.2) else (numL (rBytes n r).1, (rBytes n r).2) := by
  unfold rWide rBytes
  have e1 : ¬ ((n : Int) < 1 ∨ 8 < (n : Int)) := by omega
  have e2 : ¬ ((n : Int) < 0) := by omega
  rw [if_neg e1, if_neg e2]
  by_cases k1 : r.1 ≠ 0
  · simp only [if_pos k1, numL_nil]; rfl
  · by_cases k2 : (r.2.length : Int) < n
    · simp only [if_neg k1, if_pos k2, numL_nil]; rfl
    · simp only [if_neg k1, if_neg k2]
theorem rBytes_big {n : Nat} {r : Rdr} (h : 9223372036854775808 ≤ numL (rBytes n r).1) : (rBytes n r).2.1 = 0 := by
  unfold rBytes at *
  have e2 : ¬ ((n : Int) < 0) := by omega
  rw [if_neg e2] at *
  by_cases k1 : r.1 ≠ 0
  · simp only [if_pos k1, numL_nil] at h; omega
  · by_cases k2 : (r.2.length : Int) < n
    · simp only [if_neg k1, if_pos k2, numL_nil] at h; omega
    · simp only [if_neg k1, if_neg k2]
def rText (most : Int) (r : Rdr) : List UInt8 × Rdr :=
  ((rBytes (rGrp most r).1 (rGrp most r).2).1, if (rBytes (rGrp most r).1 (rGrp most r).2).2.1 ≠ 0 then ((rBytes (rGrp most r).1 (rGrp most r).2).2.1, r.2) else (rBytes (rGrp most r).1 (rGrp most r).2).2)
def rDone (r : Rdr) : Int := if r.1 = 0 ∧ r.2 ≠ [] then 3 else r.1
end Go.Proofs.Gong

/- Oct -/
namespace Go.Proofs.Gong
open Go Go.Sx Go.Proofs
set_option linter.all false
set_option maxRecDepth 100000
variable {kn kr : ET} {ke : JT}
def T53 : List (Nat × FnT) := []
def F53_3b (s0 s1 s6 : Value) (w : World) (K : V1) : Prop :=
bindP (bLt s1 (.int .i64 8)) fun v1 =>
stepM (gd true v1) s0 fun v2 =>
stepM (gd true v1) s1 fun v3 =>
Sx.stepG (gd true v1) (bMul (.int .i64 8) v3) fun v4 =>
Sx.stepG (gd true v1) (bShr v2 v4) fun v5 =>
Sx.stepG (gd true v1) (bGt v5 (.int .i64 0)) fun v6 =>
bindP (pPick v1 v6 (.bool false)) fun v7 =>
ifB v7 (
K (.tuple #[(.string ⟨#[]⟩), (.int .i64 1)]) w) (
bindP (bSub (.int .i64 8) s1) fun v8 =>
bindP (pSliceA 8 1 s6 (some v8) none none) fun v9 =>
bindP (cBytes v9 w) fun v10 =>
K (.tuple #[v10, (.int .i64 0)]) w)
def F53_3 (s0 s1 s6 : Value) (w : World) (K : V1) : Prop := F53_3b s0 s1 s6 w K
theorem ok53_3 {K : V1}
    (hn : HN (fun e w => K (.tuple #[(e 4), (e 5)]) w) kn) (hr : HR Tryz.prog [.tmp 4, .tmp 5] K kr) (he : HE noE ke) :
    ∀ e w, F53_3 (e 0) (e 1) (e 6) w K → denL Tryz.prog (tabOf T53) 43 fuel ((flat (bodyOf Tryz.f53)).drop 7) e w kn kr ke := by
  intro e w h
  unfold F53_3 at h
  have e1 : ∀ (_ : Unit), F53_3b (e 0) (e 1) (e 6) w K = denL Tryz.prog (tabOf T53) 43 fuel ((flat (bodyOf Tryz.f53)).drop 7) e w (fun e w => K (.tuple #[(e 4), (e 5)]) w) (endD Tryz.prog [.tmp 4, .tmp 5] K) noE := by intro _; kernel_rfl
  exact seg_end (Eq.mp (e1 ()) h) hn hr he
def F53_2b (s0 s1 s6 s7 s8 : Value) (w : World) (_K : V1) (Y0 : V5) (Y1 : V3) : Prop :=
bindP (bGe s8 (.int .i64 0)) fun v11 =>
ifB v11 (
bindP (cInt .u8 s7) fun v12 =>
bindP (pIndexP 8 1 s6 s8) fun v13 =>
bindW (st 1 v13 v12 w) fun w14 =>
bindP (bShr s7 (.int .u64 8)) fun v16 =>
bindP (bSub s8 (.int .i64 1)) fun v17 =>
Y0 s0 s1 s6 v16 v17 w14) (
Y1 s0 s1 s6 w)
def F53_2L : Nat → Value → Value → Value → Value → Value → World → (V1) → Prop
  | 0, _, _, _, _, _, _, _ => False
  | n + 1, s0, s1, s6, s7, s8, w, K => F53_2b s0 s1 s6 s7 s8 w K (fun a0 a1 a6 a7 a8 w => F53_2L n a0 a1 a6 a7 a8 w K) (fun a0 a1 a6 w => F53_3 a0 a1 a6 w K)
def F53_2 (s0 s1 s6 s7 s8 : Value) (w : World) (K : V1) : Prop := F53_2L fuel s0 s1 s6 s7 s8 w K
theorem ok53_2 {K : V1}
    (hn : HN (fun e w => K (.tuple #[(e 4), (e 5)]) w) kn) (hr : HR Tryz.prog [.tmp 4, .tmp 5] K kr) (he : HE noE ke) :
    ∀ e w, F53_2 (e 0) (e 1) (e 6) (e 7) (e 8) w K → denL Tryz.prog (tabOf T53) 43 fuel ((flat (bodyOf Tryz.f53)).drop 6) e w kn kr ke := by
  intro e w h
  unfold F53_2 at h
  refine seg_loop (id := 0) (body := (loopB (blkB (nthC (flat (bodyOf Tryz.f53)) 6)))) (l2 := (flat (bodyOf Tryz.f53)).drop 7) (by kernel_rfl) ?_
  refine loop_ok (FL := fun m e w => F53_2L m (e 0) (e 1) (e 6) (e 7) (e 8) w K) (fr := endD Tryz.prog [.tmp 4, .tmp 5] K) (fe := (blkK 0 (fun e w => F53_3 (e 0) (e 1) (e 6) w K) noE)) (fun _ _ h => h) ?_ hr (blkK_mono (fun e w h => ok53_3 hn hr he e w h) he) fuel e w h
  intro m e w h
  have h : F53_2L (m + 1) (e 0) (e 1) (e 6) (e 7) (e 8) w K := h
  rw [F53_2L] at h
  have e1 : ∀ (Y0 : V5) (Y1 : V3), F53_2b (e 0) (e 1) (e 6) (e 7) (e 8) w K Y0 Y1 = denL Tryz.prog (tabOf T53) 43 fuel (flat (loopB (blkB (nthC (flat (bodyOf Tryz.f53)) 6)))) e w (fun e w => Y0 (e 0) (e 1) (e 6) (e 7) (e 8) w) (endD Tryz.prog [.tmp 4, .tmp 5] K) (blkK 0 (fun e w => Y1 (e 0) (e 1) (e 6) w) noE) := by intro Y0 Y1; kernel_rfl
  exact Eq.mp (e1 (fun a0 a1 a6 a7 a8 w => F53_2L m a0 a1 a6 a7 a8 w K) (fun a0 a1 a6 w => F53_3 a0 a1 a6 w K)) h
def F53_1b (s0 s1 : Value) (w : World) (K : V1) (Y0 : V5) : Prop :=
bindP (bLt s1 (.int .i64 1)) fun v18 =>
stepM (gd false v18) s1 fun v19 =>
Sx.stepG (gd false v18) (bGt v19 (.int .i64 8)) fun v20 =>
bindP (pPick v18 (.bool true) v20) fun v21 =>
stepM (gd false v21) s0 fun v22 =>
Sx.stepG (gd false v21) (bLt v22 (.int .i64 0)) fun v23 =>
bindP (pPick v21 (.bool true) v23) fun v24 =>
ifB v24 (
K (.tuple #[(.string ⟨#[]⟩), (.int .i64 1)]) w) (
eAlloc Tryz.prog 94 w fun v26 w25 =>
Y0 s0 s1 v26 s0 (.int .i64 7) w25)
def F53_1 (s0 s1 : Value) (w : World) (K : V1) : Prop := F53_1b s0 s1 w K (fun a0 a1 a6 a7 a8 w => F53_2 a0 a1 a6 a7 a8 w K)
theorem ok53_1 {K : V1}
    (hn : HN (fun e w => K (.tuple #[(e 4), (e 5)]) w) kn) (hr : HR Tryz.prog [.tmp 4, .tmp 5] K kr) (he : HE noE ke) :
    ∀ e w, F53_1 (e 0) (e 1) w K → denL Tryz.prog (tabOf T53) 43 fuel ((flat (bodyOf Tryz.f53)).drop 0) e w kn kr ke := by
  intro e w h
  unfold F53_1 at h
  have e1 : ∀ (Y0 : V5), F53_1b (e 0) (e 1) w K Y0 = denL Tryz.prog (tabOf T53) 43 fuel (((flat (bodyOf Tryz.f53)).drop 0).take 6) e w (fun e w => Y0 (e 0) (e 1) (e 6) (e 7) (e 8) w) (endD Tryz.prog [.tmp 4, .tmp 5] K) noE := by intro Y0; kernel_rfl
  exact seg 6 (Eq.mp (e1 (fun a0 a1 a6 a7 a8 w => F53_2 a0 a1 a6 a7 a8 w K)) h) (fun e w h => ok53_2 hn hr he e w h) hr he
def F53 (x0 x1 : Value) (w : World) (K : V1) : Prop := F53_1 x0 x1 w K
def G53 : FnT := fun args w K => on2 (fun x0 x1 => F53 x0 x1 w K) args
theorem c53 {x0 x1 : Value} {w : World} {K : V1} (h : F53 x0 x1 w K) : callP G53 [x0, x1] w K := callP_intro (on2_mk (p := fun x0 x1 => F53 x0 x1 w K) h)
theorem ok53 : OkF Tryz.prog 53 G53 := by
  refine okF_of (tab_ok (l := T53) trivial) mixed (n := fuel) Tryz.func53 Tryz.call53 fun args w K h => ?_
  obtain ⟨x0, x1, rfl, hh⟩ := of_on2 h
  unfold F53 at hh
  exact fnD_list (c := bodyOf Tryz.f53) (by kernel_rfl) (by kernel_rfl) (ok53_1 (fun _ _ h => h) (fun _ _ h => h) (fun _ _ _ h => h) (initE [x0, x1]) w hh)
def T76 : List (Nat × FnT) := []
def F76_3b (s4 s5 : Value) (w : World) (K : V1) : Prop :=
bindP (pSliceA 9 1 s4 (some s5) none none) fun v1 =>
bindP (cBytes v1 w) fun v2 =>
K (.tuple #[v2, (.int .i64 0)]) w
def F76_3 (s4 s5 : Value) (w : World) (K : V1) : Prop := F76_3b s4 s5 w K
theorem ok76_3 {K : V1}
    (hn : HN (fun e w => K (.tuple #[(e 2), (e 3)]) w) kn) (hr : HR Tryz.prog [.tmp 2, .tmp 3] K kr) (he : HE noE ke) :
    ∀ e w, F76_3 (e 4) (e 5) w K → denL Tryz.prog (tabOf T76) 30 fuel ((flat (bodyOf Tryz.f76)).drop 8) e w kn kr ke := by
  intro e w h
  unfold F76_3 at h
  have e1 : ∀ (_ : Unit), F76_3b (e 4) (e 5) w K = denL Tryz.prog (tabOf T76) 30 fuel ((flat (bodyOf Tryz.f76)).drop 8) e w (fun e w => K (.tuple #[(e 2), (e 3)]) w) (endD Tryz.prog [.tmp 2, .tmp 3] K) noE := by intro _; kernel_rfl
  exact seg_end (Eq.mp (e1 ()) h) hn hr he
def F76_2b (s0 s4 s5 : Value) (w : World) (_K : V1) (Y0 : V3) (Y1 : V2) : Prop :=
bindP (bGt s0 (.int .i64 0)) fun v3 =>
ifB v3 (
bindP (bSub s5 (.int .i64 1)) fun v4 =>
bindP (bRem s0 (.int .i64 128)) fun v5 =>
bindP (bBit .or v5 (.int .i64 128)) fun v6 =>
bindP (cInt .u8 v6) fun v7 =>
bindP (pIndexP 9 1 s4 v4) fun v8 =>
bindW (st 1 v8 v7 w) fun w9 =>
bindP (bShr s0 (.int .u64 7)) fun v11 =>
Y0 v11 s4 v4 w9) (
Y1 s4 s5 w)
def F76_2L : Nat → Value → Value → Value → World → (V1) → Prop
  | 0, _, _, _, _, _ => False
  | n + 1, s0, s4, s5, w, K => F76_2b s0 s4 s5 w K (fun a0 a4 a5 w => F76_2L n a0 a4 a5 w K) (fun a4 a5 w => F76_3 a4 a5 w K)
def F76_2 (s0 s4 s5 : Value) (w : World) (K : V1) : Prop := F76_2L fuel s0 s4 s5 w K
theorem ok76_2 {K : V1}
    (hn : HN (fun e w => K (.tuple #[(e 2), (e 3)]) w) kn) (hr : HR Tryz.prog [.tmp 2, .tmp 3] K kr) (he : HE noE ke) :
    ∀ e w, F76_2 (e 0) (e 4) (e 5) w K → denL Tryz.prog (tabOf T76) 30 fuel ((flat (bodyOf Tryz.f76)).drop 7) e w kn kr ke := by
  intro e w h
  unfold F76_2 at h
  refine seg_loop (id := 0) (body := (loopB (blkB (nthC (flat (bodyOf Tryz.f76)) 7)))) (l2 := (flat (bodyOf Tryz.f76)).drop 8) (by kernel_rfl) ?_
  refine loop_ok (FL := fun m e w => F76_2L m (e 0) (e 4) (e 5) w K) (fr := endD Tryz.prog [.tmp 2, .tmp 3] K) (fe := (blkK 0 (fun e w => F76_3 (e 4) (e 5) w K) noE)) (fun _ _ h => h) ?_ hr (blkK_mono (fun e w h => ok76_3 hn hr he e w h) he) fuel e w h
  intro m e w h
  have h : F76_2L (m + 1) (e 0) (e 4) (e 5) w K := h
  rw [F76_2L] at h
  have e1 : ∀ (Y0 : V3) (Y1 : V2), F76_2b (e 0) (e 4) (e 5) w K Y0 Y1 = denL Tryz.prog (tabOf T76) 30 fuel (flat (loopB (blkB (nthC (flat (bodyOf Tryz.f76)) 7)))) e w (fun e w => Y0 (e 0) (e 4) (e 5) w) (endD Tryz.prog [.tmp 2, .tmp 3] K) (blkK 0 (fun e w => Y1 (e 4) (e 5) w) noE) := by intro Y0 Y1; kernel_rfl
  exact Eq.mp (e1 (fun a0 a4 a5 w => F76_2L m a0 a4 a5 w K) (fun a4 a5 w => F76_3 a4 a5 w K)) h
def F76_1b (s0 : Value) (w : World) (K : V1) (Y0 : V3) : Prop :=
bindP (bLt s0 (.int .i64 0)) fun v12 =>
ifB v12 (
K (.tuple #[(.string ⟨#[]⟩), (.int .i64 1)]) w) (
eAlloc Tryz.prog 116 w fun v14 w13 =>
bindP (bRem s0 (.int .i64 128)) fun v15 =>
bindP (cInt .u8 v15) fun v16 =>
bindP (pIndexP 9 1 v14 (.int .i64 8)) fun v17 =>
bindW (st 1 v17 v16 w13) fun w18 =>
bindP (bShr s0 (.int .u64 7)) fun v20 =>
Y0 v20 v14 (.int .i64 8) w18)
def F76_1 (s0 : Value) (w : World) (K : V1) : Prop := F76_1b s0 w K (fun a0 a4 a5 w => F76_2 a0 a4 a5 w K)
theorem ok76_1 {K : V1}
    (hn : HN (fun e w => K (.tuple #[(e 2), (e 3)]) w) kn) (hr : HR Tryz.prog [.tmp 2, .tmp 3] K kr) (he : HE noE ke) :
    ∀ e w, F76_1 (e 0) w K → denL Tryz.prog (tabOf T76) 30 fuel ((flat (bodyOf Tryz.f76)).drop 0) e w kn kr ke := by
  intro e w h
  unfold F76_1 at h
  have e1 : ∀ (Y0 : V3), F76_1b (e 0) w K Y0 = denL Tryz.prog (tabOf T76) 30 fuel (((flat (bodyOf Tryz.f76)).drop 0).take 7) e w (fun e w => Y0 (e 0) (e 4) (e 5) w) (endD Tryz.prog [.tmp 2, .tmp 3] K) noE := by intro Y0; kernel_rfl
  exact seg 7 (Eq.mp (e1 (fun a0 a4 a5 w => F76_2 a0 a4 a5 w K)) h) (fun e w h => ok76_2 hn hr he e w h) hr he
def F76 (x0 : Value) (w : World) (K : V1) : Prop := F76_1 x0 w K
def G76 : FnT := fun args w K => on1 (fun x0 => F76 x0 w K) args
theorem c76 {x0 : Value} {w : World} {K : V1} (h : F76 x0 w K) : callP G76 [x0] w K := callP_intro (on1_mk (p := fun x0 => F76 x0 w K) h)
theorem ok76 : OkF Tryz.prog 76 G76 := by
  refine okF_of (tab_ok (l := T76) trivial) mixed (n := fuel) Tryz.func76 Tryz.call76 fun args w K h => ?_
  obtain ⟨x0, rfl, hh⟩ := of_on1 h
  unfold F76 at hh
  exact fnD_list (c := bodyOf Tryz.f76) (by kernel_rfl) (by kernel_rfl) (ok76_1 (fun _ _ h => h) (fun _ _ h => h) (fun _ _ _ h => h) (initE [x0]) w hh)
def T50 : List (Nat × FnT) := [(76, G76)]
def F50 (x0 : Value) (w : World) (K : V1) : Prop :=
bindP (lenS x0) fun v1 =>
callP G76 [v1] w fun v3 w2 =>
bindP (pTuple v3 0) fun v4 =>
bindP (pTuple v3 1) fun _ =>
bindP (bAdd v4 x0) fun v6 =>
K v6 w2
def G50 : FnT := fun args w K => on1 (fun x0 => F50 x0 w K) args
theorem c50 {x0 : Value} {w : World} {K : V1} (h : F50 x0 w K) : callP G50 [x0] w K := callP_intro (on1_mk (p := fun x0 => F50 x0 w K) h)
theorem ok50 : OkF Tryz.prog 50 G50 := by
  refine okF_of (tab_ok (l := T50) ⟨ok76, trivial⟩) mixed (n := fuel) Tryz.func50 Tryz.call50 fun args w K h => ?_
  obtain ⟨x0, rfl, hh⟩ := of_on1 h
  exact fnD_list (c := bodyOf Tryz.f50) (by kernel_rfl) (by kernel_rfl) (Eq.mp (by kernel_rfl) hh)
def T41 : List (Nat × FnT) := []
def F41 (x0 : Value) (w : World) (K : V1) : Prop :=
bindP (fBuild Tryz.prog 83 [(0, x0)]) fun v1 =>
eBox 83 v1 w fun v3 w2 =>
K v3 w2
def G41 : FnT := fun args w K => on1 (fun x0 => F41 x0 w K) args
theorem c41 {x0 : Value} {w : World} {K : V1} (h : F41 x0 w K) : callP G41 [x0] w K := callP_intro (on1_mk (p := fun x0 => F41 x0 w K) h)
theorem ok41 : OkF Tryz.prog 41 G41 := by
  refine okF_of (tab_ok (l := T41) trivial) mixed (n := fuel) Tryz.func41 Tryz.call41 fun args w K h => ?_
  obtain ⟨x0, rfl, hh⟩ := of_on1 h
  exact fnD_list (c := bodyOf Tryz.f41) (by kernel_rfl) (by kernel_rfl) (Eq.mp (by kernel_rfl) hh)
def T68 : List (Nat × FnT) := []
def F68 (x0 x1 : Value) (w : World) (K : V1) : Prop :=
bindP (pNil x0) fun v1 =>
bindP (pFieldAddr 1 v1) fun v2 =>
bindP (ld1 v2 w) fun v3 =>
bindP (bEq Tryz.prog 26 (.tmp 7) (.const (.int .i64 0)) v3 (.int .i64 0)) fun v4 =>
ifB v4 (
bindP (pNil x0) fun v5 =>
bindP (pFieldAddr 1 v5) fun v6 =>
bindW (st 1 v6 x1 w) fun w7 =>
K (.tuple #[]) w7) (
K (.tuple #[]) w)
def G68 : FnT := fun args w K => on2 (fun x0 x1 => F68 x0 x1 w K) args
theorem c68 {x0 x1 : Value} {w : World} {K : V1} (h : F68 x0 x1 w K) : callP G68 [x0, x1] w K := callP_intro (on2_mk (p := fun x0 x1 => F68 x0 x1 w K) h)
theorem ok68 : OkF Tryz.prog 68 G68 := by
  refine okF_of (tab_ok (l := T68) trivial) mixed (n := fuel) Tryz.func68 Tryz.call68 fun args w K h => ?_
  obtain ⟨x0, x1, rfl, hh⟩ := of_on2 h
  exact fnD_list (c := bodyOf Tryz.f68) (by kernel_rfl) (by kernel_rfl) (Eq.mp (by kernel_rfl) hh)
def T43 : List (Nat × FnT) := [(68, G68)]
def F43_2b (w : World) (K : V1) : Prop :=
K (.string ⟨#[]⟩) w
def F43_2 (w : World) (K : V1) : Prop := F43_2b w K
theorem ok43_2 {K : V1}
    (hn : HN (fun e w => K (e 4) w) kn) (hr : HR Tryz.prog [.tmp 4] K kr) (he : HE noE ke) :
    ∀ e w, F43_2 w K → denL Tryz.prog (tabOf T43) 43 fuel ((flat (bodyOf Tryz.f43)).drop 2) e w kn kr ke := by
  intro e w h
  unfold F43_2 at h
  have e1 : ∀ (_ : Unit), F43_2b w K = denL Tryz.prog (tabOf T43) 43 fuel ((flat (bodyOf Tryz.f43)).drop 2) e w (fun e w => K (e 4) w) (endD Tryz.prog [.tmp 4] K) noE := by intro _; kernel_rfl
  exact seg_end (Eq.mp (e1 ()) h) hn hr he
def F43_1b (s0 s1 : Value) (w : World) (K : V1) (Y0 : V0) : Prop :=
bindP (pNil s0) fun v1 =>
bindP (pFieldAddr 1 v1) fun v2 =>
bindP (ld1 v2 w) fun v3 =>
bindP (bNe Tryz.prog 26 (.tmp 26) (.const (.int .i64 0)) v3 (.int .i64 0)) fun v4 =>
ifB v4 (
Y0 w) (
bindP (bLt s1 (.int .i64 0)) fun v5 =>
ifB v5 (
callP G68 [s0, (.int .i64 1)] w fun _ w6 =>
Y0 w6) (
bindP (pNil s0) fun v8 =>
bindP (pFieldAddr 0 v8) fun v9 =>
bindP (ld1 v9 w) fun v10 =>
bindP (lenS v10) fun v11 =>
bindP (bGt s1 v11) fun v12 =>
ifB v12 (
callP G68 [s0, (.int .i64 10)] w fun _ w13 =>
Y0 w13) (
bindP (pNil s0) fun v15 =>
bindP (pFieldAddr 0 v15) fun v16 =>
bindP (ld1 v16 w) fun v17 =>
bindP (pSliceS v17 none (some s1)) fun v18 =>
bindP (pNil s0) fun v19 =>
bindP (pFieldAddr 0 v19) fun v20 =>
bindP (ld1 v20 w) fun v21 =>
bindP (pSliceS v21 (some s1) none) fun v22 =>
bindP (pNil s0) fun v23 =>
bindP (pFieldAddr 0 v23) fun v24 =>
bindW (st 1 v24 v22 w) fun w25 =>
K v18 w25)))
def F43_1 (s0 s1 : Value) (w : World) (K : V1) : Prop := F43_1b s0 s1 w K (fun w => F43_2 w K)
theorem ok43_1 {K : V1}
    (hn : HN (fun e w => K (e 4) w) kn) (hr : HR Tryz.prog [.tmp 4] K kr) (he : HE noE ke) :
    ∀ e w, F43_1 (e 0) (e 1) w K → denL Tryz.prog (tabOf T43) 43 fuel ((flat (bodyOf Tryz.f43)).drop 0) e w kn kr ke := by
  intro e w h
  unfold F43_1 at h
  have e1 : ∀ (Y0 : V0), F43_1b (e 0) (e 1) w K Y0 = denL Tryz.prog (tabOf T43) 43 fuel (((flat (bodyOf Tryz.f43)).drop 0).take 2) e w (fun e w => Y0 w) (endD Tryz.prog [.tmp 4] K) noE := by intro Y0; kernel_rfl
  exact seg 2 (Eq.mp (e1 (fun w => F43_2 w K)) h) (fun e w h => ok43_2 hn hr he e w h) hr he
def F43 (x0 x1 : Value) (w : World) (K : V1) : Prop := F43_1 x0 x1 w K
def G43 : FnT := fun args w K => on2 (fun x0 x1 => F43 x0 x1 w K) args
theorem c43 {x0 x1 : Value} {w : World} {K : V1} (h : F43 x0 x1 w K) : callP G43 [x0, x1] w K := callP_intro (on2_mk (p := fun x0 x1 => F43 x0 x1 w K) h)
theorem ok43 : OkF Tryz.prog 43 G43 := by
  refine okF_of (tab_ok (l := T43) ⟨ok68, trivial⟩) mixed (n := fuel) Tryz.func43 Tryz.call43 fun args w K h => ?_
  obtain ⟨x0, x1, rfl, hh⟩ := of_on2 h
  unfold F43 at hh
  exact fnD_list (c := bodyOf Tryz.f43) (by kernel_rfl) (by kernel_rfl) (ok43_1 (fun _ _ h => h) (fun _ _ h => h) (fun _ _ _ h => h) (initE [x0, x1]) w hh)
def T42 : List (Nat × FnT) := [(43, G43), (68, G68)]
def F42_4b (s0 s5 s6 : Value) (w : World) (K : V1) : Prop :=
bindP (bGe s6 (.int .u64 9223372036854775808)) fun v1 =>
ifB v1 (
callP G68 [s0, (.int .i64 1)] w fun _ w2 =>
bindP (pNil s0) fun v4 =>
bindP (pFieldAddr 0 v4) fun v5 =>
bindW (st 1 v5 s5 w2) fun w6 =>
K (.int .i64 0) w6) (
bindP (cInt .i64 s6) fun v8 =>
K v8 w)
def F42_4 (s0 s5 s6 : Value) (w : World) (K : V1) : Prop := F42_4b s0 s5 s6 w K
theorem ok42_4 {K : V1}
    (hn : HN (fun e w => K (e 4) w) kn) (hr : HR Tryz.prog [.tmp 4] K kr) (he : HE noE ke) :
    ∀ e w, F42_4 (e 0) (e 5) (e 6) w K → denL Tryz.prog (tabOf T42) 46 fuel ((flat (bodyOf Tryz.f42)).drop 7) e w kn kr ke := by
  intro e w h
  unfold F42_4 at h
  have e1 : ∀ (_ : Unit), F42_4b (e 0) (e 5) (e 6) w K = denL Tryz.prog (tabOf T42) 46 fuel ((flat (bodyOf Tryz.f42)).drop 7) e w (fun e w => K (e 4) w) (endD Tryz.prog [.tmp 4] K) noE := by intro _; kernel_rfl
  exact seg_end (Eq.mp (e1 ()) h) hn hr he
def F42_3b (s0 s5 s6 s24 s25 s26 : Value) (w : World) (_K : V1) (Y0 : V6) (Y1 : V3) : Prop :=
bindP (bLt s26 s25) fun v9 =>
ifB v9 (
bindP (pIndexL 1 s24 s26) fun v10 =>
bindP (ld1 v10 w) fun v11 =>
bindP (bShl s6 (.int .u64 8)) fun v12 =>
bindP (cInt .u64 v11) fun v13 =>
bindP (bBit .or v12 v13) fun v14 =>
bindP (bAdd s26 (.int .i64 1)) fun v15 =>
Y0 s0 s5 v14 s24 s25 v15 w) (
Y1 s0 s5 s6 w)
def F42_3L : Nat → Value → Value → Value → Value → Value → Value → World → (V1) → Prop
  | 0, _, _, _, _, _, _, _, _ => False
  | n + 1, s0, s5, s6, s24, s25, s26, w, K => F42_3b s0 s5 s6 s24 s25 s26 w K (fun a0 a5 a6 a24 a25 a26 w => F42_3L n a0 a5 a6 a24 a25 a26 w K) (fun a0 a5 a6 w => F42_4 a0 a5 a6 w K)
def F42_3 (s0 s5 s6 s24 s25 s26 : Value) (w : World) (K : V1) : Prop := F42_3L fuel s0 s5 s6 s24 s25 s26 w K
theorem ok42_3 {K : V1}
    (hn : HN (fun e w => K (e 4) w) kn) (hr : HR Tryz.prog [.tmp 4] K kr) (he : HE noE ke) :
    ∀ e w, F42_3 (e 0) (e 5) (e 6) (e 24) (e 25) (e 26) w K → denL Tryz.prog (tabOf T42) 46 fuel ((flat (bodyOf Tryz.f42)).drop 6) e w kn kr ke := by
  intro e w h
  unfold F42_3 at h
  refine seg_loop (id := 0) (body := (loopB (blkB (nthC (flat (bodyOf Tryz.f42)) 6)))) (l2 := (flat (bodyOf Tryz.f42)).drop 7) (by kernel_rfl) ?_
  refine loop_ok (FL := fun m e w => F42_3L m (e 0) (e 5) (e 6) (e 24) (e 25) (e 26) w K) (fr := endD Tryz.prog [.tmp 4] K) (fe := (blkK 0 (fun e w => F42_4 (e 0) (e 5) (e 6) w K) noE)) (fun _ _ h => h) ?_ hr (blkK_mono (fun e w h => ok42_4 hn hr he e w h) he) fuel e w h
  intro m e w h
  have h : F42_3L (m + 1) (e 0) (e 5) (e 6) (e 24) (e 25) (e 26) w K := h
  rw [F42_3L] at h
  have e1 : ∀ (Y0 : V6) (Y1 : V3), F42_3b (e 0) (e 5) (e 6) (e 24) (e 25) (e 26) w K Y0 Y1 = denL Tryz.prog (tabOf T42) 46 fuel (flat (loopB (blkB (nthC (flat (bodyOf Tryz.f42)) 6)))) e w (fun e w => Y0 (e 0) (e 5) (e 6) (e 24) (e 25) (e 26) w) (endD Tryz.prog [.tmp 4] K) (blkK 0 (fun e w => Y1 (e 0) (e 5) (e 6) w) noE) := by intro Y0 Y1; kernel_rfl
  exact Eq.mp (e1 (fun a0 a5 a6 a24 a25 a26 w => F42_3L m a0 a5 a6 a24 a25 a26 w K) (fun a0 a5 a6 w => F42_4 a0 a5 a6 w K)) h
def F42_2b (s0 s1 : Value) (w : World) (_K : V1) (Y0 : V6) : Prop :=
bindP (pNil s0) fun v16 =>
bindP (pFieldAddr 0 v16) fun v17 =>
bindP (ld1 v17 w) fun v18 =>
callP G43 [s0, s1] w fun v20 w19 =>
eToBytes Tryz.prog 9 86 v20 w19 fun v22 w21 =>
bindP (lenL v22) fun v23 =>
Y0 s0 v18 (.int .u64 0) v22 v23 (.int .i64 0) w21
def F42_2 (s0 s1 : Value) (w : World) (K : V1) : Prop := F42_2b s0 s1 w K (fun a0 a5 a6 a24 a25 a26 w => F42_3 a0 a5 a6 a24 a25 a26 w K)
theorem ok42_2 {K : V1}
    (hn : HN (fun e w => K (e 4) w) kn) (hr : HR Tryz.prog [.tmp 4] K kr) (he : HE noE ke) :
    ∀ e w, F42_2 (e 0) (e 1) w K → denL Tryz.prog (tabOf T42) 46 fuel ((flat (bodyOf Tryz.f42)).drop 3) e w kn kr ke := by
  intro e w h
  unfold F42_2 at h
  have e1 : ∀ (Y0 : V6), F42_2b (e 0) (e 1) w K Y0 = denL Tryz.prog (tabOf T42) 46 fuel (((flat (bodyOf Tryz.f42)).drop 3).take 3) e w (fun e w => Y0 (e 0) (e 5) (e 6) (e 24) (e 25) (e 26) w) (endD Tryz.prog [.tmp 4] K) noE := by intro Y0; kernel_rfl
  exact seg 3 (Eq.mp (e1 (fun a0 a5 a6 a24 a25 a26 w => F42_3 a0 a5 a6 a24 a25 a26 w K)) h) (fun e w h => ok42_3 hn hr he e w h) hr he
def F42_1b (s0 s1 : Value) (w : World) (_K : V1) (Y0 : V2) : Prop :=
bindP (bLt s1 (.int .i64 1)) fun v24 =>
stepM (gd false v24) s1 fun v25 =>
Sx.stepG (gd false v24) (bGt v25 (.int .i64 8)) fun v26 =>
bindP (pPick v24 (.bool true) v26) fun v27 =>
ifB v27 (
callP G68 [s0, (.int .i64 1)] w fun _ w28 =>
Y0 s0 s1 w28) (
Y0 s0 s1 w)
def F42_1 (s0 s1 : Value) (w : World) (K : V1) : Prop := F42_1b s0 s1 w K (fun a0 a1 w => F42_2 a0 a1 w K)
theorem ok42_1 {K : V1}
    (hn : HN (fun e w => K (e 4) w) kn) (hr : HR Tryz.prog [.tmp 4] K kr) (he : HE noE ke) :
    ∀ e w, F42_1 (e 0) (e 1) w K → denL Tryz.prog (tabOf T42) 46 fuel ((flat (bodyOf Tryz.f42)).drop 0) e w kn kr ke := by
  intro e w h
  unfold F42_1 at h
  have e1 : ∀ (Y0 : V2), F42_1b (e 0) (e 1) w K Y0 = denL Tryz.prog (tabOf T42) 46 fuel (((flat (bodyOf Tryz.f42)).drop 0).take 3) e w (fun e w => Y0 (e 0) (e 1) w) (endD Tryz.prog [.tmp 4] K) noE := by intro Y0; kernel_rfl
  exact seg 3 (Eq.mp (e1 (fun a0 a1 w => F42_2 a0 a1 w K)) h) (fun e w h => ok42_2 hn hr he e w h) hr he
def F42 (x0 x1 : Value) (w : World) (K : V1) : Prop := F42_1 x0 x1 w K
def G42 : FnT := fun args w K => on2 (fun x0 x1 => F42 x0 x1 w K) args
theorem c42 {x0 x1 : Value} {w : World} {K : V1} (h : F42 x0 x1 w K) : callP G42 [x0, x1] w K := callP_intro (on2_mk (p := fun x0 x1 => F42 x0 x1 w K) h)
theorem ok42 : OkF Tryz.prog 42 G42 := by
  refine okF_of (tab_ok (l := T42) ⟨ok43, ok68, trivial⟩) mixed (n := fuel) Tryz.func42 Tryz.call42 fun args w K h => ?_
  obtain ⟨x0, x1, rfl, hh⟩ := of_on2 h
  unfold F42 at hh
  exact fnD_list (c := bodyOf Tryz.f42) (by kernel_rfl) (by kernel_rfl) (ok42_1 (fun _ _ h => h) (fun _ _ h => h) (fun _ _ _ h => h) (initE [x0, x1]) w hh)
def T98 : List (Nat × FnT) := []
def F98_3b (w : World) (K : V1) : Prop :=
K (.tuple #[(.int .i64 0), (.int .i64 0), (.int .i64 3)]) w
def F98_3 (w : World) (K : V1) : Prop := F98_3b w K
theorem ok98_3 {K : V1}
    (hn : HN (fun e w => K (.tuple #[(e 4), (e 5), (e 6)]) w) kn) (hr : HR Tryz.prog [.tmp 4, .tmp 5, .tmp 6] K kr) (he : HE noE ke) :
    ∀ e w, F98_3 w K → denL Tryz.prog (tabOf T98) 41 fuel ((flat (bodyOf Tryz.f98)).drop 2) e w kn kr ke := by
  intro e w h
  unfold F98_3 at h
  have e1 : ∀ (_ : Unit), F98_3b w K = denL Tryz.prog (tabOf T98) 41 fuel ((flat (bodyOf Tryz.f98)).drop 2) e w (fun e w => K (.tuple #[(e 4), (e 5), (e 6)]) w) (endD Tryz.prog [.tmp 4, .tmp 5, .tmp 6] K) noE := by intro _; kernel_rfl
  exact seg_end (Eq.mp (e1 ()) h) hn hr he
def F98_2b (s0 s1 s4 s5 : Value) (w : World) (K : V1) (Y0 : V4) (Y1 : V0) : Prop :=
bindP (bLt s5 (.int .i64 9)) fun v1 =>
ifB v1 (
bindP (lenS s0) fun v2 =>
bindP (bEq Tryz.prog 3 (.tmp 10) (.tmp 12) s5 v2) fun v3 =>
ifB v3 (
K (.tuple #[(.int .i64 0), (.int .i64 0), (.int .i64 10)]) w) (
bindP (pIndexS s0 s5) fun v4 =>
bindP (bAdd s5 (.int .i64 1)) fun v5 =>
bindP (bShl s4 (.int .u64 7)) fun v6 =>
bindP (bBit .andNot v4 (.int .u8 128)) fun v7 =>
bindP (cInt .i64 v7) fun v8 =>
bindP (bBit .or v6 v8) fun v9 =>
bindP (bEq Tryz.prog 3 (.tmp 26) (.const (.int .i64 1)) v5 (.int .i64 1)) fun v10 =>
stepM (gd true v10) v4 fun v11 =>
Sx.stepG (gd true v10) (bEq Tryz.prog 5 (.tmp 29) (.const (.int .u8 128)) v11 (.int .u8 128)) fun v12 =>
bindP (pPick v10 v12 (.bool false)) fun v13 =>
ifB v13 (
K (.tuple #[(.int .i64 0), (.int .i64 0), (.int .i64 3)]) w) (
bindP (bGt v9 s1) fun v14 =>
ifB v14 (
K (.tuple #[(.int .i64 0), (.int .i64 0), (.int .i64 2)]) w) (
bindP (bLt v4 (.int .u8 128)) fun v15 =>
ifB v15 (
K (.tuple #[v9, v5, (.int .i64 0)]) w) (
Y0 s0 s1 v9 v5 w))))) (
Y1 w)
def F98_2L : Nat → Value → Value → Value → Value → World → (V1) → Prop
  | 0, _, _, _, _, _, _ => False
  | n + 1, s0, s1, s4, s5, w, K => F98_2b s0 s1 s4 s5 w K (fun a0 a1 a4 a5 w => F98_2L n a0 a1 a4 a5 w K) (fun w => F98_3 w K)
def F98_2 (s0 s1 s4 s5 : Value) (w : World) (K : V1) : Prop := F98_2L fuel s0 s1 s4 s5 w K
theorem ok98_2 {K : V1}
    (hn : HN (fun e w => K (.tuple #[(e 4), (e 5), (e 6)]) w) kn) (hr : HR Tryz.prog [.tmp 4, .tmp 5, .tmp 6] K kr) (he : HE noE ke) :
    ∀ e w, F98_2 (e 0) (e 1) (e 4) (e 5) w K → denL Tryz.prog (tabOf T98) 41 fuel ((flat (bodyOf Tryz.f98)).drop 1) e w kn kr ke := by
  intro e w h
  unfold F98_2 at h
  refine seg_loop (id := 0) (body := (loopB (blkB (nthC (flat (bodyOf Tryz.f98)) 1)))) (l2 := (flat (bodyOf Tryz.f98)).drop 2) (by kernel_rfl) ?_
  refine loop_ok (FL := fun m e w => F98_2L m (e 0) (e 1) (e 4) (e 5) w K) (fr := endD Tryz.prog [.tmp 4, .tmp 5, .tmp 6] K) (fe := (blkK 0 (fun e w => F98_3 w K) noE)) (fun _ _ h => h) ?_ hr (blkK_mono (fun e w h => ok98_3 hn hr he e w h) he) fuel e w h
  intro m e w h
  have h : F98_2L (m + 1) (e 0) (e 1) (e 4) (e 5) w K := h
  rw [F98_2L] at h
  have e1 : ∀ (Y0 : V4) (Y1 : V0), F98_2b (e 0) (e 1) (e 4) (e 5) w K Y0 Y1 = denL Tryz.prog (tabOf T98) 41 fuel (flat (loopB (blkB (nthC (flat (bodyOf Tryz.f98)) 1)))) e w (fun e w => Y0 (e 0) (e 1) (e 4) (e 5) w) (endD Tryz.prog [.tmp 4, .tmp 5, .tmp 6] K) (blkK 0 (fun e w => Y1 w) noE) := by intro Y0 Y1; kernel_rfl
  exact Eq.mp (e1 (fun a0 a1 a4 a5 w => F98_2L m a0 a1 a4 a5 w K) (fun w => F98_3 w K)) h
def F98_1b (s0 s1 : Value) (w : World) (_K : V1) (Y0 : V4) : Prop :=
Y0 s0 s1 (.int .i64 0) (.int .i64 0) w
def F98_1 (s0 s1 : Value) (w : World) (K : V1) : Prop := F98_1b s0 s1 w K (fun a0 a1 a4 a5 w => F98_2 a0 a1 a4 a5 w K)
theorem ok98_1 {K : V1}
    (hn : HN (fun e w => K (.tuple #[(e 4), (e 5), (e 6)]) w) kn) (hr : HR Tryz.prog [.tmp 4, .tmp 5, .tmp 6] K kr) (he : HE noE ke) :
    ∀ e w, F98_1 (e 0) (e 1) w K → denL Tryz.prog (tabOf T98) 41 fuel ((flat (bodyOf Tryz.f98)).drop 0) e w kn kr ke := by
  intro e w h
  unfold F98_1 at h
  have e1 : ∀ (Y0 : V4), F98_1b (e 0) (e 1) w K Y0 = denL Tryz.prog (tabOf T98) 41 fuel (((flat (bodyOf Tryz.f98)).drop 0).take 1) e w (fun e w => Y0 (e 0) (e 1) (e 4) (e 5) w) (endD Tryz.prog [.tmp 4, .tmp 5, .tmp 6] K) noE := by intro Y0; kernel_rfl
  exact seg 1 (Eq.mp (e1 (fun a0 a1 a4 a5 w => F98_2 a0 a1 a4 a5 w K)) h) (fun e w h => ok98_2 hn hr he e w h) hr he
def F98 (x0 x1 : Value) (w : World) (K : V1) : Prop := F98_1 x0 x1 w K
def G98 : FnT := fun args w K => on2 (fun x0 x1 => F98 x0 x1 w K) args
theorem c98 {x0 x1 : Value} {w : World} {K : V1} (h : F98 x0 x1 w K) : callP G98 [x0, x1] w K := callP_intro (on2_mk (p := fun x0 x1 => F98 x0 x1 w K) h)
theorem ok98 : OkF Tryz.prog 98 G98 := by
  refine okF_of (tab_ok (l := T98) trivial) mixed (n := fuel) Tryz.func98 Tryz.call98 fun args w K h => ?_
  obtain ⟨x0, x1, rfl, hh⟩ := of_on2 h
  unfold F98 at hh
  exact fnD_list (c := bodyOf Tryz.f98) (by kernel_rfl) (by kernel_rfl) (ok98_1 (fun _ _ h => h) (fun _ _ h => h) (fun _ _ _ h => h) (initE [x0, x1]) w hh)
def T83 : List (Nat × FnT) := [(68, G68), (98, G98)]
def F83 (x0 x1 : Value) (w : World) (K : V1) : Prop :=
bindP (pNil x0) fun v1 =>
bindP (pFieldAddr 1 v1) fun v2 =>
bindP (ld1 v2 w) fun v3 =>
bindP (bNe Tryz.prog 26 (.tmp 11) (.const (.int .i64 0)) v3 (.int .i64 0)) fun v4 =>
ifB v4 (
K (.int .i64 0) w) (
bindP (pNil x0) fun v5 =>
bindP (pFieldAddr 0 v5) fun v6 =>
bindP (ld1 v6 w) fun v7 =>
callP G98 [v7, x1] w fun v9 w8 =>
bindP (pTuple v9 0) fun v10 =>
bindP (pTuple v9 1) fun v11 =>
bindP (pTuple v9 2) fun v12 =>
callP G68 [x0, v12] w8 fun _ w13 =>
bindP (pNil x0) fun v15 =>
bindP (pFieldAddr 0 v15) fun v16 =>
bindP (ld1 v16 w13) fun v17 =>
bindP (pSliceS v17 (some v11) none) fun v18 =>
bindP (pNil x0) fun v19 =>
bindP (pFieldAddr 0 v19) fun v20 =>
bindW (st 1 v20 v18 w13) fun w21 =>
K v10 w21)
def G83 : FnT := fun args w K => on2 (fun x0 x1 => F83 x0 x1 w K) args
theorem c83 {x0 x1 : Value} {w : World} {K : V1} (h : F83 x0 x1 w K) : callP G83 [x0, x1] w K := callP_intro (on2_mk (p := fun x0 x1 => F83 x0 x1 w K) h)
theorem ok83 : OkF Tryz.prog 83 G83 := by
  refine okF_of (tab_ok (l := T83) ⟨ok68, ok98, trivial⟩) mixed (n := fuel) Tryz.func83 Tryz.call83 fun args w K h => ?_
  obtain ⟨x0, x1, rfl, hh⟩ := of_on2 h
  exact fnD_list (c := bodyOf Tryz.f83) (by kernel_rfl) (by kernel_rfl) (Eq.mp (by kernel_rfl) hh)
def T65 : List (Nat × FnT) := [(43, G43), (83, G83)]
def F65_2b (s7 : Value) (w : World) (K : V1) : Prop :=
K s7 w
def F65_2 (s7 : Value) (w : World) (K : V1) : Prop := F65_2b s7 w K
theorem ok65_2 {K : V1}
    (hn : HN (fun e w => K (e 4) w) kn) (hr : HR Tryz.prog [.tmp 4] K kr) (he : HE noE ke) :
    ∀ e w, F65_2 (e 7) w K → denL Tryz.prog (tabOf T65) 29 fuel ((flat (bodyOf Tryz.f65)).drop 6) e w kn kr ke := by
  intro e w h
  unfold F65_2 at h
  have e1 : ∀ (_ : Unit), F65_2b (e 7) w K = denL Tryz.prog (tabOf T65) 29 fuel ((flat (bodyOf Tryz.f65)).drop 6) e w (fun e w => K (e 4) w) (endD Tryz.prog [.tmp 4] K) noE := by intro _; kernel_rfl
  exact seg_end (Eq.mp (e1 ()) h) hn hr he
def F65_1b (s0 s1 : Value) (w : World) (_K : V1) (Y0 : V1) : Prop :=
bindP (pNil s0) fun v1 =>
bindP (pFieldAddr 0 v1) fun v2 =>
bindP (ld1 v2 w) fun v3 =>
bindP (some (.func (.func 83) #[s0] #[])) fun v4 =>
eCallV (tabOf T65) v4 [s1] w fun v6 w5 =>
callP G43 [s0, v6] w5 fun v8 w7 =>
bindP (pNil s0) fun v9 =>
bindP (pFieldAddr 1 v9) fun v10 =>
bindP (ld1 v10 w7) fun v11 =>
bindP (bNe Tryz.prog 26 (.tmp 22) (.const (.int .i64 0)) v11 (.int .i64 0)) fun v12 =>
ifB v12 (
bindP (pNil s0) fun v13 =>
bindP (pFieldAddr 0 v13) fun v14 =>
bindW (st 1 v14 v3 w7) fun w15 =>
Y0 v8 w15) (
Y0 v8 w7)
def F65_1 (s0 s1 : Value) (w : World) (K : V1) : Prop := F65_1b s0 s1 w K (fun a7 w => F65_2 a7 w K)
theorem ok65_1 {K : V1}
    (hn : HN (fun e w => K (e 4) w) kn) (hr : HR Tryz.prog [.tmp 4] K kr) (he : HE noE ke) :
    ∀ e w, F65_1 (e 0) (e 1) w K → denL Tryz.prog (tabOf T65) 29 fuel ((flat (bodyOf Tryz.f65)).drop 0) e w kn kr ke := by
  intro e w h
  unfold F65_1 at h
  have e1 : ∀ (Y0 : V1), F65_1b (e 0) (e 1) w K Y0 = denL Tryz.prog (tabOf T65) 29 fuel (((flat (bodyOf Tryz.f65)).drop 0).take 6) e w (fun e w => Y0 (e 7) w) (endD Tryz.prog [.tmp 4] K) noE := by intro Y0; kernel_rfl
  exact seg 6 (Eq.mp (e1 (fun a7 w => F65_2 a7 w K)) h) (fun e w h => ok65_2 hn hr he e w h) hr he
def F65 (x0 x1 : Value) (w : World) (K : V1) : Prop := F65_1 x0 x1 w K
def G65 : FnT := fun args w K => on2 (fun x0 x1 => F65 x0 x1 w K) args
theorem c65 {x0 x1 : Value} {w : World} {K : V1} (h : F65 x0 x1 w K) : callP G65 [x0, x1] w K := callP_intro (on2_mk (p := fun x0 x1 => F65 x0 x1 w K) h)
theorem ok65 : OkF Tryz.prog 65 G65 := by
  refine okF_of (tab_ok (l := T65) ⟨ok43, ok83, trivial⟩) mixed (n := fuel) Tryz.func65 Tryz.call65 fun args w K h => ?_
  obtain ⟨x0, x1, rfl, hh⟩ := of_on2 h
  unfold F65 at hh
  exact fnD_list (c := bodyOf Tryz.f65) (by kernel_rfl) (by kernel_rfl) (ok65_1 (fun _ _ h => h) (fun _ _ h => h) (fun _ _ _ h => h) (initE [x0, x1]) w hh)
def T45 : List (Nat × FnT) := []
def F45 (x0 : Value) (w : World) (K : V1) : Prop :=
bindP (pNil x0) fun v1 =>
bindP (pFieldAddr 1 v1) fun v2 =>
bindP (ld1 v2 w) fun v3 =>
bindP (bEq Tryz.prog 26 (.tmp 6) (.const (.int .i64 0)) v3 (.int .i64 0)) fun v4 =>
stepM (gd true v4) x0 fun v5 =>
Sx.stepG (gd true v4) (pNil v5) fun v6 =>
Sx.stepG (gd true v4) (pFieldAddr 0 v6) fun v7 =>
Sx.stepG (gd true v4) (ld1 v7 w) fun v8 =>
Sx.stepG (gd true v4) (bNe Tryz.prog 9 (.tmp 12) (.const (.string ⟨#[]⟩)) v8 (.string ⟨#[]⟩)) fun v9 =>
bindP (pPick v4 v9 (.bool false)) fun v10 =>
ifB v10 (
K (.int .i64 3) w) (
bindP (pNil x0) fun v11 =>
bindP (pFieldAddr 1 v11) fun v12 =>
bindP (ld1 v12 w) fun v13 =>
K v13 w)
def G45 : FnT := fun args w K => on1 (fun x0 => F45 x0 w K) args
theorem c45 {x0 : Value} {w : World} {K : V1} (h : F45 x0 w K) : callP G45 [x0] w K := callP_intro (on1_mk (p := fun x0 => F45 x0 w K) h)
theorem ok45 : OkF Tryz.prog 45 G45 := by
  refine okF_of (tab_ok (l := T45) trivial) mixed (n := fuel) Tryz.func45 Tryz.call45 fun args w K h => ?_
  obtain ⟨x0, rfl, hh⟩ := of_on1 h
  exact fnD_list (c := bodyOf Tryz.f45) (by kernel_rfl) (by kernel_rfl) (Eq.mp (by kernel_rfl) hh)
end Go.Proofs.Gong

/- Oc1 -/
namespace Go.Proofs.Gong
open Go Go.Sx Go.Proofs
set_option maxRecDepth 100000
theorem ixp {b i n : Nat} {j : IntKind} (h : i < n) : pIndexP n 1 (.pointer (some ⟨b, 0, none⟩)) (.int j i) = some (.pointer (some ⟨b, i, none⟩)) := by
  simp only [pIndexP]; rw [if_pos ⟨by omega, by omega⟩]; simp
theorem rem128 (n : Nat) : bRem (.int .i64 n) (.int .i64 128) = some (.int .i64 ((n % 128 : Nat))) := by
  rw [bRem_int _ _ _ (by decide)]; rfl
theorem shr7 (n : Nat) : bShr (.int .i64 n) (.int .u64 7) = some (.int .i64 ((n / 128 : Nat))) := bShr_nat (k := 7) (by decide)
theorem shr8 (n : Nat) : bShr (.int .i64 n) (.int .u64 8) = some (.int .i64 ((n / 256 : Nat))) := bShr_nat (k := 8) (by decide)
theorem or128 {n : Nat} (h : n < 128) : bBit .or (.int .i64 n) (.int .i64 128) = some (.int .i64 ((n + 128 : Nat))) := by
  have e := bOr_i64 (a := n) (b := 128) (by omega) (by omega)
  rw [show n ||| 128 = n + 128 by rw [Nat.or_comm, Nat.add_comm]; exact or_add (a := 1) (i := 7) h] at e
  exact e
theorem to8 (n : Nat) : cInt .u8 (.int .i64 n) = some (.int .u8 (UInt8.ofNat n).toNat) := by
  simp only [cInt]; rw [wrap_u8]; congr 2
theorem sub1 {n : Nat} (h : n < 9223372036854775807) : bSub (.int .i64 ((n + 1 : Nat))) (.int .i64 1) = some (.int .i64 n) := by
  rw [bSub_int, show ((n + 1 : Nat) : Int) - 1 = n by omega, wrap_id (by omega)]
theorem set_drop {c : Array Value} {k : Nat} {l : List UInt8} (hk : k < c.size) (h : c.toList.drop (k + 1) = cellsB l) (b : UInt8) : (c.setIfInBounds k (.int .u8 b.toNat)).toList.drop k = cellsB (b :: l) := by
  rw [Array.toList_setIfInBounds, List.set_eq_take_append_cons_drop, if_pos (by simpa using hk), List.drop_append_of_le_length (by simp; omega), List.drop_of_length_le (by simp; omega), h]
  rfl
section
variable {w0 w : World} {L : List HP} {K : Value → World → Prop}
theorem grpL_spec {p : Nat} {ty : TypeId} : ∀ (at' : Nat) (n m : Nat) (acc : List UInt8) (c : Array Value) (w : World), n < 128 ^ at' → at' + 1 ≤ m → at' ≤ 8 → c.size = 9 → c.toList.drop at' = cellsB acc → Sat w0 (Cl p c ty :: L) w →
    (∀ w', Sat w0 L w' → K (.tuple #[.string (bs (hiG n ++ acc)), .int .i64 0]) w') → F76_2L m (.int .i64 n) (.pointer (some ⟨p, 0, none⟩)) (.int .i64 at') w K := by
  intro at'
  induction at' with
  | zero =>
    intro n m acc c w hn hm h8 hc hd hs hK
    obtain ⟨m, rfl⟩ : ∃ k, m = k + 1 := ⟨m - 1, by omega⟩
    have : n = 0 := by simpa using hn
    subst this
    rw [F76_2L]; unfold F76_2b F76_3 F76_3b
    obtain ⟨v, e1, e2⟩ := cBytes_arr (j := .i64) hs.cl hc (by omega) hd
    have e3 : bGt (.int .i64 ((0 : Nat) : Int)) (.int .i64 0) = some (.bool false) := by simp
    rw [e3]
    simp only [bindP_some, ifB_false, e1, e2]
    rw [hiG_0] at hK
    exact hK _ hs.drop
  | succ k ih =>
    intro n m acc c w hn hm h8 hc hd hs hK
    obtain ⟨m, rfl⟩ : ∃ k, m = k + 1 := ⟨m - 1, by omega⟩
    rw [F76_2L]; unfold F76_2b
    by_cases h0 : n = 0
    · subst h0
      unfold F76_3 F76_3b
      obtain ⟨v, e1, e2⟩ := cBytes_arr (j := .i64) hs.cl hc (by omega) hd
      have e3 : bGt (.int .i64 ((0 : Nat) : Int)) (.int .i64 0) = some (.bool false) := by simp
      rw [e3]
      simp only [bindP_some, ifB_false, e1, e2]
      rw [hiG_0] at hK
      exact hK _ hs.drop
    · have e3 : bGt (.int .i64 (n : Int)) (.int .i64 0) = some (.bool true) := by simp; omega
      rw [e3]
      simp only [bindP_some, ifB_true, sub1 (show k < 9223372036854775807 by omega), rem128, or128 (Nat.mod_lt n (by decide : 128 > 0)), to8, ixp (show k < 9 by omega)]
      refine bindW_st hs (by omega) fun w1 h1 => ?_
      rw [shr7]
      simp only [bindP_some]
      refine ih (n / 128) m _ _ w1 (by rw [Nat.pow_succ] at hn; omega) (by omega) (by omega) (by simpa using hc) (set_drop (by omega) hd _) h1 ?_
      rw [hiG_pos h0] at hK
      simpa using hK
theorem groups_spec {n : Int} (h : Sat w0 L w) (hn : n < 9223372036854775808) (hneg : n < 0 → K (.tuple #[.string (bs []), .int .i64 1]) w) (hpos : 0 ≤ n → ∀ w', Sat w0 L w' → K (.tuple #[.string (bs (grp n.toNat)), .int .i64 0]) w') :
    callP G76 [.int .i64 n] w K := by
  refine c76 ?_
  unfold F76 F76_1 F76_1b
  by_cases h0 : n < 0
  · simp only [bLt_int, bindP_some, h0, decide_true, ifB_true]
    exact hneg h0
  · obtain ⟨k, rfl⟩ : ∃ k : Nat, n = k := ⟨n.toNat, by omega⟩
    have hp := hpos (by omega)
    rw [Int.toNat_natCast] at hp
    simp only [bLt_int, bindP_some, h0, decide_false, ifB_false]
    refine eAlloc_sat h z116 fun p w1 h1 => ?_
    simp only [rem128, to8, bindP_some, ptr, show pIndexP 9 1 (.pointer (some ⟨p, 0, none⟩)) (.int .i64 8) = some (.pointer (some ⟨p, 8, none⟩)) from ixp (i := 8) (by omega)]
    refine bindW_st h1 (by simp) fun w2 h2 => ?_
    rw [shr7]
    simp only [bindP_some]
    unfold F76_2
    refine grpL_spec 8 (k / 128) fuel [UInt8.ofNat (k % 128)] _ w2 ?_ (by decide) (by omega) (by simp) (by simp [cellsB]) h2 hp
    have : 128 ^ 8 = 72057594037927936 := by decide
    omega
theorem text_spec {s : List UInt8} (h : Sat w0 L w) (hn : s.length ≤ 4611686018427387904) (hK : ∀ w', Sat w0 L w' → K (.string (bs (txtL s))) w') : callP G50 [.string (bs s)] w K := by
  refine c50 ?_
  unfold F50
  simp only [lenS_mk, bs_size, bindP_some]
  refine groups_spec h (by omega) (fun h => by omega) fun _ w1 h1 => ?_
  have e : pTuple (.tuple #[.string (bs (grp (s.length : Int).toNat)), .int .i64 0]) 0 = some (.string (bs (grp (s.length : Int).toNat))) := rfl
  have e1 : pTuple (.tuple #[.string (bs (grp (s.length : Int).toNat)), .int .i64 0]) 1 = some (.int .i64 0) := rfl
  have hg := grp_len (n := s.length) (by omega)
  rw [e, e1]
  simp only [bindP_some, Int.toNat_natCast]
  rw [add_txt (by omega)]
  exact hK _ h1
theorem padL_spec {p : Nat} {ty : TypeId} {s0 s1 : Value} : ∀ (k n m : Nat) (acc : List UInt8) (c : Array Value) (w : World), k ≤ m → k ≤ 8 → c.size = 8 → c.toList.drop k = cellsB acc → Sat w0 (Cl p c ty :: L) w →
    (∀ c' w', c'.size = 8 → c'.toList = cellsB (padL k n ++ acc) → Sat w0 (Cl p c' ty :: L) w' → F53_3 s0 s1 (.pointer (some ⟨p, 0, none⟩)) w' K) → F53_2L (m + 1) s0 s1 (.pointer (some ⟨p, 0, none⟩)) (.int .i64 n) (.int .i64 ((k : Int) - 1)) w K := by
  intro k
  induction k with
  | zero =>
    intro n m acc c w hm h8 hc hd hs hK
    rw [F53_2L]; unfold F53_2b
    have e3 : bGe (.int .i64 (((0 : Nat) : Int) - 1)) (.int .i64 0) = some (.bool false) := by simp
    rw [e3]
    simp only [bindP_some, ifB_false]
    exact hK c w hc (by simpa [padL] using hd) hs
  | succ k ih =>
    intro n m acc c w hm h8 hc hd hs hK
    obtain ⟨m, rfl⟩ : ∃ j, m = j + 1 := ⟨m - 1, by omega⟩
    rw [F53_2L]; unfold F53_2b
    rw [show ((k + 1 : Nat) : Int) - 1 = k by omega]
    have e3 : bGe (.int .i64 (k : Int)) (.int .i64 0) = some (.bool true) := by simp
    rw [e3]
    simp only [bindP_some, ifB_true, to8, ixp (show k < 8 by omega)]
    refine bindW_st hs (by omega) fun w1 h1 => ?_
    rw [shr8, bSub_int, wrap_id (by omega)]
    simp only [bindP_some]
    refine ih (n / 256) m _ _ w1 (by omega) (by omega) (by simpa using hc) (set_drop (by omega) hd _) h1 fun c' w' g1 g2 g3 => hK c' w' g1 ?_ g3
    rw [g2, padL]
    congr 1
    simp only [List.append_assoc, List.singleton_append]
    congr 2
    apply UInt8.toNat_inj.1
    simp
theorem shrn {n k : Nat} (h : k ≤ 64) : bShr (.int .i64 n) (.int .i64 k) = some (.int .i64 ((n / 2 ^ k : Nat))) := bShr_nat (k := k) h
theorem wide_spec {n : Nat} {k : Nat} (h : Sat w0 L w) (hk : 1 ≤ k ∧ k ≤ 8) (hn : n < 256 ^ k) (hn2 : n < 9223372036854775808) (hK : ∀ w', Sat w0 L w' → K (.tuple #[.string (bs (padL k n)), .int .i64 0]) w') :
    callP G53 [.int .i64 n, .int .i64 k] w K := by
  refine c53 ?_
  unfold F53 F53_1 F53_1b
  have e1 : decide ((k : Int) < 1) = false := by simp; omega
  have e2 : decide ((k : Int) > 8) = false := by simp; omega
  have e3 : decide ((n : Int) < 0) = false := by simp
  simp only [bLt_int, bGt_int, bindP_some, e1, e2, e3, gd_false, Bool.not_false, stepM_true, stepG_true, pPick_false, ifB_false]
  refine eAlloc_sat h z94 fun p w1 h1 => ?_
  unfold F53_2
  refine padL_spec 8 n (fuel - 1) [] _ w1 (by decide) (by omega) (by simp) (by simp [cellsB]) h1 fun c' w' g1 g2 g3 => ?_
  unfold F53_3 F53_3b
  rw [List.append_nil] at g2
  have d1 : c'.toList.drop (8 - k) = cellsB (padL k n) := by
    rw [g2]
    have := padL_drop k (8 - k) n
    rw [show 8 - k + k = 8 by omega] at this
    rw [← this]; simp [cellsB]
  obtain ⟨v, f1, f2⟩ := cBytes_arr (j := .i64) g3.cl g1 (show 8 - k ≤ 8 by omega) d1
  have hz : n / 2 ^ (8 * k) = 0 := by
    apply Nat.div_eq_of_lt
    rw [Nat.pow_mul]; exact hn
  have e5 : bSub (.int .i64 8) (.int .i64 k) = some (.int .i64 ((8 - k : Nat))) := by
    rw [bSub_int, show (8 : Int) - k = ((8 - k : Nat) : Int) by omega, wrap_id (by omega)]
  by_cases h8 : k < 8
  · have e4 : bMul (.int .i64 8) (.int .i64 k) = some (.int .i64 ((8 * k : Nat))) := by
      rw [bMul_int, show (8 : Int) * k = ((8 * k : Nat) : Int) by omega, wrap_id (by omega)]
    have e6 : decide ((k : Int) < 8) = true := by simp; omega
    simp only [bLt_int, bindP_some, e6, gd_true, stepM_true, stepG_true, e4, shrn (show 8 * k ≤ 64 by omega), hz]
    have e7 : bGt (.int .i64 ((0 : Nat) : Int)) (.int .i64 0) = some (.bool false) := by simp
    simp only [e7, bindP_some, pPick_true, ifB_false, e5, f1, f2]
    exact hK _ g3.drop
  · have e6 : decide ((k : Int) < 8) = false := by simp; omega
    simp only [bLt_int, bindP_some, e6, gd_true, stepM_false, stepG_false, pPick_false, ifB_false, e5, f1, f2]
    exact hK _ g3.drop
end
end Go.Proofs.Gong

/- Oc2 -/
namespace Go.Proofs.Gong
open Go Go.Sx Go.Proofs
set_option maxRecDepth 100000
def RdrH (v : Value) (r : Rdr) : HP := HEx fun p => HPr (v = ptr p) (Cl p #[.string (bs r.2), .int .i64 r.1] 83)
def Rdr.wf (r : Rdr) : Prop := r.2.length ≤ 4611686018427387904
section
variable {w0 w : World} {L : List HP} {K : Value → World → Prop} {v : Value} {r : Rdr}
theorem rdr_iff : Sat w0 (RdrH v r :: L) w ↔ ∃ p, v = ptr p ∧ Sat w0 (Cl p #[.string (bs r.2), .int .i64 r.1] 83 :: L) w := by
  simp only [RdrH, Sat.ex_iff, Sat.pr_iff]
theorem rdr_mk {p : Nat} {c : Array Value} (h : Sat w0 (Cl p c 83 :: L) w) (hc : c = #[.string (bs r.2), .int .i64 r.1]) : Sat w0 (RdrH (ptr p) r :: L) w := rdr_iff.2 ⟨p, rfl, hc ▸ h⟩
theorem read_spec {s : List UInt8} (h : Sat w0 L w) (hK : ∀ v w', Sat w0 (RdrH v (0, s) :: L) w' → K v w') : callP G41 [.string (bs s)] w K := by
  refine c41 ?_
  unfold F41
  have e : fBuild Tryz.prog 83 [(0, .string (bs s))] = some (.agg #[.string (bs s), .int .i64 0]) := by kernel_rfl
  rw [e]
  simp only [bindP_some]
  refine eBox_sat h fun p w1 h1 => hK _ _ (rdr_mk h1 rfl)
theorem refuse_spec {c : Int} (h : Sat w0 (RdrH v r :: L) w) (hK : ∀ w', Sat w0 (RdrH v (if r.1 = 0 then (c, r.2) else r) :: L) w' → K (.tuple #[]) w') : callP G68 [v, .int .i64 c] w K := by
  refine c68 ?_
  unfold F68
  obtain ⟨p, rfl, hs⟩ := rdr_iff.1 h
  simp only [ptr, pNil_ptr, bindP_some, pFieldAddr_ptr, ld1_ptr, cell_of hs.cl]
  by_cases h0 : r.1 = 0
  · simp [h0]
    refine bindW_st hs (by simp) fun w1 h1 => hK _ (rdr_mk h1 (by simp [h0]))
  · simp [h0]
    rw [if_neg h0] at hK
    exact hK _ h
theorem done_spec (h : Sat w0 (RdrH v r :: L) w) (hK : K (.int .i64 (rDone r)) w) : callP G45 [v] w K := by
  refine c45 ?_
  unfold F45
  obtain ⟨p, rfl, hs⟩ := rdr_iff.1 h
  have e : (⟨#[]⟩ : ByteArray) = bs [] := by simp [bs]
  rw [e]
  unfold rDone at hK
  by_cases h0 : r.1 = 0
  · by_cases h1 : r.2 = []
    · rw [if_neg (by simp [h1])] at hK
      simp [ptr, cell_of hs.cl, h0, h1]
      rw [← h0]; exact hK
    · rw [if_pos ⟨h0, h1⟩] at hK
      simp [ptr, cell_of hs.cl, h0, h1]
      exact hK
  · rw [if_neg (by simp [h0])] at hK
    simp [ptr, cell_of hs.cl, h0]
    exact hK
theorem bytes_spec {n : Int} (h : Sat w0 (RdrH v r :: L) w) (hr : r.wf) (hK : ∀ w', Sat w0 (RdrH v (rBytes n r).2 :: L) w' → K (.string (bs (rBytes n r).1)) w') : callP G43 [v, .int .i64 n] w K := by
  refine c43 ?_
  unfold F43 F43_1 F43_1b F43_2 F43_2b
  have h' := h
  obtain ⟨p, rfl, hs⟩ := rdr_iff.1 h
  have e : (⟨#[]⟩ : ByteArray) = bs [] := by simp [bs]
  rw [e]
  unfold rBytes at hK
  by_cases h0 : r.1 = 0
  · rw [if_neg (by simp [h0])] at hK
    by_cases h1 : n < 0
    · rw [if_pos h1] at hK
      simp [ptr, cell_of hs.cl, h0, h1]
      refine refuse_spec h' fun w1 h1 => ?_
      rw [if_pos h0] at h1
      exact hK _ h1
    · rw [if_neg h1] at hK
      obtain ⟨k, rfl⟩ : ∃ k : Nat, n = k := ⟨n.toNat, by omega⟩
      by_cases h2 : (r.2.length : Int) < (k : Int)
      · rw [if_pos h2] at hK
        have h3 : r.2.length < k := by omega
        simp [ptr, cell_of hs.cl, h0, h3]
        refine refuse_spec h' fun w1 h1 => ?_
        rw [if_pos h0] at h1
        exact hK _ h1
      · rw [if_neg h2] at hK
        have h3 : ¬ r.2.length < k := by omega
        have g1 : pSliceS (.string (bs r.2)) none (some (.int .i64 k)) = _ := sub_to (show k ≤ r.2.length by omega)
        have g2 : pSliceS (.string (bs r.2)) (some (.int .i64 k)) none = _ := sub_from (show k ≤ r.2.length by omega)
        simp [ptr, cell_of hs.cl, h0, h3, g1, g2]
        refine bindW_st hs (by simp) fun w1 h1 => hK _ (rdr_mk h1 (by simp [h0]))
  · rw [if_pos h0] at hK
    simp [ptr, cell_of hs.cl, h0]
    exact hK _ h'
def grV (len : Nat) (x : Int × Nat × List UInt8) : Value := if x.1 = 0 then .tuple #[.int .i64 x.2.1, .int .i64 ((len - x.2.2.length : Nat)), .int .i64 0] else .tuple #[.int .i64 0, .int .i64 0, .int .i64 x.1]
theorem shl7 {n : Nat} (h : n < 72057594037927936) : bShl (.int .i64 n) (.int .u64 7) = some (.int .i64 ((n * 128 : Nat))) := by
  have e : min ((7 : Int).toNat) IntKind.i64.bits = 7 := by decide
  simp only [bShl]
  rw [if_neg (by decide), e, show ((n : Int) * 2 ^ 7) = ((n * 128 : Nat) : Int) by omega, wrap_id (by omega)]
theorem from8 (n : Nat) (h : n < 9223372036854775808) : cInt .i64 (.int .u8 n) = some (.int .i64 n) := by
  simp only [cInt]; rw [wrap_id (by omega)]
theorem grL_spec {most : Int} : ∀ (k i n m : Nat) (s : List UInt8), k + i = 9 → i ≤ s.length → n < 128 ^ i → k ≤ m → (i = 0 → n = 0) →
    K (grV s.length (rdG most k (decide (i = 0)) n (s.drop i))) w →
    F98_2L (m + 1) (.string (bs s)) (.int .i64 most) (.int .i64 n) (.int .i64 i) w K := by
  intro k
  induction k with
  | zero =>
    intro i n m s hk hi hn hm h0 hK
    rw [F98_2L]; unfold F98_2b F98_3 F98_3b
    obtain rfl : i = 9 := by omega
    rw [rdG] at hK
    have e : bLt (.int .i64 ((9 : Nat) : Int)) (.int .i64 9) = some (.bool false) := by simp
    rw [e]
    simp only [bindP_some, ifB_false]
    exact hK
  | succ k ih =>
    intro i n m s hk hi hn hm h0 hK
    obtain ⟨m, rfl⟩ : ∃ j, m = j + 1 := ⟨m - 1, by omega⟩
    rw [F98_2L]; unfold F98_2b
    have e : bLt (.int .i64 (i : Int)) (.int .i64 9) = some (.bool true) := by simp; omega
    rw [e]
    simp only [bindP_some, ifB_true, lenS_mk, bs_size, bEq_int]
    by_cases hl : i = s.length
    · have : decide ((i : Int) = (s.length : Int)) = true := by simp; omega
      simp only [this, ifB_true]
      rw [List.drop_of_length_le (by omega)] at hK
      rw [rdG] at hK
      exact hK
    · have : decide ((i : Int) = (s.length : Int)) = false := by simp; omega
      have hi' : i < s.length := by omega
      simp only [this, ifB_false]
      rw [ix_txt hi']
      have hdr : s.drop i = s[i] :: s.drop (i + 1) := List.drop_eq_getElem_cons hi'
      rw [hdr] at hK
      generalize hb : s[i] = b at hK
      have hbl := b.toNat_lt
      have h128 : (128 : Nat) ^ i ≤ 128 ^ 8 := Nat.pow_le_pow_right (by omega) (by omega)
      have e8 : (128 : Nat) ^ 8 = 72057594037927936 := by decide
      have ea : bAdd (.int .i64 (i : Int)) (.int .i64 1) = some (.int .i64 ((i + 1 : Nat))) := by
        rw [bAdd_int, show (i : Int) + 1 = ((i + 1 : Nat) : Int) by omega, wrap_id (by omega)]
      simp only [bindP_some, ea, shl7 (show n < 72057594037927936 by omega), bAndNot_u8, from8 _ (show b.toNat % 128 < 9223372036854775808 by omega)]
      rw [bOr_i64 (by omega) (by omega), or_add (a := n) (b := b.toNat % 128) (i := 7) (by omega)]
      have e9 : n * 2 ^ 7 + b.toNat % 128 = n * 128 + b.toNat % 128 := by omega
      rw [e9]
      generalize hx : n * 128 + b.toNat % 128 = x
      have hxl : x < 128 ^ (i + 1) := by rw [Nat.pow_succ]; omega
      simp only [rdG, hx] at hK
      have tail : (i = 0 → b.toNat ≠ 128) → bindP (bGt (.int .i64 (x : Int)) (.int .i64 most)) (fun v14 => ifB v14 (K (.tuple #[(.int .i64 0), (.int .i64 0), (.int .i64 2)]) w) (bindP (bLt (.int .u8 (b.toNat : Int)) (.int .u8 128)) fun v15 => ifB v15 (K (.tuple #[.int .i64 x, .int .i64 ((i + 1 : Nat)), (.int .i64 0)]) w) (F98_2L (m + 1) (.string (bs s)) (.int .i64 most) (.int .i64 x) (.int .i64 ((i + 1 : Nat))) w K))) := by
        intro hne
        rw [if_neg (by rintro ⟨g1, g2⟩; exact hne (by simpa using g1) g2)] at hK
        by_cases h2 : most < (x : Int)
        · rw [if_pos h2] at hK
          have e2 : bGt (.int .i64 (x : Int)) (.int .i64 most) = some (.bool true) := by simp; omega
          rw [e2]
          simp only [bindP_some, ifB_true]
          exact hK
        · rw [if_neg h2] at hK
          have e2 : bGt (.int .i64 (x : Int)) (.int .i64 most) = some (.bool false) := by simp; omega
          rw [e2]
          simp only [bindP_some, ifB_false]
          by_cases h3 : b.toNat < 128
          · rw [if_pos h3] at hK
            have e3 : bLt (.int .u8 (b.toNat : Int)) (.int .u8 128) = some (.bool true) := by simp; omega
            rw [e3]
            simp only [bindP_some, ifB_true]
            have e4 : s.length - (s.drop (i + 1)).length = i + 1 := by simp; omega
            unfold grV at hK
            simp only [if_true, e4] at hK
            exact hK
          · rw [if_neg h3] at hK
            have e3 : bLt (.int .u8 (b.toNat : Int)) (.int .u8 128) = some (.bool false) := by simp; omega
            rw [e3]
            simp only [bindP_some, ifB_false]
            refine ih (i + 1) x m s (by omega) (by omega) hxl (by omega) (by omega) ?_
            have : decide (i + 1 = 0) = false := by simp
            rw [this]
            exact hK
      by_cases hi0 : i = 0
      · have e5 : decide (((i + 1 : Nat) : Int) = 1) = true := by simp; omega
        simp only [e5, gd_true, stepM_true, stepG_true, bEq_int, bindP_some, pPick_true]
        by_cases h5 : b.toNat = 128
        · have : decide ((b.toNat : Int) = 128) = true := by simp; omega
          simp only [this, ifB_true]
          rw [if_pos ⟨by simpa using hi0, h5⟩] at hK
          exact hK
        · have : decide ((b.toNat : Int) = 128) = false := by simp; omega
          simp only [this, ifB_false]
          exact tail fun _ => h5
      · have e5 : decide (((i + 1 : Nat) : Int) = 1) = false := by simp; omega
        simp only [e5, gd_true, stepM_false, stepG_false, bEq_int, bindP_some, pPick_false, ifB_false]
        exact tail fun h => absurd h hi0
theorem gr_spec {most : Int} {s : List UInt8} (hK : K (grV s.length (rdG most 9 true 0 s)) w) : callP G98 [.string (bs s), .int .i64 most] w K := by
  refine c98 ?_
  unfold F98 F98_1 F98_1b F98_2
  refine grL_spec 9 0 0 (fuel - 1) s (by omega) (by omega) (by decide) (by decide) (fun _ => rfl) ?_
  simpa using hK
theorem rgroups_spec {most : Int} (h : Sat w0 (RdrH v r :: L) w) (hK : ∀ w', Sat w0 (RdrH v (rGrp most r).2 :: L) w' → K (.int .i64 (rGrp most r).1) w') : callP G83 [v, .int .i64 most] w K := by
  refine c83 ?_
  unfold F83
  have h' := h
  obtain ⟨p, rfl, hs⟩ := rdr_iff.1 h
  unfold rGrp at hK
  by_cases h0 : r.1 = 0
  · rw [if_neg (by simp [h0])] at hK
    simp [ptr, cell_of hs.cl, h0]
    refine gr_spec ?_
    have hlen := rdG_len (most := most) 9 true 0 r.2
    have hsuf := rdG_suf (most := most) (s := r.2)
    generalize rdG most 9 true 0 r.2 = x at hK hlen hsuf
    unfold grV
    by_cases hx : x.1 = 0
    · rw [if_pos hx] at hK
      rw [if_pos hx]
      simp only [pTuple, List.getElem?_toArray, List.getElem?_cons_zero, List.getElem?_cons_succ, bindP_some]
      refine refuse_spec h' fun w1 h1 => ?_
      have e0 : (if r.1 = 0 then ((0 : Int), r.2) else r) = (0, r.2) := by rw [if_pos h0]
      rw [e0] at h1
      obtain ⟨p', he, hs1⟩ := rdr_iff.1 h1
      obtain rfl : p = p' := by simpa [ptr] using he
      have g2 : pSliceS (.string (bs r.2)) (some (.int .i64 ((r.2.length - x.2.2.length : Nat)))) none = _ := sub_from (show r.2.length - x.2.2.length ≤ r.2.length by omega)
      simp only [cell_of hs1.cl, List.getElem?_toArray, List.getElem?_cons_zero, bindP_some, g2]
      rw [hsuf hx]
      refine bindW_st hs1 (by simp) fun w2 h2 => hK _ (rdr_mk h2 (by simp))
    · rw [if_neg hx] at hK
      rw [if_neg hx]
      simp only [pTuple, List.getElem?_toArray, List.getElem?_cons_zero, List.getElem?_cons_succ, bindP_some]
      refine refuse_spec h' fun w1 h1 => ?_
      rw [if_pos h0] at h1
      obtain ⟨p', he, hs1⟩ := rdr_iff.1 h1
      obtain rfl : p = p' := by simpa [ptr] using he
      have g2 : pSliceS (.string (bs r.2)) (some (.int .i64 ((0 : Nat)))) none = _ := sub_from (show 0 ≤ r.2.length by omega)
      simp at g2
      simp [cell_of hs1.cl, g2]
      refine bindW_st hs1 (by simp) fun w2 h2 => hK _ (rdr_mk h2 (by simp))
  · rw [if_pos h0] at hK
    simp [ptr, cell_of hs.cl, h0]
    exact hK _ h'
theorem rGrp_wf (most : Int) (hr : r.wf) : (rGrp most r).2.wf := by
  unfold rGrp Rdr.wf at *
  split
  · exact hr
  · split
    · have := rdG_len (most := most) 9 true 0 r.2
      simp only; omega
    · exact hr
theorem rtext_spec {most : Int} (h : Sat w0 (RdrH v r :: L) w) (hr : r.wf) (hK : ∀ w', Sat w0 (RdrH v (rText most r).2 :: L) w' → K (.string (bs (rText most r).1)) w') : callP G65 [v, .int .i64 most] w K := by
  refine c65 ?_
  unfold F65 F65_1 F65_1b F65_2 F65_2b
  have h' := h
  obtain ⟨p, rfl, hs⟩ := rdr_iff.1 h
  simp [ptr, cell_of hs.cl]
  have e : ∀ (k : Value → World → Prop), callP G83 [ptr p, .int .i64 most] w k → eCallV (tabOf T65) (.func (.func 83) #[.pointer (some ⟨p, 0, none⟩)] #[]) [.int .i64 most] w k := by
    intro k h
    show callP (tabOf T65 83) _ _ _
    exact h
  refine e _ ?_
  refine rgroups_spec h' fun w1 h1 => ?_
  refine bytes_spec h1 (rGrp_wf most hr) fun w2 h2 => ?_
  unfold rText at hK
  obtain ⟨p', he, hs2⟩ := rdr_iff.1 h2
  obtain rfl : p = p' := by simpa [ptr] using he
  by_cases h0 : (rBytes (rGrp most r).1 (rGrp most r).2).2.1 = 0
  · simp [cell_of hs2.cl, h0]
    simp only [h0] at hK
    exact hK _ h2
  · simp [cell_of hs2.cl, h0]
    refine bindW_st hs2 (by simp) fun w3 h3 => hK _ (rdr_mk h3 (by simp [h0]))
theorem numL_take_lt {s : List UInt8} {w : Nat} (h : w ≤ 8) : numL (s.take w) < 18446744073709551616 := by
  have h1 := numL_lt _ (s.take w) rfl
  have h2 : 256 ^ (s.take w).length ≤ 256 ^ 8 := Nat.pow_le_pow_right (by omega) (by simp; omega)
  have e8 : 256 ^ 8 = 18446744073709551616 := by decide
  omega
theorem from8u (n : Nat) (h : n < 18446744073709551616) : cInt .u64 (.int .u8 n) = some (.int .u64 n) := by
  simp only [cInt]; rw [wrap_u64 (by omega)]
theorem shl8u {n : Nat} (h : n < 72057594037927936) : bShl (.int .u64 n) (.int .u64 8) = some (.int .u64 ((n * 256 : Nat))) := by
  have e : min ((8 : Int).toNat) IntKind.u64.bits = 8 := by decide
  simp only [bShl]
  rw [if_neg (by decide), e, show ((n : Int) * 2 ^ 8) = ((n * 256 : Nat) : Int) by omega, wrap_u64 (by omega)]
theorem rwL_spec {s0 s5 sv : Value} {l : List UInt8} (hl : l.length ≤ 8) (hR : Rd w 1 sv l.length (cellsB l)) (hK : F42_4 s0 s5 (.int .u64 (numL l)) w K) : ∀ (k i m : Nat), k + i = l.length → k ≤ m →
    F42_3L (m + 1) s0 s5 (.int .u64 (numL (l.take i))) sv (.int .i64 l.length) (.int .i64 i) w K := by
  intro k
  induction k with
  | zero =>
    intro i m hk hm
    rw [F42_3L]; unfold F42_3b
    obtain rfl : i = l.length := by omega
    rw [bLt_int]
    simp only [bindP_some, Int.lt_irrefl, decide_false, ifB_false, List.take_length]
    exact hK
  | succ k ih =>
    intro i m hk hm
    obtain ⟨m, rfl⟩ : ∃ j, m = j + 1 := ⟨m - 1, by omega⟩
    rw [F42_3L]; unfold F42_3b
    have e : bLt (.int .i64 (i : Int)) (.int .i64 l.length) = some (.bool true) := by simp; omega
    have hi : i < l.length := by omega
    have hR' : Rd w 1 sv l.length (l.flatMap fun b => [Value.int .u8 b.toNat]) := by
      have : (l.flatMap fun b => [Value.int .u8 (b.toNat : Int)]) = cellsB l := by
        rw [flat1]; rfl
      rw [this]; exact hR
    have e1 := ix_el hR hi
    have e2 := rd_ld1 (g := fun b : UInt8 => Value.int .u8 b.toNat) hR' hi
    have hlt := numL_lt i (l.take i) (by simp; omega)
    have h2 : 256 ^ i ≤ 256 ^ 7 := Nat.pow_le_pow_right (by omega) (by omega)
    have e7 : 256 ^ 7 = 72057594037927936 := by decide
    have hb := (l[i]).toNat_lt
    have ea : bAdd (.int .i64 (i : Int)) (.int .i64 1) = some (.int .i64 ((i + 1 : Nat))) := by
      rw [bAdd_int, show (i : Int) + 1 = ((i + 1 : Nat) : Int) by omega, wrap_id (by omega)]
    rw [e]
    simp only [bindP_some, ifB_true, e1, e2, ea, shl8u (show numL (l.take i) < 72057594037927936 by omega), from8u _ (show (l[i]).toNat < 18446744073709551616 by omega)]
    rw [bOr_u64 (by omega) (by omega), or_add (a := numL (l.take i)) (i := 8) hb]
    simp only [bindP_some]
    have e9 : numL (l.take i) * 2 ^ 8 + (l[i]).toNat = numL (l.take (i + 1)) := by
      rw [List.take_succ_eq_append_getElem hi, numL_snoc]
    rw [e9]
    exact ih (i + 1) m (by omega) (by omega)
theorem rwide_spec {n : Nat} (h : Sat w0 (RdrH v r :: L) w) (hn : 1 ≤ n ∧ n ≤ 8) (hr : r.wf) (hK : ∀ w', Sat w0 (RdrH v (rWide n r).2 :: L) w' → K (.int .i64 (rWide n r).1) w') : callP G42 [v, .int .i64 n] w K := by
  refine c42 ?_
  unfold F42 F42_1 F42_1b
  have e1 : decide ((n : Int) < 1) = false := by simp; omega
  have e2 : decide ((n : Int) > 8) = false := by simp; omega
  simp only [bLt_int, bGt_int, bindP_some, e1, e2, gd_false, Bool.not_false, stepM_true, stepG_true, pPick_false, ifB_false]
  unfold F42_2 F42_2b
  have h' := h
  obtain ⟨p, rfl, hs⟩ := rdr_iff.1 h
  simp [ptr, cell_of hs.cl]
  refine bytes_spec h' hr fun w1 h1 => ?_
  refine eToBytes_sat h1 (by kernel_rfl) u86 (by kernel_rfl) fun sv w2 b o h2 hR => ?_
  have hv : OneV sv := hR.one
  have hlen : lenL sv = some (.int .i64 (rBytes n r).1.length) := hR.len
  rw [hlen]
  simp only [bindP_some]
  unfold F42_3
  have hl8 : (rBytes n r).1.length ≤ 8 := by
    unfold rBytes
    split
    · simp
    · split
      · simp
      · split
        · simp
        · simp; omega
  refine rwL_spec hl8 hR ?_ (rBytes n r).1.length 0 (fuel - 1) (by omega) (by have : (fuel - 1) ≥ 8 := by decide
                                                                              omega)
  unfold F42_4 F42_4b
  have h3 := h2.drop
  have hlt : numL (rBytes n r).1 < 18446744073709551616 := by
    have := numL_take_lt (s := (rBytes n r).1) (w := 8) (by omega)
    rwa [List.take_of_length_le (by omega)] at this
  by_cases hb : 9223372036854775808 ≤ numL (rBytes n r).1
  · have e3 : bGe (.int .u64 (numL (rBytes n r).1 : Int)) (.int .u64 9223372036854775808) = some (.bool true) := by simp; omega
    rw [e3]
    simp only [bindP_some, ifB_true]
    have k0 := rBytes_big hb
    rw [rWide_of hn, if_pos hb] at hK
    refine refuse_spec h3 fun w4 h4 => ?_
    rw [if_pos k0] at h4
    obtain ⟨p', he, hs4⟩ := rdr_iff.1 h4
    obtain rfl : p = p' := by simpa [ptr] using he
    simp
    refine bindW_st hs4 (by simp) fun w5 h5 => ?_
    exact hK _ (rdr_mk h5 (by simp))
  · have e3 : bGe (.int .u64 (numL (rBytes n r).1 : Int)) (.int .u64 9223372036854775808) = some (.bool false) := by simp; omega
    rw [e3]
    have e4 : cInt .i64 (.int .u64 (numL (rBytes n r).1 : Int)) = some (.int .i64 (numL (rBytes n r).1)) := by
      simp only [cInt]; rw [wrap_id (by omega)]
    rw [e4]
    simp only [bindP_some, ifB_false]
    rw [rWide_of hn, if_neg hb] at hK
    exact hK _ h3
end
end Go.Proofs.Gong

/- Oc4 -/
namespace Go.Proofs.Gong
open Go Go.Sx Go.Proofs
theorem rGrp_enc {most : Int} {n : Nat} (h : n < 9223372036854775808) (hm : (n : Int) ≤ most) (t : List UInt8) : rGrp most (0, grp n ++ t) = (n, (0, t)) := by
  unfold rGrp
  rw [if_neg (by simp)]
  simp only [rdG_grp h hm t, if_true]
theorem rText_enc {most : Int} {s : List UInt8} (h : s.length < 9223372036854775808) (hm : (s.length : Int) ≤ most) (t : List UInt8) : rText most (0, txtL s ++ t) = (s, (0, t)) := by
  unfold rText txtL
  rw [List.append_assoc, rGrp_enc h hm]
  simp only
  unfold rBytes
  rw [if_neg (by simp), if_neg (by omega), if_neg (by simp; omega)]
  simp
end Go.Proofs.Gong

/- Dk0 -/
namespace Go.Proofs.Gong
open Go Go.Sx Go.Proofs
structure Fil where
  name : List UInt8
  s : List UInt8
  safe : Nat
structure Dk where
  room : Int
  stop : Bool
  left : Int
  fs : List Fil
abbrev fKey (f : Fil) : List UInt8 := f.name
abbrev fVal (f : Fil) : List UInt8 × Nat := (f.s, f.safe)
abbrev fGet (n : List UInt8) (fs : List Fil) : Option Fil := kGet fKey n fs
abbrev fPut (f : Fil) (fs : List Fil) : List Fil := kPut ltS fKey f fs
abbrev fDel (n : List UInt8) (fs : List Fil) : List Fil := kDel fKey n fs
def usedF (fs : List Fil) : Nat := (fs.map fun f => f.s.length).sum
def nameOk (s : List UInt8) : Bool := decide (1 ≤ s.length) && decide (s.length ≤ 64)
def useD (d : Dk) : Option Dk := if d.stop = true then (if d.left = 0 then none else some { d with left := d.left - 1 }) else some d
def turnD (d : Dk) (f : Fil) : Int × Dk := match useD d with
  | none => (251, d)
  | some e => (0, { e with fs := fPut f e.fs })
def makeD (n : List UInt8) (d : Dk) : Int × Dk := if nameOk n = false then (1, d) else if (fGet n d.fs).isSome = true then (6, d) else turnD d ⟨n, [], 0⟩
def appD (n x : List UInt8) (d : Dk) : Int × Dk := match fGet n d.fs with
  | none => (5, d)
  | some f => if d.room - usedF d.fs < (x.length : Int) then (250, d) else turnD d { f with s := f.s ++ x }
def syncD (n : List UInt8) (d : Dk) : Int × Dk := match fGet n d.fs with
  | none => (5, d)
  | some f => turnD d { f with safe := f.s.length }
def renD (a b : List UInt8) (d : Dk) : Int × Dk := match fGet a d.fs with
  | none => (5, d)
  | some f => if nameOk b = false then (1, d) else match useD d with
    | none => (251, d)
    | some e => (0, { e with fs := fPut { f with name := b } (fDel a e.fs) })
def cutD (n : List UInt8) (long : Int) (d : Dk) : Int × Dk := match fGet n d.fs with
  | none => (5, d)
  | some f => if long < 0 ∨ (f.s.length : Int) < long then (1, d) else turnD d { f with s := f.s.take long.toNat, safe := min f.safe long.toNat }
def remD (n : List UInt8) (d : Dk) : Int × Dk := match fGet n d.fs with
  | none => (5, d)
  | some _ => match useD d with
    | none => (251, d)
    | some e => (0, { e with fs := fDel n e.fs })
def stopD (n : Int) (d : Dk) : Int × Dk := if n < 0 then (1, d) else (0, { d with stop := true, left := n })
def keptN (k : Int) (many : Nat) : Nat := (k % ((many : Int) + 1)).toNat
def crLong (keep : List Int) (i : Nat) (f : Fil) : Nat := match keep[i]? with | none => f.safe | some k => f.safe + keptN k (f.s.length - f.safe)
def crFil (keep : List Int) (i : Nat) (f : Fil) : Fil := { f with s := f.s.take (crLong keep i f), safe := crLong keep i f }
def crF (keep : List Int) : Nat → List Fil → List Fil
  | _, [] => []
  | i, f :: r => crFil keep i f :: crF keep (i + 1) r
def crashD (keep : List Int) (d : Dk) : Dk := { d with stop := false, left := 0, fs := crF keep 0 d.fs }
def stoppedD (d : Dk) : Bool := d.stop && decide (d.left = 0)
def FOk (f : Fil) : Prop := f.safe ≤ f.s.length ∧ f.name.length ≤ 64
structure DOk (d : Dk) : Prop where
  room : 0 ≤ d.room ∧ d.room ≤ 1099511627776
  used : (usedF d.fs : Int) ≤ d.room
  asc : KAsc ltS fKey d.fs
  ok : ∀ f ∈ d.fs, FOk f
  left : 0 ≤ d.left ∧ d.left ≤ 9223372036854775807
def newD (room : Int) : Dk := ⟨room, false, 0, []⟩
theorem newD_ok {room : Int} (h : 0 ≤ room ∧ room ≤ 1099511627776) : DOk (newD room) := ⟨h, by simp [newD, usedF]; omega, .nil, by simp [newD], by simp [newD]⟩
theorem usedF_perm {a b : List Fil} (h : a.Perm b) : usedF a = usedF b := by
  unfold usedF
  exact (h.map _).sum_nat
theorem usedF_cons {f : Fil} {l : List Fil} : usedF (f :: l) = f.s.length + usedF l := by simp [usedF]
theorem usedF_put {f : Fil} {l : List Fil} : usedF (fPut f l) = f.s.length + usedF (fDel f.name l) := by
  rw [usedF_perm (kPut_perm l f), usedF_cons]
theorem usedF_del_le {n : List UInt8} {l : List Fil} : usedF (fDel n l) ≤ usedF l := by
  induction l with
  | nil => simp [kDel]
  | cons f l ih =>
    unfold fDel kDel at *
    rw [List.filter_cons]
    split
    · rw [usedF_cons, usedF_cons]; omega
    · rw [usedF_cons]; omega
theorem usedF_del {f : Fil} {l : List Fil} (h : KAsc ltS fKey l) (hf : f ∈ l) : usedF l = f.s.length + usedF (fDel f.name l) := by
  obtain ⟨a, b, rfl, h1, h2⟩ := kasc_split STO.txt h hf
  rw [show fDel f.name (a ++ f :: b) = a ++ b from kDel_split (key := fKey) h1 h2]
  simp [usedF]; omega
theorem usedF_mem {f : Fil} {l : List Fil} (hf : f ∈ l) : f.s.length ≤ usedF l := by
  induction l with
  | nil => simp at hf
  | cons g l ih =>
    rw [usedF_cons]
    rcases List.mem_cons.1 hf with rfl | hf
    · omega
    · have := ih hf; omega
theorem useD_some {d e : Dk} (h : useD d = some e) : e.room = d.room ∧ e.stop = d.stop ∧ e.fs = d.fs ∧ (d.left = e.left ∨ (d.stop = true ∧ d.left ≠ 0 ∧ e.left = d.left - 1)) := by
  unfold useD at h
  split at h
  · split at h
    · cases h
    · cases h; rename_i h1 h2; exact ⟨rfl, rfl, rfl, .inr ⟨h1, h2, rfl⟩⟩
  · cases h; exact ⟨rfl, rfl, rfl, .inl rfl⟩
theorem useD_ok {d e : Dk} (hd : DOk d) (h : useD d = some e) : DOk e := by
  obtain ⟨h1, h2, h3, h4⟩ := useD_some h
  exact ⟨by rw [h1]; exact hd.room, by rw [h3, h1]; exact hd.used, by rw [h3]; exact hd.asc, by rw [h3]; exact hd.ok, by have := hd.left; omega⟩
section
variable {d : Dk} (hd : DOk d)
include hd
theorem put_ok {f : Fil} (hf : FOk f) (hu : ((f.s.length + usedF (fDel f.name d.fs) : Nat) : Int) ≤ d.room) : DOk { d with fs := fPut f d.fs } :=
  ⟨hd.room, by show ((usedF (fPut f d.fs) : Nat) : Int) ≤ d.room; rw [usedF_put]; exact hu, kPut_asc STO.txt hd.asc, fun g hg => by
    rcases kPut_mem.1 hg with rfl | ⟨hg, _⟩
    · exact hf
    · exact hd.ok g hg, hd.left⟩
theorem turnD_ok {f : Fil} (hf : FOk f) (hu : ((f.s.length + usedF (fDel f.name d.fs) : Nat) : Int) ≤ d.room) : DOk (turnD d f).2 := by
  unfold turnD
  cases h : useD d with
  | none => exact hd
  | some e =>
    obtain ⟨h1, h2, h3, h4⟩ := useD_some h
    exact put_ok (useD_ok hd h) hf (by rw [h3, h1]; exact hu)
omit hd in
theorem get_ok {n : List UInt8} {f : Fil} (hd : DOk d) (h : fGet n d.fs = some f) : f ∈ d.fs ∧ f.name = n ∧ FOk f ∧ usedF d.fs = f.s.length + usedF (fDel f.name d.fs) := by
  obtain ⟨h1, h2⟩ := kGet_mem h
  exact ⟨h1, h2, hd.ok f h1, usedF_del hd.asc h1⟩
theorem makeD_ok (n : List UInt8) : DOk (makeD n d).2 := by
  unfold makeD
  split
  · exact hd
  split
  · exact hd
  · rename_i h _
    refine turnD_ok hd ⟨by simp, ?_⟩ ?_
    · simp [nameOk] at h; exact h.2
    · have := hd.used
      have := usedF_del_le (n := n) (l := d.fs)
      simp; omega
theorem appD_ok (n x : List UInt8) : DOk (appD n x d).2 := by
  unfold appD
  split
  · exact hd
  · rename_i f h
    obtain ⟨h1, h2, h3, h4⟩ := get_ok hd h
    split
    · exact hd
    · refine turnD_ok hd ⟨by have := h3.1; simp; omega, h3.2⟩ ?_
      simp at h4 ⊢; omega
theorem syncD_ok (n : List UInt8) : DOk (syncD n d).2 := by
  unfold syncD
  split
  · exact hd
  · rename_i f h
    obtain ⟨h1, h2, h3, h4⟩ := get_ok hd h
    refine turnD_ok hd ⟨by simp, h3.2⟩ ?_
    have := hd.used
    simp at h4 ⊢; omega
theorem renD_ok (a b : List UInt8) : DOk (renD a b d).2 := by
  unfold renD
  split
  · exact hd
  rename_i f h
  obtain ⟨h1, h2, h3, h4⟩ := get_ok hd h
  split
  · exact hd
  rename_i hb
  cases hu : useD d with
  | none => exact hd
  | some e =>
    obtain ⟨g1, g2, g3, g4⟩ := useD_some hu
    have he := useD_ok hd hu
    have hdel : DOk { e with fs := fDel a e.fs } := ⟨he.room, by
      have := usedF_del_le (n := a) (l := e.fs)
      have := he.used
      show ((usedF (fDel a e.fs) : Nat) : Int) ≤ e.room
      omega, kDel_asc he.asc, fun g hg => he.ok g (kDel_sub g hg), he.left⟩
    refine put_ok hdel (f := { f with name := b }) ⟨h3.1, by simp [nameOk] at hb; exact hb.2⟩ ?_
    have g5 := usedF_del_le (n := b) (l := fDel a e.fs)
    have g6 := hd.used
    rw [h2] at h4
    rw [← g3] at h4 g6
    show ((f.s.length + usedF (fDel b (fDel a e.fs)) : Nat) : Int) ≤ e.room
    rw [g1]
    omega
theorem cutD_ok (n : List UInt8) (long : Int) : DOk (cutD n long d).2 := by
  unfold cutD
  split
  · exact hd
  rename_i f h
  obtain ⟨h1, h2, h3, h4⟩ := get_ok hd h
  split
  · exact hd
  · have h5 := h3.1
    refine turnD_ok hd ⟨by simp; omega, h3.2⟩ ?_
    have := hd.used
    simp at h4 ⊢; omega
theorem remD_ok (n : List UInt8) : DOk (remD n d).2 := by
  unfold remD
  split
  · exact hd
  cases hu : useD d with
  | none => exact hd
  | some e =>
    have he := useD_ok hd hu
    have := usedF_del_le (n := n) (l := e.fs)
    have := he.used
    exact ⟨he.room, by show ((usedF (fDel n e.fs) : Nat) : Int) ≤ e.room; omega, kDel_asc he.asc, fun g hg => he.ok g (kDel_sub g hg), he.left⟩
theorem stopD_ok {n : Int} (hn : n ≤ 9223372036854775807) : DOk (stopD n d).2 := by
  unfold stopD
  split
  · exact hd
  · exact ⟨hd.room, hd.used, hd.asc, hd.ok, by simp; omega⟩
end
theorem keptN_le (k : Int) (many : Nat) : keptN k many ≤ many := by
  unfold keptN
  have h1 := Int.emod_nonneg k (b := (many : Int) + 1) (by omega)
  have h2 := Int.emod_lt_of_pos k (b := (many : Int) + 1) (by omega)
  omega
theorem crLong_le {keep : List Int} {i : Nat} {f : Fil} (h : FOk f) : f.safe ≤ crLong keep i f ∧ crLong keep i f ≤ f.s.length := by
  unfold crLong
  have := h.1
  split
  · omega
  · rename_i k _
    have := keptN_le k (f.s.length - f.safe); omega
theorem crF_keys {keep : List Int} : ∀ {i : Nat} {l : List Fil}, (crF keep i l).map fKey = l.map fKey
  | i, [] => rfl
  | i, f :: r => by simp [crF, crF_keys, crFil, fKey]
theorem crF_used {keep : List Int} : ∀ {i : Nat} {l : List Fil}, usedF (crF keep i l) ≤ usedF l
  | i, [] => by simp [crF]
  | i, f :: r => by
    have := crF_used (keep := keep) (i := i + 1) (l := r)
    simp only [crF, usedF_cons, crFil, List.length_take]
    omega
theorem crF_ok {keep : List Int} : ∀ {i : Nat} {l : List Fil}, (∀ f ∈ l, FOk f) → ∀ f ∈ crF keep i l, FOk f
  | i, [], _, f, hf => by simp [crF] at hf
  | i, g :: r, h, f, hf => by
    simp only [crF, List.mem_cons] at hf
    rcases hf with rfl | hf
    · have hg := h g (by simp)
      have := crLong_le (keep := keep) (i := i) hg
      refine ⟨?_, hg.2⟩
      simp [crFil]; omega
    · exact crF_ok (fun x hx => h x (List.mem_cons_of_mem _ hx)) f hf
theorem kasc_keys {l : List Fil} : KAsc ltS fKey l ↔ (l.map fKey).Pairwise fun a b => ltS a b = true := by
  unfold KAsc; rw [List.pairwise_map]
theorem crashD_ok {d : Dk} (hd : DOk d) (keep : List Int) : DOk (crashD keep d) :=
  ⟨hd.room, by
    have := crF_used (keep := keep) (i := 0) (l := d.fs)
    have := hd.used
    show ((usedF (crF keep 0 d.fs) : Nat) : Int) ≤ d.room
    omega, by show KAsc ltS fKey (crF keep 0 d.fs); rw [kasc_keys, crF_keys, ← kasc_keys]; exact hd.asc, crF_ok hd.ok, by simp [crashD]⟩
theorem turnD_len {d : Dk} {f : Fil} : (turnD d f).2.fs.length ≤ d.fs.length + 1 := by
  unfold turnD
  split
  · simp
  · rename_i e h
    obtain ⟨_, _, h3, _⟩ := useD_some h
    have := kPut_len (lt := ltS) (key := fKey) (l := e.fs) (x := f)
    rw [h3] at this; simpa [h3] using this
theorem makeD_len {d : Dk} {n : List UInt8} : (makeD n d).2.fs.length ≤ d.fs.length + 1 := by
  unfold makeD
  split
  · simp
  split
  · simp
  · exact turnD_len
theorem appD_len {d : Dk} {n x : List UInt8} : (appD n x d).2.fs.length ≤ d.fs.length + 1 := by
  unfold appD
  split
  · simp
  split
  · simp
  · exact turnD_len
theorem syncD_len {d : Dk} {n : List UInt8} : (syncD n d).2.fs.length ≤ d.fs.length + 1 := by
  unfold syncD
  split
  · simp
  · exact turnD_len
theorem renD_len {d : Dk} {a b : List UInt8} : (renD a b d).2.fs.length ≤ d.fs.length + 1 := by
  unfold renD
  split
  · simp
  rename_i f _
  split
  · simp
  cases hu : useD d with
  | none => simp
  | some e =>
    obtain ⟨_, _, h3, _⟩ := useD_some hu
    have h1 := kPut_len (lt := ltS) (key := fKey) (l := fDel a e.fs) (x := (⟨b, f.s, f.safe⟩ : Fil))
    have h2 := kDel_len (key := fKey) (l := e.fs) (k := a)
    rw [h3] at h1 h2
    show (fPut (⟨b, f.s, f.safe⟩ : Fil) (fDel a e.fs)).length ≤ d.fs.length + 1
    rw [h3]
    exact Nat.le_trans h1 (Nat.succ_le_succ h2)
theorem cutD_len {d : Dk} {n : List UInt8} {k : Int} : (cutD n k d).2.fs.length ≤ d.fs.length + 1 := by
  unfold cutD
  split
  · simp
  split
  · simp
  · exact turnD_len
theorem remD_len {d : Dk} {n : List UInt8} : (remD n d).2.fs.length ≤ d.fs.length + 1 := by
  unfold remD
  split
  · simp
  cases hu : useD d with
  | none => simp
  | some e =>
    obtain ⟨_, _, h3, _⟩ := useD_some hu
    have h2 := kDel_len (key := fKey) (l := e.fs) (k := n)
    rw [h3] at h2
    show (fDel n e.fs).length ≤ d.fs.length + 1
    rw [h3]
    exact Nat.le_succ_of_le h2
end Go.Proofs.Gong
