/- A part of the proofs: what stands below it, told in lemmas. No condition. -/
import Derived.Test.YtghckdlkdgaokaaGreatP0
import Derived.ChangeSame
import Derived.WideKeyArgs
import Derived.RowKit
import Derived.Below
import Derived.OpenShut
import Derived.Deep.Slices
import Derived.ChangeMaps5
import Derived.Laws.Externs
import Derived.SizedLaws
import Derived.Lib.LaidTab
import Derived.Shelf.SlIterI.Nil
import Derived.Shelf.SlIter.Nil
import Derived.Shelf.SortM.Plain
import Derived.Shelf.SortM.SortNone
import Derived.Test.YtghckdlkdgaokaaGreatProg
set_option linter.all false

/- Sz3 -/
namespace Go.Sx
open Go.ChangeShapes Go.WideShapes Go.RowKit
section
variable {H : Type} {enc : TypeId × Value → H} {P : Program}
theorem trodAll_stays (hl : laidOutB P = true) {W W' : World} {sp' : Nat → Bool} {base : Nat} : ∀ {ts : List TypeId} {vs : List Value} {ds : List (DataW H)} {ps : List MemPlace}, (∀ t ∈ ts, P.readableRec t = true ∧ t < P.types.size) →
    DataW.TrodAll enc P W base (fun _ => true) true ts vs ds ps → (∀ p ∈ ps, W.sameAt W' p) → (∀ p ∈ ps, sp' p.block = true) → DataW.TrodAll enc P W' base sp' true ts vs ds ps := by
  intro ts
  induction ts with
  | nil => intro vs ds ps _ h _ _; obtain ⟨rfl, rfl, rfl⟩ := trodAll_nil h; exact trodAll_mk0
  | cons t ts ih =>
    intro vs ds ps hr h h1 h2
    cases vs with
    | nil => exact h.elim
    | cons v vs =>
      cases ds with
      | nil => exact h.elim
      | cons d ds =>
        obtain ⟨p, q, hp, hq, rfl⟩ := h
        have := hr t (by simp)
        exact ⟨p, q, WideElems.Trod_stays hl this.1 this.2 hp (fun x hx => h1 x (by simp [hx])) (fun x hx => h2 x (by simp [hx])), ih (fun t ht => hr t (by simp [ht])) hq (fun x hx => h1 x (by simp [hx])) (fun x hx => h2 x (by simp [hx])), rfl⟩
theorem law_post (hl : laidOutB P = true) {f : Func} {s : ChangeSpec} {apart fresh handsOn again : Bool} {W W' : World} {args : Array Value} {ds gs : List (DataW H)} {before : List MemPlace} {tb : TypeId}
    (hp : f.params.toList.all (fun t => P.readableRec t && decide (t < P.types.size)) = true) (hW : DataW.Whole enc P f.params.toList s.vars apart W args.toList ds gs before) (hv : s.vars = [])
    (hs : s.fn H ds = { results := [.lit (.bool true)], args := ds }) (hr : f.resultTypes = #[tb]) (hb : P.underlying tb = some .bool) (hf : Fr [] W W') : s.post enc P f apart fresh handsOn again W args (.bool true) W' := by
  have hlt := hW.lt
  have hW0 := hW
  obtain ⟨p, q, hA, hV, rfl, hfz, hnd⟩ := hW
  rw [hv] at hV
  obtain ⟨rfl, rfl⟩ := trodVars_none hV
  simp only [List.append_nil] at *
  have hB := hf.below
  have hpar : ∀ t ∈ f.params.toList, P.readableRec t = true ∧ t < P.types.size := fun t ht => by
    have := List.all_eq_true.1 hp t ht
    simpa using this
  have hsame : ∀ x ∈ p, W.sameAt W' x := fun x hx => hB.same (hlt x hx)
  have hargs : ∀ sp : Nat → Bool, (∀ x ∈ p, sp x.block = true) → DataW.TrodAll enc P W' 0 sp true f.params.toList args.toList ds p := fun sp hsp => trodAll_stays hl hpar hA hsame hsp
  have hres : ∀ (b : Nat) (sp : Nat → Bool) (hd : Bool), DataW.TrodAll enc P W' b sp hd f.resultTypes.toList ((Value.bool true).resultList f.resultTypes.size) [.lit (.bool true)] [] := by
    intro b sp hd
    rw [hr]
    exact trodAll_mk1 (shut_bool hb true)
  have hfn : s.fn H (ds ++ []) = { results := [.lit (.bool true)], args := ds } := by rw [List.append_nil]; exact hs
  refine ⟨ds, [], p, [], p, [], hW0, by rw [hfn]; exact hres _ _ _, by rw [hfn]; exact hargs _ fun x hx => by simpa using hlt x hx, by rw [hfn, hv]; rfl, hB.frame _, fun _ => ⟨?_, [.lit (.bool true)] ++ ds, [], p, ⟨p, [], ?_, by rw [hv]; rfl, by simp, ?_, ?_⟩, ?_⟩⟩
  · exact ok_one hr rfl (by simp [Value.okWide, hb, Cell.okWide, Cell.ok])
  · have := trodAll_append (hargs (fun _ => true) fun _ _ => rfl) (hres 0 (fun _ => true) true)
    simpa using this
  · intro b off hx
    rw [hB.frozen (p := ⟨b, off, none⟩) (hlt _ hx)]
    exact hfz b off hx
  · exact hnd
  · exact fun x hx _ => hx
theorem law_calls {i : Nat} {G : FnT} (ok : OkF P i G) (hc : ∀ args w, (callFunc i args).run P w = .ok (.enter i args) w) {args : List Value} {W : World} (h : callP G args W fun v w' => v = .bool true ∧ Sat W [] w') :
    Calls P i args.toArray W fun e w' => e = .returned (.bool true) ∧ Fr [] W w' := by
  obtain ⟨k0, h0, hk⟩ := h
  rcases (ok _ _ _ h0) with ⟨_, hC⟩ | ⟨v, w', hr, _⟩
  · exact hC.mono fun e w' ⟨v, he, hv⟩ => ⟨by rw [he, (hk _ _ hv).1], (hk _ _ hv).2.fr⟩
  · rw [hc] at hr; cases hr
end
end Go.Sx

/- Sz4 -/
namespace Go.Sx
open Go.ChangeShapes Go.WideShapes Go.RowKit
inductive CK where
  | int (k : IntKind)
  | str
  | bool
def Fit (c : CK) (v : Value) : Prop := match c with
  | .int k => ∃ n, v = .int k n ∧ (Lit.int k n).wf = true
  | .str => ∃ s, v = .string s ∧ s.size ≤ maxLen
  | .bool => ∃ b, v = .bool b
def FitL : List CK → List Value → Prop
  | [], [] => True
  | c :: cs, v :: vs => Fit c v ∧ FitL cs vs
  | _, _ => False
theorem FitL.append : ∀ {a b : List CK} {x y : List Value}, FitL a x → FitL b y → FitL (a ++ b) (x ++ y)
  | [], _, [], _, _, h => h
  | _ :: _, _, _ :: _, _, h, h' => ⟨h.1, h.2.append h'⟩
  | [], _, _ :: _, _, h, _ => h.elim
  | _ :: _, _, [], _, h, _ => h.elim
theorem FitL.length : ∀ {a : List CK} {x : List Value}, FitL a x → x.length = a.length
  | [], [], _ => rfl
  | _ :: _, _ :: _, h => by simp [h.2.length]
  | [], _ :: _, h => h.elim
  | _ :: _, [], h => h.elim
section
variable {H : Type} {enc : TypeId × Value → H} {P : Program} {w : World} {base : Nat} {sp : Nat → Bool} {held : Bool}
theorem add_add (a : Addr) (x y : Nat) : (a.add x).add y = a.add (x + y) := by
  unfold Addr.add
  by_cases hx : x = 0 <;> by_cases hy : y = 0 <;> simp [hx, hy]
  omega
theorem flat_at {α : Type} {f : α → List Value} {es : Nat} (hf : ∀ x, (f x).length = es) : ∀ (l : List α) (i : Nat) (hi : i < l.length), ((l.flatMap f).drop (i * es)).take es = f l[i]
  | x :: l, 0, _ => by
    rw [List.flatMap_cons, Nat.zero_mul, List.drop_zero, List.take_left' (hf x)]; rfl
  | x :: l, i + 1, hi => by
    rw [List.flatMap_cons, Nat.add_mul, Nat.one_mul, Nat.add_comm, ← List.drop_drop, List.drop_left' (hf x)]
    exact flat_at hf l i (by simpa using hi)
theorem Rd.elem {α : Type} {f : α → List Value} {es n i : Nat} {v : Value} {l : List α} {j : IntKind} (h : Rd w es v n (l.flatMap f)) (hf : ∀ x, (f x).length = es) (hn : n = l.length) (hi : i < l.length) :
    ∃ b o, pIndexL es v (.int j i) = some (.pointer (some ⟨b, o, none⟩)) ∧ ldN es (.pointer (some ⟨b, o, none⟩)) w = some (.agg (f l[i]).toArray) ∧ ∀ k, w.cell? ⟨b, o + k, none⟩ = (f l[i])[k]? ∨ es ≤ k := by
  have hc2 := flat_at hf l i hi
  generalize l.flatMap f = cs at h hc2
  cases h with
  | emp => omega
  | blk hb hn ha hc =>
    rename_i b o cap a ty fz
    have e1 : i * es + es ≤ n * es := by
      have := Nat.mul_le_mul_right es (show i + 1 ≤ n by omega)
      rw [Nat.add_mul] at this; omega
    have e2 : f l[i] = (a.toList.drop (o + i * es)).take es := by
      rw [← hc2, hc, List.drop_take, List.take_take, List.drop_drop, Nat.min_eq_left (by omega)]
    refine ⟨b, o + i * es, ?_, ?_, fun k => ?_⟩
    · simp only [pIndexL]; rw [if_pos ⟨by omega, by omega⟩]; simp
    · rw [ldN_of hb (by omega), e2]
      congr 2
      apply Array.ext'
      simp only [Array.toList_extract, List.extract_eq_take_drop]
      rw [show o + i * es + es - (o + i * es) = es by omega]
    · rcases Nat.lt_or_ge k es with hk | hk
      · left
        rw [cell_of hb, e2, List.getElem?_take_of_lt hk, List.getElem?_drop, Array.getElem?_toList]
      · exact .inr hk
end
end Go.Sx

/- Sz5 -/
namespace Go.Sx
section
variable {κ ν : Type}
structure MapOk (ek : κ → Value) (ev : ν → Value) (es : Array MapEntry) (clock : Nat) (m : List (κ × ν)) : Prop where
  kv : es.toList.map (fun e => (e.key, e.val)) = m.map (fun x => (ek x.1, ev x.2))
  nd : (es.toList.map (·.born)).Nodup
  lt : ∀ e ∈ es.toList, e.born < clock
  kd : (m.map Prod.fst).Nodup
def MapH (ek : κ → Value) (ev : ν → Value) (v : Value) (m : List (κ × ν)) : HP := HEx fun r => HEx fun es => HEx fun clock => HPr (v = .map (some r) ∧ MapOk ek ev es clock m) (Blk r (.map es clock))
variable {ek : κ → Value} {ev : ν → Value} {m : List (κ × ν)} {w0 w : World} {L : List HP} {v : Value}
theorem map_iff : Sat w0 (MapH ek ev v m :: L) w ↔ ∃ r es clock, (v = .map (some r) ∧ MapOk ek ev es clock m) ∧ Sat w0 (Blk r (.map es clock) :: L) w := by
  simp only [MapH, Sat.ex_iff, Sat.pr_iff]
theorem map_one (h : Sat w0 (MapH ek ev v m :: L) w) : OneV v := by
  obtain ⟨r, es, c, ⟨rfl, _⟩, _⟩ := map_iff.1 h; infer_instance
theorem map_nd (h : Sat w0 (MapH ek ev v m :: L) w) : (m.map Prod.fst).Nodup := by
  obtain ⟨r, es, c, ⟨_, h⟩, _⟩ := map_iff.1 h; exact h.kd
theorem lenM_map (h : Sat w0 (MapH ek ev v m :: L) w) : lenM v w = some (.int .i64 m.length) := by
  obtain ⟨r, es, clock, ⟨rfl, hm⟩, hs⟩ := map_iff.1 h
  have := congrArg List.length hm.kv
  simp at this
  simp [lenM, mapOf, hs.blk, this]
theorem map_eraseIdx' {α β : Type} (f : α → β) : ∀ (l : List α) (j : Nat), (l.eraseIdx j).map f = (l.map f).eraseIdx j
  | [], _ => by simp
  | _ :: _, 0 => by simp
  | a :: l, j + 1 => by simp [map_eraseIdx' f l j]
theorem eMakeMap_sat {K : Value → World → Prop} (ek : κ → Value) (ev : ν → Value) (h : Sat w0 L w) (hK : ∀ v w', Sat w0 (MapH ek ev v ([] : List (κ × ν)) :: L) w' → K v w') : eMakeMap none w K :=
  hK _ _ (map_iff.2 ⟨_, _, _, ⟨rfl, ⟨by simp, by simp, by simp, by simp⟩⟩, h.alloc _⟩)
end
section
variable {κ ν : Type} [DecidableEq κ]
def aGet (k : κ) : List (κ × ν) → Option ν
  | [] => none
  | x :: r => if k = x.1 then some x.2 else aGet k r
def aSet (k : κ) (v : ν) : List (κ × ν) → List (κ × ν)
  | [] => [(k, v)]
  | x :: r => if k = x.1 then (k, v) :: r else x :: aSet k v r
def aDel (k : κ) : List (κ × ν) → List (κ × ν)
  | [] => []
  | x :: r => if k = x.1 then r else x :: aDel k r
def aFind (ev : ν → Value) (k : κ) : List (κ × ν) → Nat → Option (Nat × Value)
  | [], _ => none
  | x :: r, i => if k = x.1 then some (i, ev x.2) else aFind ev k r (i + 1)
structure KeyT (P : Program) (kt : TypeId) (ek : κ → Value) : Prop where
  u : (P.underlying kt).isSome = true
  ck : ∀ k, ckv P 10000 kt (ek k) = true
  eq : ∀ a b, eqv P Op.maxDepth kt (ek a) (ek b) = some (decide (a = b))
  sb : ∀ a, Instr.sameBits 10000 (ek a) (ek a) = true
variable {P : Program} {kt : TypeId} {ek : κ → Value} {ev : ν → Value} {m : List (κ × ν)} {k : κ}
theorem aFind_some {j i : Nat} {val : Value} : ∀ {m : List (κ × ν)} {i : Nat}, aFind ev k m i = some (j, val) → ∃ b, i ≤ j ∧ m[j - i]? = some (k, b) ∧ val = ev b ∧ aGet k m = some b ∧ (∀ x, aSet k x m = m.set (j - i) (k, x)) ∧ aDel k m = m.eraseIdx (j - i) := by
  intro m
  induction m with
  | nil => intro i h; simp [aFind] at h
  | cons y r ih =>
    intro i h
    unfold aFind at h
    by_cases hk : k = y.1
    · simp [hk] at h
      obtain ⟨rfl, rfl⟩ := h
      exact ⟨y.2, Nat.le_refl _, by simp [hk], rfl, by simp [aGet, hk], by simp [aSet, hk], by simp [aDel, hk]⟩
    · simp only [hk, if_false] at h
      obtain ⟨b, h1, h2, h3, h4, h5, h6⟩ := ih h
      have e : j - i = j - (i + 1) + 1 := by omega
      exact ⟨b, by omega, by rw [e]; simpa using h2, h3, by simp [aGet, hk, h4], fun x => by rw [e]; simp [aSet, hk, h5], by rw [e]; simp [aDel, hk, h6]⟩
theorem aFind_none : ∀ {m : List (κ × ν)} {i : Nat}, aFind ev k m i = none → aGet k m = none ∧ (∀ x, aSet k x m = m ++ [(k, x)]) ∧ aDel k m = m ∧ k ∉ m.map Prod.fst := by
  intro m
  induction m with
  | nil => intro i _; simp [aGet, aSet, aDel]
  | cons y r ih =>
    intro i h
    unfold aFind at h
    by_cases hk : k = y.1
    · simp [hk] at h
    · simp only [hk, if_false] at h
      obtain ⟨h1, h2, h3, h4⟩ := ih h
      refine ⟨by simp [aGet, hk, h1], fun x => by simp [aSet, hk, h2], by simp [aDel, hk, h3], ?_⟩
      rw [List.map_cons, List.mem_cons]; rintro (h | h)
      · exact hk h
      · exact h4 h
theorem mFind_al (K : KeyT P kt ek) : ∀ (l : List MapEntry) (m : List (κ × ν)) (i : Nat), l.map (fun e => (e.key, e.val)) = m.map (fun x => (ek x.1, ev x.2)) → mFind (eqv P Op.maxDepth kt (ek k)) l i = some (aFind ev k m i) := by
  intro l
  induction l with
  | nil => intro m i h; cases m with | nil => rfl | cons => simp at h
  | cons e l ih =>
    intro m i h
    cases m with
    | nil => simp at h
    | cons x m =>
      simp only [List.map_cons, List.cons.injEq, Prod.mk.injEq] at h
      obtain ⟨⟨h1, h2⟩, h3⟩ := h
      unfold mFind aFind
      rw [h1, K.eq]
      by_cases hk : k = x.1
      · simp [hk, h2]
      · simp [hk, ih _ _ h3]
theorem aGet_set (k k' : κ) (x : ν) : ∀ (m : List (κ × ν)), aGet k (aSet k' x m) = if k = k' then some x else aGet k m
  | [] => by by_cases h : k = k' <;> simp [aSet, aGet, h]
  | y :: r => by
    by_cases h' : k' = y.1
    · by_cases h : k = k'
      · simp [aSet, aGet, h, h']
      · have : ¬ k = y.1 := fun e => h (e.trans h'.symm)
        simp [aSet, aGet, h, h', this]
    · by_cases h : k = y.1
      · have : ¬ k = k' := fun e => h' (e.symm.trans h)
        have : ¬ y.1 = k' := fun e => h' e.symm
        simp [aSet, aGet, h, h', this]
      · simp [aSet, aGet, h, h', aGet_set k k' x r]
theorem aGet_mem {k : κ} {x : ν} : ∀ {m : List (κ × ν)}, aGet k m = some x → (k, x) ∈ m
  | [], h => by simp [aGet] at h
  | y :: r, h => by
    unfold aGet at h
    by_cases hk : k = y.1
    · simp [hk] at h; subst h; subst hk; simp
    · simp only [hk, if_false] at h; exact List.mem_cons_of_mem _ (aGet_mem h)
theorem mem_aGet {k : κ} {x : ν} : ∀ {m : List (κ × ν)}, (m.map Prod.fst).Nodup → (k, x) ∈ m → aGet k m = some x
  | [], _, h => by simp at h
  | y :: r, hn, h => by
    simp only [List.map_cons, List.nodup_cons] at hn
    unfold aGet
    rcases List.mem_cons.1 h with rfl | h
    · simp
    · have : ¬ k = y.1 := fun e => hn.1 (by rw [← e]; exact List.mem_map_of_mem (f := Prod.fst) h)
      simp only [this, if_false]; exact mem_aGet hn.2 h
section
variable {w0 w : World} {L : List HP} {v : Value}
theorem look_map (h : Sat w0 (MapH ek ev v m :: L) w) (K : KeyT P kt ek) {t et : TypeId} {z : Value} (hu : P.underlying t = some (.map kt et)) (hz : fZero P et = some z) (ok : Bool) (k : κ) :
    fLook P t v (ek k) ok w = some (if ok then .tuple #[(aGet k m).elim z ev, .bool (aGet k m).isSome] else (aGet k m).elim z ev) := by
  obtain ⟨r, es, clock, ⟨rfl, hm⟩, hs⟩ := map_iff.1 h
  simp only [fLook, hu, mapOf, hs.blk]
  rw [if_pos ⟨K.ck k, K.u⟩, mFind_al K _ _ 0 hm.kv]
  cases hf : aFind ev k m 0 with
  | none => simp [(aFind_none hf).1, hz]
  | some x =>
    obtain ⟨j, val⟩ := x
    obtain ⟨b, _, _, rfl, h4, _⟩ := aFind_some (i := 0) hf
    simp [h4]
theorem look1 (h : Sat w0 (MapH ek ev v m :: L) w) (K : KeyT P kt ek) {t et : TypeId} {z : Value} (hu : P.underlying t = some (.map kt et)) (hz : fZero P et = some z) (k : κ) : fLook P t v (ek k) false w = some ((aGet k m).elim z ev) := by
  rw [look_map h K hu hz]; rfl
theorem look2 (h : Sat w0 (MapH ek ev v m :: L) w) (K : KeyT P kt ek) {t et : TypeId} {z : Value} (hu : P.underlying t = some (.map kt et)) (hz : fZero P et = some z) (k : κ) : fLook P t v (ek k) true w = some (.tuple #[(aGet k m).elim z ev, .bool (aGet k m).isSome]) := by
  rw [look_map h K hu hz]; rfl
theorem aSet_keys {x : ν} (h : (m.map Prod.fst).Nodup) : ((aSet k x m).map Prod.fst).Nodup := by
  cases hf : aFind (fun _ : ν => Value.int .i64 0) k m 0 with
  | none =>
    obtain ⟨_, h2, _, h4⟩ := aFind_none hf
    rw [h2, List.map_append, List.nodup_append]
    refine ⟨h, by simp, fun a ha b hb => ?_⟩
    simp at hb; subst hb; intro e; subst e; exact h4 ha
  | some y =>
    obtain ⟨j, val⟩ := y
    obtain ⟨b, _, h2, _, _, h5, _⟩ := aFind_some (i := 0) hf
    rw [h5, List.map_set]
    have : (m.map Prod.fst).set (j - 0) k = m.map Prod.fst := by
      apply List.ext_getElem?
      intro i
      rw [List.getElem?_set]
      split
      · rename_i hi; subst hi
        split
        · simp at h2; simp [h2]
        · rename_i hn; have := (List.getElem?_eq_some_iff.1 h2).1; simp at hn; omega
      · rfl
    rw [this]; exact h
theorem eMapSet_sat {K : Value → World → Prop} (h : Sat w0 (MapH ek ev v m :: L) w) (T : KeyT P kt ek) {t et : TypeId} (hu : P.underlying t = some (.map kt et)) (k : κ) (x : ν)
    (hK : ∀ w', Sat w0 (MapH ek ev v (aSet k x m) :: L) w' → K unit w') : eMapSet P t v (ek k) (ev x) w K := by
  obtain ⟨r, es, clock, ⟨rfl, hm⟩, hs⟩ := map_iff.1 h
  simp only [eMapSet, hu, hs.blk]
  refine ⟨⟨T.ck k, T.u⟩, ?_⟩
  rw [mFind_al T _ _ 0 hm.kv]
  have kd := aSet_keys (k := k) (x := x) hm.kd
  cases hf : aFind ev k m 0 with
  | none =>
    obtain ⟨_, h2, _, h4⟩ := aFind_none hf
    refine hK _ (map_iff.2 ⟨r, _, _, ⟨rfl, ?_, ?_, ?_, kd⟩, hs.set _⟩)
    · rw [h2]; simp [hm.kv]
    · simp only [Array.toList_push, List.map_append, List.nodup_append]
      refine ⟨hm.nd, by simp, fun a ha b hb => ?_⟩
      simp at hb; subst hb
      obtain ⟨e, he, rfl⟩ := List.mem_map.1 ha
      have := hm.lt e he; omega
    · intro e he
      simp only [Array.toList_push, List.mem_append, List.mem_singleton] at he
      rcases he with he | rfl
      · have := hm.lt e he; omega
      · simp
  | some y =>
    obtain ⟨j, val⟩ := y
    obtain ⟨b, _, h2, _, _, h5, _⟩ := aFind_some (i := 0) hf
    simp only [Nat.sub_zero] at h2 h5
    have hj : j < m.length := by
      rcases Nat.lt_or_ge j m.length with h | h
      · exact h
      · rw [List.getElem?_eq_none h] at h2; cases h2
    have hlen := congrArg List.length hm.kv
    simp at hlen
    have hje : j < es.size := by omega
    have hkey : es[j].key = ek k := by
      have := congrArg (fun l => l[j]?) hm.kv
      simp [hje, h2] at this
      exact this.1
    refine ⟨?_, hK _ (map_iff.2 ⟨r, _, _, ⟨rfl, ?_, ?_, ?_, kd⟩, hs.set _⟩)⟩
    · simp [hje, hkey, T.sb]
    · rw [h5, List.map_set]
      apply List.ext_getElem?
      intro i
      have := congrArg (fun l => l[i]?) hm.kv
      simp only [List.getElem?_map, Array.getElem?_toList, Array.getElem?_modify, List.getElem?_set] at this ⊢
      by_cases hi : j = i
      · subst hi; simp [hje, hj]
      · simp [hi]; simpa using this
    · have : (es.modify j fun e => { e with key := ek k, val := ev x }).toList.map (·.born) = es.toList.map (·.born) := by
        apply List.ext_getElem?
        intro i
        simp only [List.getElem?_map, Array.getElem?_toList, Array.getElem?_modify]
        split
        · cases es[i]? <;> simp
        · rfl
      rw [this]; exact hm.nd
    · intro e he
      obtain ⟨i, hi, rfl⟩ := List.getElem_of_mem he
      simp at hi
      simp only [Array.getElem_toList, Array.getElem_modify]
      have := hm.lt es[i] (by simp)
      split <;> exact this
theorem eDelete_sat {K : Value → World → Prop} (h : Sat w0 (MapH ek ev v m :: L) w) (T : KeyT P kt ek) {t et : TypeId} (hu : P.underlying t = some (.map kt et)) (k : κ)
    (hK : ∀ w', Sat w0 (MapH ek ev v (aDel k m) :: L) w' → K unit w') : eDelete P t v (ek k) w K := by
  obtain ⟨r, es, clock, ⟨rfl, hm⟩, hs⟩ := map_iff.1 h
  simp only [eDelete, hu, hs.blk]
  refine ⟨⟨T.ck k, T.u⟩, ?_⟩
  rw [mFind_al T _ _ 0 hm.kv]
  cases hf : aFind ev k m 0 with
  | none =>
    obtain ⟨_, _, h3, _⟩ := aFind_none hf
    refine hK _ (map_iff.2 ⟨r, _, _, ⟨rfl, ?_⟩, hs.set _⟩)
    rw [h3]; exact hm
  | some y =>
    obtain ⟨j, val⟩ := y
    obtain ⟨b, _, h2, _, _, _, h6⟩ := aFind_some (i := 0) hf
    simp only [Nat.sub_zero] at h2 h6
    have hj : j < m.length := by
      rcases Nat.lt_or_ge j m.length with h | h
      · exact h
      · rw [List.getElem?_eq_none h] at h2; cases h2
    have hlen := congrArg List.length hm.kv
    simp at hlen
    have e : (es.eraseIdxIfInBounds j).toList = es.toList.eraseIdx j := by
      rw [Array.toList_eraseIdxIfInBounds]
    have sub := List.eraseIdx_sublist es.toList j
    refine hK _ (map_iff.2 ⟨r, _, _, ⟨rfl, ?_, ?_, ?_, ?_⟩, hs.set _⟩)
    · rw [e, h6, map_eraseIdx', map_eraseIdx', hm.kv]
    · rw [e]; exact hm.nd.sublist (sub.map _)
    · rw [e]; exact fun x hx => hm.lt x (sub.subset hx)
    · rw [h6]; exact hm.kd.sublist ((List.eraseIdx_sublist m j).map _)
end
end
theorem KeyT.int {P : Program} {kt : TypeId} (h : P.underlying kt = some (.int .i64)) : KeyT P kt (fun n : Int => Value.int .i64 n) where
  u := by simp [h]
  ck := fun k => by simp [ckv, h]
  eq := fun a b => by simp [eqv, Op.maxDepth, h]; rw [Bool.eq_iff_iff]; simp
  sb := fun a => by simp [Instr.sameBits]
theorem KeyT.str {P : Program} {kt : TypeId} (h : P.underlying kt = some .string) : KeyT P kt (fun n : ByteArray => Value.string n) where
  u := by simp [h]
  ck := fun k => by simp [ckv, h]
  eq := fun a b => by simp [eqv, Op.maxDepth, h, sEq_eq]
  sb := fun a => by simp [Instr.sameBits]
end Go.Sx

/- Sz6 -/
namespace Go.Sx
structure Cod {α : Type} (f : α → List Value) (es : Nat) : Prop where
  len : ∀ x, (f x).length = es
  one : ∀ x, (f x).all (·.oneCell') = true
  pos : 0 < es
def LsH {α : Type} (f : α → List Value) (es : Nat) (ty : TypeId) (v : Value) (l : List α) : HP := SlH es ty v l.length (l.flatMap f)
def elP (es : Nat) (v : Value) (i : Int) : Value := (pIndexL es v (.int .i64 i)).getD undef
section
variable {α : Type} {f : α → List Value} {es : Nat} {ty : TypeId} {v : Value} {l : List α} {w0 w : World} {L : List HP}
theorem flat_len (C : Cod f es) (l : List α) : (l.flatMap f).length = l.length * es := by
  induction l with
  | nil => simp
  | cons x l ih => simp [ih, C.len, Nat.add_mul, Nat.add_comm]
theorem flat_one (C : Cod f es) (l : List α) : (l.flatMap f).all (·.oneCell') = true := by
  induction l with
  | nil => simp
  | cons x l ih => rw [List.flatMap_cons, List.all_append, C.one, ih]; rfl
theorem flat_take (C : Cod f es) : ∀ (l : List α) (i : Nat), (l.flatMap f).take (i * es) = (l.take i).flatMap f
  | [], i => by simp
  | x :: l, 0 => by simp
  | x :: l, i + 1 => by
    rw [List.flatMap_cons, Nat.add_mul, Nat.one_mul, Nat.add_comm, List.take_append_add_of_len (C.len x), flat_take C l i, List.take_succ_cons, List.flatMap_cons]
theorem flat_drop (C : Cod f es) : ∀ (l : List α) (i : Nat), (l.flatMap f).drop (i * es) = (l.drop i).flatMap f
  | [], i => by simp
  | x :: l, 0 => by simp
  | x :: l, i + 1 => by
    rw [List.flatMap_cons, Nat.add_mul, Nat.one_mul, Nat.add_comm, ← List.drop_drop, List.drop_left' (C.len x), flat_drop C l i, List.drop_succ_cons]
theorem flat_set (C : Cod f es) (l : List α) (i : Nat) (x : α) (hi : i < l.length) : (l.flatMap f).take (i * es) ++ f x ++ (l.flatMap f).drop (i * es + es) = (l.set i x).flatMap f := by
  rw [flat_take C, show i * es + es = (i + 1) * es by rw [Nat.add_mul]; omega, flat_drop C, List.set_eq_take_append_cons_drop, if_pos hi]
  simp
theorem ls_rd (h : Sat w0 (LsH f es ty v l :: L) w) : Rd w es v l.length (l.flatMap f) := Sat.rd h
theorem ls_one (h : Sat w0 (LsH f es ty v l :: L) w) : OneV v := (ls_rd h).one
theorem ls_len (h : Sat w0 (LsH f es ty v l :: L) w) : lenL v = some (.int .i64 l.length) := (ls_rd h).len
theorem rd_ix {n : Nat} {cs : List Value} (h : Rd w es v n cs) {i : Nat} (hi : i < n) : ∃ b o, pIndexL es v (.int .i64 i) = some (.pointer (some ⟨b, o, none⟩)) ∧ elP es v i = .pointer (some ⟨b, o, none⟩) := by
  cases h with
  | emp => omega
  | blk hb hn ha hc =>
    rename_i b o cap a ty fz
    have e : pIndexL es (.slice (some ⟨b, o, none⟩) n cap) (.int .i64 i) = some (.pointer (some ⟨b, o + i * es, none⟩)) := by
      simp only [pIndexL]; rw [if_pos ⟨by omega, by omega⟩]; simp
    exact ⟨b, o + i * es, e, by simp [elP, e]⟩
theorem ix_el {n : Nat} {cs : List Value} (h : Rd w es v n cs) {i : Nat} (hi : i < n) : pIndexL es v (.int .i64 i) = some (elP es v i) := by
  obtain ⟨b, o, h1, h2⟩ := rd_ix h hi
  rw [h1, h2]
theorem ls_ix (h : Sat w0 (LsH f es ty v l :: L) w) {i : Nat} (hi : i < l.length) : pIndexL es v (.int .i64 i) = some (elP es v i) := ix_el (ls_rd h) hi
theorem rd_ld (C : Cod f es) (h : Rd w es v l.length (l.flatMap f)) {i : Nat} (hi : i < l.length) : ldN es (elP es v i) w = some (.agg (f l[i]).toArray) := by
  obtain ⟨b, o, h1, h2, _⟩ := h.elem C.len rfl hi (j := .i64)
  have : elP es v i = .pointer (some ⟨b, o, none⟩) := by simp [elP, h1]
  rw [this, h2]
theorem ls_ld (C : Cod f es) (h : Sat w0 (LsH f es ty v l :: L) w) {i : Nat} (hi : i < l.length) : ldN es (elP es v i) w = some (.agg (f l[i]).toArray) := rd_ld C (ls_rd h) hi
theorem rd_ld1 {g : α → Value} (h : Rd w 1 v l.length (l.flatMap fun x => [g x])) {i : Nat} (hi : i < l.length) : ld1 (elP 1 v i) w = some (g l[i]) := by
  obtain ⟨b, o, h1, _, h3⟩ := h.elem (fun _ => rfl) rfl hi (j := .i64)
  have : elP 1 v i = .pointer (some ⟨b, o, none⟩) := by simp [elP, h1]
  rw [this]
  have := h3 0
  simpa using this
theorem rd_fld (C : Cod f es) (h : Rd w es v l.length (l.flatMap f)) {i k : Nat} (hi : i < l.length) (hk : k < es) : ∃ a, pFieldAddr k (elP es v i) = some (.pointer (some a)) ∧ w.cell? a = (f l[i])[k]? := by
  obtain ⟨b, o, h1, _, h3⟩ := h.elem C.len rfl hi (j := .i64)
  have : elP es v i = .pointer (some ⟨b, o, none⟩) := by simp [elP, h1]
  rw [this]
  refine ⟨⟨b, o + k, none⟩, rfl, ?_⟩
  rcases h3 k with h | h
  · exact h
  · omega
theorem ls_st (C : Cod f es) (h : Sat w0 (LsH f es ty v l :: L) w) {i : Nat} (hi : i < l.length) (x : α) {y : Value} (hy : y.cells = (f x).toArray) {k : World → Prop} (hk : ∀ w', Sat w0 (LsH f es ty v (l.set i x) :: L) w' → k w') :
    bindW (st es (elP es v i) y w) k := by
  obtain ⟨fp, hO, kk⟩ := Sat.own h
  generalize hcs : l.flatMap f = cs at hO kk
  generalize hn' : l.length = n at hO kk
  cases hO with
  | nil => omega
  | blk hb hn ha hc =>
    rename_i b q cap a
    have e : elP es (.slice (some ⟨b, q, none⟩) n cap) i = .pointer (some ⟨b, q + i * es, none⟩) := by
      simp only [elP, pIndexL]; rw [if_pos ⟨by omega, by omega⟩]; simp
    have h1 : i * es + es ≤ n * es := by
      have := Nat.mul_le_mul_right es (show i + 1 ≤ n by omega)
      rw [Nat.add_mul] at this; omega
    have h2 := Nat.mul_le_mul_right es hn
    have hlx : (f x).length = es := C.len x
    rw [e, st_cells hb (by rw [hy]; simpa using hlx) (by rw [hy]; exact C.one x) (by omega)]
    refine hk _ ?_
    unfold LsH
    rw [List.length_set, hn']
    refine kk _ [b] _ _ _ _ _ (.blk (setBlk_same hb) hn ?_ ?_) (.set _ _ (by simp))
    · have : ∀ (vs : List Value) (c : Array Value) (o : Nat), (wr c o vs).size = c.size := by
        intro vs; induction vs with
        | nil => intro c o; rfl
        | cons v vs ih => intro c o; simp [wr, ih]
      rw [this]; exact ha
    · rw [hy, wr_toList _ _ _ (by simp [hlx]; omega), ← flat_set C l i x (by omega), hcs, hc]
      have e1 : List.take (q + i * es) a.toList = List.take q a.toList ++ List.take (i * es) (List.drop q a.toList) := by rw [List.take_add]
      have e2 : (List.take q a.toList).length = q := by simp; omega
      rw [e1]
      simp only [List.append_assoc]
      rw [List.drop_left' e2, List.take_take, Nat.min_eq_left (by omega)]
      rw [show n * es = i * es + (es + (n * es - i * es - es)) by omega, List.take_append_add_of_len (by simp; omega), List.take_append_add_of_len hlx]
      congr 2
      rw [List.drop_take, List.drop_drop]
      congr 1
      · omega
      · congr 1; simp [hlx]; omega
theorem ls_nil (h : Sat w0 L w) : Sat w0 (LsH f es ty (.slice none 0 0) [] :: L) w := h.nilsl
theorem ls_app {P : Program} {t xt : TypeId} {bytes : Nat} {s x : Value} {m : List α} {K : Value → World → Prop} (C : Cod f es) (h : Sat w0 (LsH f es ty s l :: L) w) (T : SlT P t ty es bytes) (hxt : isSS P xt = true)
    (hR : Rd w es x m.length (m.flatMap f)) (hb : (l.length + m.length) * bytes ≤ 140737488355328) (hK : ∀ s' w', Sat w0 (LsH f es ty s' (l ++ m) :: L) w' → K s' w') : eAppend P t xt s x w K := by
  refine eAppend_sat h T hxt hR (flat_one C m) hb fun s' w' h' => hK s' w' ?_
  unfold LsH
  rw [List.length_append, List.flatMap_append]; exact h'
theorem ls_lit {P : Program} {t : TypeId} {m : List α} {parts : List (Nat × Value)} {K : Value → World → Prop} {c : Array Value} (C : Cod f es) (h : Sat w0 L w) (hu : P.underlying t = some (.slice ty)) (hc : fBuildSl P ty m.length parts = some c) (hm : c.toList = m.flatMap f)
    (hK : ∀ s w', Sat w0 (LsH f es ty s m :: L) w' → K s w') : eBuildSl P t m.length parts w K := by
  refine eBuildSl_sat (es := es) h hu hc ?_ fun s w' h' => hK s w' ?_
  · have := congrArg List.length hm
    rw [flat_len C] at this; simpa using this
  · unfold LsH; rw [← hm]; exact h'
theorem ls_sub {lo hi : Nat} {A H M : Option Value} (C : Cod f es) (h : Sat w0 (LsH f es ty v l :: L) w) (hL : Bd 0 A lo) (hH : Bd l.length H hi) (hM : BdM hi l.length H M) (h1 : lo ≤ hi) (h2 : hi ≤ l.length) :
    ∃ v', pSliceL es v A H M = some v' ∧ Sat w0 (LsH f es ty v' ((l.take hi).drop lo) :: L) w := by
  obtain ⟨fp, hO, k⟩ := Sat.own h
  obtain ⟨v', e, hO'⟩ := hO.sub hL hH hM h1 h2
  refine ⟨v', e, ?_⟩
  have := k _ _ _ _ _ _ _ hO' (.refl _ _)
  unfold LsH
  rw [flat_take C, flat_drop C] at this
  have e : ((l.take hi).drop lo).length = hi - lo := by simp; omega
  rw [e]; exact this
theorem rd_sub {lo hi : Nat} {A H M : Option Value} {v' : Value} (C : Cod f es) (h : Rd w es v l.length (l.flatMap f)) (hs : pSliceL es v A H M = some v') (hL : Bd 0 A lo) (hH : Bd l.length H hi) (hM : BdM hi l.length H M) (h1 : lo ≤ hi) (h2 : hi ≤ l.length) :
    Rd w es v' ((l.take hi).drop lo).length (((l.take hi).drop lo).flatMap f) := by
  have := h.sub' hs hL hH hM h1 h2
  rw [flat_take C, flat_drop C] at this
  have e : ((l.take hi).drop lo).length = hi - lo := by simp; omega
  rw [e]; exact this
end
def cI (n : Int) : List Value := [.int .i64 n]
theorem CI : Cod cI 1 := ⟨fun _ => rfl, fun _ => rfl, by omega⟩
end Go.Sx

/- Sz7 -/
namespace Go.Sx
section
variable {α : Type}
structure PermOn (a b : Nat) (l l' : List α) : Prop where
  perm : l'.Perm l
  out : ∀ i, (i < a ∨ b ≤ i) → l'[i]? = l[i]?
theorem PermOn.refl (a b : Nat) (l : List α) : PermOn a b l l := ⟨.refl _, fun _ _ => rfl⟩
theorem PermOn.trans {a b : Nat} {l m n : List α} (h : PermOn a b l m) (h' : PermOn a b m n) : PermOn a b l n := ⟨h'.perm.trans h.perm, fun i hi => (h'.out i hi).trans (h.out i hi)⟩
theorem PermOn.wide {a b a' b' : Nat} {l m : List α} (h : PermOn a b l m) (ha : a' ≤ a) (hb : b ≤ b') : PermOn a' b' l m := ⟨h.perm, fun i hi => h.out i (by omega)⟩
theorem PermOn.len {a b : Nat} {l m : List α} (h : PermOn a b l m) : m.length = l.length := h.perm.length_eq
theorem take_eq_of {l m : List α} {a : Nat} (h : ∀ i, i < a → m[i]? = l[i]?) : m.take a = l.take a := by
  apply List.ext_getElem?
  intro i
  simp only [List.getElem?_take]
  split
  · exact h i ‹_›
  · rfl
theorem drop_eq_of {l m : List α} {a : Nat} (h : ∀ i, a ≤ i → m[i]? = l[i]?) : m.drop a = l.drop a := by
  apply List.ext_getElem?
  intro i
  simp only [List.getElem?_drop]
  exact h _ (by omega)
theorem PermOn.mid {a b : Nat} {l m : List α} (h : PermOn a b l m) (hab : a ≤ b) : ((m.take b).drop a).Perm ((l.take b).drop a) := by
  have e : ∀ x : List α, x = x.take a ++ ((x.take b).drop a ++ x.drop b) := fun x => by
    have : x.take a = (x.take b).take a := by rw [List.take_take, Nat.min_eq_left hab]
    rw [this, ← List.append_assoc, List.take_append_drop, List.take_append_drop]
  have hp := h.perm
  rw [e m, e l, take_eq_of fun i hi => h.out i (.inl hi), drop_eq_of fun i hi => h.out i (.inr hi)] at hp
  have := (List.perm_append_left_iff _).1 hp
  exact (List.perm_append_right_iff _).1 this
theorem PermOn.all {a b : Nat} {l m : List α} (h : PermOn a b l m) {p : α → Prop} (hp : ∀ i x, a ≤ i → i < b → l[i]? = some x → p x) : ∀ i x, a ≤ i → i < b → m[i]? = some x → p x := by
  intro i x ha hb hx
  have hm : x ∈ (m.take b).drop a := by
    apply List.mem_of_getElem? (i := i - a)
    rw [List.getElem?_drop, List.getElem?_take_of_lt (by omega), show a + (i - a) = i by omega, hx]
  have := (h.mid (by omega)).subset hm
  obtain ⟨j, hj⟩ := List.getElem?_of_mem this
  have hj' := hj
  rw [List.getElem?_drop, List.getElem?_take] at hj
  split at hj
  · exact hp (a + j) x (by omega) ‹_› hj
  · cases hj
def swapL (l : List α) (i j : Nat) : List α := match l[i]?, l[j]? with | some x, some y => (l.set i y).set j x | _, _ => l
theorem swapL_eq {l : List α} {i j : Nat} (hi : i < l.length) (hj : j < l.length) : swapL l i j = (l.set i l[j]).set j l[i] := by simp [swapL, hi, hj]
theorem swapL_get {l : List α} {i j : Nat} (hi : i < l.length) (hj : j < l.length) (k : Nat) : (swapL l i j)[k]? = if k = j then some l[i] else if k = i then some l[j] else l[k]? := by
  rw [swapL_eq hi hj]
  simp only [List.getElem?_set, List.length_set]
  by_cases h1 : j = k
  · subst h1; simp [hj]
  · by_cases h2 : i = k
    · subst h2; simp [h1, hi, Ne.symm h1]
    · simp [h1, h2, Ne.symm h1, Ne.symm h2]
theorem swapL_perm {l : List α} {i j : Nat} (hi : i < l.length) (hj : j < l.length) : (swapL l i j).Perm l := by
  have h := Array.swap_perm (xs := l.toArray) (i := i) (j := j) (by simpa using hi) (by simpa using hj)
  have e : (l.toArray.swap i j (by simpa using hi) (by simpa using hj)).toList = swapL l i j := by
    rw [swapL_eq hi hj]; simp [Array.swap]
  have := h.toList
  rw [e] at this
  exact this
theorem PermOn.swap {a b i j : Nat} {l : List α} (hi : a ≤ i ∧ i < b) (hj : a ≤ j ∧ j < b) (hb : b ≤ l.length) : PermOn a b l (swapL l i j) :=
  ⟨swapL_perm (by omega) (by omega), fun k hk => by
    rw [swapL_get (by omega) (by omega)]
    rw [if_neg (by omega), if_neg (by omega)]⟩
structure SWO (lt : α → α → Bool) : Prop where
  asym : ∀ a b, lt a b = true → lt b a = false
  tr : ∀ a b c, lt b a = false → lt c b = false → lt c a = false
variable {lt : α → α → Bool}
theorem SWO.irr (S : SWO lt) (a : α) : lt a a = false := by
  cases h : lt a a with
  | false => rfl
  | true => have := S.asym a a h; rw [this] at h; cases h
def SortOn (lt : α → α → Bool) (a b : Nat) (l : List α) : Prop := ∀ i j x y, a ≤ i → i < j → j < b → l[i]? = some x → l[j]? = some y → lt y x = false
theorem SortOn.of_eq {a b : Nat} {l m : List α} (h : SortOn lt a b l) (e : ∀ i, a ≤ i → i < b → m[i]? = l[i]?) : SortOn lt a b m :=
  fun i j x y h1 h2 h3 hx hy => h i j x y h1 h2 h3 (by rw [← e i h1 (by omega)]; exact hx) (by rw [← e j (by omega) h3]; exact hy)
theorem SortOn.step (S : SWO lt) {a b : Nat} {l : List α} (h : ∀ i x y, a ≤ i → i + 1 < b → l[i]? = some x → l[i + 1]? = some y → lt y x = false) : SortOn lt a b l := by
  intro i j x y h1 h2 h3 hx hy
  induction j generalizing y with
  | zero => omega
  | succ j ih =>
    by_cases e : i = j
    · subst e; exact h i x y h1 h3 hx hy
    · have hj : j < l.length := by have := (List.getElem?_eq_some_iff.1 hy).1; omega
      have hz : l[j]? = some l[j] := List.getElem?_eq_getElem hj
      exact S.tr _ _ _ (ih l[j] (by omega) (by omega) hz) (h j l[j] y (by omega) h3 hz hy)
theorem sorted_unique (ht : ∀ a b, lt a b = false → lt b a = false → a = b) {l m : List α} (hp : l.Perm m) (hl : l.Pairwise fun x y => lt y x = false) (hm : m.Pairwise fun x y => lt y x = false) : l = m :=
  hp.eq_of_pairwise (fun a b _ _ h1 h2 => ht a b h2 h1) hl hm
end
end Go.Sx

/- Sz8 -/
namespace Go.Sx
def gClone : FnT := fun args w K => match args with
  | [.iface t (.map (some r))] => match w.heap[r]? with
    | some (.map es clock) => K (.iface t (.map (some w.heap.size))) (w.alloc (.map es clock))
    | _ => False
  | _ => False
theorem okClone {P : Program} {i : Nat} {fn : Func} (hf : P.funcs[i]? = some fn) (hname : (fn.name == "runtime.NumGoroutine") = false) (hb : fn.body.isNone = true) (hn : Extern.findNext fn = none) (he : Extern.find fn = some Extern.MapsClone.clone) : OkF P i gClone := by
  intro args w K h
  unfold gClone at h
  split at h
  · rename_i t r
    split at h
    · rename_i es clock hb'
      refine .inr ⟨_, _, ?_, h⟩
      rw [run_callFunc_extern hf hname hb hn he]
      have e : Extern.MapsClone.clone [Value.iface t (.map (some r))].toArray = (getObj r >>= fun o => match o with
        | .map entries clock => (newObj (.map entries clock) >>= fun n => pure (.iface t (.map (some n))))
        | _ => stuck "maps.clone: a map expected") := rfl
      rw [e]
      have g : (getObj r).run P w = .ok (.map es clock) w := by simp [getObj, Sem.run, hb']
      simp only [Sem.run_bind, g, Result.andThen_ok]
      rfl
    · exact h.elim
  · exact h.elim
section
variable {κ ν : Type} {ek : κ → Value} {ev : ν → Value} {m : List (κ × ν)} {w0 w : World} {L : List HP} {v : Value}
theorem gClone_sat {K : Value → World → Prop} {t : TypeId} (h : Sat w0 (MapH ek ev v m :: L) w) (hK : ∀ v' w', Sat w0 (MapH ek ev v' m :: MapH ek ev v m :: L) w' → K (.iface t v') w') : callP gClone [.iface t v] w K := by
  obtain ⟨r, es, clock, ⟨rfl, hm⟩, hs⟩ := map_iff.1 h
  refine callP_intro ?_
  simp only [gClone, hs.blk]
  refine hK _ _ (map_iff.2 ⟨_, es, clock, ⟨rfl, hm⟩, ?_⟩)
  exact (Sat.alloc h _)
end
def HS : List HP → HP
  | [] => HEm
  | P :: l => HSt P (HS l)
theorem Sat.hs_iff {w0 w : World} {L : List HP} : ∀ {l : List HP}, Sat w0 (HS l :: L) w ↔ Sat w0 (l ++ L) w := by
  intro l
  have key : ∀ (l : List HP) (L : List HP) (h : Hp), SepL (HS l :: L) h ↔ SepL (l ++ L) h := by
    intro l
    induction l with
    | nil =>
      intro L h
      constructor
      · rintro ⟨a, b, hd, rfl, _, hL⟩
        have : ∀ (M : List HP) (b h : Hp), (∀ i o, b i = some o → h i = some o) → SepL M b → SepL M h := by
          intro M
          induction M with
          | nil => intro _ _ _ _; trivial
          | cons Q M ih =>
            rintro b h hb ⟨x, y, hxy, rfl, hQ, hM⟩
            refine ⟨x, fun i => match x i with | some _ => none | none => h i, ?_, ?_, hQ, ih y _ ?_ hM⟩
            · intro i o hx; simp [hx]
            · funext i; unfold hOr
              cases hx : x i with
              | none => simp [hx]
              | some o => simp; exact hb i o (hOr_l hx)
            · intro i o hy
              have hx : x i = none := hxy.symm i o hy
              simp [hx]
              exact hb i o (hOr_r hxy hy)
        exact this L b _ (fun i o hb => hOr_r hd hb) hL
      · intro h1
        exact ⟨fun _ => none, h, (fun _ _ h => by cases h), rfl, trivial, h1⟩
    | cons P l ih =>
      intro L h
      show SepL (HSt P (HS l) :: L) h ↔ _
      rw [SepL.star]
      constructor
      · exact fun h1 => h1.tail fun _ h2 => (ih L _).1 h2
      · exact fun h1 => SepL.tail (fun _ h2 => (ih L _).2 h2) h1
  exact ⟨fun h => h.conv fun _ => (key l L _).1, fun h => h.conv fun _ => (key l L _).2⟩
section
variable {P : Program} {t : TypeId} {x y : Operand}
theorem bEq_nilm {k e : TypeId} (h : P.underlying t = some (.map k e)) (a : Option Nat) : bEq P t x y (.map a) (.map none) = some (.bool a.isNone) := by
  cases a <;> simp [bEq, bEqv, eqPlain, eqv, Op.maxDepth, h]
theorem bEq_nils {e : TypeId} (h : P.underlying t = some (.slice e)) (a : Option Addr) (n c : Nat) : bEq P t x y (.slice a n c) (.slice none 0 0) = some (.bool a.isNone) := by
  cases a <;> simp [bEq, bEqv, eqPlain, eqv, Op.maxDepth, h]
theorem fMkI_of {d : TypeDesc} (h : P.underlying t = some d) (hd : ∀ m, d ≠ .interface m) (v : Value) : fMkI P t v = some (.iface t v) := by
  unfold fMkI; rw [h]; cases d <;> first | (exact absurd rfl (hd _)) | rfl
theorem fAssert_of {d : TypeDesc} (h : P.underlying t = some d) (hd : ∀ m, d ≠ .interface m) (v : Value) : fAssert P (.iface t v) t false = some v := by
  unfold fAssert; rw [h]; cases d <;> first | (exact absurd rfl (hd _)) | simp
end
end Go.Sx

/- Sz9 -/
namespace Go.Sx
def bs (l : List UInt8) : ByteArray := ⟨l.toArray⟩
theorem mk_bs (l : List UInt8) : ByteArray.mk l.toArray = bs l := by unfold bs; rfl
theorem bs_of (s : ByteArray) : s = bs s.data.toList := by cases s; simp [bs]
@[simp] theorem bs_size (l : List UInt8) : (bs l).size = l.length := by simp [bs, ByteArray.size]
@[simp] theorem bs_data (l : List UInt8) : (bs l).data.toList = l := by simp [bs]
@[simp] theorem bs_append (a b : List UInt8) : bs a ++ bs b = bs (a ++ b) := by
  apply ByteArray.ext; simp [bs, ByteArray.data_append]
@[simp] theorem bs_inj {a b : List UInt8} : bs a = bs b ↔ a = b := by simp [bs]
@[simp] theorem bs_extract (l : List UInt8) (i j : Nat) : (bs l).extract i j = bs ((l.take j).drop i) := by
  apply ByteArray.ext
  rw [ByteArray.data_extract]
  simp only [bs, List.extract_toArray, List.extract_eq_take_drop]
  rw [List.drop_take]
@[simp] theorem bs_get (l : List UInt8) (i : Nat) : (bs l)[i]? = l[i]? := by
  by_cases h : i < l.length
  · rw [List.getElem?_eq_getElem h, getElem?_pos (bs l) i (by simpa using h)]
    simp [bs, ByteArray.getElem_eq_getElem_data]
  · rw [List.getElem?_eq_none (by omega), getElem?_neg (bs l) i (by simpa using h)]
theorem ix_txt {l : List UInt8} {i : Nat} {j : IntKind} (h : i < l.length) : pIndexS (.string (bs l)) (.int j i) = some (.int .u8 l[i].toNat) := by
  simp [pIndexS, h]
  rfl
theorem sub_from {l : List UInt8} {i : Nat} {j : IntKind} (h : i ≤ l.length) : pSliceS (.string (bs l)) (some (.int j i)) none = some (.string (bs (l.drop i))) := by
  simp [pSliceS, hiB, bnd, h]
theorem sub_to {l : List UInt8} {i : Nat} {j : IntKind} (h : i ≤ l.length) : pSliceS (.string (bs l)) none (some (.int j i)) = some (.string (bs (l.take i))) := by
  simp [pSliceS, hiB, bnd]
  rw [if_pos (by omega)]
def cellsB (l : List UInt8) : List Value := l.map fun b => .int .u8 b.toNat
@[simp] theorem cellsB_len (l : List UInt8) : (cellsB l).length = l.length := by simp [cellsB]
@[simp] theorem bytesOf_cells : ∀ l : List UInt8, bytesOf (cellsB l) = some l
  | [] => rfl
  | b :: l => by
    show bytesOf (.int .u8 b.toNat :: cellsB l) = _
    simp [bytesOf, bytesOf_cells l]
theorem cBytes_rd {w : World} {v : Value} {n : Nat} {l : List UInt8} (h : Rd w 1 v n (cellsB l)) (h0 : 0 < n) : cBytes v w = some (.string (bs l)) := by
  have hl := h.length
  generalize hc : cellsB l = cs at h hl
  cases h with
  | emp => omega
  | blk hb hn ha hcs =>
    rename_i b o cap a ty fz
    subst hcs
    simp only [cBytes, hb]
    rw [if_pos (by omega)]
    have : (a.extract o (o + n)).toList = (a.toList.drop o).take (n * 1) := by simp [List.take_drop]
    rw [this, ← hc, bytesOf_cells]
    rfl
section
variable {w0 w : World} {L : List HP}
end
theorem bShr_nat {n k : Nat} {j j' : IntKind} (h : k ≤ j.bits) : bShr (.int j n) (.int j' k) = some (.int j ((n / 2 ^ k : Nat))) := by
  simp only [bShr]
  rw [if_neg (by omega)]
  simp only [Int.toNat_natCast, Nat.min_eq_left h]
  congr 2
  rw [Int.fdiv_eq_ediv_of_nonneg _ (by exact_mod_cast Nat.zero_le _)]
  exact_mod_cast rfl
theorem wrap_u8 (n : Nat) : IntKind.u8.wrap n = (n % 256 : Nat) := by
  have e : IntKind.u8.wrap n = (n : Int) % 256 := by rfl
  rw [e]; omega
theorem bOr_i64 {a b : Nat} (ha : a < 9223372036854775808) (hb : b < 9223372036854775808) : bBit .or (.int .i64 a) (.int .i64 b) = some (.int .i64 ((a ||| b : Nat))) := by
  have h : a ||| b < 2 ^ 63 := Nat.or_lt_two_pow (by omega) (by omega)
  have e : (2 : Nat) ^ IntKind.i64.bits = 18446744073709551616 := by decide
  simp only [bBit, bBits, if_true, Option.map_some]
  congr 2
  rw [BitVec.toNat_or]
  simp only [BitVec.ofInt_natCast, BitVec.toNat_ofNat, e]
  rw [Nat.mod_eq_of_lt (show a < _ by omega), Nat.mod_eq_of_lt (show b < _ by omega)]
  exact wrap_id ⟨by omega, by omega⟩
theorem or_add {a b i : Nat} (h : b < 2 ^ i) : (a * 2 ^ i) ||| b = a * 2 ^ i + b := by
  rw [Nat.mul_comm, Nat.two_pow_add_eq_or_of_lt h]
end Go.Sx

/- Sz10 -/
namespace Go.Sx
open Go.ChangeShapes Go.WideShapes Go.RowKit
section
variable {H : Type} {enc : TypeId × Value → H} {P : Program} {w : World} {base : Nat} {held : Bool}
end
theorem str_bs {s : ByteArray} : ∃ l : List UInt8, s = bs l ∧ l.length = s.size := ⟨s.data.toList, bs_of s, by rw [Array.length_toList]; rfl⟩
theorem on0_mk {p : Prop} (h : p) : on0 p [] := h
theorem on1_mk {p : Value → Prop} {a : Value} (h : p a) : on1 p [a] := h
theorem on2_mk {p : Value → Value → Prop} {a b : Value} (h : p a b) : on2 p [a, b] := h
theorem on3_mk {p : Value → Value → Value → Prop} {a b c : Value} (h : p a b c) : on3 p [a, b, c] := h
theorem on4_mk {p : Value → Value → Value → Value → Prop} {a b c d : Value} (h : p a b c d) : on4 p [a, b, c, d] := h
end Go.Sx

/- Sz11 -/
namespace Go.Sx
inductive Rep (A B : HP) : List HP → List HP → Prop
  | here {L : List HP} : Rep A B (A :: L) (B :: L)
  | there {X : HP} {L L' : List HP} : Rep A B L L' → Rep A B (X :: L) (X :: L')
inductive Fnt (A : HP) : List HP → List HP → Prop
  | here {L : List HP} : Fnt A (A :: L) L
  | there {X : HP} {L M : List HP} : Fnt A L M → Fnt A (X :: L) (X :: M)
inductive Get : List HP → List HP → Prop
  | done {L : List HP} : Get L L
  | skip {X : HP} {L L' : List HP} : Get L L' → Get (X :: L) L'
  | pick {A : HP} {L M L' : List HP} : Fnt A L M → Get M L' → Get L (A :: L')
theorem Fnt.perm {A : HP} {L M : List HP} (f : Fnt A L M) : L.Perm (A :: M) := by
  induction f with
  | here => exact .refl _
  | there _ ih => exact (ih.cons _).trans (.swap _ _ _)
theorem Rep.split {A B : HP} {L L' : List HP} (r : Rep A B L L') : ∃ M, L.Perm (A :: M) ∧ (B :: M).Perm L' := by
  induction r with
  | here => exact ⟨_, .refl _, .refl _⟩
  | there _ ih => obtain ⟨M, h1, h2⟩ := ih; exact ⟨_ :: M, (h1.cons _).trans (.swap _ _ _), (List.Perm.swap _ _ _).trans (h2.cons _)⟩
class Nth (l : List Value) (i : Nat) (v : outParam Value) : Prop where
  get : l[i]? = some v
instance {a : Value} {l : List Value} : Nth (a :: l) 0 a := ⟨rfl⟩
instance {a b : Value} {l : List Value} {n : Nat} [h : Nth l n a] : Nth (b :: l) (n + 1) a := ⟨by simpa using h.get⟩
class Upd (l : List Value) (i : Nat) (y : Value) (l' : outParam (List Value)) : Prop where
  lt : i < l.length
  eq : l.set i y = l'
instance {a y : Value} {l : List Value} : Upd (a :: l) 0 y (y :: l) := ⟨by simp, rfl⟩
instance {y b : Value} {l l' : List Value} {n : Nat} [h : Upd l n y l'] : Upd (b :: l) (n + 1) y (b :: l') := ⟨by simpa using h.lt, by simp [h.eq]⟩
class Part (l : List Value) (o n : Nat) (l' : outParam (List Value)) : Prop where
  le : o + n ≤ l.length
  eq : (l.drop o).take n = l'
instance {l : List Value} : Part l 0 0 [] := ⟨by simp, by simp⟩
instance {a : Value} {l l' : List Value} {n : Nat} [h : Part l 0 n l'] : Part (a :: l) 0 (n + 1) (a :: l') := ⟨by have := h.le; simp; omega, by simpa using h.eq⟩
instance {a : Value} {l l' : List Value} {o n : Nat} [h : Part l o n l'] : Part (a :: l) (o + 1) n l' := ⟨by have := h.le; simp; omega, by simpa using h.eq⟩
theorem Part.all (l : List Value) : Part l 0 l.length l := ⟨by simp, by simp⟩
class Ups (l : List Value) (o : Nat) (ys : List Value) (l' : outParam (List Value)) : Prop where
  le : o + ys.length ≤ l.length
  eq : l.take o ++ (ys ++ l.drop (o + ys.length)) = l'
instance {l : List Value} : Ups l 0 [] l := ⟨by simp, by simp⟩
instance {a y : Value} {l ys l' : List Value} [h : Ups l 0 ys l'] : Ups (a :: l) 0 (y :: ys) (y :: l') := ⟨by have := h.le; simp at *; omega, by simpa using h.eq⟩
instance {a : Value} {l ys l' : List Value} {o : Nat} [h : Ups l o ys l'] : Ups (a :: l) (o + 1) ys (a :: l') := ⟨by have := h.le; simp; omega, by rw [Nat.add_right_comm]; simpa using h.eq⟩
theorem Ups.all {l ys : List Value} (h : l.length = ys.length) : Ups l 0 ys ys := ⟨by omega, by simp; omega⟩
class CellIn (p : Nat) (l : outParam (List Value)) (ty : outParam TypeId) (L : List HP) : Prop where
  mem : Cl p l.toArray ty ∈ L
instance {p : Nat} {l : List Value} {ty : TypeId} {L : List HP} : CellIn p l ty (Cl p l.toArray ty :: L) := ⟨.head _⟩
instance (priority := low) {p : Nat} {l : List Value} {ty : TypeId} {X : HP} {L : List HP} [h : CellIn p l ty L] : CellIn p l ty (X :: L) := ⟨.tail _ h.mem⟩
class Rp (p : Nat) (l' : List Value) (l : outParam (List Value)) (ty : outParam TypeId) (L : List HP) (L' : outParam (List HP)) : Prop where
  rep : Rep (Cl p l.toArray ty) (Cl p l'.toArray ty) L L'
instance {p : Nat} {l l' : List Value} {ty : TypeId} {L : List HP} : Rp p l' l ty (Cl p l.toArray ty :: L) (Cl p l'.toArray ty :: L) := ⟨.here⟩
instance (priority := low) {p : Nat} {l l' : List Value} {ty : TypeId} {X : HP} {L L' : List HP} [h : Rp p l' l ty L L'] : Rp p l' l ty (X :: L) (X :: L') := ⟨.there h.rep⟩
class LsIn (v : Value) (L : List HP) (α : outParam Type) (f : outParam (α → List Value)) (es : outParam Nat) (ty : outParam TypeId) (l : outParam (List α)) : Prop where
  fnt : ∃ M, Fnt (LsH f es ty v l) L M
instance {v : Value} {L : List HP} {α : Type} {f : α → List Value} {es : Nat} {ty : TypeId} {l : List α} : LsIn v (LsH f es ty v l :: L) α f es ty l := ⟨_, .here⟩
instance (priority := low) {v : Value} {X : HP} {L : List HP} {α : Type} {f : α → List Value} {es : Nat} {ty : TypeId} {l : List α} [h : LsIn v L α f es ty l] : LsIn v (X :: L) α f es ty l := ⟨h.fnt.elim fun M h => ⟨X :: M, .there h⟩⟩
class CodC {α : Type} (f : α → List Value) (es : outParam Nat) : Prop where
  cod : Cod f es
class SameC (w w' : World) : Prop where
  same : Same w w'
instance {w : World} : SameC w w := ⟨.refl _⟩
instance {w w' : World} [h : SameC w w'] : SameC w w'.drew := ⟨h.same.trans (.drew _)⟩
def elF (es : Nat) (v : Value) (i : Int) (k : Nat) : Value := (pFieldAddr k (elP es v i)).getD undef
section
variable {w0 w : World} {L L' M : List HP} {A B : HP} {k : Value → Prop} {K : Value → World → Prop}
theorem Sat.front (h : Sat w0 L w) (f : Fnt A L M) : Sat w0 (A :: M) w := h.perm f.perm
theorem Sat.get (h : Sat w0 L w) (g : Get L L') : Sat w0 L' w := by
  obtain ⟨hf, hh, h1, h2⟩ := h
  have key : ∀ {L L' : List HP}, Get L L' → ∀ {a : Hp}, SepL L a → ∃ b, SepL L' b ∧ ∀ i o, b i = some o → a i = some o := by
    intro L L' g
    induction g with
    | done => exact fun h => ⟨_, h, fun _ _ h => h⟩
    | skip _ ih =>
      intro a h
      obtain ⟨b, hb, h3⟩ := h.drop
      obtain ⟨c, hc, h4⟩ := ih hb
      exact ⟨c, hc, fun i o h => h3 i o (h4 i o h)⟩
    | pick f _ ih =>
      intro a h
      obtain ⟨x, y, hd, rfl, hP, hL⟩ := h.perm f.perm
      obtain ⟨c, hc, h4⟩ := ih hL
      refine ⟨hOr x c, ⟨x, c, fun i o hx => ?_, rfl, hP, hc⟩, fun i o h => ?_⟩
      · cases hci : c i with
        | none => rfl
        | some z => have h6 := h4 i z hci; rw [hd i o hx] at h6; cases h6
      · unfold hOr at h
        cases hx : x i with
        | some z => rw [hx] at h; simp at h; subst h; exact hOr_l hx
        | none => rw [hx] at h; simp at h; exact hOr_r hd (h4 i o h)
  obtain ⟨b, hb, h3⟩ := key g h1
  exact ⟨hf, b, hb, fun i o h => h2 i o (h3 i o h)⟩
theorem Sat.mem {b : Nat} {o : Obj} (h : Sat w0 L w) (hm : Blk b o ∈ L) : w.heap[b]? = some o := by
  obtain ⟨X, Y, rfl⟩ := List.append_of_mem hm
  exact (h.perm List.perm_middle).blk
theorem Sat.memc {b : Nat} {c : Array Value} {ty : TypeId} (h : Sat w0 L w) (hm : Cl b c ty ∈ L) : w.heap[b]? = some (.cells c ty (0, 0)) := h.mem hm
theorem Sat.rep {w' : World} (h : Sat w0 L w) (r : Rep A B L L') (f : ∀ M, Sat w0 (A :: M) w → Sat w0 (B :: M) w') : Sat w0 L' w' := by
  obtain ⟨M, h1, h2⟩ := r.split
  exact (f M (h.perm h1)).perm h2
theorem go_cell {p i : Nat} {c : Array Value} {ty : TypeId} {v : Value} (h : Sat w0 L w) (hm : Cl p c ty ∈ L) (hc : c[i]? = some v) : w.cell? ⟨p, i, none⟩ = some v := by
  rw [cell_of (h.memc hm), hc]
theorem ld1_cells {p i : Nat} {l : List Value} {ty : TypeId} {v : Value} {w1 : World} (h : Sat w0 L w) [e : SameC w w1] [hm : CellIn p l ty L] [hc : Nth l i v] : ld1 (.pointer (some ⟨p, i, none⟩)) w1 = some v := by
  rw [ld1_ptr]; exact go_cell (h.to e.same) hm.mem (by rw [List.getElem?_toArray]; exact hc.get)
theorem ld_part {p o n : Nat} {l l' : List Value} {ty : TypeId} {w1 : World} (h : Sat w0 L w) (e : Same w w1) (hm : Cl p l.toArray ty ∈ L) (hc : Part l o n l') : ldN n (.pointer (some ⟨p, o, none⟩)) w1 = some (.agg l'.toArray) := by
  rw [ldN_of ((h.to e).memc hm) (by simpa using hc.le)]
  congr 2
  apply Array.ext'
  rw [Array.toList_extract, List.extract_eq_take_drop]
  simpa using hc.eq
theorem go_some {o : Option Value} {v : Value} (h : o = some v) (hk : k v) : bindP o k := by rw [h, bindP_some]; exact hk
theorem go_ld1 {p i : Nat} {l : List Value} {ty : TypeId} {v : Value} {w1 : World} (h : Sat w0 L w) [SameC w w1] [CellIn p l ty L] [Nth l i v] (hk : k v) : bindP (ld1 (.pointer (some ⟨p, i, none⟩)) w1) k :=
  go_some (ld1_cells h) hk
theorem go_ldN {p o n : Nat} {l l' : List Value} {ty : TypeId} {w1 : World} (h : Sat w0 L w) [e : SameC w w1] [hm : CellIn p l ty L] [hc : Part l o n l'] (hk : k (.agg l'.toArray)) : bindP (ldN n (.pointer (some ⟨p, o, none⟩)) w1) k :=
  go_some (ld_part h e.same hm.mem hc) hk
theorem go_ldA {p n : Nat} {l : List Value} {ty : TypeId} {w1 : World} (h : Sat w0 L w) [e : SameC w w1] [hm : CellIn p l ty L] (hc : l.length = n) (hk : k (.agg l.toArray)) : bindP (ldN n (.pointer (some ⟨p, 0, none⟩)) w1) k :=
  go_some (ld_part h e.same hm.mem (hc ▸ Part.all l)) hk
theorem go_st {p i : Nat} {l l' m : List Value} {ty ty' : TypeId} {y : Value} [OneV y] {k : World → Prop} {w1 : World} (h : Sat w0 L w) [e : SameC w w1] [hm : CellIn p l ty L] [hc : Upd l i y l'] [r : Rp p l' m ty' L L']
    (hk : ∀ w', Sat w0 L' w' → k w') : bindW (st 1 (.pointer (some ⟨p, i, none⟩)) y w1) k := by
  have h := h.to e.same
  have hb := h.memc hm.mem
  rw [st_at hb y (by simpa using hc.lt)]
  rw [bindW_some]
  refine hk _ (h.rep r.rep fun M h => ?_)
  have h2 := h.cl
  rw [hb] at h2
  simp only [Option.some.injEq, Obj.cells.injEq, and_true] at h2
  obtain ⟨e1, rfl⟩ := h2
  obtain rfl : l = m := by simpa using congrArg Array.toList e1
  rw [List.setIfInBounds_toArray, hc.eq]; exact h.setc _
theorem go_stW {p o n : Nat} {l ys l' m : List Value} {ty ty' : TypeId} {k : World → Prop} {w1 : World} (h : Sat w0 L w) (e : Same w w1) (hm : Cl p l.toArray ty ∈ L) (hn : ys.length = n) (h1 : ys.all (·.oneCell') = true) (hc : Ups l o ys l') (r : Rep (Cl p m.toArray ty') (Cl p l'.toArray ty') L L')
    (hk : ∀ w', Sat w0 L' w' → k w') : bindW (st n (.pointer (some ⟨p, o, none⟩)) (.agg ys.toArray) w1) k := by
  have h := h.to e
  have hb := h.memc hm
  have hle := hc.le
  rw [st_cells hb (by simpa using hn) (by simpa using h1) (by simp; omega), bindW_some]
  refine hk _ (h.rep r fun M h => ?_)
  have h2 := h.cl
  rw [hb] at h2
  simp only [Option.some.injEq, Obj.cells.injEq, and_true] at h2
  obtain ⟨e1, rfl⟩ := h2
  obtain rfl : l = m := by simpa using congrArg Array.toList e1
  have e : wr l.toArray o (Value.agg ys.toArray).cells.toList = l'.toArray := by
    apply Array.ext'
    rw [wr_toList _ _ _ (by simp; omega)]
    simpa using hc.eq
  rw [e]; exact h.setc _
theorem go_stN {p o n : Nat} {l ys l' m : List Value} {ty ty' : TypeId} {k : World → Prop} {w1 : World} (h : Sat w0 L w) [e : SameC w w1] [hm : CellIn p l ty L] [hc : Ups l o ys l'] [r : Rp p l' m ty' L L'] (hn : ys.length = n) (h1 : ys.all (·.oneCell') = true)
    (hk : ∀ w', Sat w0 L' w' → k w') : bindW (st n (.pointer (some ⟨p, o, none⟩)) (.agg ys.toArray) w1) k :=
  go_stW h e.same hm.mem hn h1 hc r.rep hk
theorem go_stA {p n : Nat} {l ys m : List Value} {ty ty' : TypeId} {k : World → Prop} {w1 : World} (h : Sat w0 L w) [e : SameC w w1] [hm : CellIn p l ty L] [r : Rp p ys m ty' L L'] (hl : l.length = n) (hn : ys.length = n) (h1 : ys.all (·.oneCell') = true)
    (hk : ∀ w', Sat w0 L' w' → k w') : bindW (st n (.pointer (some ⟨p, 0, none⟩)) (.agg ys.toArray) w1) k :=
  go_stW h e.same hm.mem hn h1 (Ups.all (by omega)) r.rep hk
theorem go_box {t : TypeId} {v : Value} {l : List Value} {w1 : World} (h : Sat w0 L w) [e : SameC w w1] (hc : v.cells = l.toArray) (hK : ∀ p w', Sat w0 (Cl p l.toArray t :: L) w' → K (.pointer (some ⟨p, 0, none⟩)) w') : eBox t v w1 K := by
  refine eBox_sat (h.to e.same) fun p w' h' => hK p w' ?_
  rw [← hc]; exact h'
theorem go_alloc {Pg : Program} {t : TypeId} {z : Value} {l : List Value} {w1 : World} (h : Sat w0 L w) [e : SameC w w1] (hz : fZero Pg t = some z) (hc : z.cells = l.toArray) (hK : ∀ p w', Sat w0 (Cl p l.toArray t :: L) w' → K (.pointer (some ⟨p, 0, none⟩)) w') : eAlloc Pg t w1 K := by
  refine eAlloc_sat (h.to e.same) hz fun p w' h' => hK p w' ?_
  rw [← hc]; exact h'
theorem go_rd {p i : Nat} {l : List Value} {ty : TypeId} {v v' : Value} {X : Prop} {w1 : World} (h : Sat w0 L w) [e : SameC w w1] [hm : CellIn p l ty L] [hc : Nth l i v] (hv : v = v') (hX : X) : fok true (ld1 (.pointer (some ⟨p, i, none⟩)) w1) v' ∧ X := by
  subst hv
  exact ⟨by rw [fok_true]; exact ld1_cells h, hX⟩
theorem go_rdN {p o n : Nat} {l l' : List Value} {ty : TypeId} {v' : Value} {X : Prop} {w1 : World} (h : Sat w0 L w) [e : SameC w w1] [hm : CellIn p l ty L] [hc : Part l o n l'] (hv : .agg l'.toArray = v') (hX : X) : fok true (ldN n (.pointer (some ⟨p, o, none⟩)) w1) v' ∧ X := by
  subst hv
  exact ⟨by rw [fok_true]; exact ld_part h e.same hm.mem hc, hX⟩
theorem go_look1 {Pg : Program} {κ ν : Type} [DecidableEq κ] {ek : κ → Value} {ev : ν → Value} {v : Value} {m : List (κ × ν)} {kt t et : TypeId} {z : Value} {w1 : World} (h : Sat w0 L w) [e : SameC w w1] (hm : Fnt (MapH ek ev v m) L M) (T : KeyT Pg kt ek)
    (hu : Pg.underlying t = some (.map kt et)) (hz : fZero Pg et = some z) (q : κ) (hk : k ((aGet q m).elim z ev)) : bindP (fLook Pg t v (ek q) false w1) k :=
  go_some (look1 ((h.to e.same).front hm) T hu hz q) hk
theorem go_look2 {Pg : Program} {κ ν : Type} [DecidableEq κ] {ek : κ → Value} {ev : ν → Value} {v : Value} {m : List (κ × ν)} {kt t et : TypeId} {z : Value} {w1 : World} (h : Sat w0 L w) [e : SameC w w1] (hm : Fnt (MapH ek ev v m) L M) (T : KeyT Pg kt ek)
    (hu : Pg.underlying t = some (.map kt et)) (hz : fZero Pg et = some z) (q : κ) (hk : k (.tuple #[(aGet q m).elim z ev, .bool (aGet q m).isSome])) : bindP (fLook Pg t v (ek q) true w1) k :=
  go_some (look2 ((h.to e.same).front hm) T hu hz q) hk
theorem go_lenM {κ ν : Type} [DecidableEq κ] {ek : κ → Value} {ev : ν → Value} {v : Value} {m : List (κ × ν)} {w1 : World} (h : Sat w0 L w) [e : SameC w w1] (hm : Fnt (MapH ek ev v m) L M) (hk : k (.int .i64 m.length)) : bindP (lenM v w1) k :=
  go_some (lenM_map ((h.to e.same).front hm)) hk
theorem go_fok {o : Option Value} {v : Value} {X : Prop} (ho : o = some v) (hX : X) : fok true o v ∧ X := ⟨by rw [fok_true]; exact ho, hX⟩
theorem ls_of {α : Type} {f : α → List Value} {es : Nat} {ty : TypeId} {v : Value} {l : List α} {w1 : World} (h : Sat w0 L w) (e : Same w w1) (m : LsIn v L α f es ty l) : Rd w1 es v l.length (l.flatMap f) := by
  obtain ⟨M, hm⟩ := m.fnt
  exact ls_rd ((h.to e).front hm)
theorem rd_fa {α : Type} {f : α → List Value} {es i j : Nat} {v : Value} {l : List α} (C : Cod f es) (h : Rd w es v l.length (l.flatMap f)) (hi : i < l.length) (hj : j < es) : pFieldAddr j (elP es v i) = some (elF es v i j) := by
  obtain ⟨a, h1, _⟩ := rd_fld C h hi hj
  unfold elF; rw [h1]; rfl
theorem rd_f1 {α : Type} {f : α → List Value} {es i j : Nat} {v x : Value} {l : List α} (C : Cod f es) (h : Rd w es v l.length (l.flatMap f)) (hi : i < l.length) (hx : Nth (f l[i]) j x) : ld1 (elF es v i j) w = some x := by
  have hj : j < es := by
    have := (List.getElem?_eq_some_iff.1 hx.get).1
    rwa [C.len] at this
  obtain ⟨a, h1, h2⟩ := rd_fld C h hi hj
  have : elF es v i j = .pointer (some a) := by unfold elF; rw [h1]; rfl
  rw [this, ld1_ptr, h2, hx.get]
theorem go_lenL {α : Type} {f : α → List Value} {es : Nat} {ty : TypeId} {v : Value} {l : List α} (h : Sat w0 L w) [m : LsIn v L α f es ty l] (hk : k (.int .i64 l.length)) : bindP (lenL v) k :=
  go_some (ls_of h (.refl _) m).len hk
theorem go_ix {α : Type} {f : α → List Value} {es i : Nat} {ty : TypeId} {v : Value} {l : List α} (h : Sat w0 L w) [m : LsIn v L α f es ty l] (hi : i < l.length) (hk : k (elP es v i)) : bindP (pIndexL es v (.int .i64 i)) k :=
  go_some (ix_el (ls_of h (.refl _) m) hi) hk
theorem go_elN {α : Type} {f : α → List Value} {es i : Nat} {ty : TypeId} {v : Value} {l : List α} {w1 : World} (h : Sat w0 L w) [e : SameC w w1] [m : LsIn v L α f es ty l] [C : CodC f es] (hi : i < l.length) (hk : k (.agg (f l[i]).toArray)) : bindP (ldN es (elP es v i) w1) k :=
  go_some (rd_ld C.cod (ls_of h e.same m) hi) hk
theorem go_fa {α : Type} {f : α → List Value} {es i j : Nat} {ty : TypeId} {v : Value} {l : List α} (h : Sat w0 L w) [m : LsIn v L α f es ty l] [C : CodC f es] (hi : i < l.length) (hj : j < es) (hk : k (elF es v i j)) : bindP (pFieldAddr j (elP es v i)) k :=
  go_some (rd_fa C.cod (ls_of h (.refl _) m) hi hj) hk
theorem go_f1 {α : Type} {f : α → List Value} {es i j : Nat} {ty : TypeId} {v x : Value} {l : List α} {w1 : World} (h : Sat w0 L w) [e : SameC w w1] [m : LsIn v L α f es ty l] [C : CodC f es] (hi : i < l.length) (hx : Nth (f l[i]) j x) (hk : k x) : bindP (ld1 (elF es v i j) w1) k :=
  go_some (rd_f1 C.cod (ls_of h e.same m) hi hx) hk
theorem go_rf1 {α : Type} {f : α → List Value} {es i j : Nat} {ty : TypeId} {v x x' : Value} {l : List α} {X : Prop} {w1 : World} (h : Sat w0 L w) [e : SameC w w1] [m : LsIn v L α f es ty l] [C : CodC f es] (hi : i < l.length) (hx : Nth (f l[i]) j x) (hv : x = x') (hX : X) : fok true (ld1 (elF es v i j) w1) x' ∧ X := by
  subst hv
  exact ⟨by rw [fok_true]; exact rd_f1 C.cod (ls_of h e.same m) hi hx, hX⟩
theorem go_rel {α : Type} {f : α → List Value} {es i : Nat} {ty : TypeId} {v x' : Value} {l : List α} {X : Prop} {w1 : World} (h : Sat w0 L w) [e : SameC w w1] [m : LsIn v L α f es ty l] [C : CodC f es] (hi : i < l.length) (hv : .agg (f l[i]).toArray = x') (hX : X) : fok true (ldN es (elP es v i) w1) x' ∧ X := by
  subst hv
  exact ⟨by rw [fok_true]; exact rd_ld C.cod (ls_of h e.same m) hi, hX⟩
theorem go_rlen {α : Type} {f : α → List Value} {es : Nat} {ty : TypeId} {v x' : Value} {l : List α} {X : Prop} (h : Sat w0 L w) [m : LsIn v L α f es ty l] (hv : .int .i64 l.length = x') (hX : X) : fok true (lenL v) x' ∧ X := by
  subst hv
  exact ⟨by rw [fok_true]; exact (ls_of h (.refl _) m).len, hX⟩
theorem bAdd_i64 {a b : Int} (h : -9223372036854775808 ≤ a + b ∧ a + b ≤ 9223372036854775807) : bAdd (.int .i64 a) (.int .i64 b) = some (.int .i64 (a + b)) := by rw [bAdd_int, wrap_id h]
theorem bSub_i64 {a b : Int} (h : -9223372036854775808 ≤ a - b ∧ a - b ≤ 9223372036854775807) : bSub (.int .i64 a) (.int .i64 b) = some (.int .i64 (a - b)) := by rw [bSub_int, wrap_id h]
theorem pMin_int {j : IntKind} {a b : Int} : pMin (.int j a) (.int j b) = some (.int j (min a b)) := by
  simp only [pMin]; congr 2; rw [Int.min_def]; split <;> split <;> omega
theorem pMax_int {j : IntKind} {a b : Int} : pMax (.int j a) (.int j b) = some (.int j (max a b)) := by
  simp only [pMax]; congr 2; rw [Int.max_def]; split <;> split <;> omega
end
theorem evA : (∀ (v : Value) (k : Value → Prop), bindP (some v) k = k v) ∧ (∀ (o : Option Value) (k : Value → Prop), Sx.stepG true o k = bindP o k) ∧ (∀ (o : Option Value) (k : Value → Prop), Sx.stepG false o k = k undef) ∧
    (∀ (v : Value) (k : Value → Prop), stepM true v k = k v) ∧ (∀ (v : Value) (k : Value → Prop), stepM false v k = k undef) ∧
    (∀ (E : (Value → World → Prop) → Prop) (w : World) (K : Value → World → Prop), stepE true E w K = E K) ∧ (∀ (E : (Value → World → Prop) → Prop) (w : World) (K : Value → World → Prop), stepE false E w K = K undef w) ∧
    (∀ (w : World) (q : World → Prop), bindW (some w) q = q w) ∧ (∀ a b : Prop, ifB (.bool true) a b = a) ∧ (∀ a b : Prop, ifB (.bool false) a b = b) ∧ (∀ b : Bool, gd true (.bool b) = b) ∧ (∀ b : Bool, gd false (.bool b) = !b) ∧
    (∀ a b : Value, pPick (.bool true) a b = some a) ∧ (∀ a b : Value, pPick (.bool false) a b = some b) ∧ (∀ a : Addr, pNil (.pointer (some a)) = some (.pointer (some a))) ∧ (∀ off b o : Nat, pFieldAddr off (.pointer (some ⟨b, o, none⟩)) = some (.pointer (some ⟨b, o + off, none⟩))) ∧
    (∀ b : Bool, uNot (.bool b) = some (.bool !b)) ∧ (∀ b : Bool, gd b undef = false) :=
  ⟨fun _ _ => bindP_some _, fun _ _ => stepG_true _, fun _ _ => stepG_false _, fun _ _ => stepM_true _, fun _ _ => stepM_false _, fun _ _ _ => stepE_true _, fun _ _ _ => stepE_false _, fun _ _ => bindW_some _, fun _ _ => ifB_true, fun _ _ => ifB_false, gd_true, gd_false, pPick_true, pPick_false, pNil_ptr, pFieldAddr_ptr, uNot_bool, fun b => by cases b <;> rfl⟩
theorem evB : (∀ j (a b : Int), bLt (.int j a) (.int j b) = some (.bool (a < b))) ∧ (∀ j (a b : Int), bLe (.int j a) (.int j b) = some (.bool (a ≤ b))) ∧ (∀ j (a b : Int), bGt (.int j a) (.int j b) = some (.bool (a > b))) ∧ (∀ j (a b : Int), bGe (.int j a) (.int j b) = some (.bool (a ≥ b))) ∧
    (∀ P t x y j (a b : Int), bEq P t x y (.int j a) (.int j b) = some (.bool (decide (a = b)))) ∧ (∀ P t x y j (a b : Int), bNe P t x y (.int j a) (.int j b) = some (.bool (!decide (a = b)))) ∧
    (∀ P t x y (a b : ByteArray), bEq P t x y (.string a) (.string b) = some (.bool (decide (a = b)))) ∧ (∀ P t x y (a b : ByteArray), bNe P t x y (.string a) (.string b) = some (.bool (!decide (a = b)))) ∧
    (∀ (l : List Value) i, pTuple (.tuple l.toArray) i = l[i]?) ∧ (∀ (a : Value) (l : List Value), (a :: l)[0]? = some a) ∧ (∀ (a : Value) (l : List Value) i, (a :: l)[i + 1]? = l[i]?) ∧
    (∀ a n c, lenL (.slice a n c) = some (.int .i64 (n : Nat))) ∧ (∀ s : ByteArray, lenS (.string s) = some (.int .i64 s.size)) ∧ (∀ l : List UInt8, (bs l).size = l.length) ∧ (∀ j (a b : Int), pMin (.int j a) (.int j b) = some (.int j (min a b))) ∧ (∀ j (a b : Int), pMax (.int j a) (.int j b) = some (.int j (max a b))) ∧
    (∀ l : List UInt8, ByteArray.mk l.toArray = bs l) ∧ (∀ a b : List UInt8, (bs a = bs b) = (a = b)) ∧
    (∀ v w, ld1 v w.drew = ld1 v w) ∧ (∀ n v w, ldN n v w.drew = ldN n v w) ∧ (∀ v w, lenM v w.drew = lenM v w) ∧ (∀ v w, cBytes v w.drew = cBytes v w) ∧ (∀ P t m k b w, fLook P t m k b w.drew = fLook P t m k b w) ∧ (∀ v, fok true (some v) v = True) :=
  ⟨bLt_int, bLe_int, bGt_int, bGe_int, fun _ _ _ _ => bEq_int, fun _ _ _ _ => bNe_int, fun _ _ _ _ _ _ => by rw [bEq_str, bs_beq], fun _ _ _ _ _ _ => by rw [bNe_str, bs_beq], pTuple_mk, fun _ _ => List.getElem?_cons_zero, fun _ _ _ => List.getElem?_cons_succ, lenL_mk, lenS_mk, bs_size, fun _ _ _ => pMin_int, fun _ _ _ => pMax_int, mk_bs, fun _ _ => by rw [bs_inj], fun _ _ => rfl, fun _ _ _ => rfl, fun _ _ => rfl, fun _ _ => rfl, fun _ _ _ _ _ _ => rfl, fun _ => by rw [fok_true]; simp⟩
theorem evC : (∀ p, ptr p = .pointer (some ⟨p, 0, none⟩)) ∧ (∀ n : Nat, 0 + n = n) ∧ ((!true) = false) ∧ ((!false) = true) ∧ (∀ (α : Type) (a : α), (some a).isNone = false) ∧ (∀ α : Type, (none : Option α).isNone = true) ∧ (∀ (α : Type) (a : α), (some a).isSome = true) ∧ (∀ α : Type, (none : Option α).isSome = false) ∧
    (∀ [i : Decidable True], @decide True i = true) ∧ (∀ [i : Decidable False], @decide False i = false) ∧ (∀ (α : Type) (a : α), (a = a) = True) ∧ (∀ p : Prop, (True ∧ p) = p) ∧ (∀ a b c : Prop, ((a ∧ b) ∧ c) = (a ∧ b ∧ c)) :=
  ⟨fun _ => rfl, Nat.zero_add, rfl, rfl, fun _ _ => rfl, fun _ => rfl, fun _ _ => rfl, fun _ => rfl, fun {_} => by simp, fun {_} => by simp, fun _ _ => by simp, fun _ => by simp, fun _ _ _ => propext and_assoc⟩
theorem Sat.frt {A : HP} {w0 w : World} {L M : List HP} (h : Sat w0 L w) (f : Fnt A L M := by repeat (first | exact .here | apply Fnt.there)) : Sat w0 (A :: M) w := h.front f
theorem Sat.got {w0 w : World} {L L' : List HP} (h : Sat w0 L w) (g : Get L L' := by repeat (first | exact .done | (refine .pick (by repeat (first | exact .here | apply Fnt.there)) ?_) | refine .skip ?_)) : Sat w0 L' w := h.get g
end Go.Sx

/- Sz12 -/
namespace Go.Sx
open Go.ChangeShapes Go.WideShapes Go.RowKit
inductive CK2 where
  | int (k : IntKind)
  | str
  | bool
  | sl (es : Nat) (ks : List CK2)
mutual
def Fit2 (w : World) (B : Nat) : CK2 → Value → Prop
  | .int k, v => ∃ n, v = .int k n ∧ (Lit.int k n).wf = true
  | .str, v => ∃ s, v = .string s ∧ s.size ≤ B
  | .bool, v => ∃ b, v = .bool b
  | .sl es ks, v => ∃ n cs, Rd w es v n cs ∧ n ≤ B ∧ ∀ i, i < n → FitL2 w B ks ((cs.drop (i * es)).take es)
def FitL2 (w : World) (B : Nat) : List CK2 → List Value → Prop
  | [], vs => vs = []
  | c :: cs, vs => ∃ v r, vs = v :: r ∧ Fit2 w B c v ∧ FitL2 w B cs r
end
section
variable {w : World} {B : Nat}
theorem FitL2.append : ∀ {a b : List CK2} {x y : List Value}, FitL2 w B a x → FitL2 w B b y → FitL2 w B (a ++ b) (x ++ y)
  | [], _, x, _, h, h' => by simp only [FitL2] at h; subst h; exact h'
  | _ :: _, _, x, _, h, h' => by
    simp only [FitL2] at h
    obtain ⟨v, r, rfl, h1, h2⟩ := h
    simp only [List.cons_append, FitL2]
    exact ⟨v, _, rfl, h1, h2.append h'⟩
theorem FitL2.length : ∀ {a : List CK2} {x : List Value}, FitL2 w B a x → x.length = a.length
  | [], x, h => by simp only [FitL2] at h; subst h; rfl
  | _ :: _, x, h => by
    simp only [FitL2] at h
    obtain ⟨v, r, rfl, _, h2⟩ := h
    simp [h2.length]
theorem fitL2_nil {cs : List Value} (h : FitL2 w B [] cs) : cs = [] := by simpa only [FitL2] using h
theorem fitL2_int {k : IntKind} {ks : List CK2} {cs : List Value} (h : FitL2 w B (.int k :: ks) cs) : ∃ (n : Int) (vs : List Value), cs = .int k n :: vs ∧ (Lit.int k n).wf = true ∧ FitL2 w B ks vs := by
  simp only [FitL2, Fit2] at h
  obtain ⟨v, r, rfl, ⟨n, rfl, hn⟩, h2⟩ := h
  exact ⟨n, r, rfl, hn, h2⟩
theorem fitL2_bool {ks : List CK2} {cs : List Value} (h : FitL2 w B (.bool :: ks) cs) : ∃ (b : Bool) (vs : List Value), cs = .bool b :: vs ∧ FitL2 w B ks vs := by
  simp only [FitL2, Fit2] at h
  obtain ⟨v, r, rfl, ⟨n, rfl⟩, h2⟩ := h
  exact ⟨n, r, rfl, h2⟩
theorem fitL2_str {ks : List CK2} {cs : List Value} (h : FitL2 w B (.str :: ks) cs) : ∃ (l : List UInt8) (vs : List Value), cs = .string (bs l) :: vs ∧ l.length ≤ B ∧ FitL2 w B ks vs := by
  simp only [FitL2, Fit2] at h
  obtain ⟨v, r, rfl, ⟨s, rfl, hs⟩, h2⟩ := h
  obtain ⟨l, rfl, hl⟩ := str_bs (s := s)
  exact ⟨l, r, rfl, by omega, h2⟩
theorem fitL2_sl {es : Nat} {k ks : List CK2} {cs : List Value} (h : FitL2 w B (.sl es k :: ks) cs) : ∃ (v : Value) (vs : List Value), cs = v :: vs ∧ (∃ n ds, Rd w es v n ds ∧ n ≤ B ∧ ∀ i, i < n → FitL2 w B k ((ds.drop (i * es)).take es)) ∧ FitL2 w B ks vs := by
  simp only [FitL2, Fit2] at h
  obtain ⟨v, r, rfl, h1, h2⟩ := h
  exact ⟨v, r, rfl, h1, h2⟩
end
def scal2F (P : Program) (r : TypeId → Option (List CK2)) : List Field → Nat → Option (List CK2)
  | [], _ => some []
  | f :: fs, off => match f.offset == off, r f.type with
    | true, some ks => match ks.length == P.cellsOf f.type, scal2F P r fs (off + ks.length) with
      | true, some l => some (ks ++ l)
      | _, _ => none
    | _, _ => none
def repCK2 (ks : List CK2) : Nat → List CK2
  | 0 => []
  | n + 1 => ks ++ repCK2 ks n
def scal2 (P : Program) : Nat → TypeId → Option (List CK2)
  | 0, _ => none
  | d + 1, t => match P.underlying t with
    | some .bool => some [.bool]
    | some (.int k) => some [.int k]
    | some .string => some [.str]
    | some (.slice e) => match scal2 P d e with
      | some ks => if 0 < P.cellsOf e ∧ 0 < P.bytesOf e then some [.sl (P.cellsOf e) ks] else none
      | none => none
    | some (.struct fs) => match scal2F P (scal2 P d) fs.toList 0 with
      | some ks => if ks.length = P.cellsOf t then some ks else none
      | none => none
    | some (.array n e) => match scal2 P d e with
      | some ks => if ks.length = P.cellsOf e ∧ n * ks.length = P.cellsOf t then some (repCK2 ks n) else none
      | none => none
    | _ => none
section
variable {H : Type} {enc : TypeId × Value → H} {P : Program} {w : World} {base : Nat} {held : Bool} {B : Nat}
theorem weightsAll_mem {e : TypeId} : ∀ {l : List (DataW H)} {d : DataW H}, d ∈ l → ∀ n ∈ d.weights P e, n ∈ DataW.weightsAll P e l
  | x :: l, d, hd, n, hn => by
    simp only [DataW.weightsAll, List.mem_append]
    rcases List.mem_cons.1 hd with rfl | hd
    · exact .inl hn
    · exact .inr (weightsAll_mem hd n hn)
  | [], _, hd, _, _ => by simp at hd
theorem scal2F_ok {r : TypeId → Option (List CK2)} {R : TypeId → List Value → Option (DataW H × List MemPlace)} {cs : List Value} (hr : ∀ t ks c x, r t = some ks → R t c = some x → (∀ n ∈ x.1.weights P t, n ≤ B) → FitL2 w B ks c) :
    ∀ (fs : List Field) (off : Nat) (ks : List CK2) (xs : List (DataW H × List MemPlace)), scal2F P r fs off = some ks → fs.mapM (fun f => R f.type ((cs.drop f.offset).take (P.cellsOf f.type))) = some xs →
      (∀ n ∈ DataW.weightsEach P (fs.map (·.type)) (xs.map (·.1)), n ≤ B) → FitL2 w B ks ((cs.drop off).take ks.length) := by
  intro fs
  induction fs with
  | nil => intro off ks xs h _ _; simp [scal2F] at h; subst h; simp [FitL2]
  | cons f fs ih =>
    intro off ks xs h hm hw
    unfold scal2F at h
    split at h
    · rename_i ks1 ho hks
      split at h
      · rename_i l hl hk
        simp only [Option.some.injEq] at h; subst h
        simp only [beq_iff_eq] at ho hl
        simp only [List.mapM_cons, Option.bind_eq_bind, Option.bind_eq_some_iff] at hm
        obtain ⟨x, hx, ys, hys, he⟩ := hm
        simp only [Option.pure_def, Option.some.injEq] at he; subst he
        simp only [List.map_cons, DataW.weightsEach, List.mem_append] at hw
        have f1 := hr _ _ _ _ hks hx fun n hn => hw n (.inl hn)
        have f2 := ih _ _ _ hk hys fun n hn => hw n (.inr hn)
        rw [ho, ← hl] at f1
        have := f1.append f2
        rw [List.length_append, List.take_add, List.drop_drop]
        exact this
      · cases h
    · cases h
theorem rep2_ok {ks : List CK2} {cs : List Value} : ∀ (n o : Nat), (∀ i, i < n → FitL2 w B ks ((cs.drop (o + i * ks.length)).take ks.length)) → FitL2 w B (repCK2 ks n) ((cs.drop o).take (n * ks.length)) := by
  intro n
  induction n with
  | zero => intro o _; simp [repCK2, FitL2]
  | succ n ih =>
    intro o h
    have h0 := h 0 (by omega)
    simp only [Nat.zero_mul, Nat.add_zero] at h0
    have h1 := ih (o + ks.length) fun i hi => by
      have := h (i + 1) (by omega)
      rwa [Nat.add_mul, Nat.one_mul, Nat.add_comm (i * ks.length), ← Nat.add_assoc] at this
    have := h0.append h1
    rw [show (n + 1) * ks.length = ks.length + n * ks.length by rw [Nat.add_mul]; omega, List.take_add, List.drop_drop]
    exact this
theorem mapM_mem {α β : Type} {f : α → Option β} : ∀ {l : List α} {r : List β}, l.mapM f = some r → ∀ x ∈ l, ∃ y ∈ r, f x = some y := by
  intro l
  induction l with
  | nil => intro r _ x hx; simp at hx
  | cons a l ih =>
    intro r h x hx
    simp only [List.mapM_cons, Option.bind_eq_bind, Option.bind_eq_some_iff] at h
    obtain ⟨y, hy, ys, hys, he⟩ := h
    simp only [Option.pure_def, Option.some.injEq] at he; subst he
    rcases List.mem_cons.1 hx with rfl | hx
    · exact ⟨y, by simp, hy⟩
    · obtain ⟨z, hz, h2⟩ := ih hys x hx; exact ⟨z, by simp [hz], h2⟩
theorem rd_of_slice {e : TypeId} {es : Nat} {a : Addr} {len cap m : Nat} {R : Nat → List Value → Prop} (he : P.cellsOf e = es) (hpos : 0 < es) (hlc : len ≤ cap) (hm : m = cap)
    (hel : ∀ i, i < m → ∃ cs', w.cells? base (a.add (i * es)) es = some cs' ∧ R i cs') :
    ∃ cs, Rd w es (.slice (some a) len cap) len cs ∧ ∀ i, i < len → R i ((cs.drop (i * es)).take es) := by
  subst hm
  by_cases hc0 : m = 0
  · have : len = 0 := by omega
    subst this
    exact ⟨[], .emp _ _, fun i hi => by omega⟩
  have cell : ∀ k, k < m * es → ∃ u, w.cell? (a.add k) = some u := by
    intro k hk
    have hi : k / es < m := by rw [Nat.div_lt_iff_lt_mul hpos]; exact hk
    obtain ⟨cs', h1, _⟩ := hel _ hi
    obtain ⟨_, h2, h3⟩ := World.cells?_some h1
    have hm := Nat.mod_lt k hpos
    have h4 := h3 (k % es) hm
    rw [add_add, show k / es * es + k % es = k by rw [Nat.mul_comm]; exact Nat.div_add_mod k es] at h4
    exact ⟨cs'[k % es]'(by omega), by rw [h4, List.getElem?_eq_getElem]⟩
  have hpos2 : 0 < m * es := Nat.mul_pos (by omega) hpos
  obtain ⟨b, o, spot⟩ := a
  have hspot : spot = none ∧ ∃ arr ty fz, w.heap[b]? = some (.cells arr ty fz) := by
    obtain ⟨u, hu⟩ := cell 0 hpos2
    simp only [Addr.add, if_true, World.cell?] at hu
    split at hu
    · rename_i arr ty fz hb'
      cases spot with
      | none => exact ⟨rfl, _, _, _, hb'⟩
      | some s => simp at hu
    · cases hu
  obtain ⟨rfl, arr, ty, fz, hb'⟩ := hspot
  have cell2 : ∀ k, k < m * es → o + k < arr.size := by
    intro k hk
    obtain ⟨u, hu⟩ := cell k hk
    rw [addr_add, cell_of hb'] at hu
    rcases Nat.lt_or_ge (o + k) arr.size with h | h
    · exact h
    · rw [Array.getElem?_eq_none h] at hu; cases hu
  have hsz := cell2 (m * es - 1) (by omega)
  have hle := Nat.mul_le_mul_right es hlc
  refine ⟨_, .blk hb' hlc (by omega) rfl, fun i hi => ?_⟩
  obtain ⟨cs', h1, h2⟩ := hel i (by omega)
  obtain ⟨_, h4, h5⟩ := World.cells?_some h1
  have hi2 : i * es + es ≤ len * es := by
    have := Nat.mul_le_mul_right es (show i + 1 ≤ len by omega)
    rw [Nat.add_mul] at this; omega
  have : (((arr.toList.drop o).take (len * es)).drop (i * es)).take es = cs' := by
    apply List.ext_getElem
    · simp; omega
    · intro j j1 j2
      have := h5 j (by omega)
      rw [addr_add, addr_add, cell_of hb', List.getElem?_eq_getElem j2, Array.getElem?_eq_getElem (cell2 (i * es + j) (by omega) |> fun h => by omega)] at this
      simp only [Option.some.injEq] at this
      rw [← this]
      simp [Nat.add_assoc]
  rw [this]; exact h2
theorem scal2_ok : ∀ (d : Nat) (t : TypeId) (ks : List CK2), scal2 P d t = some ks → ∀ (fuel : Nat) (cs : List Value) (x : DataW H × List MemPlace), DataW.trod enc P w base (fun _ => true) held fuel t cs = some x → (∀ n ∈ x.1.weights P t, n ≤ B) → FitL2 w B ks cs := by
  intro d
  induction d with
  | zero => intro t ks h; simp [scal2] at h
  | succ d ih =>
    intro t ks h fuel cs x hx hw
    cases fuel with
    | zero => simp [DataW.trod] at hx
    | succ fuel =>
    unfold scal2 at h
    split at h
    · rename_i hu
      simp only [Option.some.injEq] at h; subst h
      unfold DataW.trod at hx
      rw [hu] at hx
      split at hx <;> first | (simp_all; done) | (exact (by simp only [FitL2, Fit2]; exact ⟨_, _, rfl, ⟨_, rfl⟩, rfl⟩)) | (rename_i h1; simp at h1)
    · rename_i k hu
      simp only [Option.some.injEq] at h; subst h
      unfold DataW.trod at hx
      rw [hu] at hx
      split at hx
      all_goals first | (rename_i h1; simp at h1; done) | skip
      all_goals first | (simp at hx; done) | skip
      all_goals
        rename_i h1
        simp at h1
        subst h1
        split at hx
        · rename_i h2; obtain ⟨rfl, h3⟩ := h2; simp only [FitL2, Fit2]; exact ⟨_, _, rfl, ⟨_, rfl, h3⟩, rfl⟩
        · simp at hx
    · rename_i hu
      simp only [Option.some.injEq] at h; subst h
      unfold DataW.trod at hx
      rw [hu] at hx
      split at hx
      all_goals first | (rename_i h1; simp at h1; done) | skip
      all_goals first | (simp at hx; done) | skip
      all_goals
        split at hx
        · simp only [Option.some.injEq] at hx; subst hx
          rename_i s _ _
          have := hw s.size (by simp [DataW.weights])
          simp only [FitL2, Fit2]; exact ⟨_, _, rfl, ⟨_, rfl, this⟩, rfl⟩
        · simp at hx
    · rename_i e hu
      split at h
      · rename_i ks' hks
        split at h
        · rename_i hcell
          simp only [Option.some.injEq] at h; subst h
          rcases Go.Deep.open_slice hu hx with ⟨rfl, rfl⟩ | ⟨a, len, cap, m, n, D, Pl, rfl, hb, hlc, hcm, hm, rfl, hel⟩
          · simp only [FitL2, Fit2]
            exact ⟨_, _, rfl, ⟨0, [], .emp _ _, Nat.zero_le _, fun i hi => by omega⟩, rfl⟩
          · simp only [if_true] at hm
            simp only [DataW.weights, hu, List.mem_cons, List.mem_append, List.length_map, List.length_range] at hw
            have hn : len ≤ B := by
              have := hw _ (.inl rfl)
              have h3 := Nat.le_mul_of_pos_right (len + (m - len)) hcell.2
              omega
            obtain ⟨cs, hr, hR⟩ := rd_of_slice (R := fun i cs' => i < len → FitL2 w B ks' cs') rfl hcell.1 hlc hm fun i hi => by
              obtain ⟨cs', h1, h2⟩ := hel i hi
              refine ⟨cs', h1, fun hi2 => ih _ _ hks _ _ _ h2 fun n hn => hw n (.inr (.inl (weightsAll_mem (d := D i) ?_ n hn)))⟩
              exact List.mem_map.2 ⟨i, by simpa using hi2, rfl⟩
            simp only [FitL2, Fit2]
            exact ⟨_, _, rfl, ⟨len, cs, hr, hn, fun i hi => hR i hi hi⟩, rfl⟩
        · cases h
      · cases h
    · rename_i fs hu
      split at h
      · rename_i ks' hks
        split at h
        · rename_i hlen
          simp only [Option.some.injEq] at h; subst h
          have : cs.length = P.cellsOf t ∧ ∃ xs, fs.toList.mapM (fun f => DataW.trod enc P w base (fun _ => true) held fuel f.type ((cs.drop f.offset).take (P.cellsOf f.type))) = some xs ∧ x.1 = .agg (xs.map (·.1)) := by
            unfold DataW.trod at hx
            rw [hu] at hx
            split at hx
            all_goals first | (rename_i h1; simp at h1; done) | skip
            all_goals first | (simp at hx; done) | skip
            all_goals first | exact (‹∀ (fs_1 : Array Field), some (TypeDesc.struct fs) = some (TypeDesc.struct fs_1) → False› fs rfl).elim | skip
            all_goals
              have h1 := ‹some (TypeDesc.struct fs) = some (TypeDesc.struct _)›
              cases h1
              split at hx
              · rename_i hl
                simp only [Option.map_eq_some_iff] at hx
                obtain ⟨xs, hxs, rfl⟩ := hx
                exact ⟨hl, xs, hxs, rfl⟩
              · simp at hx
          obtain ⟨hl, xs, hxs, hx1⟩ := this
          rw [hx1] at hw
          simp only [DataW.weights, hu] at hw
          have := scal2F_ok (R := DataW.trod enc P w base (fun _ => true) held fuel) (fun t ks c x h1 h2 h3 => ih t ks h1 fuel c x h2 h3) fs.toList 0 ks' xs hks hxs hw
          rw [List.drop_zero, List.take_of_length_le (by omega)] at this
          exact this
        · cases h
      · cases h
    · rename_i n e hu
      split at h
      · rename_i ks' hks
        split at h
        · rename_i hlen
          simp only [Option.some.injEq] at h; subst h
          have : cs.length = P.cellsOf t ∧ ∃ xs, (List.range n).mapM (fun i => DataW.trod enc P w base (fun _ => true) held fuel e ((cs.drop (i * P.cellsOf e)).take (P.cellsOf e))) = some xs ∧ x.1 = .agg (xs.map (·.1)) := by
            unfold DataW.trod at hx
            rw [hu] at hx
            split at hx
            all_goals first | (rename_i h1; simp at h1; done) | skip
            all_goals first | (simp at hx; done) | skip
            all_goals first | exact (‹∀ (n_1 : Nat) (e_1 : TypeId), some (TypeDesc.array n e) = some (TypeDesc.array n_1 e_1) → False› n e rfl).elim | skip
            all_goals
              have h1 := ‹some (TypeDesc.array n e) = some (TypeDesc.array _ _)›
              cases h1
              split at hx
              · rename_i hl
                simp only [Option.map_eq_some_iff] at hx
                obtain ⟨xs, hxs, rfl⟩ := hx
                exact ⟨hl, xs, hxs, rfl⟩
              · simp at hx
          obtain ⟨hl, xs, hxs, hx1⟩ := this
          rw [hx1] at hw
          simp only [DataW.weights, hu] at hw
          have := rep2_ok (w := w) (B := B) (ks := ks') (cs := cs) n 0 fun i hi => by
            obtain ⟨y, hym, hy⟩ := mapM_mem hxs i (by simpa using hi)
            have := ih _ _ hks _ _ _ hy fun n hn => hw n (weightsAll_mem (List.mem_map.2 ⟨y, hym, rfl⟩) n hn)
            rw [Nat.zero_add, hlen.1]; exact this
          rw [List.drop_zero, List.take_of_length_le (by omega)] at this
          exact this
        · cases h
      · cases h
    · cases h
theorem arg_any {t : TypeId} {ks : List CK2} {v : Value} {d : DataW H} {ps : List MemPlace} {n0 : Nat} (hks : scal2 P n0 t = some ks)
    (hd : DataW.Trod enc P w base (fun _ => true) held t v d ps) (hw : ∀ n ∈ d.weights P t, n ≤ B) : FitL2 w B ks v.cells.toList := by
  obtain ⟨fuel, hx⟩ := hd
  exact scal2_ok _ _ _ hks _ _ _ hx hw
theorem arg_sl {t e : TypeId} {v : Value} {r : _root_.Go.Reach} {b0 : Nat} (ht : P.underlying t = some (.slice e)) (hval : Value.okWide P w r b0 t v) : v.cells.toList = [v] := by
  simp only [Value.okWide, ht, Cell.okWide, Cell.ok] at hval
  split at hval <;> first | rfl | (exact hval.elim) | simp_all [Value.cells]
end
theorem fit_list2 {α : Type} {f : α → List Value} {good : α → Prop} {Q : List Value → Prop} {es : Nat} (hf : ∀ c, Q c → ∃ x, c = f x ∧ good x) : ∀ (n : Nat) (cs : List Value), cs.length = n * es → (∀ i, i < n → Q ((cs.drop (i * es)).take es)) →
    ∃ l : List α, l.length = n ∧ cs = l.flatMap f ∧ ∀ x ∈ l, good x := by
  intro n
  induction n with
  | zero => intro cs h _; exact ⟨[], rfl, by simpa using h, by simp⟩
  | succ n ih =>
    intro cs h hx
    obtain ⟨x, e1, g1⟩ := hf _ (hx 0 (by omega))
    obtain ⟨l, e2, e3, g2⟩ := ih (cs.drop es) (by simp [h, Nat.add_mul]) fun i hi => by
      have := hx (i + 1) (by omega)
      rwa [Nat.add_mul, Nat.one_mul, Nat.add_comm (i * es), ← List.drop_drop] at this
    refine ⟨x :: l, by simp [e2], ?_, by simpa using ⟨g1, g2⟩⟩
    rw [List.flatMap_cons, ← e3, ← e1]
    simp
section
variable {w0 w : World} {L : List HP} {k : Value → Prop} {K : Value → World → Prop} {α : Type} {f : α → List Value} {es i : Nat} {ty : TypeId} {v : Value} {l : List α}
theorem go_lit1 {P : Program} {t : TypeId} {x : α} {y : Value} {c : Array Value} {w1 : World} (C : Cod f es) (h : Sat w0 L w) [e : SameC w w1] (hu : P.underlying t = some (.slice ty)) (hc : fBuildSl P ty 1 [(0, y)] = some c) (hm : c.toList = f x)
    (hK : ∀ s w', Sat w0 (LsH f es ty s [x] :: L) w' → K s w') : eBuildSl P t 1 [(0, y)] w1 K :=
  ls_lit (m := [x]) C (h.to e.same) hu hc (by simp [hm]) hK
theorem go_lit0 {P : Program} {t : TypeId} {w1 : World} (C : Cod f es) (h : Sat w0 L w) [e : SameC w w1] (hu : P.underlying t = some (.slice ty)) (hc : fBuildSl P ty 0 [] = some #[])
    (hK : ∀ s w', Sat w0 (LsH f es ty s [] :: L) w' → K s w') : eBuildSl P t 0 [] w1 K :=
  ls_lit (m := []) C (h.to e.same) hu hc (by simp) hK
end
end Go.Sx

/- Sz13 -/
namespace Go.Sx
section
variable {w0 w w1 : World} {L M : List HP} {k : Value → Prop} {K : Value → World → Prop} {α : Type} {f : α → List Value} {es i j n : Nat} {ty : TypeId} {v : Value} {l : List α} {l' : List Value}
theorem rd_fN (C : Cod f es) (h : Rd w es v l.length (l.flatMap f)) (hi : i < l.length) (hp : Part (f l[i]) j n l') : ldN n (elF es v i j) w = some (.agg l'.toArray) := by
  generalize hcs : l.flatMap f = cs at h
  obtain ⟨m, hm⟩ : ∃ m, m = l.length := ⟨_, rfl⟩
  rw [← hm] at h
  cases h with
  | emp => omega
  | blk hb hn ha hc =>
    rename_i b o cap a ty fz
    have hlen := C.len l[i]
    have hle := hp.le
    have e : elF es (.slice (some ⟨b, o, none⟩) m cap) i j = .pointer (some ⟨b, o + i * es + j, none⟩) := by
      unfold elF elP
      simp only [pIndexL]
      rw [if_pos ⟨by omega, by omega⟩]
      simp [pFieldAddr]
    have him : i * es + es ≤ m * es := by
      have := Nat.mul_le_mul_right es (show i + 1 ≤ m by omega)
      rw [Nat.add_mul] at this; omega
    rw [e, ldN_of hb (by omega)]
    congr 2
    apply Array.ext'
    rw [Array.toList_extract, List.extract_eq_take_drop]
    have hf := flat_at C.len l i (by omega)
    rw [hcs, hc] at hf
    rw [show o + i * es + j + n - (o + i * es + j) = n from by omega]
    rw [← hp.eq, ← hf]
    simp only [List.drop_take, List.take_take, List.drop_drop, List.toList_toArray]
    congr 1
    omega
theorem go_subTo' {jk : IntKind} (h : Sat w0 L w) [m : LsIn v L α f es ty l] [C : CodC f es] (hi : i ≤ l.length) (hk : ∀ v', (∀ {L' : List HP} {w' : World}, Sat w0 L' w' → LsIn v L' α f es ty l → Rd w' es v' (l.take i).length ((l.take i).flatMap f)) → k v') : bindP (pSliceL es v none (some (.int jk i)) none) k := by
  have hr := ls_of h (.refl _) m
  obtain ⟨v', e, _⟩ := hr.sub (L := none) (H := some (.int jk i)) (M := none) (lo := 0) (hi := i) .none (.some _ _) (.none _) (Nat.zero_le _) hi
  refine go_some e (hk v' fun h' m' => ?_)
  have := rd_sub C.cod (ls_of h' (.refl _) m') e (lo := 0) (hi := i) .none (.some _ _) (.none _) (Nat.zero_le _) hi
  rw [List.drop_zero] at this
  exact this
theorem go_subFrom' {jk : IntKind} (h : Sat w0 L w) [m : LsIn v L α f es ty l] [C : CodC f es] (hi : i ≤ l.length) (hk : ∀ v', (∀ {L' : List HP} {w' : World}, Sat w0 L' w' → LsIn v L' α f es ty l → Rd w' es v' (l.drop i).length ((l.drop i).flatMap f)) → k v') : bindP (pSliceL es v (some (.int jk i)) none none) k := by
  have hr := ls_of h (.refl _) m
  obtain ⟨v', e, _⟩ := hr.sub (L := some (.int jk i)) (H := none) (M := none) (lo := i) (hi := l.length) (.some _ _) .none (.none _) hi (Nat.le_refl _)
  refine go_some e (hk v' fun h' m' => ?_)
  have := rd_sub C.cod (ls_of h' (.refl _) m') e (lo := i) (hi := l.length) (.some _ _) .none (.none _) hi (Nat.le_refl _)
  rw [List.take_length] at this
  exact this
theorem Sat.nilLs (f : α → List Value) (es : Nat) (ty : TypeId) (h : Sat w0 L w) : Sat w0 (LsH f es ty (.slice none 0 0) ([] : List α) :: L) w := Sat.nilsl h
end
class RdIn (w0 : World) (L : List HP) (v : Value) (α : outParam Type) (f : outParam (α → List Value)) (es : outParam Nat) (l : outParam (List α)) : Prop where
  rd : ∀ w, Sat w0 L w → Rd w es v l.length (l.flatMap f)
instance {w0 : World} {L : List HP} {v : Value} {α : Type} {f : α → List Value} {es : Nat} {ty : TypeId} {l : List α} : RdIn w0 (LsH f es ty v l :: L) v α f es l := ⟨fun _ h => ls_rd h⟩
instance (priority := low) {w0 : World} {L : List HP} {X : HP} {v : Value} {α : Type} {f : α → List Value} {es : Nat} {l : List α} [m : RdIn w0 L v α f es l] : RdIn w0 (X :: L) v α f es l := ⟨fun w h => m.rd w h.drop⟩
theorem RdIn.arg {w0 : World} {L : List HP} {v : Value} {α : Type} {f : α → List Value} {es : Nat} {l : List α} (h : Rd w0 es v l.length (l.flatMap f)) : RdIn w0 L v α f es l := ⟨fun _ hs => h.sat hs⟩
section
variable {w0 w w1 : World} {L M : List HP} {k : Value → Prop} {K : Value → World → Prop} {α : Type} {f : α → List Value} {es i j n : Nat} {ty : TypeId} {v x : Value} {l : List α} {l' : List Value}
theorem go_lenR (h : Sat w0 L w) [m : RdIn w0 L v α f es l] (hk : k (.int .i64 l.length)) : bindP (lenL v) k := go_some (m.rd w h).len hk
theorem go_ixR (h : Sat w0 L w) [m : RdIn w0 L v α f es l] (hi : i < l.length) (hk : k (elP es v i)) : bindP (pIndexL es v (.int .i64 i)) k := go_some (ix_el (m.rd w h) hi) hk
theorem go_elR (h : Sat w0 L w) [e : SameC w w1] [m : RdIn w0 L v α f es l] (hc : CodC f es) (hi : i < l.length) (hk : k (.agg (f l[i]).toArray)) : bindP (ldN es (elP es v i) w1) k := go_some (rd_ld hc.cod (m.rd _ (h.to e.same)) hi) hk
theorem go_faR (h : Sat w0 L w) [m : RdIn w0 L v α f es l] (hc : CodC f es) (hi : i < l.length) (hj : j < es) (hk : k (elF es v i j)) : bindP (pFieldAddr j (elP es v i)) k := go_some (rd_fa hc.cod (m.rd w h) hi hj) hk
theorem go_f1R (h : Sat w0 L w) [e : SameC w w1] [m : RdIn w0 L v α f es l] (hc : CodC f es) (hi : i < l.length) (hx : Nth (f l[i]) j x) (hk : k x) : bindP (ld1 (elF es v i j) w1) k := go_some (rd_f1 hc.cod (m.rd _ (h.to e.same)) hi hx) hk
theorem go_fNR (h : Sat w0 L w) [e : SameC w w1] [m : RdIn w0 L v α f es l] (hc : CodC f es) (hi : i < l.length) (hp : Part (f l[i]) j n l') (hk : k (.agg l'.toArray)) : bindP (ldN n (elF es v i j) w1) k := go_some (rd_fN hc.cod (m.rd _ (h.to e.same)) hi hp) hk
theorem go_rf1R {x' : Value} {X : Prop} (h : Sat w0 L w) [e : SameC w w1] [m : RdIn w0 L v α f es l] (hc : CodC f es) (hi : i < l.length) (hx : Nth (f l[i]) j x) (hv : x = x') (hX : X) : fok true (ld1 (elF es v i j) w1) x' ∧ X := by
  subst hv; exact ⟨by rw [fok_true]; exact rd_f1 hc.cod (m.rd _ (h.to e.same)) hi hx, hX⟩
theorem go_relR {x' : Value} {X : Prop} (h : Sat w0 L w) [e : SameC w w1] [m : RdIn w0 L v α f es l] (hc : CodC f es) (hi : i < l.length) (hv : .agg (f l[i]).toArray = x') (hX : X) : fok true (ldN es (elP es v i) w1) x' ∧ X := by
  subst hv; exact ⟨by rw [fok_true]; exact rd_ld hc.cod (m.rd _ (h.to e.same)) hi, hX⟩
theorem go_rlenR {x' : Value} {X : Prop} (h : Sat w0 L w) [m : RdIn w0 L v α f es l] (hv : .int .i64 l.length = x') (hX : X) : fok true (lenL v) x' ∧ X := by
  subst hv; exact ⟨by rw [fok_true]; exact (m.rd w h).len, hX⟩
theorem rd_e1 (C : Cod f 1) (h : Rd w 1 v l.length (l.flatMap f)) (hi : i < l.length) (hx : Nth (f l[i]) 0 x) : ld1 (elP 1 v i) w = some x := by
  obtain ⟨b, o, h1, _, h3⟩ := h.elem C.len rfl hi (j := .i64)
  have e : elP 1 v i = .pointer (some ⟨b, o, none⟩) := by simp [elP, h1]
  rw [e, ld1_ptr]
  rcases h3 0 with h | h
  · rw [show o + 0 = o from rfl] at h
    rw [h]; exact hx.get
  · omega
theorem go_e1R (h : Sat w0 L w) [e : SameC w w1] [m : RdIn w0 L v α f 1 l] (hc : CodC f 1) (hi : i < l.length) (hx : Nth (f l[i]) 0 x) (hk : k x) : bindP (ld1 (elP 1 v i) w1) k := go_some (rd_e1 hc.cod (m.rd _ (h.to e.same)) hi hx) hk
theorem go_re1R {x' : Value} {X : Prop} (h : Sat w0 L w) [e : SameC w w1] [m : RdIn w0 L v α f 1 l] (hc : CodC f 1) (hi : i < l.length) (hx : Nth (f l[i]) 0 x) (hv : x = x') (hX : X) : fok true (ld1 (elP 1 v i) w1) x' ∧ X := by
  subst hv; exact ⟨by rw [fok_true]; exact rd_e1 hc.cod (m.rd _ (h.to e.same)) hi hx, hX⟩
end
end Go.Sx

/- Sz14 -/
namespace Go.Sx
instance : CodC cI 1 := ⟨CI⟩
instance (n : Int) : Nth (cI n) 0 (.int .i64 n) := ⟨rfl⟩
section
variable {w0 w w1 : World} {L M : List HP} {k : Value → Prop} {K : Value → World → Prop} {α : Type} {f : α → List Value} {es i j n : Nat} {ty : TypeId} {v : Value} {l : List α}
end
end Go.Sx

/- Sz15 -/
namespace Go.Sx
open Go
end Go.Sx

/- So2 -/
set_option linter.all false
namespace Go.Sx
open Go.Proofs Go.Maps
abbrev Rany : Value → Option (DataW Unit × List MemPlace) := fun _ => some (.nil, [])
section
variable {κ ν : Type} {ek : κ → Value} {ev : ν → Value} {m : List (κ × ν)} {w0 w : World} {L : List HP} {v : Value} {P : Program} {k : TypeId}
theorem map_own (kl : κ → Lit) (hk : ∀ x ∈ m, keyOf P k (ek x.1) = some (kl x.1)) (hinj : ∀ x y, ek x = ek y → x = y) (h : Sat w0 (MapH ek ev v m :: L) w) (hl : m.length ≤ maxLen) :
    ∃ b D, v = .map (some b) ∧ b < w.heap.size ∧ w.ownsMap P k Rany b m.length D ∧ (∃ es, D = .map es ∧ (es.map Prod.fst).Perm (m.map fun x => kl x.1)) := by
  obtain ⟨r, es, clock, ⟨rfl, hm⟩, hs⟩ := map_iff.1 h
  have hlen : es.size = m.length := by
    have := congrArg List.length hm.kv
    simpa using this
  have hkeys : es.toList.map (·.key) = m.map fun x => ek x.1 := by
    have := congrArg (List.map Prod.fst) hm.kv
    simpa [List.map_map, Function.comp_def] using this
  have hkd : ((m.map Prod.fst).map ek).Nodup := by
    refine List.pairwise_map.2 (hm.kd.imp fun hne e => hne (hinj _ _ e))
  have hrd : ∀ x ∈ es.toList, ∃ y ∈ m, x.key = ek y.1 := by
    intro x hx
    have : x.key ∈ es.toList.map (·.key) := List.mem_map.2 ⟨x, hx, rfl⟩
    rw [hkeys] at this
    obtain ⟨y, hy, e⟩ := List.mem_map.1 this
    exact ⟨y, hy, e.symm⟩
  have hrg : ∀ x ∈ es.toList, ∀ y ∈ m, x.key = ek y.1 → WideElems.rd P k Rany x = some (kl y.1, (.nil : DataW Unit)) := by
    intro x hx y hy e
    simp [WideElems.rd, e, hk y hy, Rany]
  refine ⟨r, _, rfl, lt_of_blk hs.blk, ⟨es, clock, hs.blk, ⟨by omega, ⟨hm.lt, hm.nd, ?_⟩, ?_⟩, by omega, rfl⟩, _, rfl, ?_⟩
  · rw [hkeys]
    simpa [List.map_map, Function.comp_def] using hkd
  · intro x hx
    obtain ⟨y, hy, e⟩ := hrd x hx
    exact ⟨_, hrg x hx y hy e⟩
  · have h1 : ((es.toList.map (WideElems.rg P k Rany)).foldr DataW.insert []).Perm (es.toList.map (WideElems.rg P k Rany)) := WideShapes.sorted_perm _
    refine (h1.map Prod.fst).trans ?_
    have h2 : (es.toList.map (WideElems.rg P k Rany)).map Prod.fst = m.map fun x => kl x.1 := by
      rw [List.map_map]
      have h3 : ∀ (l : List MapEntry) (n : List (κ × ν)), (∀ x ∈ l, x ∈ es.toList) → (∀ y ∈ n, y ∈ m) → l.map (·.key) = n.map (fun x => ek x.1) → l.map (Prod.fst ∘ WideElems.rg P k Rany) = n.map fun x => kl x.1 := by
        intro l
        induction l with
        | nil => intro n _ _ e; cases n with
          | nil => rfl
          | cons a n => simp at e
        | cons x l ih =>
          intro n hx hn e
          cases n with
          | nil => simp at e
          | cons y n =>
            simp only [List.map_cons, List.cons.injEq] at e ⊢
            refine ⟨?_, ih n (fun z hz => hx z (List.mem_cons_of_mem _ hz)) (fun z hz => hn z (List.mem_cons_of_mem _ hz)) e.2⟩
            simp [WideElems.rg, hrg x (hx x (by simp)) y (hn y (by simp)) e.1]
      exact h3 _ _ (fun _ h => h) (fun _ h => h) hkeys
    rw [h2]
end
theorem stp_of_below {w w' : World} (h : RowKit.Below w.heap.size w w') (fp : List Nat) (hf : ∀ b ∈ fp, w.heap.size ≤ b) : Stp [] fp w w' :=
  ⟨⟨h.os, h.tape, h.output, h.size, fun b hb _ => h.block b hb⟩, fun x hx => .inr (hf x hx)⟩
theorem Sat.row {w0 w w' : World} {L : List HP} {ty : TypeId} {es n : Nat} {v : Value} {xs : List Value} (h : Sat w0 L w) (hb : RowKit.Below w.heap.size w w') (hr : w'.ownsRow w.heap.size ty es v n xs) : Sat w0 (SlH es ty v n xs :: L) w' := by
  rcases hr with ⟨hx, ⟨rfl, rfl⟩ | ⟨g, cap, cur, rfl, hg, hc, h1, h2, h3, h4⟩⟩
  · obtain rfl : xs = [] := List.eq_nil_of_length_eq_zero (by simpa using hx)
    exact h.ofOwn .nil (stp_of_below hb [] (by simp))
  · exact h.ofOwn (.blk (b := g) (o := 0) (cap := cap) hc h1 (by omega) (by simpa using h4.symm)) (stp_of_below hb [g] (by simpa using hg))
def gSortedI (g : Nat) (ty : TypeId) : FnT := fun args w K => ∃ (ν : Type) (ev : ν → Value) (m : List (Int × ν)) (mv : Value) (bx : Nat) (mt : TypeId) (w0 : World) (L : List HP),
  args = [.func (.func g) #[] #[ptr bx]] ∧ Sat w0 (Cl bx #[mv] mt :: MapH (Value.int .i64) ev mv m :: L) w ∧ (∀ x ∈ m, -9223372036854775808 ≤ x.1 ∧ x.1 ≤ 9223372036854775807) ∧ m.length ≤ 17592186044416 ∧
  ∀ l v w', l.Perm (m.map Prod.fst) → l.Pairwise (· ≤ ·) → Sat w0 (LsH cI 1 ty v l :: Cl bx #[mv] mt :: MapH (Value.int .i64) ev mv m :: L) w' → K v w'
theorem okSortedI {P : Program} {ρk ρs ρt : Go.Shelf.Ren} {f g : Nat} {ty : TypeId} (Kl : SlLaysZI.n7 P ρk) (S : SlLaysZI.n6 P ρs) (T : SlLaysM.n5 P ρt) (hf : ρs.f 6 = f) (hg : ρk.f 10 = g) (ht : ρs.t 26 = ty) (hst : ρs.f 9 = ρt.f 5)
    (ef : ∀ args w, (callFunc f args).run P w = .ok (.enter f args) w) (e9 : ∀ args w, (callFunc (ρt.f 5) args).run P w = .ok (.enter (ρt.f 5) args) w) (eg : ∀ args w, (callFunc g args).run P w = .ok (.enter g args) w) : OkF P f (gSortedI g ty) := by
  subst hf hg ht
  intro args w K ⟨ν, ev, m, mv, bx, mt, w0, L, ha, hs, hr, hl, hk⟩
  subst ha
  refine .inl ⟨ef _ _, ?_⟩
  have hml : m.length ≤ maxLen := by unfold maxLen; omega
  have hs2 := hs.drop
  obtain ⟨b, D, rfl, hb, hown, es, rfl, hp⟩ := map_own (P := P) (k := ρk.t 26) (fun x => .int .i64 x) (fun x hx => keyOf_int_mk Kl.t26 (by
    have := hr x hx
    simp [Lit.wf, IntKind.min, IntKind.max, IntKind.signed, IntKind.bits]; omega)) (fun x y e => by cases e; rfl) hs2 hml
  have hsz : Maps.size (.map es : DataW Unit) = m.length := by
    have := hp.length_eq
    simpa [Maps.size] using this
  have hik : intKeys (.map es : DataW Unit) = (es.map Prod.fst).map intOf := by simp [intKeys]
  have hpk : (intKeys (.map es : DataW Unit)).Perm (m.map Prod.fst) := by
    rw [hik]
    refine (hp.map intOf).trans ?_
    rw [List.map_map]
    exact List.Perm.of_eq (List.map_congr_left fun x _ => rfl)
  have hcell : w.cell? ⟨bx, 0, none⟩ = some (.map (some b)) := by rw [cell_of hs.cl]; rfl
  have hseq := AnyZI.keys_gives (ρ := ρk) { Kl with } Fence.wide 2 trivial rfl (by omega) bx b m.length (.map es) w (lt_of_blk hs.cl) hcell hown
  have hsort : AnyZI.SortsIn P ρs Fence.wide (5 - 1) := by
    constructor
    · intro blk off cap ss W hH hblk hsz
      rw [hst]
      exact callsIn_wide.2 (AnyM.slices_Sort_int T blk off cap ss W hH hblk hsz)
    · intro p cap W
      rw [hst]
      exact callsIn_wide.2 (AnyM.slices_Sort_int_none T p cap W)
  have hcon := callsIn_wide.1 (AnyZI.sorted_in S Fence.wide 5 trivial trivial trivial trivial rfl (by omega) hsort (by rw [hst]; exact e9) (ρk.f 10) #[.pointer (some ⟨bx, 0, none⟩)] trivial eg _ _ (by rw [hsz]; exact hml) (by rw [hsz]; omega) w hseq)
  refine hcon.mono ?_
  rintro e w' ⟨v, ss, rfl, hS, hrow, _, hbl⟩
  refine ⟨_, rfl, hk (ss.mergeSort fun x y => decide (x ≤ y)) v w' (((List.mergeSort_perm ss _).trans hS).trans hpk) ?_ ?_⟩
  · have := List.pairwise_mergeSort (le := fun x y : Int => decide (x ≤ y)) (fun a b c h1 h2 => by simp at *; omega) (fun a b => by simp; omega) ss
    exact this.imp fun h => by simpa using h
  · have := hs.row hbl hrow
    unfold LsH
    have e1 : (ss.mergeSort fun x y => decide (x ≤ y)).flatMap cI = (ss.mergeSort fun x y => decide (x ≤ y)).map encZ := by
      induction (ss.mergeSort fun x y => decide (x ≤ y)) with
      | nil => rfl
      | cons a l ih => simp [List.flatMap_cons, cI, encZ, ih]
    rw [e1, List.length_mergeSort]
    exact this
theorem sortedI_sat {g : Nat} {ty : TypeId} {ν : Type} {ev : ν → Value} {m : List (Int × ν)} {mv : Value} {bx : Nat} {mt : TypeId} {w0 w : World} {L : List HP} {K : Value → World → Prop} (h : Sat w0 (Cl bx #[mv] mt :: MapH (Value.int .i64) ev mv m :: L) w)
    (hr : ∀ x ∈ m, -9223372036854775808 ≤ x.1 ∧ x.1 ≤ 9223372036854775807) (hl : m.length ≤ 17592186044416)
    (hK : ∀ l v w', l.Perm (m.map Prod.fst) → l.Pairwise (· ≤ ·) → Sat w0 (LsH cI 1 ty v l :: Cl bx #[mv] mt :: MapH (Value.int .i64) ev mv m :: L) w' → K v w') : callP (gSortedI g ty) [.func (.func g) #[] #[ptr bx]] w K :=
  callP_intro ⟨ν, ev, m, mv, bx, mt, w0, L, rfl, h, hr, hl, hK⟩
end Go.Sx

/- Ty -/
namespace Go.Proofs.Gong
open Go Go.Sx Go.Proofs
set_option linter.all false
set_option maxRecDepth 100000
variable {kn kr : ET} {ke : JT}
theorem mixed : Tryz.prog.follows .mixedOrders = true := by kernel_rfl
theorem z3 : fZero Tryz.prog 3 = some (.int .i64 0) := by kernel_rfl
theorem ub4 : Tryz.prog.underlying 4 = some .bool := by kernel_rfl
theorem z4 : fZero Tryz.prog 4 = some (.bool false) := by kernel_rfl
theorem z5 : fZero Tryz.prog 5 = some (.int .u8 0) := by kernel_rfl
theorem z9 : fZero Tryz.prog 9 = some (.string ⟨#[]⟩) := by kernel_rfl
theorem z22 : fZero Tryz.prog 22 = some (.slice none 0 0) := by kernel_rfl
theorem up23 : Tryz.prog.underlying 23 = some (.pointer 71) := by kernel_rfl
theorem z23 : fZero Tryz.prog 23 = some (.pointer none) := by kernel_rfl
theorem z24 : fZero Tryz.prog 24 = some (.int .i64 0) := by kernel_rfl
theorem up27 : Tryz.prog.underlying 27 = some (.pointer 45) := by kernel_rfl
theorem z27 : fZero Tryz.prog 27 = some (.pointer none) := by kernel_rfl
theorem z32 : fZero Tryz.prog 32 = some (.agg #[(.string ⟨#[]⟩), (.string ⟨#[]⟩), (.string ⟨#[]⟩), (.int .i64 0), (.string ⟨#[]⟩)]) := by kernel_rfl
theorem z33 : fZero Tryz.prog 33 = some (.agg #[(.string ⟨#[]⟩), (.string ⟨#[]⟩), (.string ⟨#[]⟩), (.int .i64 0), (.string ⟨#[]⟩)]) := by kernel_rfl
theorem u34 : Tryz.prog.underlying 34 = some (.slice 3) := by kernel_rfl
theorem ss34 : isSS Tryz.prog 34 = true := by kernel_rfl
theorem sl34 : SlT Tryz.prog 34 3 1 8 := .of (by kernel_rfl) (by kernel_rfl) (by kernel_rfl) (by omega) (by omega)
theorem z35 : fZero Tryz.prog 35 = some (.agg #[(.int .i64 0), (.int .i64 0), (.string ⟨#[]⟩), (.string ⟨#[]⟩), (.int .i64 0), (.string ⟨#[]⟩), (.string ⟨#[]⟩), (.string ⟨#[]⟩), (.int .i64 0), (.string ⟨#[]⟩), (.slice none 0 0)]) := by kernel_rfl
theorem z36 : fZero Tryz.prog 36 = some (.agg #[(.int .i64 0), (.int .i64 0), (.string ⟨#[]⟩), (.string ⟨#[]⟩), (.int .i64 0), (.string ⟨#[]⟩), (.string ⟨#[]⟩), (.string ⟨#[]⟩), (.int .i64 0), (.string ⟨#[]⟩), (.slice none 0 0)]) := by kernel_rfl
theorem u37 : Tryz.prog.underlying 37 = some (.slice 36) := by kernel_rfl
theorem ss37 : isSS Tryz.prog 37 = true := by kernel_rfl
theorem sl37 : SlT Tryz.prog 37 36 11 152 := .of (by kernel_rfl) (by kernel_rfl) (by kernel_rfl) (by omega) (by omega)
theorem z44 : fZero Tryz.prog 44 = some (.agg #[(.int .i64 0), (.int .i64 0), (.slice none 0 0)]) := by kernel_rfl
theorem z63 : fZero Tryz.prog 63 = some (.pointer none) := by kernel_rfl
theorem um68 : Tryz.prog.underlying 68 = some (.map 3 36) := by kernel_rfl
theorem um69 : Tryz.prog.underlying 69 = some (.map 74 3) := by kernel_rfl
theorem z74 : fZero Tryz.prog 74 = some (.agg #[(.int .i64 0), (.string ⟨#[]⟩), (.string ⟨#[]⟩)]) := by kernel_rfl
theorem um88 : Tryz.prog.underlying 88 = some (.map 3 3) := by kernel_rfl
theorem u89 : Tryz.prog.underlying 89 = some (.slice 97) := by kernel_rfl
theorem ss89 : isSS Tryz.prog 89 = true := by kernel_rfl
theorem sl89 : SlT Tryz.prog 89 97 2 16 := .of (by kernel_rfl) (by kernel_rfl) (by kernel_rfl) (by omega) (by omega)
theorem z97 : fZero Tryz.prog 97 = some (.agg #[(.int .i64 0), (.int .i64 0)]) := by kernel_rfl
theorem u142 : Tryz.prog.underlying 142 = some (.slice 5) := by kernel_rfl
theorem eqv33 (x y : Operand) (a0 b0 : ByteArray) (a1 b1 : ByteArray) (a2 b2 : ByteArray) (a3 b3 : Int) (a4 b4 : ByteArray) : bEqv Tryz.prog 33 x y (.agg #[.string a0, .string a1, .string a2, .int .i64 a3, .string a4]) (.agg #[.string b0, .string b1, .string b2, .int .i64 b3, .string b4]) = andO (some (sEq a0 b0)) (andO (some (sEq a1 b1)) (andO (some (sEq a2 b2)) (andO (some (a3 == b3)) (andO (some (sEq a4 b4)) (some true))))) := by kernel_rfl
theorem eq33 (x y : Operand) (a0 b0 : ByteArray) (a1 b1 : ByteArray) (a2 b2 : ByteArray) (a3 b3 : Int) (a4 b4 : ByteArray) : bEq Tryz.prog 33 x y (.agg #[.string a0, .string a1, .string a2, .int .i64 a3, .string a4]) (.agg #[.string b0, .string b1, .string b2, .int .i64 b3, .string b4]) = some (.bool ((sEq a0 b0) && ((sEq a1 b1) && ((sEq a2 b2) && ((a3 == b3) && ((sEq a4 b4) && true)))))) := by simp only [bEq, eqv33, andO_some, Option.map_some]
theorem ne33 (x y : Operand) (a0 b0 : ByteArray) (a1 b1 : ByteArray) (a2 b2 : ByteArray) (a3 b3 : Int) (a4 b4 : ByteArray) : bNe Tryz.prog 33 x y (.agg #[.string a0, .string a1, .string a2, .int .i64 a3, .string a4]) (.agg #[.string b0, .string b1, .string b2, .int .i64 b3, .string b4]) = some (.bool (!((sEq a0 b0) && ((sEq a1 b1) && ((sEq a2 b2) && ((a3 == b3) && ((sEq a4 b4) && true))))))) := by simp only [bNe, eqv33, andO_some, Option.map_some]
theorem eqv74 (x y : Operand) (a0 b0 : Int) (a1 b1 : ByteArray) (a2 b2 : ByteArray) : bEqv Tryz.prog 74 x y (.agg #[.int .i64 a0, .string a1, .string a2]) (.agg #[.int .i64 b0, .string b1, .string b2]) = andO (some (a0 == b0)) (andO (some (sEq a1 b1)) (andO (some (sEq a2 b2)) (some true))) := by kernel_rfl
theorem ne74 (x y : Operand) (a0 b0 : Int) (a1 b1 : ByteArray) (a2 b2 : ByteArray) : bNe Tryz.prog 74 x y (.agg #[.int .i64 a0, .string a1, .string a2]) (.agg #[.int .i64 b0, .string b1, .string b2]) = some (.bool (!((a0 == b0) && ((sEq a1 b1) && ((sEq a2 b2) && true))))) := by simp only [bNe, eqv74, andO_some, Option.map_some]
end Go.Proofs.Gong

/- Fb -/
namespace Go.Proofs.Gong
open Go Go.Sx Go.Proofs
set_option linter.all false
set_option maxRecDepth 100000
variable {kn kr : ET} {ke : JT}
theorem fb33  : fBuild Tryz.prog 33 [] = some (.agg #[(.string ⟨#[]⟩), (.string ⟨#[]⟩), (.string ⟨#[]⟩), (.int .i64 0), (.string ⟨#[]⟩)]) := by kernel_rfl
theorem fb33_0_1_2 (x0 : ByteArray) (x1 : ByteArray) (x2 : ByteArray) : fBuild Tryz.prog 33 [(0, (.string x0)), (1, (.string x1)), (2, (.string x2))] = some (.agg #[.string x0, .string x1, .string x2, (.int .i64 0), (.string ⟨#[]⟩)]) := by kernel_rfl
theorem fb36  : fBuild Tryz.prog 36 [] = some (.agg #[(.int .i64 0), (.int .i64 0), (.string ⟨#[]⟩), (.string ⟨#[]⟩), (.int .i64 0), (.string ⟨#[]⟩), (.string ⟨#[]⟩), (.string ⟨#[]⟩), (.int .i64 0), (.string ⟨#[]⟩), (.slice none 0 0)]) := by kernel_rfl
theorem fb36_2 (x0 : ByteArray) : fBuild Tryz.prog 36 [(2, (.string x0))] = some (.agg #[(.int .i64 0), (.int .i64 0), .string x0, (.string ⟨#[]⟩), (.int .i64 0), (.string ⟨#[]⟩), (.string ⟨#[]⟩), (.string ⟨#[]⟩), (.int .i64 0), (.string ⟨#[]⟩), (.slice none 0 0)]) := by kernel_rfl
theorem fb67_0 (x0 : Option Addr) : fBuild Tryz.prog 67 [(0, (.pointer x0))] = some (.agg #[.pointer x0]) := by kernel_rfl
theorem fb71_0_1_2_3_4 (x1 : Option Addr) (x2 : Int) (x3 : Int) (x4 : Option Nat) (x5 : Option Nat) : fBuild Tryz.prog 71 [(0, (.agg #[.pointer x1])), (1, (.int .i64 x2)), (2, (.int .i64 x3)), (3, (.map x4)), (4, (.map x5))] = some (.agg #[.pointer x1, .int .i64 x2, .int .i64 x3, .map x4, .map x5]) := by kernel_rfl
theorem fb74_0_1_2 (x0 : Int) (x1 : ByteArray) (x2 : ByteArray) : fBuild Tryz.prog 74 [(0, (.int .i64 x0)), (1, (.string x1)), (2, (.string x2))] = some (.agg #[.int .i64 x0, .string x1, .string x2]) := by kernel_rfl
end Go.Proofs.Gong

/- Al0 -/
namespace Go.Proofs.Gong
open Go Go.Sx Go.Proofs
set_option maxRecDepth 100000
section
variable {κ ν : Type} [DecidableEq κ] {k : κ} {x : ν} {m : List (κ × ν)}
theorem aGet_none_of {k : κ} {m : List (κ × ν)} (h : ∀ y, (k, y) ∉ m) : aGet k m = none := by
  cases hg : aGet k m with
  | none => rfl
  | some y => exact absurd (aGet_mem hg) (h y)
theorem aSet_new {k : κ} {x : ν} : ∀ {m : List (κ × ν)}, aGet k m = none → aSet k x m = m ++ [(k, x)]
  | [], _ => rfl
  | z :: r, h => by
    unfold aGet at h
    by_cases hk : k = z.1
    · simp [hk] at h
    · simp only [hk, if_false] at h
      simp [aSet, hk, aSet_new h]
theorem aDel_perm {k : κ} {x : ν} : ∀ {m : List (κ × ν)}, aGet k m = some x → ((k, x) :: aDel k m).Perm m
  | [], h => by simp [aGet] at h
  | z :: r, h => by
    unfold aGet at h
    by_cases hk : k = z.1
    · simp only [hk, if_true, Option.some.injEq] at h
      subst h
      simp [aDel, hk]
    · simp only [hk, if_false] at h
      simp only [aDel, hk, if_false]
      exact (List.Perm.swap _ _ _).trans ((aDel_perm h).cons z)
theorem aSet_perm {k : κ} {x y : ν} : ∀ {m : List (κ × ν)}, aGet k m = some y → (aSet k x m).Perm ((k, x) :: aDel k m)
  | [], h => by simp [aGet] at h
  | z :: r, h => by
    unfold aGet at h
    by_cases hk : k = z.1
    · simp [aSet, aDel, hk]
    · simp only [hk, if_false] at h
      simp only [aDel, aSet, hk, if_false]
      exact ((aSet_perm h).cons z).trans (List.Perm.swap _ _ _)
theorem aSet_id {k : κ} {x : ν} : ∀ {m : List (κ × ν)}, aGet k m = some x → aSet k x m = m
  | [], h => by simp [aGet] at h
  | z :: r, h => by
    unfold aGet at h
    by_cases hk : k = z.1
    · simp only [hk, if_true, Option.some.injEq] at h
      subst h
      simp [aSet, hk]
    · simp only [hk, if_false] at h
      simp [aSet, hk, aSet_id h]
end
end Go.Proofs.Gong

/- Hp0 -/
namespace Go.Proofs.Gong
open Go.Sx
abbrev It := Int × Int
def itLt (x y : It) : Bool := decide (x.2 < y.2) || (decide (x.2 = y.2) && decide (x.1 < y.1))
theorem itSWO : SWO itLt := by
  constructor
  · rintro ⟨a, b⟩ ⟨c, d⟩ h; simp [itLt] at *; omega
  · rintro ⟨a, b⟩ ⟨c, d⟩ ⟨e, f⟩ h1 h2; simp [itLt] at *; omega
theorem itTot (a b : It) (h1 : itLt a b = false) (h2 : itLt b a = false) : a = b := by
  rcases a with ⟨a1, a2⟩; rcases b with ⟨b1, b2⟩
  simp only [itLt, Bool.or_eq_false_iff, decide_eq_false_iff_not, Bool.and_eq_false_iff] at h1 h2
  have e1 : a2 = b2 := by omega
  have e2 : a1 = b1 := by omega
  rw [e1, e2]
abbrev Pl := List (Int × Int)
def upL (x : It) (l : List It) (m : Pl) (i : Nat) : List It × Pl :=
  if h : 0 < i then
    match l[(i - 1) / 2]? with
    | some y => if itLt x y then upL x (l.set i y) (aSet y.1 i m) ((i - 1) / 2) else (l.set i x, aSet x.1 i m)
    | none => (l.set i x, aSet x.1 i m)
  else (l.set i x, aSet x.1 i m)
termination_by i
decreasing_by omega
def kidOf (l : List It) (i : Nat) : Nat := match l[2 * i + 1]?, l[2 * i + 2]? with
  | some y, some z => if itLt z y then 2 * i + 2 else 2 * i + 1
  | _, _ => 2 * i + 1
theorem kidOf_gt (l : List It) (i : Nat) : i < kidOf l i := by unfold kidOf; split <;> (try split) <;> omega
def downL (x : It) (l : List It) (m : Pl) (i : Nat) : List It × Pl :=
  if h : 2 * i + 1 < l.length then
    match l[kidOf l i]? with
    | some y => if itLt y x then downL x (l.set i y) (aSet y.1 i m) (kidOf l i) else (l.set i x, aSet x.1 i m)
    | none => (l.set i x, aSet x.1 i m)
  else (l.set i x, aSet x.1 i m)
termination_by l.length - i
decreasing_by have := kidOf_gt l i; simp; omega
structure Idx (l : List It) (m : Pl) : Prop where
  a : ∀ id j, aGet id m = some j → ∃ (k : Nat) (t : Int), j = k ∧ l[k]? = some (id, t)
  b : ∀ (k : Nat) (x : It), l[k]? = some x → aGet x.1 m = some (k : Int)
theorem Idx.inj {l : List It} {m : Pl} (h : Idx l m) {i j : Nat} {x y : It} (hi : l[i]? = some x) (hj : l[j]? = some y) (e : x.1 = y.1) : i = j := by
  have h1 := h.b i x hi
  have h2 := h.b j y hj
  rw [e, h2] at h1
  simp at h1; omega
theorem Idx.ext {l : List It} {m m' : Pl} (h : Idx l m) (e : ∀ k, aGet k m' = aGet k m) : Idx l m' :=
  ⟨fun id j hj => h.a id j (by rw [← e]; exact hj), fun k x hx => by rw [e]; exact h.b k x hx⟩
theorem Idx.move {l : List It} {m : Pl} {i a : Nat} {x y : It} (hi : i < l.length) (ha : l[a]? = some y) (hne : a ≠ i) (h : Idx (l.set i x) (aSet x.1 i m)) :
    Idx ((l.set i y).set a x) (aSet x.1 a (aSet y.1 i m)) := by
  have hal : a < l.length := (List.getElem?_eq_some_iff.1 ha).1
  have hxi : (l.set i x)[i]? = some x := by simp [hi]
  have hya : (l.set i x)[a]? = some y := by rw [List.getElem?_set_ne (Ne.symm hne)]; exact ha
  have hxy : x.1 ≠ y.1 := fun e => hne (h.inj hya hxi e.symm)
  have get : ∀ k, ((l.set i y).set a x)[k]? = if k = a then some x else if k = i then some y else l[k]? := by
    intro k
    simp only [List.getElem?_set, List.length_set]
    by_cases h1 : a = k
    · subst h1; simp [hal]
    · by_cases h2 : i = k
      · subst h2; simp [h1, hi, Ne.symm h1]
      · simp [h1, h2, Ne.symm h1, Ne.symm h2]
  have old : ∀ k, k ≠ i → (l.set i x)[k]? = l[k]? := fun k hk => List.getElem?_set_ne (Ne.symm hk)
  constructor
  · intro id j hj
    rw [aGet_set] at hj
    by_cases e1 : id = x.1
    · simp [e1] at hj; subst hj
      exact ⟨a, x.2, rfl, by rw [get]; simp [e1]⟩
    · simp only [e1, if_false] at hj
      rw [aGet_set] at hj
      by_cases e2 : id = y.1
      · simp [e2] at hj; subst hj
        exact ⟨i, y.2, rfl, by rw [get]; simp [Ne.symm hne, e2]⟩
      · simp only [e2, if_false] at hj
        obtain ⟨k, t, hk, hl⟩ := h.a id j (by rw [aGet_set]; simp [e1, hj])
        refine ⟨k, t, hk, ?_⟩
        have k1 : k ≠ a := fun e => by subst e; rw [hya] at hl; cases hl; exact e2 rfl
        have k2 : k ≠ i := fun e => by subst e; rw [hxi] at hl; cases hl; exact e1 rfl
        rw [get]; simp only [k1, k2, if_false]
        rw [← old k k2]; exact hl
  · intro k z hz
    rw [get] at hz
    by_cases k1 : k = a
    · simp [k1] at hz; subst hz; subst k1; rw [aGet_set]; simp
    · simp only [k1, if_false] at hz
      by_cases k2 : k = i
      · simp [k2] at hz; subst hz; subst k2; rw [aGet_set, aGet_set]; simp [Ne.symm hxy]
      · simp only [k2, if_false] at hz
        rw [← old k k2] at hz
        have e1 : z.1 ≠ x.1 := fun e => k2 (h.inj hz hxi e)
        have e2 : z.1 ≠ y.1 := fun e => k1 (h.inj hz hya e)
        have := h.b k z hz
        rw [aGet_set] at this ⊢
        simp only [e1, if_false] at this ⊢
        rw [aGet_set]; simp only [e2, if_false]; exact this
theorem set_move_perm {l : List It} {i a : Nat} {x y : It} (hi : i < l.length) (ha : l[a]? = some y) (hne : a ≠ i) : ((l.set i y).set a x).Perm (l.set i x) := by
  have hal : a < l.length := (List.getElem?_eq_some_iff.1 ha).1
  have e : (l.set i y).set a x = swapL (l.set i x) i a := by
    rw [swapL_eq (by simpa using hi) (by simpa using hal)]
    have h1 : (l.set i x)[a]'(by simpa using hal) = y := by
      have := (List.getElem?_eq_some_iff.1 ha).2
      rw [List.getElem_set_ne (Ne.symm hne)]; exact this
    have h2 : (l.set i x)[i]'(by simpa using hi) = x := by simp
    rw [h1, h2, List.set_set]
  rw [e]
  exact swapL_perm (by simpa using hi) (by simpa using hal)
def okAt (l : List It) (k : Nat) : Prop := ∀ x y, l[k]? = some x → l[(k - 1) / 2]? = some y → itLt x y = false
structure Up (l : List It) (i : Nat) (x : It) : Prop where
  o : ∀ k, 0 < k → k ≠ i → (k - 1) / 2 ≠ i → okAt l k
  c : ∀ k y z, 0 < k → 0 < i → (k - 1) / 2 = i → l[k]? = some y → l[(i - 1) / 2]? = some z → itLt y z = false
structure Dn (l : List It) (i : Nat) (x : It) : Prop where
  o : ∀ k, 0 < k → k ≠ i → (k - 1) / 2 ≠ i → okAt l k
  p : ∀ y, 0 < i → l[(i - 1) / 2]? = some y → itLt x y = false
  c : ∀ k y z, 0 < k → 0 < i → (k - 1) / 2 = i → l[k]? = some y → l[(i - 1) / 2]? = some z → itLt y z = false
theorem get_set (l : List It) (i k : Nat) (x : It) (hi : i < l.length) : (l.set i x)[k]? = if k = i then some x else l[k]? := by
  rw [List.getElem?_set]
  by_cases h : i = k
  · subst h; simp [hi]
  · simp [h, Ne.symm h]
theorem up_ok : ∀ (i : Nat) (x : It) (l : List It) (m : Pl), i < l.length → Up l i x → Idx (l.set i x) (aSet x.1 i m) →
    ∃ p, (upL x l m i).1[p]? = some x ∧ Dn (upL x l m i).1 p x ∧ Idx (upL x l m i).1 (upL x l m i).2 ∧ (upL x l m i).1.Perm (l.set i x) := by
  intro i
  induction i using Nat.strongRecOn with
  | ind i ih =>
    intro x l m hi hU hI
    have stop : (∀ y, 0 < i → l[(i - 1) / 2]? = some y → itLt x y = false) → ∃ p, (l.set i x)[p]? = some x ∧ Dn (l.set i x) p x ∧ Idx (l.set i x) (aSet x.1 i m) ∧ (l.set i x).Perm (l.set i x) := by
      intro hp
      refine ⟨i, by simp [hi], ⟨?_, ?_, ?_⟩, hI, .refl _⟩
      · intro k h1 h2 h3 a b ha hb
        rw [get_set _ _ _ _ hi, if_neg h2] at ha
        rw [get_set _ _ _ _ hi, if_neg h3] at hb
        exact hU.o k h1 h2 h3 a b ha hb
      · intro y h0 hy
        rw [get_set _ _ _ _ hi, if_neg (by omega)] at hy
        exact hp y h0 hy
      · intro k y z h1 h0 h2 hy hz
        rw [get_set _ _ _ _ hi, if_neg (by omega)] at hy
        rw [get_set _ _ _ _ hi, if_neg (by omega)] at hz
        exact hU.c k y z h1 h0 h2 hy hz
    rw [upL]
    by_cases h0 : 0 < i
    · simp only [h0, dif_pos]
      have hal : (i - 1) / 2 < l.length := by omega
      have hy : l[(i - 1) / 2]? = some l[(i - 1) / 2] := List.getElem?_eq_getElem hal
      rw [hy]
      simp only
      generalize hyy : l[(i - 1) / 2] = y at hy
      by_cases hlt : itLt x y = true
      · rw [if_pos hlt]
        have hne : (i - 1) / 2 ≠ i := by omega
        have hU' : Up (l.set i y) ((i - 1) / 2) x := by
          refine ⟨?_, ?_⟩
          · intro k h1 h2 h3 a b ha hb
            rw [get_set _ _ _ _ hi] at ha hb
            by_cases k1 : k = i
            · subst k1; exact absurd rfl h3
            · rw [if_neg k1] at ha
              by_cases k2 : (k - 1) / 2 = i
              · rw [if_pos k2] at hb; cases hb
                exact hU.c k a _ h1 h0 k2 ha hy
              · rw [if_neg k2] at hb
                exact hU.o k h1 k1 k2 a b ha hb
          · intro k a b h1 h4 h2 ha hb
            rw [get_set _ _ _ _ hi] at ha hb
            rw [if_neg (by omega)] at hb
            by_cases k1 : k = i
            · rw [if_pos k1] at ha; cases ha
              exact hU.o ((i - 1) / 2) h4 hne (by omega) _ b hy hb
            · rw [if_neg k1] at ha
              have o1 := hU.o k h1 k1 (by omega) a y ha (by rw [h2]; exact hy)
              have o2 := hU.o ((i - 1) / 2) h4 hne (by omega) y b hy hb
              exact itSWO.tr b y a o2 o1
        obtain ⟨p, e1, e2, e3, e4⟩ := ih ((i - 1) / 2) (by omega) x (l.set i y) (aSet y.1 i m) (by simpa using hal) hU' (hI.move hi hy hne)
        exact ⟨p, e1, e2, e3, e4.trans (set_move_perm hi hy hne)⟩
      · rw [if_neg hlt]
        exact stop fun z _ hz => by rw [hy] at hz; cases hz; simpa using hlt
    · simp only [h0, dif_neg, not_false_eq_true]
      exact stop fun z h _ => absurd h h0
theorem kidOf_spec (l : List It) (i : Nat) (h : 2 * i + 1 < l.length) : ∃ y, l[kidOf l i]? = some y ∧ (kidOf l i - 1) / 2 = i ∧ 0 < kidOf l i ∧ ∀ k z, 0 < k → (k - 1) / 2 = i → l[k]? = some z → itLt z y = false := by
  have h1 : l[2 * i + 1]? = some l[2 * i + 1] := List.getElem?_eq_getElem h
  unfold kidOf
  rw [h1]
  by_cases h2 : 2 * i + 2 < l.length
  · have h3 : l[2 * i + 2]? = some l[2 * i + 2] := List.getElem?_eq_getElem h2
    rw [h3]
    simp only
    by_cases hlt : itLt l[2 * i + 2] l[2 * i + 1] = true
    · rw [if_pos hlt]
      refine ⟨_, h3, by omega, by omega, fun k z hk0 hk hz => ?_⟩
      have : k = 2 * i + 1 ∨ k = 2 * i + 2 := by omega
      rcases this with rfl | rfl
      · rw [h1] at hz; cases hz; exact itSWO.asym _ _ hlt
      · rw [h3] at hz; cases hz; exact itSWO.irr _
    · rw [if_neg hlt]
      refine ⟨_, h1, by omega, by omega, fun k z hk0 hk hz => ?_⟩
      have : k = 2 * i + 1 ∨ k = 2 * i + 2 := by omega
      rcases this with rfl | rfl
      · rw [h1] at hz; cases hz; exact itSWO.irr _
      · rw [h3] at hz; cases hz; simpa using hlt
  · rw [List.getElem?_eq_none (l := l) (i := 2 * i + 2) (by omega)]
    simp only
    refine ⟨_, h1, by omega, by omega, fun k z hk0 hk hz => ?_⟩
    have := (List.getElem?_eq_some_iff.1 hz).1
    have : k = 2 * i + 1 := by omega
    subst this; rw [h1] at hz; cases hz; exact itSWO.irr _
def Hp (l : List It) : Prop := ∀ k, 0 < k → okAt l k
theorem down_ok : ∀ (d i : Nat) (x : It) (l : List It) (m : Pl), l.length - i < d → i < l.length → Dn l i x → Idx (l.set i x) (aSet x.1 i m) →
    Hp (downL x l m i).1 ∧ Idx (downL x l m i).1 (downL x l m i).2 ∧ (downL x l m i).1.Perm (l.set i x) := by
  intro d
  induction d with
  | zero => intro i x l m hd; omega
  | succ d ih =>
    intro i x l m hd hi hD hI
    have stop : (∀ k z, 0 < k → (k - 1) / 2 = i → l[k]? = some z → itLt z x = false) → Hp (l.set i x) ∧ Idx (l.set i x) (aSet x.1 i m) ∧ (l.set i x).Perm (l.set i x) := by
      intro hk
      refine ⟨fun k h0 a b ha hb => ?_, hI, .refl _⟩
      rw [get_set _ _ _ _ hi] at ha hb
      by_cases k1 : k = i
      · rw [if_pos k1] at ha; cases ha
        rw [if_neg (by omega)] at hb
        subst k1; exact hD.p b h0 hb
      · rw [if_neg k1] at ha
        by_cases k2 : (k - 1) / 2 = i
        · rw [if_pos k2] at hb; cases hb
          exact hk k a h0 k2 ha
        · rw [if_neg k2] at hb
          exact hD.o k h0 k1 k2 a b ha hb
    rw [downL]
    by_cases h : 2 * i + 1 < l.length
    · simp only [h, dif_pos]
      obtain ⟨y, hy, hc, hc0, hmin⟩ := kidOf_spec l i h
      have hgt := kidOf_gt l i
      rw [hy]; simp only
      generalize kidOf l i = c at *
      have hcl : c < l.length := (List.getElem?_eq_some_iff.1 hy).1
      by_cases hlt : itLt y x = true
      · rw [if_pos hlt]
        have hne : c ≠ i := by omega
        have hD' : Dn (l.set i y) c x := by
          refine ⟨?_, ?_, ?_⟩
          · intro k h1 h2 h3 a b ha hb
            rw [get_set _ _ _ _ hi] at ha hb
            by_cases k1 : k = i
            · rw [if_pos k1] at ha; cases ha
              rw [if_neg (by omega)] at hb
              exact hD.c c _ b hc0 (by omega) hc hy (by rw [← k1]; exact hb)
            · rw [if_neg k1] at ha
              by_cases k2 : (k - 1) / 2 = i
              · rw [if_pos k2] at hb; cases hb
                exact hmin k a h1 k2 ha
              · rw [if_neg k2] at hb
                exact hD.o k h1 k1 k2 a b ha hb
          · intro b h0 hb
            rw [get_set _ _ _ _ hi, hc, if_pos rfl] at hb; cases hb
            exact itSWO.asym _ _ hlt
          · intro k a b h1 h0 h2 ha hb
            rw [get_set _ _ _ _ hi, hc, if_pos rfl] at hb; cases hb
            rw [get_set _ _ _ _ hi, if_neg (by omega)] at ha
            exact hD.o k h1 (by omega) (by omega) a _ ha (by rw [h2]; exact hy)
        obtain ⟨e1, e2, e3⟩ := ih c x (l.set i y) (aSet y.1 i m) (by simp; omega) (by simpa using hcl) hD' (hI.move hi hy hne)
        exact ⟨e1, e2, e3.trans (set_move_perm hi hy hne)⟩
      · rw [if_neg hlt]
        refine stop fun k z h0 hk hz => ?_
        have := hmin k z h0 hk hz
        exact itSWO.tr _ _ _ (by simpa using hlt) this
    · simp only [h, dif_neg, not_false_eq_true]
      refine stop fun k z h0 hk hz => ?_
      have := (List.getElem?_eq_some_iff.1 hz).1
      omega
theorem upL_len : ∀ (i : Nat) (x : It) (l : List It) (m : Pl), (upL x l m i).1.length = l.length := by
  intro i
  induction i using Nat.strongRecOn with
  | ind i ih =>
    intro x l m
    rw [upL]
    split
    · split
      · split
        · rw [ih _ (by omega)]; simp
        · simp
      · simp
    · simp
theorem fix_ok {l : List It} {m : Pl} {i : Nat} {x : It} (hi : l[i]? = some x) (hU : Up l i x) (hI : Idx l m) :
    ∃ p, p < l.length ∧ aGet x.1 (upL x l m i).2 = some (p : Int) ∧ (upL x l m i).1[p]? = some x ∧
      Hp (downL x (upL x l m i).1 (upL x l m i).2 p).1 ∧ Idx (downL x (upL x l m i).1 (upL x l m i).2 p).1 (downL x (upL x l m i).1 (upL x l m i).2 p).2 ∧ (downL x (upL x l m i).1 (upL x l m i).2 p).1.Perm l := by
  have hil : i < l.length := (List.getElem?_eq_some_iff.1 hi).1
  have es : ∀ (l : List It) (i : Nat), l[i]? = some x → l.set i x = l := fun l i h => by
    obtain ⟨h1, h2⟩ := List.getElem?_eq_some_iff.1 h
    rw [← h2]; simp
  have em : ∀ (m : Pl) (i : Nat), aGet x.1 m = some (i : Int) → ∀ k, aGet k (aSet x.1 (i : Int) m) = aGet k m := fun m i h k => by
    rw [aGet_set]; split
    · rename_i e; rw [e, h]
    · rfl
  obtain ⟨p, e1, e2, e3, e4⟩ := up_ok i x l m hil hU (by rw [es l i hi]; exact hI.ext (em m i (hI.b i x hi)))
  have hp : p < (upL x l m i).1.length := (List.getElem?_eq_some_iff.1 e1).1
  have hg := e3.b p x e1
  obtain ⟨g1, g2, g3⟩ := down_ok _ p x (upL x l m i).1 (upL x l m i).2 (Nat.lt_succ_self _) hp e2 (by rw [es _ p e1]; exact e3.ext (em _ p hg))
  refine ⟨p, by rw [upL_len] at hp; exact hp, hg, e1, g1, g2, g3.trans ?_⟩
  rw [es _ p e1]; rw [es l i hi] at e4; exact e4
end Go.Proofs.Gong

/- Hp1 -/
namespace Go.Proofs.Gong
open Go.Sx
def Asc (M : List It) : Prop := M.Pairwise fun x y => itLt y x = false
def dropM (id : Int) (M : List It) : List It := M.filter fun x => decide (x.1 ≠ id)
def insM (x : It) (M : List It) : List It := M.takeWhile (fun y => itLt y x) ++ x :: M.dropWhile (fun y => itLt y x)
def getM (id : Int) (M : List It) : Option Int := (M.find? fun x => decide (x.1 = id)).map (·.2)
theorem insM_perm (x : It) (M : List It) : (insM x M).Perm (x :: M) := by
  unfold insM
  refine List.perm_middle.trans ?_
  rw [List.takeWhile_append_dropWhile]
theorem Asc.ins {M : List It} (h : Asc M) (x : It) : Asc (insM x M) := by
  induction M with
  | nil => simp [insM, Asc]
  | cons y M ih =>
    unfold Asc at h
    rw [List.pairwise_cons] at h
    obtain ⟨h1, h2⟩ := h
    by_cases hlt : itLt y x = true
    · have e : insM x (y :: M) = y :: insM x M := by simp [insM, hlt]
      rw [e]
      unfold Asc
      rw [List.pairwise_cons]
      refine ⟨fun z hz => ?_, ih h2⟩
      rcases List.mem_cons.1 ((insM_perm x M).subset hz) with rfl | hz
      · exact itSWO.asym _ _ hlt
      · exact h1 z hz
    · have e : insM x (y :: M) = x :: y :: M := by simp [insM, hlt]
      rw [e]
      unfold Asc
      rw [List.pairwise_cons]
      refine ⟨fun z hz => ?_, List.pairwise_cons.2 ⟨h1, h2⟩⟩
      rcases List.mem_cons.1 hz with rfl | hz
      · simpa using hlt
      · exact itSWO.tr _ _ _ (by simpa using hlt) (h1 z hz)
theorem Asc.drop {M : List It} (h : Asc M) (id : Int) : Asc (dropM id M) := List.Pairwise.sublist List.filter_sublist h
theorem Asc.eq {M N : List It} (h : Asc M) (h' : Asc N) (p : M.Perm N) : M = N := sorted_unique (lt := itLt) (fun a b h1 h2 => itTot a b h1 h2) p h h'
structure HRep (l : List It) (m : Pl) (M : List It) : Prop where
  i : Idx l m
  h : Hp l
  p : l.Perm M
  s : Asc M
theorem Hp.first {l : List It} (h : Hp l) {x : It} (hx : l[0]? = some x) : ∀ y ∈ l, itLt y x = false := by
  have key : ∀ (k : Nat) (y : It), l[k]? = some y → itLt y x = false := by
    intro k
    induction k using Nat.strongRecOn with
    | ind k ih =>
      intro y hy
      by_cases h0 : 0 < k
      · have hk : k < l.length := (List.getElem?_eq_some_iff.1 hy).1
        have hz : l[(k - 1) / 2]? = some l[(k - 1) / 2] := List.getElem?_eq_getElem (by omega)
        exact itSWO.tr _ _ _ (ih _ (by omega) _ hz) (h k h0 y _ hy hz)
      · have : k = 0 := by omega
        subst this; rw [hx] at hy; cases hy; exact itSWO.irr _
  intro y hy
  obtain ⟨k, hk⟩ := List.getElem?_of_mem hy
  exact key k y hk
theorem HRep.first {l : List It} {m : Pl} {M : List It} (R : HRep l m M) : l.head? = M.head? := by
  cases l with
  | nil => have := R.p.length_eq; simp at this; rw [List.eq_nil_of_length_eq_zero this.symm]
  | cons x l =>
    cases M with
    | nil => have := R.p.length_eq; simp at this
    | cons y M =>
      have h1 := R.h.first (x := x) rfl y (R.p.symm.subset (by simp))
      have h2 : itLt x y = false := by
        rcases List.mem_cons.1 (R.p.subset (show x ∈ x :: l by simp)) with e | e
        · rw [e]; exact itSWO.irr _
        · exact (List.pairwise_cons.1 R.s).1 x e
      have := itTot x y h2 h1
      simp [this]
theorem HRep.ids {l : List It} {m : Pl} {M : List It} (R : HRep l m M) : (M.map (·.1)).Nodup := by
  have : (l.map (·.1)).Nodup := by
    rw [List.nodup_iff_pairwise_ne, List.pairwise_iff_getElem]
    intro i j hi hj hij e
    simp at hi hj e
    have := R.i.inj (List.getElem?_eq_getElem hi) (List.getElem?_eq_getElem hj) e
    omega
  exact (R.p.map _).nodup this
theorem find_of {M : List It} {id t : Int} (hn : (M.map (·.1)).Nodup) (hm : (id, t) ∈ M) : getM id M = some t := by
  induction M with
  | nil => simp at hm
  | cons x M ih =>
    simp only [List.map_cons, List.nodup_cons] at hn
    rcases List.mem_cons.1 hm with rfl | hm
    · simp [getM]
    · have : x.1 ≠ id := fun e => hn.1 (by rw [e]; exact List.mem_map_of_mem (f := (·.1)) hm)
      have := ih hn.2 hm
      unfold getM at *
      rw [List.find?_cons, decide_eq_false ‹x.1 ≠ id›]
      exact this
theorem find_none {M : List It} {id : Int} (h : ∀ t, (id, t) ∉ M) : getM id M = none := by
  unfold getM
  rw [Option.map_eq_none_iff, List.find?_eq_none]
  intro x hx
  simp
  intro e
  exact h x.2 (by rw [← e]; exact hx)
theorem HRep.get {l : List It} {m : Pl} {M : List It} (R : HRep l m M) (id : Int) :
    (∃ (k : Nat) (t : Int), aGet id m = some (k : Int) ∧ l[k]? = some (id, t) ∧ getM id M = some t) ∨ (aGet id m = none ∧ getM id M = none ∧ ∀ t, (id, t) ∉ M) := by
  cases h : aGet id m with
  | some j =>
    obtain ⟨k, t, rfl, hl⟩ := R.i.a id j h
    exact .inl ⟨k, t, rfl, hl, find_of R.ids (R.p.subset (List.mem_of_getElem? hl))⟩
  | none =>
    have hn : ∀ t, (id, t) ∉ M := by
      intro t ht
      obtain ⟨k, hk⟩ := List.getElem?_of_mem (R.p.symm.subset ht)
      have := R.i.b k _ hk
      simp [h] at this
    exact .inr ⟨rfl, find_none hn, hn⟩
theorem drop_absent {M : List It} {id : Int} (h : ∀ t, (id, t) ∉ M) : dropM id M = M := by
  unfold dropM
  rw [List.filter_eq_self]
  intro x hx
  simp
  intro e
  exact h x.2 (by rw [← e]; exact hx)
theorem drop_perm {M : List It} {id t : Int} (hn : (M.map (·.1)).Nodup) (hm : (id, t) ∈ M) : ((id, t) :: dropM id M).Perm M := by
  induction M with
  | nil => simp at hm
  | cons x M ih =>
    simp only [List.map_cons, List.nodup_cons] at hn
    rcases List.mem_cons.1 hm with rfl | hm'
    · have : dropM id ((id, t) :: M) = dropM id M := by simp [dropM]
      rw [this, drop_absent fun t' h => hn.1 (List.mem_map_of_mem (f := (·.1)) h)]
    · have hne : x.1 ≠ id := fun e => hn.1 (by rw [e]; exact List.mem_map_of_mem (f := (·.1)) hm')
      have : dropM id (x :: M) = x :: dropM id M := by simp [dropM, hne]
      rw [this]
      exact (List.Perm.swap _ _ _).trans ((ih hn.2 hm').cons x)
end Go.Proofs.Gong

/- Hp2 -/
namespace Go.Proofs.Gong
open Go.Sx
def setM (id t : Int) (M : List It) : List It := insM (id, t) (dropM id M)
theorem set_perm {l : List It} {k : Nat} {x y : It} (hk : l[k]? = some y) : (y :: l.set k x).Perm (x :: l) := by
  obtain ⟨h1, h2⟩ := List.getElem?_eq_some_iff.1 hk
  have e1 : l = l.take k ++ y :: l.drop (k + 1) := by rw [← h2, List.getElem_cons_drop, List.take_append_drop]
  have e2 : l.set k x = l.take k ++ x :: l.drop (k + 1) := by rw [List.set_eq_take_append_cons_drop, if_pos h1]
  rw [e2]
  refine (List.perm_middle.cons y).trans ?_
  refine (List.Perm.swap _ _ _).trans ?_
  refine List.Perm.cons x ?_
  refine List.perm_middle.symm.trans ?_
  rw [← e1]
theorem Hp.up_set {l : List It} (h : Hp l) {k : Nat} {x : It} (hk : k < l.length) : Up (l.set k x) k x := by
  have hy : l[k]? = some l[k] := List.getElem?_eq_getElem hk
  constructor
  · intro j h0 h1 h2 a b ha hb
    rw [get_set _ _ _ _ hk, if_neg h1] at ha
    rw [get_set _ _ _ _ hk, if_neg h2] at hb
    exact h j h0 a b ha hb
  · intro j y z h0 h1 h2 hy' hz
    rw [get_set _ _ _ _ hk, if_neg (by omega)] at hy'
    rw [get_set _ _ _ _ hk, if_neg (by omega)] at hz
    have a1 := h j h0 y l[k] hy' (by rw [h2]; exact hy)
    have a2 := h k h1 l[k] z hy hz
    exact itSWO.tr _ _ _ a2 a1
theorem aSet_same {m : Pl} {id : Int} {j : Int} (h : aGet id m = some j) (k : Int) : aGet k (aSet id j m) = aGet k m := by
  rw [aGet_set]; split
  · rename_i e; rw [e, h]
  · rfl
theorem HRep.put {l : List It} {m : Pl} {M : List It} (R : HRep l m M) {k : Nat} {id t t' : Int} (hl : l[k]? = some (id, t)) :
    Up (l.set k (id, t')) k (id, t') ∧ Idx (l.set k (id, t')) (aSet id k m) ∧ (l.set k (id, t')).Perm (setM id t' M) := by
  have hk : k < l.length := (List.getElem?_eq_some_iff.1 hl).1
  refine ⟨R.h.up_set hk, ?_, ?_⟩
  · have h0 := R.i
    have hg := R.i.b k _ hl
    constructor
    · intro id' j hj
      rw [aSet_same hg] at hj
      obtain ⟨k', t'', rfl, h2⟩ := h0.a id' j hj
      by_cases e : k' = k
      · subst e; rw [hl] at h2; cases h2
        exact ⟨k', t', rfl, by simp [hk]⟩
      · exact ⟨k', t'', rfl, by rw [get_set _ _ _ _ hk, if_neg e]; exact h2⟩
    · intro j y hy
      rw [aSet_same hg]
      rw [get_set _ _ _ _ hk] at hy
      by_cases e : j = k
      · rw [if_pos e] at hy; cases hy; subst e; exact hg
      · rw [if_neg e] at hy; exact h0.b j y hy
  · have h1 := set_perm (x := (id, t')) hl
    have hm : (id, t) ∈ M := R.p.subset (List.mem_of_getElem? hl)
    have h2 : ((id, t') :: l).Perm ((id, t) :: (id, t') :: dropM id M) := ((R.p.trans (drop_perm R.ids hm).symm).cons _).trans (List.Perm.swap _ _ _)
    have h3 := (h1.trans h2).cons_inv
    exact h3.trans (insM_perm _ _).symm
theorem HRep.add {l : List It} {m : Pl} {M : List It} (R : HRep l m M) {id t' : Int} (hn : aGet id m = none) :
    Up (l ++ [(id, t')]) l.length (id, t') ∧ Idx (l ++ [(id, t')]) (aSet id l.length m) ∧ (l ++ [(id, t')]).Perm (setM id t' M) := by
  have hnm : ∀ t, (id, t) ∉ M := by
    rcases R.get id with ⟨k, t, h, _⟩ | ⟨_, _, h⟩
    · rw [hn] at h; cases h
    · exact h
  have get : ∀ k, (l ++ [(id, t')])[k]? = if k = l.length then some (id, t') else l[k]? := by
    intro k
    rw [List.getElem?_append]
    by_cases h1 : k < l.length
    · rw [if_pos h1, if_neg (by omega)]
    · rw [if_neg h1]
      by_cases h2 : k = l.length
      · simp [h2]
      · rw [if_neg h2, List.getElem?_eq_none (by simp; omega), List.getElem?_eq_none (by omega)]
  refine ⟨⟨?_, ?_⟩, ⟨?_, ?_⟩, ?_⟩
  · intro k h0 h1 h2 a b ha hb
    rw [get, if_neg h1] at ha
    rw [get, if_neg h2] at hb
    exact R.h k h0 a b ha hb
  · intro k y z h0 h1 h2 hy hz
    rw [get, if_neg (by omega)] at hy
    have := (List.getElem?_eq_some_iff.1 hy).1
    omega
  · intro id' j hj
    rw [aGet_set] at hj
    by_cases e : id' = id
    · simp [e] at hj; subst hj
      exact ⟨l.length, t', rfl, by rw [get]; simp [e]⟩
    · simp only [e, if_false] at hj
      obtain ⟨k, t, rfl, hk⟩ := R.i.a id' j hj
      have := (List.getElem?_eq_some_iff.1 hk).1
      exact ⟨k, t, rfl, by rw [get, if_neg (by omega)]; exact hk⟩
  · intro k x hx
    rw [get] at hx
    rw [aGet_set]
    by_cases e : k = l.length
    · rw [if_pos e] at hx; cases hx; simp [e]
    · rw [if_neg e] at hx
      have h1 := R.i.b k x hx
      have : x.1 ≠ id := fun e => by rw [e, hn] at h1; cases h1
      rw [if_neg this]; exact h1
  · refine List.Perm.trans ?_ (insM_perm _ _).symm
    rw [drop_absent hnm]
    exact List.perm_append_comm.trans (R.p.cons _)
theorem aGet_del {κ ν : Type} [DecidableEq κ] (k k' : κ) : ∀ {m : List (κ × ν)}, (m.map Prod.fst).Nodup → aGet k (aDel k' m) = if k = k' then none else aGet k m
  | [], _ => by simp [aDel, aGet]
  | y :: r, h => by
    simp only [List.map_cons, List.nodup_cons] at h
    by_cases h' : k' = y.1
    · have hn : aGet y.1 r = none := by
        cases hx : aGet y.1 r with
        | none => rfl
        | some v => exact absurd (List.mem_map_of_mem (f := Prod.fst) (aGet_mem hx)) h.1
      by_cases h1 : k = k'
      · simp [aDel, h', h1, hn]
      · have : ¬ k = y.1 := fun e => h1 (e.trans h'.symm)
        simp [aDel, aGet, h', this]
    · by_cases h1 : k = y.1
      · have : ¬ k = k' := fun e => h' (e.symm.trans h1)
        have : ¬ y.1 = k' := fun e => h' e.symm
        simp [aDel, aGet, h', h1, this]
      · simp [aDel, aGet, h', h1, aGet_del k k' h.2]
theorem dropLast_get (l : List It) (k : Nat) : l.dropLast[k]? = if k + 1 < l.length then l[k]? else none := by
  rw [List.dropLast_eq_take, List.getElem?_take]
  by_cases h : k < l.length - 1
  · rw [if_pos h, if_pos (by omega)]
  · rw [if_neg h, if_neg (by omega)]
theorem HRep.dropLast {l : List It} {m : Pl} {M : List It} (R : HRep l m M) (hd : (m.map Prod.fst).Nodup) {id t : Int} (hl : l[l.length - 1]? = some (id, t)) : HRep l.dropLast (aDel id m) (dropM id M) := by
  have hlen : 0 < l.length := by have := (List.getElem?_eq_some_iff.1 hl).1; omega
  have hm : (id, t) ∈ M := R.p.subset (List.mem_of_getElem? hl)
  refine ⟨⟨?_, ?_⟩, ?_, ?_, R.s.drop id⟩
  · intro id' j hj
    rw [aGet_del _ _ hd] at hj
    by_cases e : id' = id
    · simp [e] at hj
    · simp only [e, if_false] at hj
      obtain ⟨k, t', rfl, hk⟩ := R.i.a id' j hj
      refine ⟨k, t', rfl, ?_⟩
      have := (List.getElem?_eq_some_iff.1 hk).1
      have hne : k ≠ l.length - 1 := fun e' => by subst e'; rw [hl] at hk; cases hk; exact e rfl
      rw [dropLast_get, if_pos (by omega)]; exact hk
  · intro k x hx
    rw [dropLast_get] at hx
    split at hx
    · rename_i h1
      have h2 := R.i.b k x hx
      have : x.1 ≠ id := fun e => by have := R.i.inj hx hl e; omega
      rw [aGet_del _ _ hd, if_neg this]; exact h2
    · cases hx
  · intro k h0 a b ha hb
    rw [dropLast_get] at ha hb
    split at ha
    · split at hb
      · exact R.h k h0 a b ha hb
      · cases hb
    · cases ha
  · have e : l = l.dropLast ++ [(id, t)] := by
      have hne : l ≠ [] := fun e => by simp [e] at hlen
      have := List.dropLast_concat_getLast hne
      rw [List.getLast_eq_getElem] at this
      have h2 := (List.getElem?_eq_some_iff.1 hl).2
      rw [h2] at this; exact this.symm
    have h1 : ((id, t) :: l.dropLast).Perm ((id, t) :: dropM id M) := by
      refine List.Perm.trans ?_ (R.p.trans (drop_perm R.ids hm).symm)
      conv => rhs; rw [e]
      exact (List.perm_append_comm (l₁ := [(id, t)]) (l₂ := l.dropLast))
    exact h1.cons_inv
theorem HRep.dropAt {l : List It} {m : Pl} {M : List It} (R : HRep l m M) (hd : (m.map Prod.fst).Nodup) {id t : Int} {i : Nat} {x : It} (hi : l[i]? = some (id, t)) (hx : l[l.length - 1]? = some x) (hlt : i + 1 < l.length) :
    Up (l.dropLast.set i x) i x ∧ Idx (l.dropLast.set i x) (aSet x.1 i (aDel id m)) ∧ (l.dropLast.set i x).Perm (dropM id M) := by
  have hm : (id, t) ∈ M := R.p.subset (List.mem_of_getElem? hi)
  have hil : i < l.dropLast.length := by simp; omega
  have hxid : x.1 ≠ id := fun e => by have := R.i.inj hx hi e; omega
  have hi' : l.dropLast[i]? = some (id, t) := by rw [dropLast_get, if_pos hlt]; exact hi
  have hh : Hp l.dropLast := by
    intro k h0 a b ha hb
    rw [dropLast_get] at ha hb
    split at ha
    · split at hb
      · exact R.h k h0 a b ha hb
      · cases hb
    · cases ha
  refine ⟨hh.up_set hil, ⟨?_, ?_⟩, ?_⟩
  · intro id' j hj
    rw [aGet_set] at hj
    by_cases e1 : id' = x.1
    · simp [e1] at hj; subst hj
      exact ⟨i, x.2, rfl, by rw [get_set _ _ _ _ hil]; simp [e1]⟩
    · simp only [e1, if_false] at hj
      rw [aGet_del _ _ hd] at hj
      by_cases e : id' = id
      · simp [e] at hj
      · simp only [e, if_false] at hj
        obtain ⟨k, t', rfl, hk⟩ := R.i.a id' j hj
        refine ⟨k, t', rfl, ?_⟩
        have := (List.getElem?_eq_some_iff.1 hk).1
        have h1 : k ≠ l.length - 1 := fun e' => by subst e'; rw [hx] at hk; cases hk; exact e1 rfl
        have h2 : k ≠ i := fun e' => by subst e'; rw [hi] at hk; cases hk; exact e rfl
        rw [get_set _ _ _ _ hil, if_neg h2, dropLast_get, if_pos (by omega)]; exact hk
  · intro k y hy
    rw [get_set _ _ _ _ hil] at hy
    rw [aGet_set]
    by_cases e : k = i
    · rw [if_pos e] at hy; cases hy; simp [e]
    · rw [if_neg e, dropLast_get] at hy
      split at hy
      · rename_i h1
        have h2 := R.i.b k y hy
        have n1 : y.1 ≠ x.1 := fun e' => by have := R.i.inj hy hx e'; omega
        have n2 : y.1 ≠ id := fun e' => by have := R.i.inj hy hi e'; omega
        rw [if_neg n1, aGet_del _ _ hd, if_neg n2]; exact h2
      · cases hy
  · have e : l = l.dropLast ++ [x] := by
      have hne : l ≠ [] := fun e => by simp [e] at hlt
      have := List.dropLast_concat_getLast hne
      rw [List.getLast_eq_getElem] at this
      have h2 := (List.getElem?_eq_some_iff.1 hx).2
      rw [h2] at this; exact this.symm
    have h1 := set_perm (x := x) hi'
    have h2 : (x :: l.dropLast).Perm ((id, t) :: dropM id M) := by
      refine List.Perm.trans ?_ (R.p.trans (drop_perm R.ids hm).symm)
      conv => rhs; rw [e]
      exact (List.perm_append_comm (l₁ := [x]) (l₂ := l.dropLast))
    exact (h1.trans h2).cons_inv
end Go.Proofs.Gong

/- Book -/
namespace Go.Proofs.Gong
open Go Go.Sx Go.Proofs
set_option linter.all false
set_option maxRecDepth 100000
variable {kn kr : ET} {ke : JT}
def T14 : List (Nat × FnT) := []
def F14 (x0 x1 : Value) (w : World) (K : V1) : Prop :=
bindP (bRem x0 x1) fun v1 =>
bindP (bAdd v1 x1) fun v2 =>
bindP (bRem v2 x1) fun v3 =>
K v3 w
def G14 : FnT := fun args w K => on2 (fun x0 x1 => F14 x0 x1 w K) args
theorem c14 {x0 x1 : Value} {w : World} {K : V1} (h : F14 x0 x1 w K) : callP G14 [x0, x1] w K := callP_intro (on2_mk (p := fun x0 x1 => F14 x0 x1 w K) h)
theorem ok14 : OkF Tryz.prog 14 G14 := by
  refine okF_of (tab_ok (l := T14) trivial) mixed (n := fuel) Tryz.func14 Tryz.call14 fun args w K h => ?_
  obtain ⟨x0, x1, rfl, hh⟩ := of_on2 h
  exact fnD_list (c := bodyOf Tryz.f14) (by kernel_rfl) (by kernel_rfl) (Eq.mp (by kernel_rfl) hh)
def T52 : List (Nat × FnT) := []
def F52 (x0 : Value) (w : World) (K : V1) : Prop :=
bindP (bGe x0 (.int .i64 0)) fun v1 =>
stepM (gd true v1) x0 fun v2 =>
Sx.stepG (gd true v1) (bLe v2 (.int .i64 2305843009213693952)) fun v3 =>
bindP (pPick v1 v3 (.bool false)) fun v4 =>
K v4 w
def G52 : FnT := fun args w K => on1 (fun x0 => F52 x0 w K) args
theorem c52 {x0 : Value} {w : World} {K : V1} (h : F52 x0 w K) : callP G52 [x0] w K := callP_intro (on1_mk (p := fun x0 => F52 x0 w K) h)
theorem ok52 : OkF Tryz.prog 52 G52 := by
  refine okF_of (tab_ok (l := T52) trivial) mixed (n := fuel) Tryz.func52 Tryz.call52 fun args w K h => ?_
  obtain ⟨x0, rfl, hh⟩ := of_on1 h
  exact fnD_list (c := bodyOf Tryz.f52) (by kernel_rfl) (by kernel_rfl) (Eq.mp (by kernel_rfl) hh)
end Go.Proofs.Gong

/- Heap -/
namespace Go.Proofs.Gong
open Go Go.Sx Go.Proofs
set_option linter.all false
set_option maxRecDepth 100000
variable {kn kr : ET} {ke : JT}
def T32 : List (Nat × FnT) := []
def F32 (x0 : Value) (w : World) (K : V1) : Prop :=
bindP (bLt x0 (.int .i64 1)) fun v1 =>
stepM (gd false v1) x0 fun v2 =>
Sx.stepG (gd false v1) (bGt v2 (.int .i64 65536)) fun v3 =>
bindP (pPick v1 (.bool true) v3) fun v4 =>
ifB v4 (
K (.tuple #[(.pointer none), (.int .i64 1)]) w) (
eMakeMap none w fun v6 w5 =>
bindP (fBuild Tryz.prog 91 [(0, x0), (2, v6)]) fun v7 =>
eBox 91 v7 w5 fun v9 w8 =>
K (.tuple #[v9, (.int .i64 0)]) w8)
def G32 : FnT := fun args w K => on1 (fun x0 => F32 x0 w K) args
theorem c32 {x0 : Value} {w : World} {K : V1} (h : F32 x0 w K) : callP G32 [x0] w K := callP_intro (on1_mk (p := fun x0 => F32 x0 w K) h)
theorem ok32 : OkF Tryz.prog 32 G32 := by
  refine okF_of (tab_ok (l := T32) trivial) mixed (n := fuel) Tryz.func32 Tryz.call32 fun args w K h => ?_
  obtain ⟨x0, rfl, hh⟩ := of_on1 h
  exact fnD_list (c := bodyOf Tryz.f32) (by kernel_rfl) (by kernel_rfl) (Eq.mp (by kernel_rfl) hh)
def T66 : List (Nat × FnT) := []
def F66 (x0 x1 x2 : Value) (w : World) (K : V1) : Prop :=
eBox 97 x2 w fun v2 w1 =>
bindP (pNil x0) fun v3 =>
bindP (pFieldAddr 1 v3) fun v4 =>
bindP (ld1 v4 w1.drew) fun v5 =>
bindP (ldN 2 v2 w1.drew) fun v6 =>
bindP (pIndexL 2 v5 x1) fun v7 =>
bindW (st 2 v7 v6 w1.drew) fun w8 =>
bindP (pNil x0) fun v10 =>
bindP (pFieldAddr 2 v10) fun v11 =>
bindP (ld1 v11 w8.drew) fun v12 =>
bindP (pFieldAddr 0 v2) fun v13 =>
bindP (ld1 v13 w8.drew) fun v14 =>
eMapSet Tryz.prog 88 v12 v14 x1 w8.drew fun _ w15 =>
K (.tuple #[]) w15
def G66 : FnT := fun args w K => on3 (fun x0 x1 x2 => F66 x0 x1 x2 w K) args
theorem c66 {x0 x1 x2 : Value} {w : World} {K : V1} (h : F66 x0 x1 x2 w K) : callP G66 [x0, x1, x2] w K := callP_intro (on3_mk (p := fun x0 x1 x2 => F66 x0 x1 x2 w K) h)
theorem ok66 : OkF Tryz.prog 66 G66 := by
  refine okF_of (tab_ok (l := T66) trivial) mixed (n := fuel) Tryz.func66 Tryz.call66 fun args w K h => ?_
  obtain ⟨x0, x1, x2, rfl, hh⟩ := of_on3 h
  exact fnD_list (c := bodyOf Tryz.f66) (by kernel_rfl) (by kernel_rfl) (Eq.mp (by kernel_rfl) hh)
def T91 : List (Nat × FnT) := []
def F91_3b (s3 : Value) (w : World) (K : V1) : Prop :=
K s3 w
def F91_3 (s3 : Value) (w : World) (K : V1) : Prop := F91_3b s3 w K
theorem ok91_3 {K : V1}
    (hn : HN (fun e w => K (e 2) w) kn) (hr : HR Tryz.prog [.tmp 2] K kr) (he : HE noE ke) :
    ∀ e w, F91_3 (e 3) w K → denL Tryz.prog (tabOf T91) 18 fuel ((flat (bodyOf Tryz.f91)).drop 4) e w kn kr ke := by
  intro e w h
  unfold F91_3 at h
  have e1 : ∀ (_ : Unit), F91_3b (e 3) w K = denL Tryz.prog (tabOf T91) 18 fuel ((flat (bodyOf Tryz.f91)).drop 4) e w (fun e w => K (e 2) w) (endD Tryz.prog [.tmp 2] K) noE := by intro _; kernel_rfl
  exact seg_end (Eq.mp (e1 ()) h) hn hr he
def F91_2b (s3 s6 s7 s8 : Value) (w : World) (K : V1) (Y0 : V4) (Y1 : V1) : Prop :=
bindP (bLt s8 s7) fun v1 =>
ifB v1 (
bindP (pIndexL 1 s6 s8) fun v2 =>
bindP (ld1 v2 w) fun v3 =>
bindP (bNe Tryz.prog 3 (.tmp 12) (.tmp 13) v3 s3) fun v4 =>
ifB v4 (
K v3 w) (
bindP (bAdd s8 (.int .i64 1)) fun v5 =>
Y0 s3 s6 s7 v5 w)) (
Y1 s3 w)
def F91_2L : Nat → Value → Value → Value → Value → World → (V1) → Prop
  | 0, _, _, _, _, _, _ => False
  | n + 1, s3, s6, s7, s8, w, K => F91_2b s3 s6 s7 s8 w K (fun a3 a6 a7 a8 w => F91_2L n a3 a6 a7 a8 w K) (fun a3 w => F91_3 a3 w K)
def F91_2 (s3 s6 s7 s8 : Value) (w : World) (K : V1) : Prop := F91_2L fuel s3 s6 s7 s8 w K
theorem ok91_2 {K : V1}
    (hn : HN (fun e w => K (e 2) w) kn) (hr : HR Tryz.prog [.tmp 2] K kr) (he : HE noE ke) :
    ∀ e w, F91_2 (e 3) (e 6) (e 7) (e 8) w K → denL Tryz.prog (tabOf T91) 18 fuel ((flat (bodyOf Tryz.f91)).drop 3) e w kn kr ke := by
  intro e w h
  unfold F91_2 at h
  refine seg_loop (id := 0) (body := (loopB (blkB (nthC (flat (bodyOf Tryz.f91)) 3)))) (l2 := (flat (bodyOf Tryz.f91)).drop 4) (by kernel_rfl) ?_
  refine loop_ok (FL := fun m e w => F91_2L m (e 3) (e 6) (e 7) (e 8) w K) (fr := endD Tryz.prog [.tmp 2] K) (fe := (blkK 0 (fun e w => F91_3 (e 3) w K) noE)) (fun _ _ h => h) ?_ hr (blkK_mono (fun e w h => ok91_3 hn hr he e w h) he) fuel e w h
  intro m e w h
  have h : F91_2L (m + 1) (e 3) (e 6) (e 7) (e 8) w K := h
  rw [F91_2L] at h
  have e1 : ∀ (Y0 : V4) (Y1 : V1), F91_2b (e 3) (e 6) (e 7) (e 8) w K Y0 Y1 = denL Tryz.prog (tabOf T91) 18 fuel (flat (loopB (blkB (nthC (flat (bodyOf Tryz.f91)) 3)))) e w (fun e w => Y0 (e 3) (e 6) (e 7) (e 8) w) (endD Tryz.prog [.tmp 2] K) (blkK 0 (fun e w => Y1 (e 3) w) noE) := by intro Y0 Y1; kernel_rfl
  exact Eq.mp (e1 (fun a3 a6 a7 a8 w => F91_2L m a3 a6 a7 a8 w K) (fun a3 w => F91_3 a3 w K)) h
def F91_1b (s0 : Value) (w : World) (_K : V1) (Y0 : V4) : Prop :=
bindP (lenL s0) fun v6 =>
Y0 (.int .i64 0) s0 v6 (.int .i64 0) w
def F91_1 (s0 : Value) (w : World) (K : V1) : Prop := F91_1b s0 w K (fun a3 a6 a7 a8 w => F91_2 a3 a6 a7 a8 w K)
theorem ok91_1 {K : V1}
    (hn : HN (fun e w => K (e 2) w) kn) (hr : HR Tryz.prog [.tmp 2] K kr) (he : HE noE ke) :
    ∀ e w, F91_1 (e 0) w K → denL Tryz.prog (tabOf T91) 18 fuel ((flat (bodyOf Tryz.f91)).drop 0) e w kn kr ke := by
  intro e w h
  unfold F91_1 at h
  have e1 : ∀ (Y0 : V4), F91_1b (e 0) w K Y0 = denL Tryz.prog (tabOf T91) 18 fuel (((flat (bodyOf Tryz.f91)).drop 0).take 3) e w (fun e w => Y0 (e 3) (e 6) (e 7) (e 8) w) (endD Tryz.prog [.tmp 2] K) noE := by intro Y0; kernel_rfl
  exact seg 3 (Eq.mp (e1 (fun a3 a6 a7 a8 w => F91_2 a3 a6 a7 a8 w K)) h) (fun e w h => ok91_2 hn hr he e w h) hr he
def F91 (x0 : Value) (w : World) (K : V1) : Prop := F91_1 x0 w K
def G91 : FnT := fun args w K => on1 (fun x0 => F91 x0 w K) args
theorem c91 {x0 : Value} {w : World} {K : V1} (h : F91 x0 w K) : callP G91 [x0] w K := callP_intro (on1_mk (p := fun x0 => F91 x0 w K) h)
theorem ok91 : OkF Tryz.prog 91 G91 := by
  refine okF_of (tab_ok (l := T91) trivial) mixed (n := fuel) Tryz.func91 Tryz.call91 fun args w K h => ?_
  obtain ⟨x0, rfl, hh⟩ := of_on1 h
  unfold F91 at hh
  exact fnD_list (c := bodyOf Tryz.f91) (by kernel_rfl) (by kernel_rfl) (ok91_1 (fun _ _ h => h) (fun _ _ h => h) (fun _ _ _ h => h) (initE [x0]) w hh)
def T75 : List (Nat × FnT) := []
def F75 (x0 : Value) (w : World) (K : V1) : Prop :=
bindP (bNe Tryz.prog 3 (.tmp 3) (.tmp 4) x0 x0) fun v1 =>
K v1 w
def G75 : FnT := fun args w K => on1 (fun x0 => F75 x0 w K) args
theorem c75 {x0 : Value} {w : World} {K : V1} (h : F75 x0 w K) : callP G75 [x0] w K := callP_intro (on1_mk (p := fun x0 => F75 x0 w K) h)
theorem ok75 : OkF Tryz.prog 75 G75 := by
  refine okF_of (tab_ok (l := T75) trivial) mixed (n := fuel) Tryz.func75 Tryz.call75 fun args w K h => ?_
  obtain ⟨x0, rfl, hh⟩ := of_on1 h
  exact fnD_list (c := bodyOf Tryz.f75) (by kernel_rfl) (by kernel_rfl) (Eq.mp (by kernel_rfl) hh)
def T92 : List (Nat × FnT) := [(75, G75)]
def F92 (x0 x1 : Value) (w : World) (K : V1) : Prop :=
callP G75 [x0] w fun v2 w1 =>
callP G75 [x1] w1 fun v4 w3 =>
ifB v2 (
ifB v4 (
K (.int .i64 0) w3) (
K (.int .i64 (-1)) w3)) (
ifB v4 (
K (.int .i64 1) w3) (
bindP (bLt x0 x1) fun v5 =>
ifB v5 (
K (.int .i64 (-1)) w3) (
bindP (bGt x0 x1) fun v6 =>
ifB v6 (
K (.int .i64 1) w3) (
K (.int .i64 0) w3))))
def G92 : FnT := fun args w K => on2 (fun x0 x1 => F92 x0 x1 w K) args
theorem c92 {x0 x1 : Value} {w : World} {K : V1} (h : F92 x0 x1 w K) : callP G92 [x0, x1] w K := callP_intro (on2_mk (p := fun x0 x1 => F92 x0 x1 w K) h)
theorem ok92 : OkF Tryz.prog 92 G92 := by
  refine okF_of (tab_ok (l := T92) ⟨ok75, trivial⟩) mixed (n := fuel) Tryz.func92 Tryz.call92 fun args w K h => ?_
  obtain ⟨x0, x1, rfl, hh⟩ := of_on2 h
  exact fnD_list (c := bodyOf Tryz.f92) (by kernel_rfl) (by kernel_rfl) (Eq.mp (by kernel_rfl) hh)
def T77 : List (Nat × FnT) := [(91, G91), (92, G92)]
def F77 (x0 x1 : Value) (w : World) (K : V1) : Prop :=
eBox 97 x0 w fun v2 w1 =>
eBox 97 x1 w1 fun v4 w3 =>
bindP (pFieldAddr 1 v2) fun v5 =>
bindP (ld1 v5 w3.drew) fun v6 =>
bindP (pFieldAddr 1 v4) fun v7 =>
bindP (ld1 v7 w3.drew) fun v8 =>
bindP (pFieldAddr 0 v2) fun v9 =>
bindP (ld1 v9 w3.drew) fun v10 =>
bindP (pFieldAddr 0 v4) fun v11 =>
bindP (ld1 v11 w3.drew) fun v12 =>
callP G92 [v6, v8] w3.drew fun v14 w13 =>
(fok true (ld1 v9 w13) v10 ∧ fok true (ld1 v11 w13) v12) ∧ (callP G92 [v10, v12] w13 fun v16 w15 =>
eBuildSl Tryz.prog 34 2 [(0, v14), (1, v16)] w15 fun v18 w17 =>
callP G91 [v18] w17 fun v20 w19 =>
K v20 w19)
def G77 : FnT := fun args w K => on2 (fun x0 x1 => F77 x0 x1 w K) args
theorem c77 {x0 x1 : Value} {w : World} {K : V1} (h : F77 x0 x1 w K) : callP G77 [x0, x1] w K := callP_intro (on2_mk (p := fun x0 x1 => F77 x0 x1 w K) h)
theorem ok77 : OkF Tryz.prog 77 G77 := by
  refine okF_of (tab_ok (l := T77) ⟨ok91, ok92, trivial⟩) mixed (n := fuel) Tryz.func77 Tryz.call77 fun args w K h => ?_
  obtain ⟨x0, x1, rfl, hh⟩ := of_on2 h
  exact fnD_list (c := bodyOf Tryz.f77) (by kernel_rfl) (by kernel_rfl) (Eq.mp (by kernel_rfl) hh)
def T67 : List (Nat × FnT) := [(66, G66), (77, G77)]
def F67_3b (s0 s1 s4 : Value) (w : World) (K : V1) : Prop :=
bindP (ldN 2 s4 w) fun v1 =>
callP G66 [s0, s1, v1] w fun _ w2 =>
K (.tuple #[]) w2
def F67_3 (s0 s1 s4 : Value) (w : World) (K : V1) : Prop := F67_3b s0 s1 s4 w K
theorem ok67_3 {K : V1}
    (hn : HN (fun e w => K (.tuple #[]) w) kn) (hr : HR Tryz.prog [] K kr) (he : HE noE ke) :
    ∀ e w, F67_3 (e 0) (e 1) (e 4) w K → denL Tryz.prog (tabOf T67) 43 fuel ((flat (bodyOf Tryz.f67)).drop 2) e w kn kr ke := by
  intro e w h
  unfold F67_3 at h
  have e1 : ∀ (_ : Unit), F67_3b (e 0) (e 1) (e 4) w K = denL Tryz.prog (tabOf T67) 43 fuel ((flat (bodyOf Tryz.f67)).drop 2) e w (fun e w => K (.tuple #[]) w) (endD Tryz.prog [] K) noE := by intro _; kernel_rfl
  exact seg_end (Eq.mp (e1 ()) h) hn hr he
def F67_2b (s0 s1 s4 : Value) (w : World) (_K : V1) (Y0 : V3) (Y1 : V3) : Prop :=
bindP (bGt s1 (.int .i64 0)) fun v4 =>
ifB v4 (
bindP (bSub s1 (.int .i64 1)) fun v5 =>
bindP (bQuo v5 (.int .i64 2)) fun v6 =>
bindP (pNil s0) fun v7 =>
bindP (pFieldAddr 1 v7) fun v8 =>
bindP (ld1 v8 w.drew) fun v9 =>
bindP (pIndexL 2 v9 v6) fun v10 =>
bindP (ldN 2 v10 w.drew) fun v11 =>
bindP (ldN 2 s4 w.drew) fun v12 =>
callP G77 [v11, v12] w.drew fun v14 w13 =>
bindP (bLe v14 (.int .i64 0)) fun v15 =>
ifB v15 (
Y0 s0 s1 s4 w13) (
bindP (pNil s0) fun v16 =>
bindP (pFieldAddr 1 v16) fun v17 =>
bindP (ld1 v17 w13) fun v18 =>
bindP (pIndexL 2 v18 v6) fun v19 =>
bindP (ldN 2 v19 w13) fun v20 =>
callP G66 [s0, s1, v20] w13 fun _ w21 =>
Y1 s0 v6 s4 w21)) (
Y0 s0 s1 s4 w)
def F67_2L : Nat → Value → Value → Value → World → (V1) → Prop
  | 0, _, _, _, _, _ => False
  | n + 1, s0, s1, s4, w, K => F67_2b s0 s1 s4 w K (fun a0 a1 a4 w => F67_3 a0 a1 a4 w K) (fun a0 a1 a4 w => F67_2L n a0 a1 a4 w K)
def F67_2 (s0 s1 s4 : Value) (w : World) (K : V1) : Prop := F67_2L fuel s0 s1 s4 w K
theorem ok67_2 {K : V1}
    (hn : HN (fun e w => K (.tuple #[]) w) kn) (hr : HR Tryz.prog [] K kr) (he : HE noE ke) :
    ∀ e w, F67_2 (e 0) (e 1) (e 4) w K → denL Tryz.prog (tabOf T67) 43 fuel ((flat (bodyOf Tryz.f67)).drop 1) e w kn kr ke := by
  intro e w h
  unfold F67_2 at h
  refine seg_loop (id := 0) (body := (loopB (blkB (nthC (flat (bodyOf Tryz.f67)) 1)))) (l2 := (flat (bodyOf Tryz.f67)).drop 2) (by kernel_rfl) ?_
  refine loop_ok (FL := fun m e w => F67_2L m (e 0) (e 1) (e 4) w K) (fr := endD Tryz.prog [] K) (fe := (blkK 0 (fun e w => F67_3 (e 0) (e 1) (e 4) w K) noE)) (fun _ _ h => h) ?_ hr (blkK_mono (fun e w h => ok67_3 hn hr he e w h) he) fuel e w h
  intro m e w h
  have h : F67_2L (m + 1) (e 0) (e 1) (e 4) w K := h
  rw [F67_2L] at h
  have e1 : ∀ (Y0 : V3) (Y1 : V3), F67_2b (e 0) (e 1) (e 4) w K Y0 Y1 = denL Tryz.prog (tabOf T67) 43 fuel (flat (loopB (blkB (nthC (flat (bodyOf Tryz.f67)) 1)))) e w (fun e w => Y1 (e 0) (e 1) (e 4) w) (endD Tryz.prog [] K) (blkK 0 (fun e w => Y0 (e 0) (e 1) (e 4) w) noE) := by intro Y0 Y1; kernel_rfl
  exact Eq.mp (e1 (fun a0 a1 a4 w => F67_3 a0 a1 a4 w K) (fun a0 a1 a4 w => F67_2L m a0 a1 a4 w K)) h
def F67_1b (s0 s1 : Value) (w : World) (_K : V1) (Y0 : V3) : Prop :=
bindP (pNil s0) fun v23 =>
bindP (pFieldAddr 1 v23) fun v24 =>
bindP (ld1 v24 w) fun v25 =>
bindP (pIndexL 2 v25 s1) fun v26 =>
bindP (ldN 2 v26 w) fun v27 =>
eAlloc Tryz.prog 97 w fun v29 w28 =>
bindW (st 2 v29 v27 w28) fun w30 =>
Y0 s0 s1 v29 w30
def F67_1 (s0 s1 : Value) (w : World) (K : V1) : Prop := F67_1b s0 s1 w K (fun a0 a1 a4 w => F67_2 a0 a1 a4 w K)
theorem ok67_1 {K : V1}
    (hn : HN (fun e w => K (.tuple #[]) w) kn) (hr : HR Tryz.prog [] K kr) (he : HE noE ke) :
    ∀ e w, F67_1 (e 0) (e 1) w K → denL Tryz.prog (tabOf T67) 43 fuel ((flat (bodyOf Tryz.f67)).drop 0) e w kn kr ke := by
  intro e w h
  unfold F67_1 at h
  have e1 : ∀ (Y0 : V3), F67_1b (e 0) (e 1) w K Y0 = denL Tryz.prog (tabOf T67) 43 fuel (((flat (bodyOf Tryz.f67)).drop 0).take 1) e w (fun e w => Y0 (e 0) (e 1) (e 4) w) (endD Tryz.prog [] K) noE := by intro Y0; kernel_rfl
  exact seg 1 (Eq.mp (e1 (fun a0 a1 a4 w => F67_2 a0 a1 a4 w K)) h) (fun e w h => ok67_2 hn hr he e w h) hr he
def F67 (x0 x1 : Value) (w : World) (K : V1) : Prop := F67_1 x0 x1 w K
def G67 : FnT := fun args w K => on2 (fun x0 x1 => F67 x0 x1 w K) args
theorem c67 {x0 x1 : Value} {w : World} {K : V1} (h : F67 x0 x1 w K) : callP G67 [x0, x1] w K := callP_intro (on2_mk (p := fun x0 x1 => F67 x0 x1 w K) h)
theorem ok67 : OkF Tryz.prog 67 G67 := by
  refine okF_of (tab_ok (l := T67) ⟨ok66, ok77, trivial⟩) mixed (n := fuel) Tryz.func67 Tryz.call67 fun args w K h => ?_
  obtain ⟨x0, x1, rfl, hh⟩ := of_on2 h
  unfold F67 at hh
  exact fnD_list (c := bodyOf Tryz.f67) (by kernel_rfl) (by kernel_rfl) (ok67_1 (fun _ _ h => h) (fun _ _ h => h) (fun _ _ _ h => h) (initE [x0, x1]) w hh)
def T68 : List (Nat × FnT) := [(66, G66), (77, G77)]
def F68_3b (s0 s1 s4 : Value) (w : World) (K : V1) : Prop :=
bindP (ldN 2 s4 w) fun v1 =>
callP G66 [s0, s1, v1] w fun _ w2 =>
K (.tuple #[]) w2
def F68_3 (s0 s1 s4 : Value) (w : World) (K : V1) : Prop := F68_3b s0 s1 s4 w K
theorem ok68_3 {K : V1}
    (hn : HN (fun e w => K (.tuple #[]) w) kn) (hr : HR Tryz.prog [] K kr) (he : HE noE ke) :
    ∀ e w, F68_3 (e 0) (e 1) (e 4) w K → denL Tryz.prog (tabOf T68) 77 fuel ((flat (bodyOf Tryz.f68)).drop 2) e w kn kr ke := by
  intro e w h
  unfold F68_3 at h
  have e1 : ∀ (_ : Unit), F68_3b (e 0) (e 1) (e 4) w K = denL Tryz.prog (tabOf T68) 77 fuel ((flat (bodyOf Tryz.f68)).drop 2) e w (fun e w => K (.tuple #[]) w) (endD Tryz.prog [] K) noE := by intro _; kernel_rfl
  exact seg_end (Eq.mp (e1 ()) h) hn hr he
def F68_6b (s0 s1 s4 s5 : Value) (w : World) (_K : V1) (R3 : V3) (Y0 : V3) : Prop :=
bindP (ldN 2 s4 w.drew) fun v4 =>
bindP (pNil s0) fun v5 =>
bindP (pFieldAddr 1 v5) fun v6 =>
bindP (ld1 v6 w.drew) fun v7 =>
bindP (pIndexL 2 v7 s5) fun v8 =>
bindP (ldN 2 v8 w.drew) fun v9 =>
callP G77 [v4, v9] w.drew fun v11 w10 =>
bindP (bLe v11 (.int .i64 0)) fun v12 =>
ifB v12 (
Y0 s0 s1 s4 w10) (
bindP (pNil s0) fun v13 =>
bindP (pFieldAddr 1 v13) fun v14 =>
bindP (ld1 v14 w10) fun v15 =>
bindP (pIndexL 2 v15 s5) fun v16 =>
bindP (ldN 2 v16 w10) fun v17 =>
callP G66 [s0, s1, v17] w10 fun _ w18 =>
R3 s0 s5 s4 w18)
def F68_6 (s0 s1 s4 s5 : Value) (w : World) (K : V1) (R3 : V3) : Prop := F68_6b s0 s1 s4 s5 w K R3 (fun a0 a1 a4 w => F68_3 a0 a1 a4 w K)
theorem ok68_6 (R3 : V3) {K : V1}
    (hn : HN (fun e w => R3 (e 0) (e 1) (e 4) w) kn) (hr : HR Tryz.prog [] K kr) (he : HE (blkK 1 (fun e w => R3 (e 0) (e 1) (e 4) w) (blkK 0 (fun e w => F68_3 (e 0) (e 1) (e 4) w K) noE)) ke) :
    ∀ e w, F68_6 (e 0) (e 1) (e 4) (e 5) w K R3 → denL Tryz.prog (tabOf T68) 77 fuel ((flat (blkB (nthC (flat (loopB (blkB (nthC (flat (bodyOf Tryz.f68)) 1)))) 0))).drop 5) e w kn kr ke := by
  intro e w h
  unfold F68_6 at h
  have e1 : ∀ (Y0 : V3), F68_6b (e 0) (e 1) (e 4) (e 5) w K R3 Y0 = denL Tryz.prog (tabOf T68) 77 fuel ((flat (blkB (nthC (flat (loopB (blkB (nthC (flat (bodyOf Tryz.f68)) 1)))) 0))).drop 5) e w (fun e w => R3 (e 0) (e 1) (e 4) w) (endD Tryz.prog [] K) (blkK 1 (fun e w => R3 (e 0) (e 1) (e 4) w) (blkK 0 (fun e w => Y0 (e 0) (e 1) (e 4) w) noE)) := by intro Y0; kernel_rfl
  exact seg_end (Eq.mp (e1 (fun a0 a1 a4 w => F68_3 a0 a1 a4 w K)) h) hn hr he
def F68_5b (s0 s1 s4 : Value) (w : World) (_K : V1) (R3 : V3) (Y0 : V3) (Y1 : V4) : Prop :=
bindP (bMul (.int .i64 2) s1) fun v20 =>
bindP (bAdd v20 (.int .i64 1)) fun v21 =>
bindP (pNil s0) fun v22 =>
bindP (pFieldAddr 1 v22) fun v23 =>
bindP (ld1 v23 w) fun v24 =>
bindP (lenL v24) fun v25 =>
bindP (bGe v21 v25) fun v26 =>
ifB v26 (
Y0 s0 s1 s4 w) (
bindP (bAdd v21 (.int .i64 1)) fun v27 =>
bindP (pNil s0) fun v28 =>
bindP (pFieldAddr 1 v28) fun v29 =>
bindP (ld1 v29 w.drew) fun v30 =>
bindP (lenL v30) fun v31 =>
bindP (bLt v27 v31) fun v32 =>
stepM (gd true v32) s0 fun v33 =>
Sx.stepG (gd true v32) (pNil v33) fun v34 =>
Sx.stepG (gd true v32) (pFieldAddr 1 v34) fun v35 =>
Sx.stepG (gd true v32) (ld1 v35 w.drew) fun v36 =>
stepM (gd true v32) v21 fun v37 =>
Sx.stepG (gd true v32) (bAdd v37 (.int .i64 1)) fun v38 =>
Sx.stepG (gd true v32) (pIndexL 2 v36 v38) fun v39 =>
Sx.stepG (gd true v32) (ldN 2 v39 w.drew) fun v40 =>
stepM (gd true v32) s0 fun v41 =>
Sx.stepG (gd true v32) (pNil v41) fun v42 =>
Sx.stepG (gd true v32) (pFieldAddr 1 v42) fun v43 =>
Sx.stepG (gd true v32) (ld1 v43 w.drew) fun v44 =>
stepM (gd true v32) v21 fun v45 =>
Sx.stepG (gd true v32) (pIndexL 2 v44 v45) fun v46 =>
Sx.stepG (gd true v32) (ldN 2 v46 w.drew) fun v47 =>
stepE (gd true v32) (fun k => callP G77 [v40, v47] w.drew k) w.drew fun v49 w48 =>
Sx.stepG (gd true v32) (bLt v49 (.int .i64 0)) fun v50 =>
bindP (pPick v32 v50 (.bool false)) fun v51 =>
ifB v51 (
bindP (bAdd v21 (.int .i64 1)) fun v52 =>
Y1 s0 s1 s4 v52 w48) (
Y1 s0 s1 s4 v21 w48))
def F68_5 (s0 s1 s4 : Value) (w : World) (K : V1) (R3 : V3) : Prop := F68_5b s0 s1 s4 w K R3 (fun a0 a1 a4 w => F68_3 a0 a1 a4 w K) (fun a0 a1 a4 a5 w => F68_6 a0 a1 a4 a5 w K R3)
theorem ok68_5 (R3 : V3) {K : V1}
    (hn : HN (fun e w => R3 (e 0) (e 1) (e 4) w) kn) (hr : HR Tryz.prog [] K kr) (he : HE (blkK 1 (fun e w => R3 (e 0) (e 1) (e 4) w) (blkK 0 (fun e w => F68_3 (e 0) (e 1) (e 4) w K) noE)) ke) :
    ∀ e w, F68_5 (e 0) (e 1) (e 4) w K R3 → denL Tryz.prog (tabOf T68) 77 fuel ((flat (blkB (nthC (flat (loopB (blkB (nthC (flat (bodyOf Tryz.f68)) 1)))) 0))).drop 0) e w kn kr ke := by
  intro e w h
  unfold F68_5 at h
  have e1 : ∀ (Y0 : V3) (Y1 : V4), F68_5b (e 0) (e 1) (e 4) w K R3 Y0 Y1 = denL Tryz.prog (tabOf T68) 77 fuel (((flat (blkB (nthC (flat (loopB (blkB (nthC (flat (bodyOf Tryz.f68)) 1)))) 0))).drop 0).take 5) e w (fun e w => Y1 (e 0) (e 1) (e 4) (e 5) w) (endD Tryz.prog [] K) (blkK 1 (fun e w => R3 (e 0) (e 1) (e 4) w) (blkK 0 (fun e w => Y0 (e 0) (e 1) (e 4) w) noE)) := by intro Y0 Y1; kernel_rfl
  exact seg 5 (Eq.mp (e1 (fun a0 a1 a4 w => F68_3 a0 a1 a4 w K) (fun a0 a1 a4 a5 w => F68_6 a0 a1 a4 a5 w K R3)) h) (fun e w h => ok68_6 R3 hn hr he e w h) hr he
def F68_4 (s0 s1 s4 : Value) (w : World) (K : V1) (R3 : V3) : Prop := F68_5 s0 s1 s4 w K R3
theorem ok68_4 (R3 : V3) {K : V1}
    (hn : HN (fun e w => R3 (e 0) (e 1) (e 4) w) kn) (hr : HR Tryz.prog [] K kr) (he : HE (blkK 0 (fun e w => F68_3 (e 0) (e 1) (e 4) w K) noE) ke) :
    ∀ e w, F68_4 (e 0) (e 1) (e 4) w K R3 → denL Tryz.prog (tabOf T68) 77 fuel ((flat (loopB (blkB (nthC (flat (bodyOf Tryz.f68)) 1)))).drop 0) e w kn kr ke := by
  intro e w h
  unfold F68_4 at h
  refine seg_block (id := 1) (body := (blkB (nthC (flat (loopB (blkB (nthC (flat (bodyOf Tryz.f68)) 1)))) 0))) (l2 := (flat (loopB (blkB (nthC (flat (bodyOf Tryz.f68)) 1)))).drop 1) (by kernel_rfl) ?_
  exact ok68_5 R3 hn hr (blkK_mono hn he) e w h
def F68_2L : Nat → Value → Value → Value → World → (V1) → Prop
  | 0, _, _, _, _, _ => False
  | n + 1, s0, s1, s4, w, K => F68_4 s0 s1 s4 w K (fun a0 a1 a4 w => F68_2L n a0 a1 a4 w K)
def F68_2 (s0 s1 s4 : Value) (w : World) (K : V1) : Prop := F68_2L fuel s0 s1 s4 w K
theorem ok68_2 {K : V1}
    (hn : HN (fun e w => K (.tuple #[]) w) kn) (hr : HR Tryz.prog [] K kr) (he : HE noE ke) :
    ∀ e w, F68_2 (e 0) (e 1) (e 4) w K → denL Tryz.prog (tabOf T68) 77 fuel ((flat (bodyOf Tryz.f68)).drop 1) e w kn kr ke := by
  intro e w h
  unfold F68_2 at h
  refine seg_loop (id := 0) (body := (loopB (blkB (nthC (flat (bodyOf Tryz.f68)) 1)))) (l2 := (flat (bodyOf Tryz.f68)).drop 2) (by kernel_rfl) ?_
  refine loop_ok (FL := fun m e w => F68_2L m (e 0) (e 1) (e 4) w K) (fr := endD Tryz.prog [] K) (fe := (blkK 0 (fun e w => F68_3 (e 0) (e 1) (e 4) w K) noE)) (fun _ _ h => h) ?_ hr (blkK_mono (fun e w h => ok68_3 hn hr he e w h) he) fuel e w h
  intro m e w h
  have h : F68_2L (m + 1) (e 0) (e 1) (e 4) w K := h
  rw [F68_2L] at h
  exact ok68_4 (fun a0 a1 a4 w => F68_2L m a0 a1 a4 w K) (fun _ _ h => h) (fun _ _ h => h) (fun _ _ _ h => h) e w h
def F68_1b (s0 s1 : Value) (w : World) (_K : V1) (Y0 : V3) : Prop :=
bindP (pNil s0) fun v53 =>
bindP (pFieldAddr 1 v53) fun v54 =>
bindP (ld1 v54 w) fun v55 =>
bindP (pIndexL 2 v55 s1) fun v56 =>
bindP (ldN 2 v56 w) fun v57 =>
eAlloc Tryz.prog 97 w fun v59 w58 =>
bindW (st 2 v59 v57 w58) fun w60 =>
Y0 s0 s1 v59 w60
def F68_1 (s0 s1 : Value) (w : World) (K : V1) : Prop := F68_1b s0 s1 w K (fun a0 a1 a4 w => F68_2 a0 a1 a4 w K)
theorem ok68_1 {K : V1}
    (hn : HN (fun e w => K (.tuple #[]) w) kn) (hr : HR Tryz.prog [] K kr) (he : HE noE ke) :
    ∀ e w, F68_1 (e 0) (e 1) w K → denL Tryz.prog (tabOf T68) 77 fuel ((flat (bodyOf Tryz.f68)).drop 0) e w kn kr ke := by
  intro e w h
  unfold F68_1 at h
  have e1 : ∀ (Y0 : V3), F68_1b (e 0) (e 1) w K Y0 = denL Tryz.prog (tabOf T68) 77 fuel (((flat (bodyOf Tryz.f68)).drop 0).take 1) e w (fun e w => Y0 (e 0) (e 1) (e 4) w) (endD Tryz.prog [] K) noE := by intro Y0; kernel_rfl
  exact seg 1 (Eq.mp (e1 (fun a0 a1 a4 w => F68_2 a0 a1 a4 w K)) h) (fun e w h => ok68_2 hn hr he e w h) hr he
def F68 (x0 x1 : Value) (w : World) (K : V1) : Prop := F68_1 x0 x1 w K
def G68 : FnT := fun args w K => on2 (fun x0 x1 => F68 x0 x1 w K) args
theorem c68 {x0 x1 : Value} {w : World} {K : V1} (h : F68 x0 x1 w K) : callP G68 [x0, x1] w K := callP_intro (on2_mk (p := fun x0 x1 => F68 x0 x1 w K) h)
theorem ok68 : OkF Tryz.prog 68 G68 := by
  refine okF_of (tab_ok (l := T68) ⟨ok66, ok77, trivial⟩) mixed (n := fuel) Tryz.func68 Tryz.call68 fun args w K h => ?_
  obtain ⟨x0, x1, rfl, hh⟩ := of_on2 h
  unfold F68 at hh
  exact fnD_list (c := bodyOf Tryz.f68) (by kernel_rfl) (by kernel_rfl) (ok68_1 (fun _ _ h => h) (fun _ _ h => h) (fun _ _ _ h => h) (initE [x0, x1]) w hh)
def T64 : List (Nat × FnT) := [(66, G66), (67, G67), (68, G68)]
def F64_2b (s0 s1 s2 s7 : Value) (w : World) (K : V1) : Prop :=
bindP (fBuild Tryz.prog 97 [(0, s1), (1, s2)]) fun v1 =>
callP G66 [s0, s7, v1] w fun _ w2 =>
callP G67 [s0, s7] w2 fun _ w4 =>
bindP (pNil s0) fun v6 =>
bindP (pFieldAddr 2 v6) fun v7 =>
bindP (ld1 v7 w4) fun v8 =>
bindP (fLook Tryz.prog 88 v8 s1 false w4) fun v9 =>
callP G68 [s0, v9] w4 fun _ w10 =>
K (.int .i64 0) w10
def F64_2 (s0 s1 s2 s7 : Value) (w : World) (K : V1) : Prop := F64_2b s0 s1 s2 s7 w K
theorem ok64_2 {K : V1}
    (hn : HN (fun e w => K (e 6) w) kn) (hr : HR Tryz.prog [.tmp 6] K kr) (he : HE noE ke) :
    ∀ e w, F64_2 (e 0) (e 1) (e 2) (e 7) w K → denL Tryz.prog (tabOf T64) 68 fuel ((flat (bodyOf Tryz.f64)).drop 6) e w kn kr ke := by
  intro e w h
  unfold F64_2 at h
  have e1 : ∀ (_ : Unit), F64_2b (e 0) (e 1) (e 2) (e 7) w K = denL Tryz.prog (tabOf T64) 68 fuel ((flat (bodyOf Tryz.f64)).drop 6) e w (fun e w => K (e 6) w) (endD Tryz.prog [.tmp 6] K) noE := by intro _; kernel_rfl
  exact seg_end (Eq.mp (e1 ()) h) hn hr he
def F64_1b (s0 s1 s2 : Value) (w : World) (K : V1) (Y0 : V4) : Prop :=
bindP (bLt s2 (.int .i64 0)) fun v12 =>
stepM (gd false v12) s2 fun v13 =>
Sx.stepG (gd false v12) (bGt v13 (.int .i64 2305843009213693952)) fun v14 =>
bindP (pPick v12 (.bool true) v14) fun v15 =>
ifB v15 (
K (.int .i64 1) w) (
bindP (pNil s0) fun v16 =>
bindP (pFieldAddr 2 v16) fun v17 =>
bindP (ld1 v17 w) fun v18 =>
bindP (fLook Tryz.prog 88 v18 s1 true w) fun v19 =>
bindP (pTuple v19 0) fun v20 =>
bindP (pTuple v19 1) fun v21 =>
bindP (uNot v21) fun v22 =>
ifB v22 (
bindP (pNil s0) fun v23 =>
bindP (pFieldAddr 1 v23) fun v24 =>
bindP (ld1 v24 w.drew) fun v25 =>
bindP (lenL v25) fun v26 =>
bindP (pNil s0) fun v27 =>
bindP (pFieldAddr 0 v27) fun v28 =>
bindP (ld1 v28 w.drew) fun v29 =>
bindP (bGe v26 v29) fun v30 =>
ifB v30 (
K (.int .i64 200) w.drew) (
bindP (pNil s0) fun v31 =>
bindP (pFieldAddr 1 v31) fun v32 =>
bindP (ld1 v32 w.drew) fun v33 =>
bindP (lenL v33) fun v34 =>
bindP (pNil s0) fun v35 =>
bindP (pFieldAddr 1 v35) fun v36 =>
bindP (ld1 v36 w.drew) fun v37 =>
bindP (fBuild Tryz.prog 97 []) fun v38 =>
eBuildSl Tryz.prog 89 1 [(0, v38)] w.drew fun v40 w39 =>
eAppend Tryz.prog 89 89 v37 v40 w39 fun v42 w41 =>
bindP (pNil s0) fun v43 =>
bindP (pFieldAddr 1 v43) fun v44 =>
bindW (st 1 v44 v42 w41) fun w45 =>
Y0 s0 s1 s2 v34 w45)) (
Y0 s0 s1 s2 v20 w))
def F64_1 (s0 s1 s2 : Value) (w : World) (K : V1) : Prop := F64_1b s0 s1 s2 w K (fun a0 a1 a2 a7 w => F64_2 a0 a1 a2 a7 w K)
theorem ok64_1 {K : V1}
    (hn : HN (fun e w => K (e 6) w) kn) (hr : HR Tryz.prog [.tmp 6] K kr) (he : HE noE ke) :
    ∀ e w, F64_1 (e 0) (e 1) (e 2) w K → denL Tryz.prog (tabOf T64) 68 fuel ((flat (bodyOf Tryz.f64)).drop 0) e w kn kr ke := by
  intro e w h
  unfold F64_1 at h
  have e1 : ∀ (Y0 : V4), F64_1b (e 0) (e 1) (e 2) w K Y0 = denL Tryz.prog (tabOf T64) 68 fuel (((flat (bodyOf Tryz.f64)).drop 0).take 6) e w (fun e w => Y0 (e 0) (e 1) (e 2) (e 7) w) (endD Tryz.prog [.tmp 6] K) noE := by intro Y0; kernel_rfl
  exact seg 6 (Eq.mp (e1 (fun a0 a1 a2 a7 w => F64_2 a0 a1 a2 a7 w K)) h) (fun e w h => ok64_2 hn hr he e w h) hr he
def F64 (x0 x1 x2 : Value) (w : World) (K : V1) : Prop := F64_1 x0 x1 x2 w K
def G64 : FnT := fun args w K => on3 (fun x0 x1 x2 => F64 x0 x1 x2 w K) args
theorem c64 {x0 x1 x2 : Value} {w : World} {K : V1} (h : F64 x0 x1 x2 w K) : callP G64 [x0, x1, x2] w K := callP_intro (on3_mk (p := fun x0 x1 x2 => F64 x0 x1 x2 w K) h)
theorem ok64 : OkF Tryz.prog 64 G64 := by
  refine okF_of (tab_ok (l := T64) ⟨ok66, ok67, ok68, trivial⟩) mixed (n := fuel) Tryz.func64 Tryz.call64 fun args w K h => ?_
  obtain ⟨x0, x1, x2, rfl, hh⟩ := of_on3 h
  unfold F64 at hh
  exact fnD_list (c := bodyOf Tryz.f64) (by kernel_rfl) (by kernel_rfl) (ok64_1 (fun _ _ h => h) (fun _ _ h => h) (fun _ _ _ h => h) (initE [x0, x1, x2]) w hh)
def T53 : List (Nat × FnT) := [(66, G66), (67, G67), (68, G68)]
def F53_2b (w : World) (K : V1) : Prop :=
K (.bool true) w
def F53_2 (w : World) (K : V1) : Prop := F53_2b w K
theorem ok53_2 {K : V1}
    (hn : HN (fun e w => K (e 4) w) kn) (hr : HR Tryz.prog [.tmp 4] K kr) (he : HE noE ke) :
    ∀ e w, F53_2 w K → denL Tryz.prog (tabOf T53) 66 fuel ((flat (bodyOf Tryz.f53)).drop 10) e w kn kr ke := by
  intro e w h
  unfold F53_2 at h
  have e1 : ∀ (_ : Unit), F53_2b w K = denL Tryz.prog (tabOf T53) 66 fuel ((flat (bodyOf Tryz.f53)).drop 10) e w (fun e w => K (e 4) w) (endD Tryz.prog [.tmp 4] K) noE := by intro _; kernel_rfl
  exact seg_end (Eq.mp (e1 ()) h) hn hr he
def F53_1b (s0 s1 : Value) (w : World) (K : V1) (Y0 : V0) : Prop :=
bindP (pNil s0) fun v1 =>
bindP (pFieldAddr 2 v1) fun v2 =>
bindP (ld1 v2 w) fun v3 =>
bindP (fLook Tryz.prog 88 v3 s1 true w) fun v4 =>
bindP (pTuple v4 0) fun v5 =>
bindP (pTuple v4 1) fun v6 =>
bindP (uNot v6) fun v7 =>
ifB v7 (
K (.bool false) w) (
bindP (pNil s0) fun v8 =>
bindP (pFieldAddr 1 v8) fun v9 =>
bindP (ld1 v9 w) fun v10 =>
bindP (lenL v10) fun v11 =>
bindP (bSub v11 (.int .i64 1)) fun v12 =>
bindP (pNil s0) fun v13 =>
bindP (pFieldAddr 1 v13) fun v14 =>
bindP (ld1 v14 w) fun v15 =>
bindP (pIndexL 2 v15 v12) fun v16 =>
bindP (ldN 2 v16 w) fun v17 =>
eAlloc Tryz.prog 97 w fun v19 w18 =>
bindW (st 2 v19 v17 w18) fun w20 =>
bindP (pNil s0) fun v22 =>
bindP (pFieldAddr 1 v22) fun v23 =>
bindP (ld1 v23 w20) fun v24 =>
bindP (pSliceL 2 v24 none (some v12) none) fun v25 =>
bindP (pNil s0) fun v26 =>
bindP (pFieldAddr 1 v26) fun v27 =>
bindW (st 1 v27 v25 w20) fun w28 =>
bindP (pNil s0) fun v30 =>
bindP (pFieldAddr 2 v30) fun v31 =>
bindP (ld1 v31 w28) fun v32 =>
eDelete Tryz.prog 88 v32 s1 w28 fun _ w33 =>
bindP (bLt v5 v12) fun v35 =>
ifB v35 (
bindP (ldN 2 v19 w33) fun v36 =>
callP G66 [s0, v5, v36] w33 fun _ w37 =>
callP G67 [s0, v5] w37 fun _ w39 =>
bindP (pNil s0) fun v41 =>
bindP (pFieldAddr 2 v41) fun v42 =>
bindP (ld1 v42 w39.drew) fun v43 =>
bindP (pFieldAddr 0 v19) fun v44 =>
bindP (ld1 v44 w39.drew) fun v45 =>
bindP (fLook Tryz.prog 88 v43 v45 false w39.drew) fun v46 =>
callP G68 [s0, v46] w39.drew fun _ w47 =>
Y0 w47) (
Y0 w33))
def F53_1 (s0 s1 : Value) (w : World) (K : V1) : Prop := F53_1b s0 s1 w K (fun w => F53_2 w K)
theorem ok53_1 {K : V1}
    (hn : HN (fun e w => K (e 4) w) kn) (hr : HR Tryz.prog [.tmp 4] K kr) (he : HE noE ke) :
    ∀ e w, F53_1 (e 0) (e 1) w K → denL Tryz.prog (tabOf T53) 66 fuel ((flat (bodyOf Tryz.f53)).drop 0) e w kn kr ke := by
  intro e w h
  unfold F53_1 at h
  have e1 : ∀ (Y0 : V0), F53_1b (e 0) (e 1) w K Y0 = denL Tryz.prog (tabOf T53) 66 fuel (((flat (bodyOf Tryz.f53)).drop 0).take 10) e w (fun e w => Y0 w) (endD Tryz.prog [.tmp 4] K) noE := by intro Y0; kernel_rfl
  exact seg 10 (Eq.mp (e1 (fun w => F53_2 w K)) h) (fun e w h => ok53_2 hn hr he e w h) hr he
def F53 (x0 x1 : Value) (w : World) (K : V1) : Prop := F53_1 x0 x1 w K
def G53 : FnT := fun args w K => on2 (fun x0 x1 => F53 x0 x1 w K) args
theorem c53 {x0 x1 : Value} {w : World} {K : V1} (h : F53 x0 x1 w K) : callP G53 [x0, x1] w K := callP_intro (on2_mk (p := fun x0 x1 => F53 x0 x1 w K) h)
theorem ok53 : OkF Tryz.prog 53 G53 := by
  refine okF_of (tab_ok (l := T53) ⟨ok66, ok67, ok68, trivial⟩) mixed (n := fuel) Tryz.func53 Tryz.call53 fun args w K h => ?_
  obtain ⟨x0, x1, rfl, hh⟩ := of_on2 h
  unfold F53 at hh
  exact fnD_list (c := bodyOf Tryz.f53) (by kernel_rfl) (by kernel_rfl) (ok53_1 (fun _ _ h => h) (fun _ _ h => h) (fun _ _ _ h => h) (initE [x0, x1]) w hh)
def T58 : List (Nat × FnT) := []
def F58 (x0 : Value) (w : World) (K : V1) : Prop :=
eAlloc Tryz.prog 97 w fun v2 w1 =>
bindP (pNil x0) fun v3 =>
bindP (pFieldAddr 1 v3) fun v4 =>
bindP (ld1 v4 w1) fun v5 =>
bindP (lenL v5) fun v6 =>
bindP (bEq Tryz.prog 3 (.tmp 8) (.const (.int .i64 0)) v6 (.int .i64 0)) fun v7 =>
ifB v7 (
bindP (fBuild Tryz.prog 97 []) fun v8 =>
bindW (st 2 v2 v8 w1) fun w9 =>
bindP (ldN 2 v2 w9) fun v11 =>
K (.tuple #[v11, (.bool false)]) w9) (
bindP (pNil x0) fun v12 =>
bindP (pFieldAddr 1 v12) fun v13 =>
bindP (ld1 v13 w1) fun v14 =>
bindP (pIndexL 2 v14 (.int .i64 0)) fun v15 =>
bindP (ldN 2 v15 w1) fun v16 =>
bindW (st 2 v2 v16 w1) fun w17 =>
bindP (ldN 2 v2 w17) fun v19 =>
K (.tuple #[v19, (.bool true)]) w17)
def G58 : FnT := fun args w K => on1 (fun x0 => F58 x0 w K) args
theorem c58 {x0 : Value} {w : World} {K : V1} (h : F58 x0 w K) : callP G58 [x0] w K := callP_intro (on1_mk (p := fun x0 => F58 x0 w K) h)
theorem ok58 : OkF Tryz.prog 58 G58 := by
  refine okF_of (tab_ok (l := T58) trivial) mixed (n := fuel) Tryz.func58 Tryz.call58 fun args w K h => ?_
  obtain ⟨x0, rfl, hh⟩ := of_on1 h
  exact fnD_list (c := bodyOf Tryz.f58) (by kernel_rfl) (by kernel_rfl) (Eq.mp (by kernel_rfl) hh)
def T54 : List (Nat × FnT) := []
def F54 (x0 : Value) (w : World) (K : V1) : Prop :=
bindP (bEq Tryz.prog 89 (.tmp 3) (.const (.slice none 0 0)) x0 (.slice none 0 0)) fun v1 =>
ifB v1 (
K (.slice none 0 0) w) (
eBuildSl Tryz.prog 89 0 [] w fun v3 w2 =>
eAppend Tryz.prog 89 89 v3 x0 w2 fun v5 w4 =>
K v5 w4)
def G54 : FnT := fun args w K => on1 (fun x0 => F54 x0 w K) args
theorem c54 {x0 : Value} {w : World} {K : V1} (h : F54 x0 w K) : callP G54 [x0] w K := callP_intro (on1_mk (p := fun x0 => F54 x0 w K) h)
theorem ok54 : OkF Tryz.prog 54 G54 := by
  refine okF_of (tab_ok (l := T54) trivial) mixed (n := fuel) Tryz.func54 Tryz.call54 fun args w K h => ?_
  obtain ⟨x0, rfl, hh⟩ := of_on1 h
  exact fnD_list (c := bodyOf Tryz.f54) (by kernel_rfl) (by kernel_rfl) (Eq.mp (by kernel_rfl) hh)
def G56 : FnT := gClone
theorem ok56 : OkF Tryz.prog 56 G56 := okClone Tryz.func56 (by kernel_rfl) (by kernel_rfl) (by kernel_rfl) (by kernel_rfl)
def T55 : List (Nat × FnT) := [(56, G56)]
def F55 (x0 : Value) (w : World) (K : V1) : Prop :=
bindP (bEq Tryz.prog 88 (.tmp 3) (.const (.map none)) x0 (.map none)) fun v1 =>
ifB v1 (
K (.map none) w) (
bindP (fMkI Tryz.prog 88 x0) fun v2 =>
callP G56 [v2] w fun v4 w3 =>
bindP (fAssert Tryz.prog v4 88 false) fun v5 =>
K v5 w3)
def G55 : FnT := fun args w K => on1 (fun x0 => F55 x0 w K) args
theorem c55 {x0 : Value} {w : World} {K : V1} (h : F55 x0 w K) : callP G55 [x0] w K := callP_intro (on1_mk (p := fun x0 => F55 x0 w K) h)
theorem ok55 : OkF Tryz.prog 55 G55 := by
  refine okF_of (tab_ok (l := T55) ⟨ok56, trivial⟩) mixed (n := fuel) Tryz.func55 Tryz.call55 fun args w K h => ?_
  obtain ⟨x0, rfl, hh⟩ := of_on1 h
  exact fnD_list (c := bodyOf Tryz.f55) (by kernel_rfl) (by kernel_rfl) (Eq.mp (by kernel_rfl) hh)
def T40 : List (Nat × FnT) := [(54, G54), (55, G55)]
def F40 (x0 : Value) (w : World) (K : V1) : Prop :=
bindP (pNil x0) fun v1 =>
bindP (pFieldAddr 0 v1) fun v2 =>
bindP (ld1 v2 w.drew) fun v3 =>
bindP (pNil x0) fun v4 =>
bindP (pFieldAddr 1 v4) fun v5 =>
bindP (ld1 v5 w.drew) fun v6 =>
bindP (pNil x0) fun v7 =>
bindP (pFieldAddr 2 v7) fun v8 =>
bindP (ld1 v8 w.drew) fun v9 =>
callP G54 [v6] w.drew fun v11 w10 =>
(fok true (ld1 v2 w10) v3 ∧ fok true (ld1 v8 w10) v9) ∧ (callP G55 [v9] w10 fun v13 w12 =>
fok true (ld1 v2 w12) v3 ∧ (bindP (fBuild Tryz.prog 91 [(0, v3), (1, v11), (2, v13)]) fun v14 =>
eBox 91 v14 w12 fun v16 w15 =>
K v16 w15))
def G40 : FnT := fun args w K => on1 (fun x0 => F40 x0 w K) args
theorem c40 {x0 : Value} {w : World} {K : V1} (h : F40 x0 w K) : callP G40 [x0] w K := callP_intro (on1_mk (p := fun x0 => F40 x0 w K) h)
theorem ok40 : OkF Tryz.prog 40 G40 := by
  refine okF_of (tab_ok (l := T40) ⟨ok54, ok55, trivial⟩) mixed (n := fuel) Tryz.func40 Tryz.call40 fun args w K h => ?_
  obtain ⟨x0, rfl, hh⟩ := of_on1 h
  exact fnD_list (c := bodyOf Tryz.f40) (by kernel_rfl) (by kernel_rfl) (Eq.mp (by kernel_rfl) hh)
end Go.Proofs.Gong

/- Hp3 -/
namespace Go.Proofs.Gong
open Go Go.Sx Go.Proofs
set_option maxRecDepth 100000
@[reducible] def cIt (x : It) : List Value := [.int .i64 x.1, .int .i64 x.2]
theorem CIt : Cod cIt 2 := ⟨fun _ => rfl, fun _ => rfl, by omega⟩
def ekI (n : Int) : Value := .int .i64 n
def evI (n : Int) : Value := .int .i64 n
theorem Kint : KeyT Tryz.prog 3 ekI := .int (by kernel_rfl)
def HeapI (v : Value) (n : Int) (l : List It) (m : Pl) : HP := HEx fun p => HEx fun sv => HEx fun mv => HPr (v = ptr p) (HS [Cl p #[.int .i64 n, sv, mv] 91, LsH cIt 2 97 sv l, MapH ekI evI mv m])
section
variable {w0 w : World} {L : List HP} {K : Value → World → Prop} {v : Value} {n : Int} {l : List It} {m : Pl}
theorem heapI_iff : Sat w0 (HeapI v n l m :: L) w ↔ ∃ p sv mv, v = ptr p ∧ Sat w0 (Cl p #[.int .i64 n, sv, mv] 91 :: LsH cIt 2 97 sv l :: MapH ekI evI mv m :: L) w := by
  simp only [HeapI, Sat.ex_iff, Sat.pr_iff, Sat.hs_iff, List.cons_append, List.nil_append]
theorem heapI_mk {p : Nat} {sv mv : Value} (h : Sat w0 (Cl p #[.int .i64 n, sv, mv] 91 :: LsH cIt 2 97 sv l :: MapH ekI evI mv m :: L) w) : Sat w0 (HeapI (ptr p) n l m :: L) w := heapI_iff.2 ⟨p, sv, mv, rfl, h⟩
theorem put_spec {i : Nat} {x : It} (h : Sat w0 (HeapI v n l m :: L) w) (hi : i < l.length) (hK : ∀ w', Sat w0 (HeapI v n (l.set i x) (aSet x.1 i m) :: L) w' → K (.tuple #[]) w') :
    callP G66 [v, .int .i64 i, .agg (cIt x).toArray] w K := by
  refine c66 ?_
  unfold F66
  obtain ⟨p, sv, mv, hv, hs⟩ := heapI_iff.1 h; subst hv
  refine eBox_sat hs fun q w1 h1 => ?_
  have hp := h1.f1.cl
  have hx := h1.drew.cl
  simp [ptr, cell_of hp]
  rw [ldN_of hx (by simp [cIt])]
  have h2 := h1.drew.f2
  have h3 := h1.f2
  simp [ls_ix h2 hi]
  refine ls_st CIt h2 hi x (by simp [cIt, Value.cells]) fun w2 g2 => ?_
  have g3 := g2.f2
  have g1 := g2.f1
  simp [cell_of g3.cl]
  have hq := g1.cl
  simp [cell_of hq, cIt]
  refine eMapSet_sat g2.drew.f3 Kint um88 x.1 (i : Int) fun w3 g4 => ?_
  refine hK _ (heapI_mk (p := p) (sv := sv) (mv := mv) ?_)
  exact g4.pick [3, 1, 0] [2] 4 (by decide) (by simp)
theorem nan_spec {a : Int} (hK : K (.bool false) w) : callP G75 [.int .i64 a] w K := by
  refine c75 ?_
  unfold F75
  simpa using hK
theorem cmp_spec {a b : Int} (hK : K (.int .i64 (if a < b then -1 else if b < a then 1 else 0)) w) : callP G92 [.int .i64 a, .int .i64 b] w K := by
  refine c92 ?_
  unfold F92
  refine nan_spec (nan_spec ?_)
  simp
  by_cases h1 : a < b
  · simp [h1] at hK ⊢; exact hK
  · by_cases h2 : b < a
    · simp [h1, h2] at hK ⊢; exact hK
    · simp [h1, h2] at hK ⊢; exact hK
theorem or_loop {s : Value} {cs : List Int} (hr : Rd w 1 s cs.length (cs.flatMap cI)) (hlen : cs.length < 1000) (hK : K (.int .i64 ((cs.find? (fun c => decide (c ≠ 0))).getD 0)) w) :
    ∀ (d i : Nat), cs.length - i < d → i ≤ cs.length → (∀ c ∈ cs.take i, c = 0) → F91_2L d (.int .i64 0) s (.int .i64 cs.length) (.int .i64 i) w K := by
  intro d
  induction d with
  | zero => intro i hd; omega
  | succ d ih =>
    intro i hd hi h0
    rw [F91_2L]
    unfold F91_2b
    by_cases hlt : i < cs.length
    · have e1 := rd_ld1 (g := fun c => .int .i64 c) hr hlt
      simp [hlt, ix_el hr hlt, e1]
      by_cases hc : cs[i] = 0
      · simp [hc, wrap_id (show -9223372036854775808 ≤ (i : Int) + 1 ∧ (i : Int) + 1 ≤ 9223372036854775807 by omega)]
        refine ih (i + 1) (by omega) (by omega) fun c hc' => ?_
        rw [List.take_succ_eq_append_getElem hlt] at hc'
        rcases List.mem_append.1 hc' with h | h
        · exact h0 c h
        · simp at h; rw [h, hc]
      · simp [hc]
        have : cs.find? (fun c => decide (c ≠ 0)) = some cs[i] := by
          rw [List.find?_eq_some_iff_getElem]
          refine ⟨by simpa using hc, i, hlt, rfl, fun j hj => ?_⟩
          have := h0 cs[j] (by rw [List.mem_take_iff_getElem]; exact ⟨j, by omega, rfl⟩)
          simp [this]
        rw [this] at hK; exact hK
    · have : ¬ ((i : Int) < cs.length) := by omega
      simp [this, F91_3, F91_3b]
      have : cs.find? (fun c => decide (c ≠ 0)) = none := by
        rw [List.find?_eq_none]
        intro c hc
        rw [List.take_of_length_le (by omega)] at h0
        simp [h0 c hc]
      rw [this] at hK; exact hK
theorem or_spec {s : Value} {cs : List Int} (hr : Rd w 1 s cs.length (cs.flatMap cI)) (hlen : cs.length < 1000) (hK : K (.int .i64 ((cs.find? (fun c => decide (c ≠ 0))).getD 0)) w) : callP G91 [s] w K := by
  refine c91 ?_
  unfold F91 F91_1 F91_1b
  simp [hr.len]
  exact or_loop hr hlen hK fuel 0 (by unfold fuel; omega) (by omega) (by simp)
def ordV (x y : It) : Int := if itLt x y then -1 else if itLt y x then 1 else 0
theorem ord_find (x y : It) : (([if x.2 < y.2 then (-1 : Int) else if y.2 < x.2 then 1 else 0, if x.1 < y.1 then (-1 : Int) else if y.1 < x.1 then 1 else 0] : List Int).find? (fun c => decide (c ≠ 0))).getD 0 = ordV x y := by
  unfold ordV itLt
  by_cases a1 : x.2 < y.2
  · simp [a1]
  · by_cases a2 : y.2 < x.2
    · have : ¬ x.2 = y.2 := by omega
      simp [a1, a2, this]
    · have a3 : x.2 = y.2 := by omega
      by_cases b1 : x.1 < y.1
      · simp [a3, b1]
      · by_cases b2 : y.1 < x.1
        · simp [a3, b1, b2]
        · simp [a3, b1, b2]
theorem order_spec {x y : It} (h : Sat w0 L w) (hK : ∀ w', Sat w0 L w' → K (.int .i64 (ordV x y)) w') : callP G77 [.agg (cIt x).toArray, .agg (cIt y).toArray] w K := by
  refine c77 ?_
  unfold F77
  refine eBox_sat h fun p w1 h1 => ?_
  refine eBox_sat h1 fun q w2 h2 => ?_
  have hp := h2.f1.cl
  have hq := h2.cl
  simp only [cIt, cells_agg] at hp hq
  simp [ptr, cell_of hp, cell_of hq]
  refine cmp_spec ?_
  refine ⟨by simp [cell_of hp, cell_of hq], ?_⟩
  refine cmp_spec ?_
  have e := ord_find x y
  generalize (if x.2 < y.2 then (-1 : Int) else if y.2 < x.2 then 1 else 0) = a at *
  generalize (if x.1 < y.1 then (-1 : Int) else if y.1 < x.1 then 1 else 0) = b at *
  refine ls_lit (f := cI) (es := 1) (m := [a, b]) (c := #[.int .i64 a, .int .i64 b]) CI h2.drew u34 (by kernel_rfl) rfl fun s w3 h3 => ?_
  refine or_spec (ls_rd h3) (by simp) ?_
  rw [e]
  exact hK _ h3.drop.drop.drop
theorem ordV_neg (x y : It) : ordV x y < 0 ↔ itLt x y = true := by unfold ordV; split <;> (try split) <;> simp_all
theorem ordV_pos (x y : It) : ordV x y ≤ 0 ↔ itLt y x = false := by
  unfold ordV
  split
  · rename_i h; have := itSWO.asym _ _ h; simp [this]
  · split <;> simp_all
end
end Go.Proofs.Gong

/- Hp4 -/
namespace Go.Proofs.Gong
open Go Go.Sx Go.Proofs
set_option maxRecDepth 100000
section
variable {w0 w : World} {L : List HP} {K : Value → World → Prop} {v : Value} {n : Int} {l : List It} {m : Pl}
theorem half_nat {i : Nat} (h : 0 < i) (hb : i < 2 ^ 62) : IntKind.i64.wrap ((i : Int) - 1) = ((i - 1 : Nat) : Int) ∧ IntKind.i64.wrap (((i - 1 : Nat) : Int).tdiv 2) = (((i - 1) / 2 : Nat) : Int) := by
  constructor
  · rw [wrap_id (by omega)]; omega
  · have : ((i - 1 : Nat) : Int).tdiv 2 = (((i - 1) / 2 : Nat) : Int) := rfl
    rw [this, wrap_id (by omega)]
theorem ldx {q : Nat} {x : It} {ty : TypeId} (h : w.heap[q]? = some (.cells (cIt x).toArray ty (0, 0))) : ldN 2 (.pointer (some ⟨q, 0, none⟩)) w = some (.agg (cIt x).toArray) := by
  rw [ldN_of h (by simp [cIt])]; simp [cIt]
theorem up_loop {p q : Nat} {x : It} : ∀ (i : Nat) (d : Nat) (w : World) (l : List It) (m : Pl), i < d → i < l.length → l.length < 2 ^ 62 → Sat w0 (HeapI (ptr p) n l m :: Cl q (cIt x).toArray 97 :: L) w →
    (∀ w', Sat w0 (HeapI (ptr p) n (upL x l m i).1 (upL x l m i).2 :: L) w' → K (.tuple #[]) w') → F67_2L d (ptr p) (.int .i64 i) (ptr q) w K := by
  intro i
  induction i using Nat.strongRecOn with
  | ind i ih =>
    intro d w l m hd hi hlen h hK
    obtain ⟨d, rfl⟩ : ∃ d', d = d' + 1 := ⟨d - 1, by omega⟩
    rw [F67_2L]
    unfold F67_2b
    rw [upL] at hK
    have stop : ∀ (w : World), Sat w0 (HeapI (ptr p) n l m :: Cl q (cIt x).toArray 97 :: L) w → (∀ w', Sat w0 (HeapI (ptr p) n (l.set i x) (aSet x.1 i m) :: L) w' → K (.tuple #[]) w') → F67_3 (ptr p) (.int .i64 i) (ptr q) w K := by
      intro w h hK
      unfold F67_3 F67_3b
      have hq := h.f1.cl
      simp only [ptr]
      rw [ldx hq]
      simp only [bindP_some]
      exact put_spec h hi fun w' h' => hK w' h'.f1.drop
    by_cases h0 : 0 < i
    · simp only [h0, dif_pos] at hK
      obtain ⟨e1, e2⟩ := half_nat h0 (by omega)
      have e2' : IntKind.i64.wrap (((i - 1 : Nat) : Int) / 2) = (((i - 1) / 2 : Nat) : Int) := e2
      have hal : (i - 1) / 2 < l.length := by omega
      have hy : l[(i - 1) / 2]? = some l[(i - 1) / 2] := List.getElem?_eq_getElem hal
      rw [hy] at hK
      simp only at hK
      have hlt' : (i - 1) / 2 < i := by omega
      generalize (i - 1) / 2 = a at *
      obtain ⟨p', sv, mv, he, hs⟩ := heapI_iff.1 h
      obtain rfl : p = p' := by simpa [ptr] using he
      have hp := hs.drew.cl
      have hq := h.drew.f1.cl
      have hl := hs.drew.f1
      simp [h0, ptr, e1, bQuo_int, e2', cell_of hs.cl, ls_ix hl hal, ls_ld CIt hl hal]
      rw [ldx hq]
      simp only [bindP_some]
      refine order_spec h.drew fun w1 h1 => ?_
      by_cases hlt : itLt x l[a] = true
      · rw [if_pos hlt] at hK
        have : ¬ (ordV l[a] x ≤ 0) := fun e => by rw [ordV_pos] at e; rw [hlt] at e; cases e
        simp [this]
        obtain ⟨p', sv, mv, he, hs⟩ := heapI_iff.1 h1
        obtain rfl : p = p' := by simpa [ptr] using he
        have hl := hs.f1
        simp [cell_of hs.cl, ls_ix hl hal, ls_ld CIt hl hal]
        refine put_spec h1 hi fun w2 h2 => ?_
        exact ih a hlt' d w2 _ _ (by omega) (by simpa using hal) (by simpa using hlen) h2 hK
      · rw [if_neg hlt] at hK
        have : ordV l[a] x ≤ 0 := by rw [ordV_pos]; simpa using hlt
        simp [this]
        exact stop _ h1 hK
    · simp only [h0, dif_neg, not_false_eq_true] at hK
      have : i = 0 := by omega
      subst this
      simp
      exact stop _ h hK
theorem up_spec {p i : Nat} {x : It} (h : Sat w0 (HeapI (ptr p) n l m :: L) w) (hx : l[i]? = some x) (hlen : l.length < 2 ^ 62) (hK : ∀ w', Sat w0 (HeapI (ptr p) n (upL x l m i).1 (upL x l m i).2 :: L) w' → K (.tuple #[]) w') :
    callP G67 [ptr p, .int .i64 i] w K := by
  refine c67 ?_
  unfold F67 F67_1 F67_1b
  obtain ⟨hi, hx'⟩ := List.getElem?_eq_some_iff.1 hx
  obtain ⟨p', sv, mv, he, hs⟩ := heapI_iff.1 h
  obtain rfl : p = p' := by simpa [ptr] using he
  have hl := hs.f1
  simp [ptr, cell_of hs.cl, ls_ix hl hi, ls_ld CIt hl hi, hx']
  refine eAlloc_sat h z97 fun q w1 h1 => ?_
  refine bindW_stN h1 (by simp [cIt]) (by simp [cIt]) (by simp) fun w2 h2 => ?_
  have e : wr (Value.agg #[(.int .i64 0), (.int .i64 0)]).cells 0 (Value.agg (cIt x).toArray).cells.toList = (cIt x).toArray := by simp [wr, cIt]
  rw [e] at h2
  exact up_loop i fuel w2 l m (by unfold fuel; omega) hi hlen h2.f1 hK
theorem kid_nat {i : Nat} (hb : i < 2 ^ 61) : IntKind.i64.wrap (2 * (i : Int)) = ((2 * i : Nat) : Int) ∧ IntKind.i64.wrap (((2 * i : Nat) : Int) + 1) = ((2 * i + 1 : Nat) : Int) ∧ IntKind.i64.wrap (((2 * i + 1 : Nat) : Int) + 1) = ((2 * i + 2 : Nat) : Int) := by
  refine ⟨?_, ?_, ?_⟩ <;> rw [wrap_id (by omega)] <;> omega
theorem down_loop {p q : Nat} {x : It} : ∀ (d i : Nat) (w : World) (l : List It) (m : Pl), l.length - i < d → i < l.length → l.length < 2 ^ 60 → Sat w0 (HeapI (ptr p) n l m :: Cl q (cIt x).toArray 97 :: L) w →
    (∀ w', Sat w0 (HeapI (ptr p) n (downL x l m i).1 (downL x l m i).2 :: L) w' → K (.tuple #[]) w') → F68_2L d (ptr p) (.int .i64 i) (ptr q) w K := by
  intro d
  induction d with
  | zero => intro i w l m hd; omega
  | succ d ih =>
    intro i w l m hd hi hlen h hK
    rw [F68_2L]
    unfold F68_4 F68_5 F68_5b
    rw [downL] at hK
    have stop : ∀ (w : World), Sat w0 (HeapI (ptr p) n l m :: Cl q (cIt x).toArray 97 :: L) w → (∀ w', Sat w0 (HeapI (ptr p) n (l.set i x) (aSet x.1 i m) :: L) w' → K (.tuple #[]) w') → F68_3 (ptr p) (.int .i64 i) (ptr q) w K := by
      intro w h hK
      unfold F68_3 F68_3b
      have hq := h.f1.cl
      simp only [ptr]
      rw [ldx hq]
      simp only [bindP_some]
      exact put_spec h hi fun w' h' => hK w' h'.f1.drop
    obtain ⟨e1, e2, e3⟩ := kid_nat (i := i) (by omega)
    obtain ⟨p', sv, mv, he, hs⟩ := heapI_iff.1 h
    obtain rfl : p = p' := by simpa [ptr] using he
    have hl := hs.f1
    by_cases hk : 2 * i + 1 < l.length
    · simp only [hk, dif_pos] at hK
      have hy : l[2 * i + 1]? = some l[2 * i + 1] := List.getElem?_eq_getElem hk
      have nk : ¬ ((l.length : Int) ≤ ((2 * i + 1 : Nat) : Int)) := by omega
      have go : ∀ (c : Nat) (w : World), kidOf l i = c → c < l.length → Sat w0 (HeapI (ptr p) n l m :: Cl q (cIt x).toArray 97 :: L) w →
          F68_6 (ptr p) (.int .i64 i) (ptr q) (.int .i64 c) w K (fun a0 a1 a4 w => F68_2L d a0 a1 a4 w K) := by
        intro c w hc hcl h
        have hgt := kidOf_gt l i
        rw [hc] at hK hgt
        have hyc : l[c]? = some l[c] := List.getElem?_eq_getElem hcl
        rw [hyc] at hK
        simp only at hK
        unfold F68_6 F68_6b
        obtain ⟨p', sv, mv, he, hs⟩ := heapI_iff.1 h
        obtain rfl : p = p' := by simpa [ptr] using he
        have hq := h.drew.f1.cl
        have hl := hs.drew.f1
        simp only [ptr]
        rw [ldx hq]
        simp [cell_of hs.cl, ls_ix hl hcl, ls_ld CIt hl hcl]
        refine order_spec h.drew fun w1 h1 => ?_
        by_cases hlt : itLt l[c] x = true
        · rw [if_pos hlt] at hK
          have : ¬ (ordV x l[c] ≤ 0) := fun e => by rw [ordV_pos] at e; rw [hlt] at e; cases e
          simp [this]
          obtain ⟨p', sv, mv, he, hs⟩ := heapI_iff.1 h1
          obtain rfl : p = p' := by simpa [ptr] using he
          have hl := hs.f1
          simp [cell_of hs.cl, ls_ix hl hcl, ls_ld CIt hl hcl]
          refine put_spec h1 hi fun w2 h2 => ?_
          exact ih c w2 _ _ (by simp; omega) (by simpa using hcl) (by simpa using hlen) h2 hK
        · rw [if_neg hlt] at hK
          have : ordV x l[c] ≤ 0 := by rw [ordV_pos]; simpa using hlt
          simp [this]
          exact stop _ h1 hK
      by_cases hk2 : 2 * i + 2 < l.length
      · have hz : l[2 * i + 2]? = some l[2 * i + 2] := List.getElem?_eq_getElem hk2
        have nk2 : ((2 * i + 2 : Nat) : Int) < (l.length : Int) := by omega
        have hld := hs.drew.f1
        have ix1 := ls_ix hld hk
        have ix2 := ls_ix hld hk2
        have ld1' := ls_ld CIt hld hk
        have ld2' := ls_ld CIt hld hk2
        simp only [ptr, pNil_ptr, bindP_some, pFieldAddr_ptr, ld1_ptr, bMul_int, bAdd_int, e1, e2, e3, Nat.zero_add, cell_drew, cell_of hs.cl, ls_len hl, bGe_int, bLt_int, stepM_true, stepG_true, stepE_true, gd_true, ge_iff_le, nk, nk2, decide_true, decide_false, ifB_false, ifB_true, ix1, ix2, ld1', ld2',
          List.getElem?_toArray, List.getElem?_cons_succ, List.getElem?_cons_zero]
        refine order_spec h.drew fun w1 h1 => ?_
        have hkid : kidOf l i = if itLt l[2 * i + 2] l[2 * i + 1] then 2 * i + 2 else 2 * i + 1 := by unfold kidOf; rw [hy, hz]
        by_cases hlt : itLt l[2 * i + 2] l[2 * i + 1] = true
        · have : ordV l[2 * i + 2] l[2 * i + 1] < 0 := (ordV_neg _ _).2 hlt
          simp only [bLt_int, this, decide_true, bindP_some, pPick_true, ifB_true, stepG_true, e3, bAdd_int]
          exact go (2 * i + 2) w1 (by rw [hkid, if_pos hlt]) hk2 h1
        · have : ¬ (ordV l[2 * i + 2] l[2 * i + 1] < 0) := fun e => hlt ((ordV_neg _ _).1 e)
          simp only [bLt_int, this, decide_false, bindP_some, pPick_true, ifB_false, stepG_true, e3, bAdd_int]
          exact go (2 * i + 1) w1 (by rw [hkid, if_neg hlt]) hk h1
      · have nk2 : ¬ (((2 * i + 2 : Nat) : Int) < (l.length : Int)) := by omega
        have hkid : kidOf l i = 2 * i + 1 := by unfold kidOf; rw [hy, List.getElem?_eq_none (l := l) (i := 2 * i + 2) (by omega)]
        simp only [ptr, pNil_ptr, bindP_some, pFieldAddr_ptr, ld1_ptr, bMul_int, bAdd_int, e1, e2, e3, Nat.zero_add, cell_drew, cell_of hs.cl, ls_len hl, bGe_int, bLt_int, stepM_false, stepG_false, stepE_false, gd_true, ge_iff_le, nk, nk2, decide_false, ifB_false, pPick_false,
          List.getElem?_toArray, List.getElem?_cons_succ, List.getElem?_cons_zero]
        exact go (2 * i + 1) _ hkid hk h.drew
    · simp only [hk, dif_neg, not_false_eq_true] at hK
      have nk : (l.length : Int) ≤ ((2 * i + 1 : Nat) : Int) := by omega
      simp only [ptr, pNil_ptr, bindP_some, pFieldAddr_ptr, ld1_ptr, bMul_int, bAdd_int, e1, e2, Nat.zero_add, cell_of hs.cl, ls_len hl, bGe_int, ge_iff_le, nk, decide_true, ifB_true,
        List.getElem?_toArray, List.getElem?_cons_succ, List.getElem?_cons_zero]
      exact stop _ h hK
theorem down_spec {p i : Nat} {x : It} (h : Sat w0 (HeapI (ptr p) n l m :: L) w) (hx : l[i]? = some x) (hlen : l.length < 2 ^ 60) (hK : ∀ w', Sat w0 (HeapI (ptr p) n (downL x l m i).1 (downL x l m i).2 :: L) w' → K (.tuple #[]) w') :
    callP G68 [ptr p, .int .i64 i] w K := by
  refine c68 ?_
  unfold F68 F68_1 F68_1b
  obtain ⟨hi, hx'⟩ := List.getElem?_eq_some_iff.1 hx
  obtain ⟨p', sv, mv, he, hs⟩ := heapI_iff.1 h
  obtain rfl : p = p' := by simpa [ptr] using he
  have hl := hs.f1
  simp [ptr, cell_of hs.cl, ls_ix hl hi, ls_ld CIt hl hi, hx']
  refine eAlloc_sat h z97 fun q w1 h1 => ?_
  refine bindW_stN h1 (by simp [cIt]) (by simp [cIt]) (by simp) fun w2 h2 => ?_
  have e : wr (Value.agg #[(.int .i64 0), (.int .i64 0)]).cells 0 (Value.agg (cIt x).toArray).cells.toList = (cIt x).toArray := by simp [wr, cIt]
  rw [e] at h2
  exact down_loop fuel i w2 l m (by unfold fuel; omega) hi hlen h2.f1 hK
end
end Go.Proofs.Gong

/- Hp5 -/
namespace Go.Proofs.Gong
open Go Go.Sx Go.Proofs
set_option maxRecDepth 100000
def HeapH (v : Value) (n : Int) (M : List It) : HP := HEx fun l => HEx fun m => HPr (HRep l m M ∧ (l.length : Int) ≤ n ∧ n ≤ 65536) (HeapI v n l m)
section
variable {w0 w : World} {L : List HP} {K : Value → World → Prop} {v : Value} {n : Int} {l : List It} {m : Pl} {M : List It}
theorem heap_iff : Sat w0 (HeapH v n M :: L) w ↔ ∃ l m, (HRep l m M ∧ (l.length : Int) ≤ n ∧ n ≤ 65536) ∧ Sat w0 (HeapI v n l m :: L) w := by
  simp only [HeapH, Sat.ex_iff, Sat.pr_iff]
theorem heap_mk (R : HRep l m M) (h1 : (l.length : Int) ≤ n) (h2 : n ≤ 65536) (h : Sat w0 (HeapI v n l m :: L) w) : Sat w0 (HeapH v n M :: L) w := heap_iff.2 ⟨l, m, ⟨R, h1, h2⟩, h⟩
def firstR (M : List It) : Value := .tuple #[.agg (cIt (M.head?.getD (0, 0))).toArray, .bool M.head?.isSome]
theorem first_spec (h : Sat w0 (HeapH v n M :: L) w) (hK : ∀ w', Sat w0 (HeapH v n M :: L) w' → K (firstR M) w') : callP G58 [v] w K := by
  refine c58 ?_
  unfold F58
  obtain ⟨l, m, ⟨R, hn⟩, h⟩ := heap_iff.1 h
  have hf := R.first
  refine eAlloc_sat h z97 fun q w1 h1 => ?_
  obtain ⟨p, sv, mv, rfl, hs⟩ := heapI_iff.1 h1.f1
  have hl := hs.f1
  simp [ptr, cell_of hs.cl, ls_len hl]
  have fin : ∀ (x : It) (k : World → Prop), (∀ w2, ldN 2 (.pointer (some ⟨q, 0, none⟩)) w2 = some (.agg (cIt x).toArray) → Sat w0 (HeapH (ptr p) n M :: L) w2 → k w2) → bindW (st 2 (.pointer (some ⟨q, 0, none⟩)) (.agg (cIt x).toArray) w1) k := by
    intro x k hk
    refine bindW_stN h1 (by simp [cIt]) (by simp [cIt]) (by simp) fun w2 h2 => ?_
    have e : wr (Value.agg #[(.int .i64 0), (.int .i64 0)]).cells 0 (Value.agg (cIt x).toArray).cells.toList = (cIt x).toArray := by simp [wr, cIt]
    rw [e] at h2
    exact hk w2 (ldx h2.cl) (heap_mk R hn.1 hn.2 h2.drop)
  cases l with
  | nil =>
    have e : fBuild Tryz.prog 97 [] = some (.agg (cIt (0, 0)).toArray) := by kernel_rfl
    simp at hf
    simp [e]
    refine fin (0, 0) _ fun w2 hw h2 => ?_
    rw [hw]
    simp [firstR, ← hf] at hK
    exact hK _ h2
  | cons x l =>
    have e0 := ls_ix hl (i := 0) (by simp)
    have e1 := ls_ld CIt hl (i := 0) (by simp)
    simp at hf e0 e1
    have : ¬ ((l.length : Int) + 1 = 0) := by omega
    simp [this, e0, e1]
    refine fin x _ fun w2 hw h2 => ?_
    rw [hw]
    simp [firstR, ← hf] at hK
    exact hK _ h2
def setR (n id t : Int) (M : List It) : Int × List It :=
  if t < 0 ∨ 2305843009213693952 < t then (1, M) else if getM id M = none ∧ n ≤ M.length then (200, M) else (0, setM id t M)
theorem set2_spec {p i : Nat} {id t : Int} {l0 : List It} (h : Sat w0 (HeapI (ptr p) n l0 m :: L) w) (hi : i < l0.length) (hU : Up (l0.set i (id, t)) i (id, t)) (hI : Idx (l0.set i (id, t)) (aSet id i m)) (hp : (l0.set i (id, t)).Perm (setM id t M)) (hM : Asc M)
    (hn : (l0.length : Int) ≤ n ∧ n ≤ 65536) (hK : ∀ w', Sat w0 (HeapH (ptr p) n (setM id t M) :: L) w' → K (.int .i64 0) w') : F64_2 (ptr p) (.int .i64 id) (.int .i64 t) (.int .i64 i) w K := by
  unfold F64_2 F64_2b
  have e : fBuild Tryz.prog 97 [(0, .int .i64 id), (1, .int .i64 t)] = some (.agg (cIt (id, t)).toArray) := by kernel_rfl
  rw [e]
  simp only [bindP_some]
  refine put_spec h hi fun w1 h1 => ?_
  have hx : (l0.set i (id, t))[i]? = some (id, t) := by simp [hi]
  refine up_spec h1 hx (by simp; omega) fun w2 h2 => ?_
  obtain ⟨pp, hpl, hg, hgx, f1, f2, f3⟩ := fix_ok hx hU hI
  obtain ⟨p', sv, mv, he, hs⟩ := heapI_iff.1 h2
  obtain rfl : p = p' := by simpa [ptr] using he
  have lk := look1 (k := id) hs.f2 Kint um88 z3
  simp only at hg
  simp only [ekI, hg] at lk
  simp [ptr, cell_of hs.cl, lk, evI]
  refine down_spec h2 hgx (by rw [upL_len]; simp; omega) fun w3 h3 => ?_
  refine hK _ (heap_mk ⟨f2, f1, f3.trans hp, (hM.drop id).ins _⟩ ?_ hn.2 h3)
  have := f3.length_eq
  simp at this; omega
theorem set_spec {id t : Int} (h : Sat w0 (HeapH v n M :: L) w) (hK : ∀ w', Sat w0 (HeapH v n (setR n id t M).2 :: L) w' → K (.int .i64 (setR n id t M).1) w') : callP G64 [v, .int .i64 id, .int .i64 t] w K := by
  refine c64 ?_
  unfold F64 F64_1 F64_1b
  have h0 := h
  obtain ⟨l, m, ⟨R, hn⟩, h⟩ := heap_iff.1 h
  by_cases hr : t < 0 ∨ 2305843009213693952 < t
  · simp only [setR, hr, if_true] at hK
    rcases hr with hr | hr
    · simp [hr]; exact hK _ h0
    · have : ¬ t < 0 := by omega
      simp [this, hr]; exact hK _ h0
  have r1 : ¬ t < 0 := by omega
  have r2 : ¬ 2305843009213693952 < t := by omega
  simp only [setR, hr, if_false] at hK
  obtain ⟨p, sv, mv, rfl, hs⟩ := heapI_iff.1 h
  have lk := look2 (k := id) hs.f2 Kint um88 z3
  simp only [ekI] at lk
  simp [r1, r2, ptr, cell_of hs.cl, lk]
  have hlen := R.p.length_eq
  rcases R.get id with ⟨k, t', h1, h2, h3⟩ | ⟨h1, h2, h3⟩
  · have hk : k < l.length := (List.getElem?_eq_some_iff.1 h2).1
    obtain ⟨u1, u2, u3⟩ := R.put (t' := t) h2
    simp [h3] at hK
    simp [h1, evI]
    exact set2_spec h hk u1 u2 u3 R.s hn hK
  · obtain ⟨u1, u2, u3⟩ := R.add (t' := t) h1
    simp [h1, h2, ls_len hs.f1] at hK ⊢
    by_cases hfull : n ≤ l.length
    · simp [hfull]
      have : n ≤ M.length := by omega
      simp [this] at hK
      exact hK _ h0.drew
    · have : ¬ n ≤ M.length := by omega
      simp [this] at hK
      simp [hfull]
      have e : fBuild Tryz.prog 97 [] = some (.agg (cIt (0, 0)).toArray) := by kernel_rfl
      rw [e]
      simp only [bindP_some]
      refine ls_lit (f := cIt) (es := 2) (m := [(0, 0)]) (c := (cIt (0, 0)).toArray) CIt hs.drew u89 (by kernel_rfl) (by simp) fun s1 w1 g1 => ?_
      refine ls_app (m := [(0, 0)]) CIt g1.f2 sl89 ss89 (ls_rd g1) (by simp; omega) fun s2 w2 g2 => ?_
      have := ls_one g2
      refine bindW_st g2.f2 (by simp) fun w3 g3 => ?_
      have g4 := g3.pick [0, 1, 3] [2] 4 (by decide) (by simp)
      have g5 : Sat w0 (HeapI (ptr p) n (l ++ [(0, 0)]) m :: L) w3 := heapI_mk (p := p) (sv := s2) (mv := mv) g4
      have es : (l ++ [((0, 0) : It)]).set l.length (id, t) = l ++ [(id, t)] := by simp
      refine set2_spec (M := M) g5 (by simp) (by rw [es]; exact u1) (by rw [es]; exact u2) (by rw [es]; exact u3) R.s ⟨by simp; omega, hn.2⟩ hK
end
end Go.Proofs.Gong

/- Hp6 -/
namespace Go.Proofs.Gong
open Go Go.Sx Go.Proofs
set_option maxRecDepth 100000
section
variable {w0 w : World} {L : List HP} {K : Value → World → Prop} {v : Value} {n : Int} {l : List It} {m : Pl} {M : List It}
theorem drop_spec {id : Int} (h : Sat w0 (HeapH v n M :: L) w) (hK : ∀ w', Sat w0 (HeapH v n (dropM id M) :: L) w' → K (.bool (getM id M).isSome) w') : callP G53 [v, .int .i64 id] w K := by
  refine c53 ?_
  unfold F53 F53_1 F53_1b
  have h0 := h
  obtain ⟨l, m, ⟨R, hn⟩, h⟩ := heap_iff.1 h
  obtain ⟨p, sv, mv, rfl, hs⟩ := heapI_iff.1 h
  have hnd := map_nd hs.f2
  have lk := look2 (k := id) hs.f2 Kint um88 z3
  simp only [ekI] at lk
  simp [ptr, cell_of hs.cl, lk]
  rcases R.get id with ⟨k, t, h1, h2, h3⟩ | ⟨h1, h2, h3⟩
  · have hk : k < l.length := (List.getElem?_eq_some_iff.1 h2).1
    simp [h3] at hK
    simp only [h1, Option.elim, Option.isSome_some, evI, Bool.not_true, ifB_false]
    have hl := hs.f1
    obtain ⟨last, hlast⟩ : ∃ last, last = l.length - 1 := ⟨_, rfl⟩
    have e1 : IntKind.i64.wrap ((l.length : Int) - 1) = (last : Int) := by rw [wrap_id (by omega)]; omega
    have hll : last < l.length := by omega
    have hx : l[l.length - 1]? = some l[last] := by rw [← hlast]; exact List.getElem?_eq_getElem hll
    simp [ls_len hl, e1, ls_ix hl hll, ls_ld CIt hl hll]
    refine eAlloc_sat hs z97 fun q w1 g1 => ?_
    refine bindW_stN g1 (by simp [cIt]) (by simp [cIt]) (by simp) fun w2 g2 => ?_
    have e : wr (Value.agg #[(.int .i64 0), (.int .i64 0)]).cells 0 (Value.agg (cIt l[last]).toArray).cells.toList = (cIt l[last]).toArray := by simp [wr, cIt]
    rw [e] at g2
    obtain ⟨s', es, g3⟩ := ls_sub (lo := 0) (hi := last) (A := none) (H := some (.int .i64 last)) (M := none) CIt g2.f2 .none (.some _ _) (.none _) (by omega) (by omega)
    simp [ptr, cell_of g2.f1.cl, es]
    have := ls_one g3
    refine bindW_st g3.f2 (by simp) fun w3 g4 => ?_
    simp [cell_of g4.cl]
    refine eDelete_sat g4.f3 Kint um88 id fun w4 g5 => ?_
    have g6 := g5.pick [1, 2, 0, 3] [] 4 (by decide) (by simp)
    have etl : l.take last = l.dropLast := by rw [hlast, List.dropLast_eq_take]
    simp only [List.drop_zero, etl] at g6
    have g6 : Sat w0 (Cl p #[.int .i64 n, s', mv] 91 :: LsH cIt 2 97 s' l.dropLast :: MapH ekI evI mv (aDel id m) :: Cl q (cIt l[last]).toArray 97 :: L) w4 := g6
    have g7 : Sat w0 (HeapI (ptr p) n l.dropLast (aDel id m) :: Cl q (cIt l[last]).toArray 97 :: L) w4 := heapI_mk g6
    by_cases hlt : k < last
    · simp [hlt]
      obtain ⟨u1, u2, u3⟩ := R.dropAt hnd h2 hx (by omega)
      have hkd : k < l.dropLast.length := by simp; omega
      rw [ldx g7.f1.cl]
      simp only [bindP_some]
      refine put_spec g7 hkd fun w5 g8 => ?_
      have hxx : (l.dropLast.set k l[last])[k]? = some l[last] := by rw [get_set _ _ _ _ hkd, if_pos rfl]
      refine up_spec g8 hxx (by simp; omega) fun w6 g9 => ?_
      obtain ⟨pp, hpl, hg, hgx, f1, f2, f3⟩ := fix_ok hxx u1 u2
      obtain ⟨p', sv', mv', he, hs9⟩ := heapI_iff.1 g9.drew
      obtain rfl : p = p' := by simpa [ptr] using he
      have lk := look1 (k := l[last].1) hs9.f2 Kint um88 z3
      simp only [ekI, hg] at lk
      have hq := g9.f1.cl
      simp only [cell_drew, cell_of hs9.cl, cell_of hq]
      simp [cell_of (show w6.heap[p]? = _ from hs9.cl), cell_of hq, cIt, lk, evI]
      refine down_spec g9.drew hgx (by rw [upL_len]; simp; omega) fun w7 g10 => ?_
      unfold F53_2 F53_2b
      refine hK _ (heap_mk ⟨f2, f1, f3.trans u3, R.s.drop id⟩ ?_ hn.2 g10.f1.drop)
      have := f3.length_eq
      simp at this; omega
    · simp [hlt]
      have hkl : k = l.length - 1 := by omega
      unfold F53_2 F53_2b
      exact hK _ (heap_mk (R.dropLast hnd (by rw [← hkl]; exact h2)) (by simp; omega) hn.2 g7.f1.drop)
  · simp [h1]
    simp [h2, drop_absent h3] at hK
    exact hK _ h0
theorem heap_ptr (h : Sat w0 (HeapH v n M :: L) w) : ∃ p, v = ptr p := by
  obtain ⟨l, m, ⟨R, hn⟩, h⟩ := heap_iff.1 h
  obtain ⟨p, _, _, rfl, _⟩ := heapI_iff.1 h
  exact ⟨p, rfl⟩
end
end Go.Proofs.Gong

/- Hp7 -/
namespace Go.Proofs.Gong
open Go Go.Sx Go.Proofs
set_option maxRecDepth 100000
section
variable {w0 w : World} {L : List HP} {K : Value → World → Prop} {v : Value} {n : Int} {l : List It} {m : Pl} {M : List It}
theorem new_spec {n : Int} (h : Sat w0 L w) (hK0 : (n < 1 ∨ 65536 < n) → K (.tuple #[.pointer none, .int .i64 1]) w)
    (hK : ∀ p w', 1 ≤ n → n ≤ 65536 → Sat w0 (HeapH (ptr p) n [] :: L) w' → K (.tuple #[ptr p, .int .i64 0]) w') : callP G32 [.int .i64 n] w K := by
  refine c32 ?_
  unfold F32
  by_cases h1 : n < 1
  · simp [h1]; exact hK0 (.inl h1)
  by_cases h2 : 65536 < n
  · simp [h1, h2]; exact hK0 (.inr h2)
  simp [h1, h2]
  refine eMakeMap_sat ekI evI h fun mv w1 g1 => ?_
  have := map_one g1
  obtain ⟨r, es, c, ⟨rfl, _⟩, _⟩ := map_iff.1 g1
  have e : fBuild Tryz.prog 91 [(0, .int .i64 n), (2, .map (some r))] = some (.agg #[.int .i64 n, .slice none 0 0, .map (some r)]) := by kernel_rfl
  rw [e]
  simp only [bindP_some]
  refine eBox_sat g1 fun p w2 g2 => ?_
  refine hK p w2 (by omega) (by omega) (heap_mk (l := []) (m := []) ⟨⟨by simp [aGet], by simp⟩, fun k h x y hx => by simp at hx, .refl _, by simp [Asc]⟩ (by simp; omega) (by omega) (heapI_mk (p := p) (sv := .slice none 0 0) (mv := .map (some r)) ?_))
  exact (ls_nil g2).f1
theorem cl_spec {s : Value} (h : Sat w0 (LsH cIt 2 97 s l :: L) w) (hlen : l.length ≤ 65536) (hK : ∀ s' w', Sat w0 (LsH cIt 2 97 s' l :: LsH cIt 2 97 s l :: L) w' → K s' w') : callP G54 [s] w K := by
  refine c54 ?_
  unfold F54
  obtain ⟨a, c, rfl, _⟩ := (ls_rd h).cap
  rw [bEq_nils u89]
  simp only [bindP_some]
  cases a with
  | none =>
    simp
    have : l = [] := by
      have hr := ls_rd h
      generalize hcs : l.flatMap cIt = cs at hr
      generalize hn : l.length = k at hr
      cases hr with
      | emp => exact List.eq_nil_of_length_eq_zero hn
    subst this
    exact hK _ _ (ls_nil h)
  | some a =>
    simp
    refine ls_lit (f := cIt) (es := 2) (m := []) (c := #[]) CIt h u89 (by kernel_rfl) (by simp) fun s1 w1 h1 => ?_
    refine ls_app (m := l) CIt h1 sl89 ss89 (ls_rd h1.f1) (by simp; omega) fun s2 w2 h2 => ?_
    exact hK _ _ (by simpa using h2)
theorem mcl_spec {mv : Value} (h : Sat w0 (MapH ekI evI mv m :: L) w) (hK : ∀ v' w', Sat w0 (MapH ekI evI v' m :: MapH ekI evI mv m :: L) w' → K v' w') : callP G55 [mv] w K := by
  refine c55 ?_
  unfold F55
  obtain ⟨r, es, c, ⟨rfl, _⟩, _⟩ := map_iff.1 h
  rw [bEq_nilm um88, fMkI_of um88 (by intro _ h; cases h)]
  simp
  refine gClone_sat h fun v' w1 h1 => ?_
  rw [fAssert_of um88 (by intro _ h; cases h)]
  exact hK _ _ h1
theorem fork_spec (h : Sat w0 (HeapH v n M :: L) w) (hK : ∀ p w', Sat w0 (HeapH (ptr p) n M :: HeapH v n M :: L) w' → K (ptr p) w') : callP G40 [v] w K := by
  refine c40 ?_
  unfold F40
  obtain ⟨l, m, ⟨R, hn⟩, h⟩ := heap_iff.1 h
  obtain ⟨p, sv, mv, rfl, hs⟩ := heapI_iff.1 h
  simp [ptr, cell_of hs.cl]
  refine cl_spec hs.drew.f1 (by omega) fun s1 w1 h1 => ?_
  refine ⟨by simp [cell_of h1.f2.cl], ?_⟩
  refine mcl_spec h1.f3 fun m1 w2 h2 => ?_
  refine ⟨by simp [cell_of h2.f4.cl], ?_⟩
  have o1 := map_one h2
  obtain ⟨r, es, c, ⟨rfl, _⟩, _⟩ := map_iff.1 h2
  obtain ⟨a, cc, rfl, _⟩ := (ls_rd h2.f2).cap
  have e : fBuild Tryz.prog 91 [(0, .int .i64 n), (1, .slice a l.length cc), (2, .map (some r))] = some (.agg #[.int .i64 n, .slice a l.length cc, .map (some r)]) := by kernel_rfl
  rw [e]
  simp only [bindP_some]
  refine eBox_sat h2 fun q w3 h3 => ?_
  refine hK q w3 (heap_mk R hn.1 hn.2 (heapI_mk (p := q) (sv := .slice a l.length cc) (mv := .map (some r)) ?_))
  have h4 : Sat w0 (Cl p #[.int .i64 n, sv, mv] 91 :: LsH cIt 2 97 sv l :: MapH ekI evI mv m :: Cl q #[.int .i64 n, .slice a l.length cc, .map (some r)] 91 :: LsH cIt 2 97 (.slice a l.length cc) l :: MapH ekI evI (.map (some r)) m :: L) w3 :=
    h3.pick [5, 4, 2, 0, 3, 1] [] 6 (by decide) (by simp)
  have h5 := heap_mk R hn.1 hn.2 (heapI_mk h4)
  have h6 := h5.f3.f3.f3
  exact h6
end
end Go.Proofs.Gong

/- Bk0 -/
namespace Go.Proofs.Gong
open Go Go.Sx Go.Proofs
def bel (x n : Int) : Int := (x.tmod n + n).tmod n
section
variable {w : World} {K : Value → World → Prop}
theorem Below_spec {x n : Int} (hn : 0 < n) (hn2 : n ≤ 4611686018427387904) (hK : ∀ r : Int, 0 ≤ r → r < n → r = bel x n → K (.int .i64 r) w) : callP G14 [.int .i64 x, .int .i64 n] w K := by
  refine c14 ?_
  unfold F14
  have h1 := Int.tmod_lt_of_pos x hn
  have h2 : -n < x.tmod n := by
    have := Int.lt_tmod_of_pos x hn
    omega
  have h3 := Int.tmod_nonneg n (show (0 : Int) ≤ x.tmod n + n by omega)
  have h4 := Int.tmod_lt_of_pos (x.tmod n + n) hn
  simp [bRem_int _ _ _ (show n ≠ 0 by omega), wrap_id (show -9223372036854775808 ≤ x.tmod n + n ∧ x.tmod n + n ≤ 9223372036854775807 by omega)]
  exact hK _ h3 h4 rfl
end
end Go.Proofs.Gong

/- Nm0 -/
namespace Go.Proofs.Gong
open Go Go.Sx
def longP (b : Nat) : Nat × Nat := if b < 128 then (1, b) else if b / 32 = 6 then (2, b % 32) else if b / 16 = 14 then (3, b % 16) else if b / 8 = 30 then (4, b % 8) else (0, 0)
def leastP (n : Nat) : Nat := if n = 2 then 128 else if n = 3 then 2048 else if n = 4 then 65536 else 0
def isC (c : Nat) : Bool := decide (c ≤ 1114111) && (decide (c < 55296) || decide (57343 < c))
def contP : Nat → Nat → List UInt8 → Option Nat
  | 0, c, _ => some c
  | _ + 1, _, [] => none
  | k + 1, c, b :: s => if b.toNat / 64 = 2 then contP k (c * 64 + b.toNat % 64) s else none
def firstP : List UInt8 → Option (Nat × Nat)
  | [] => none
  | b :: s => if (longP b.toNat).1 = 0 ∨ s.length + 1 < (longP b.toNat).1 then none else
    match contP ((longP b.toNat).1 - 1) (longP b.toNat).2 s with
    | none => none
    | some c => if isC c = true ∧ leastP (longP b.toNat).1 ≤ c then some (c, (longP b.toNat).1) else none
def madeP (c : Nat) : List UInt8 :=
  if c < 128 then [UInt8.ofNat c] else if c < 2048 then [UInt8.ofNat (192 + c / 64), UInt8.ofNat (128 + c % 64)] else
  if c < 65536 then [UInt8.ofNat (224 + c / 4096), UInt8.ofNat (128 + c / 64 % 64), UInt8.ofNat (128 + c % 64)] else
  [UInt8.ofNat (240 + c / 262144), UInt8.ofNat (128 + c / 4096 % 64), UInt8.ofNat (128 + c / 64 % 64), UInt8.ofNat (128 + c % 64)]
def foldP (c : Nat) (l : List UInt8) : Nat := l.foldl (fun c b => c * 64 + b.toNat % 64) c
def guessP (s : List UInt8) (n : Nat) : Nat := match s with
  | [] => 0
  | b :: t => if n = 1 then b.toNat else foldP (if n = 2 then b.toNat % 32 else if n = 3 then b.toNat % 16 else b.toNat % 8) (t.take (n - 1))
def hitP (s : List UInt8) (n : Nat) : Bool := isC (guessP s n) && decide (madeP (guessP s n) = s.take n)
def refP (s : List UInt8) : Nat → Nat → Option (Nat × Nat)
  | 0, _ => none
  | k + 1, n => if n ≤ s.length then if hitP s n = true then some (guessP s n, n) else refP s k (n + 1) else none
theorem u8eq {x : Nat} {b : UInt8} : UInt8.ofNat x = b ↔ x % 256 = b.toNat := by
  rw [← UInt8.toNat_inj]; simp
theorem isC_iff (x : Nat) : isC x = true ↔ x ≤ 1114111 ∧ (x < 55296 ∨ 57343 < x) := by simp [isC]
theorem made1 {x : Nat} (h : x < 128) : madeP x = [UInt8.ofNat x] := by unfold madeP; rw [if_pos h]
theorem made2 {x : Nat} (h1 : ¬ x < 128) (h2 : x < 2048) : madeP x = [UInt8.ofNat (192 + x / 64), UInt8.ofNat (128 + x % 64)] := by unfold madeP; rw [if_neg h1, if_pos h2]
theorem made3 {x : Nat} (h1 : ¬ x < 128) (h2 : ¬ x < 2048) (h3 : x < 65536) : madeP x = [UInt8.ofNat (224 + x / 4096), UInt8.ofNat (128 + x / 64 % 64), UInt8.ofNat (128 + x % 64)] := by unfold madeP; rw [if_neg h1, if_neg h2, if_pos h3]
theorem made4 {x : Nat} (h1 : ¬ x < 128) (h2 : ¬ x < 2048) (h3 : ¬ x < 65536) : madeP x = [UInt8.ofNat (240 + x / 262144), UInt8.ofNat (128 + x / 4096 % 64), UInt8.ofNat (128 + x / 64 % 64), UInt8.ofNat (128 + x % 64)] := by unfold madeP; rw [if_neg h1, if_neg h2, if_neg h3]
theorem hit1 (a : UInt8) (t : List UInt8) : hitP (a :: t) 1 = true ↔ a.toNat < 128 := by
  have := a.toNat_lt
  have hg : guessP (a :: t) 1 = a.toNat := rfl
  rw [hitP, hg, Bool.and_eq_true, decide_eq_true_eq, isC_iff, List.take_succ_cons, List.take_zero]
  by_cases h : a.toNat < 128
  · rw [made1 h]; simp only [List.cons.injEq, u8eq, and_true]; omega
  · rw [made2 h (by omega)]; simp only [List.cons.injEq, reduceCtorEq, and_false, false_iff]; exact h
theorem hit2 (a b : UInt8) (t : List UInt8) : hitP (a :: b :: t) 2 = true ↔ a.toNat / 32 = 6 ∧ b.toNat / 64 = 2 ∧ 128 ≤ a.toNat % 32 * 64 + b.toNat % 64 := by
  have := a.toNat_lt
  have := b.toNat_lt
  have hg : guessP (a :: b :: t) 2 = a.toNat % 32 * 64 + b.toNat % 64 := rfl
  rw [hitP, hg, Bool.and_eq_true, decide_eq_true_eq, isC_iff, List.take_succ_cons, List.take_succ_cons, List.take_zero]
  generalize hx : a.toNat % 32 * 64 + b.toNat % 64 = x
  by_cases h1 : x < 128
  · rw [made1 h1]; simp only [List.cons.injEq, reduceCtorEq, and_false, false_iff]; omega
  · rw [made2 h1 (by omega)]; simp only [List.cons.injEq, u8eq, and_true]; omega
theorem hit3 (a b c : UInt8) (t : List UInt8) : hitP (a :: b :: c :: t) 3 = true ↔ a.toNat / 16 = 14 ∧ b.toNat / 64 = 2 ∧ c.toNat / 64 = 2 ∧ isC ((a.toNat % 16 * 64 + b.toNat % 64) * 64 + c.toNat % 64) = true ∧ 2048 ≤ (a.toNat % 16 * 64 + b.toNat % 64) * 64 + c.toNat % 64 := by
  have := a.toNat_lt
  have := b.toNat_lt
  have := c.toNat_lt
  have hg : guessP (a :: b :: c :: t) 3 = (a.toNat % 16 * 64 + b.toNat % 64) * 64 + c.toNat % 64 := rfl
  rw [hitP, hg, Bool.and_eq_true, decide_eq_true_eq, isC_iff, List.take_succ_cons, List.take_succ_cons, List.take_succ_cons, List.take_zero]
  generalize hx : (a.toNat % 16 * 64 + b.toNat % 64) * 64 + c.toNat % 64 = x
  by_cases h1 : x < 128
  · rw [made1 h1]; simp only [List.cons.injEq, reduceCtorEq, and_false, false_iff]; omega
  · by_cases h2 : x < 2048
    · rw [made2 h1 h2]; simp only [List.cons.injEq, reduceCtorEq, and_false, false_iff]; omega
    · rw [made3 h1 h2 (by omega)]; simp only [List.cons.injEq, u8eq, and_true]; omega
theorem hit4 (a b c d : UInt8) (t : List UInt8) : hitP (a :: b :: c :: d :: t) 4 = true ↔ a.toNat / 8 = 30 ∧ b.toNat / 64 = 2 ∧ c.toNat / 64 = 2 ∧ d.toNat / 64 = 2 ∧ isC (((a.toNat % 8 * 64 + b.toNat % 64) * 64 + c.toNat % 64) * 64 + d.toNat % 64) = true ∧ 65536 ≤ ((a.toNat % 8 * 64 + b.toNat % 64) * 64 + c.toNat % 64) * 64 + d.toNat % 64 := by
  have := a.toNat_lt
  have := b.toNat_lt
  have := c.toNat_lt
  have := d.toNat_lt
  have hg : guessP (a :: b :: c :: d :: t) 4 = ((a.toNat % 8 * 64 + b.toNat % 64) * 64 + c.toNat % 64) * 64 + d.toNat % 64 := rfl
  rw [hitP, hg, Bool.and_eq_true, decide_eq_true_eq, isC_iff, List.take_succ_cons, List.take_succ_cons, List.take_succ_cons, List.take_succ_cons, List.take_zero]
  generalize hx : ((a.toNat % 8 * 64 + b.toNat % 64) * 64 + c.toNat % 64) * 64 + d.toNat % 64 = x
  by_cases h1 : x < 128
  · rw [made1 h1]; simp only [List.cons.injEq, reduceCtorEq, and_false, false_iff]; omega
  · by_cases h2 : x < 2048
    · rw [made2 h1 h2]; simp only [List.cons.injEq, reduceCtorEq, and_false, false_iff]; omega
    · by_cases h3 : x < 65536
      · rw [made3 h1 h2 h3]; simp only [List.cons.injEq, reduceCtorEq, and_false, false_iff]; omega
      · rw [made4 h1 h2 h3]; simp only [List.cons.injEq, u8eq, and_true]; omega
theorem refP_step {s : List UInt8} {k n : Nat} (h : n ≤ s.length) : refP s (k + 1) n = if hitP s n = true then some (guessP s n, n) else refP s k (n + 1) := by rw [refP, if_pos h]
theorem refP_end {s : List UInt8} {k n : Nat} (h : s.length < n) : refP s k n = none := by
  cases k with
  | zero => rfl
  | succ k => rw [refP, if_neg (by omega)]
theorem first_of {b : UInt8} {s : List UInt8} {n c0 : Nat} (hl : longP b.toNat = (n, c0)) (hn : n ≠ 0) : firstP (b :: s) = if s.length + 1 < n then none else match contP (n - 1) c0 s with
    | none => none
    | some c => if isC c = true ∧ leastP n ≤ c then some (c, n) else none := by
  rw [firstP, hl]
  simp only
  by_cases h : s.length + 1 < n
  · rw [if_pos (.inr h), if_pos h]
  · rw [if_neg (by rintro (h' | h') <;> omega), if_neg h]
theorem ref_skip {s : List UInt8} {k n : Nat} (h : n ≤ s.length → ¬ hitP s n = true) : refP s (k + 1) n = refP s k (n + 1) := by
  by_cases hl : n ≤ s.length
  · rw [refP_step hl, if_neg (h hl)]
  · rw [refP_end (by omega), refP_end (by omega)]
theorem miss2 {a : UInt8} {t : List UInt8} (h : a.toNat / 32 ≠ 6) (hl : 2 ≤ (a :: t).length) : ¬ hitP (a :: t) 2 = true := by
  match t, hl with
  | b :: t, _ => rw [hit2]; omega
theorem miss3 {a : UInt8} {t : List UInt8} (h : a.toNat / 16 ≠ 14) (hl : 3 ≤ (a :: t).length) : ¬ hitP (a :: t) 3 = true := by
  match t, hl with
  | b :: c :: t, _ => rw [hit3]; exact fun x => h x.1
theorem miss4 {a : UInt8} {t : List UInt8} (h : a.toNat / 8 ≠ 30) (hl : 4 ≤ (a :: t).length) : ¬ hitP (a :: t) 4 = true := by
  match t, hl with
  | b :: c :: d :: t, _ => rw [hit4]; exact fun x => h x.1
theorem refP_first (s : List UInt8) : refP s 4 1 = firstP s := by
  cases s with
  | nil => rfl
  | cons a t =>
    have ha := a.toNat_lt
    by_cases h1 : a.toNat < 128
    · rw [refP_step (by simp), if_pos ((hit1 a t).2 h1), first_of (n := 1) (c0 := a.toNat) (by simp [longP, h1]) (by omega), if_neg (by omega)]
      have : isC a.toNat = true := by rw [isC_iff]; omega
      simp [contP, this, leastP, guessP]
    · rw [ref_skip (fun _ => by rw [hit1]; exact h1)]
      by_cases h2 : a.toNat / 32 = 6
      · rw [first_of (n := 2) (c0 := a.toNat % 32) (by simp [longP, h1, h2]) (by omega)]
        cases t with
        | nil => rw [refP_end (by simp)]; simp
        | cons b t =>
          rw [if_neg (by simp)]
          have hb := b.toNat_lt
          by_cases hb2 : b.toNat / 64 = 2
          · simp only [contP, hb2, if_true, show (2 - 1 : Nat) = 0 + 1 from rfl]
            by_cases hc : 128 ≤ a.toNat % 32 * 64 + b.toNat % 64
            · rw [refP_step (by simp), if_pos ((hit2 a b t).2 ⟨h2, hb2, hc⟩), if_pos ⟨by rw [isC_iff]; omega, by simpa [leastP] using hc⟩]
              rfl
            · rw [ref_skip (fun _ => by rw [hit2]; omega), ref_skip (fun h => miss3 (by omega) h), ref_skip (fun h => miss4 (by omega) h), if_neg (by rintro ⟨_, h⟩; apply hc; simpa [leastP] using h)]
              rfl
          · rw [ref_skip (fun _ => by rw [hit2]; omega), ref_skip (fun h => miss3 (by omega) h), ref_skip (fun h => miss4 (by omega) h)]
            simp [contP, hb2, refP]
      · rw [ref_skip (fun h => miss2 h2 h)]
        by_cases h3 : a.toNat / 16 = 14
        · rw [first_of (n := 3) (c0 := a.toNat % 16) (by simp [longP, h1, h2, h3]) (by omega)]
          match t with
          | [] => rw [refP_end (by simp)]; simp
          | [b] => rw [refP_end (by simp)]; simp
          | b :: c :: t =>
            rw [if_neg (by simp)]
            have hb := b.toNat_lt
            have hc := c.toNat_lt
            by_cases hb2 : b.toNat / 64 = 2
            · by_cases hc2 : c.toNat / 64 = 2
              · simp only [contP, hb2, hc2, if_true, show (3 - 1 : Nat) = 0 + 1 + 1 from rfl]
                by_cases hk : isC ((a.toNat % 16 * 64 + b.toNat % 64) * 64 + c.toNat % 64) = true ∧ 2048 ≤ (a.toNat % 16 * 64 + b.toNat % 64) * 64 + c.toNat % 64
                · rw [refP_step (by simp), if_pos ((hit3 a b c t).2 ⟨h3, hb2, hc2, hk⟩), if_pos ⟨hk.1, by simpa [leastP] using hk.2⟩]
                  rfl
                · rw [ref_skip (fun _ => by rw [hit3]; exact fun x => hk ⟨x.2.2.2.1, x.2.2.2.2⟩), ref_skip (fun h => miss4 (by omega) h), if_neg (by rintro ⟨g, h⟩; apply hk; exact ⟨g, by simpa [leastP] using h⟩)]
                  rfl
              · rw [ref_skip (fun _ => by rw [hit3]; exact fun x => hc2 x.2.2.1), ref_skip (fun h => miss4 (by omega) h)]
                simp [contP, hb2, hc2, refP]
            · rw [ref_skip (fun _ => by rw [hit3]; exact fun x => hb2 x.2.1), ref_skip (fun h => miss4 (by omega) h)]
              simp [contP, hb2, refP]
        · rw [ref_skip (fun h => miss3 h3 h)]
          by_cases h4 : a.toNat / 8 = 30
          · rw [first_of (n := 4) (c0 := a.toNat % 8) (by simp [longP, h1, h2, h3, h4]) (by omega)]
            match t with
            | [] => rw [refP_end (by simp)]; simp
            | [b] => rw [refP_end (by simp)]; simp
            | [b, c] => rw [refP_end (by simp)]; simp
            | b :: c :: d :: t =>
              rw [if_neg (by simp)]
              by_cases hb2 : b.toNat / 64 = 2
              · by_cases hc2 : c.toNat / 64 = 2
                · by_cases hd2 : d.toNat / 64 = 2
                  · simp only [contP, hb2, hc2, hd2, if_true, show (4 - 1 : Nat) = 0 + 1 + 1 + 1 from rfl]
                    by_cases hk : isC (((a.toNat % 8 * 64 + b.toNat % 64) * 64 + c.toNat % 64) * 64 + d.toNat % 64) = true ∧ 65536 ≤ ((a.toNat % 8 * 64 + b.toNat % 64) * 64 + c.toNat % 64) * 64 + d.toNat % 64
                    · rw [refP_step (by simp), if_pos ((hit4 a b c d t).2 ⟨h4, hb2, hc2, hd2, hk⟩), if_pos ⟨hk.1, by simpa [leastP] using hk.2⟩]
                      rfl
                    · rw [ref_skip (fun _ => by rw [hit4]; exact fun x => hk x.2.2.2.2), if_neg (by rintro ⟨g, h⟩; apply hk; exact ⟨g, by simpa [leastP] using h⟩)]
                      rfl
                  · rw [ref_skip (fun _ => by rw [hit4]; exact fun x => hd2 x.2.2.2.1)]
                    simp [contP, hb2, hc2, hd2, refP]
                · rw [ref_skip (fun _ => by rw [hit4]; exact fun x => hc2 x.2.2.1)]
                  simp [contP, hb2, hc2, refP]
              · rw [ref_skip (fun _ => by rw [hit4]; exact fun x => hb2 x.2.1)]
                simp [contP, hb2, refP]
          · rw [ref_skip (fun h => miss4 h4 h)]
            have : longP a.toNat = (0, 0) := by simp [longP, h1, h2, h3, h4]
            rw [firstP, this]
            simp [refP]
end Go.Proofs.Gong
