/- A part of the proofs: what stands below it, told in lemmas. No condition. -/
import Derived.Test.YtbbfjgmnemlolaaGreatDoorP0
import Derived.ChangeSame
import Derived.WideKeyArgs
import Derived.RowKit
import Derived.Below
import Derived.OpenShut
import Derived.Deep.Slices
import Derived.ChangeMaps5
import Derived.Laws.Externs
import Derived.SizedLaws
import Derived.Lib.LaidTab
import GoSem.Claims
import Derived.Shelf.SlSortCmp.WholeK
import Derived.Shelf.SlSortCmp.NoneTotal
import Derived.Shelf.SlIterI.Nil
import Derived.Shelf.SlIter.Nil
import Derived.Shelf.SortM.Plain
import Derived.Shelf.SortM.SortNone
import Derived.RangeFuncLeaves
import Derived.RangeFuncBound
import Derived.RangeFuncCalls
import Derived.OwnWalkIn
import Derived.TacticsIn
import Derived.Test.YtbbfjgmnemlolaaGreatDoorProg
set_option linter.all false

/- Sz3 -/
namespace Go.Sx
open Go.ChangeShapes Go.WideShapes Go.RowKit
section
variable {H : Type} {enc : TypeId × Value → H} {P : Program}
theorem trodAll_stays (hl : laidOutB P = true) {W W' : World} {sp' : Nat → Bool} {base : Nat} : ∀ {ts : List TypeId} {vs : List Value} {ds : List (DataW H)} {ps : List MemPlace}, (∀ t ∈ ts, P.readableRec t = true ∧ t < P.types.size) →
    DataW.TrodAll enc P W base (fun _ => true) true ts vs ds ps → (∀ p ∈ ps, W.sameAt W' p) → (∀ p ∈ ps, sp' p.block = true) → DataW.TrodAll enc P W' base sp' true ts vs ds ps := by
  intro ts
  induction ts with
  | nil => intro vs ds ps _ h _ _; obtain ⟨rfl, rfl, rfl⟩ := trodAll_nil h; exact trodAll_mk0
  | cons t ts ih =>
    intro vs ds ps hr h h1 h2
    cases vs with
    | nil => exact h.elim
    | cons v vs =>
      cases ds with
      | nil => exact h.elim
      | cons d ds =>
        obtain ⟨p, q, hp, hq, rfl⟩ := h
        have := hr t (by simp)
        exact ⟨p, q, WideElems.Trod_stays hl this.1 this.2 hp (fun x hx => h1 x (by simp [hx])) (fun x hx => h2 x (by simp [hx])), ih (fun t ht => hr t (by simp [ht])) hq (fun x hx => h1 x (by simp [hx])) (fun x hx => h2 x (by simp [hx])), rfl⟩
theorem law_post (hl : laidOutB P = true) {f : Func} {s : ChangeSpec} {apart fresh handsOn again : Bool} {W W' : World} {args : Array Value} {ds gs : List (DataW H)} {before : List MemPlace} {tb : TypeId}
    (hp : f.params.toList.all (fun t => P.readableRec t && decide (t < P.types.size)) = true) (hW : DataW.Whole enc P f.params.toList s.vars apart W args.toList ds gs before) (hv : s.vars = [])
    (hs : s.fn H ds = { results := [.lit (.bool true)], args := ds }) (hr : f.resultTypes = #[tb]) (hb : P.underlying tb = some .bool) (hf : Fr [] W W') : s.post enc P f apart fresh handsOn again W args (.bool true) W' := by
  have hlt := hW.lt
  have hW0 := hW
  obtain ⟨p, q, hA, hV, rfl, hfz, hnd⟩ := hW
  rw [hv] at hV
  obtain ⟨rfl, rfl⟩ := trodVars_none hV
  simp only [List.append_nil] at *
  have hB := hf.below
  have hpar : ∀ t ∈ f.params.toList, P.readableRec t = true ∧ t < P.types.size := fun t ht => by
    have := List.all_eq_true.1 hp t ht
    simpa using this
  have hsame : ∀ x ∈ p, W.sameAt W' x := fun x hx => hB.same (hlt x hx)
  have hargs : ∀ sp : Nat → Bool, (∀ x ∈ p, sp x.block = true) → DataW.TrodAll enc P W' 0 sp true f.params.toList args.toList ds p := fun sp hsp => trodAll_stays hl hpar hA hsame hsp
  have hres : ∀ (b : Nat) (sp : Nat → Bool) (hd : Bool), DataW.TrodAll enc P W' b sp hd f.resultTypes.toList ((Value.bool true).resultList f.resultTypes.size) [.lit (.bool true)] [] := by
    intro b sp hd
    rw [hr]
    exact trodAll_mk1 (shut_bool hb true)
  have hfn : s.fn H (ds ++ []) = { results := [.lit (.bool true)], args := ds } := by rw [List.append_nil]; exact hs
  refine ⟨ds, [], p, [], p, [], hW0, by rw [hfn]; exact hres _ _ _, by rw [hfn]; exact hargs _ fun x hx => by simpa using hlt x hx, by rw [hfn, hv]; rfl, hB.frame _, fun _ => ⟨?_, [.lit (.bool true)] ++ ds, [], p, ⟨p, [], ?_, by rw [hv]; rfl, by simp, ?_, ?_⟩, ?_⟩⟩
  · exact ok_one hr rfl (by simp [Value.okWide, hb, Cell.okWide, Cell.ok])
  · have := trodAll_append (hargs (fun _ => true) fun _ _ => rfl) (hres 0 (fun _ => true) true)
    simpa using this
  · intro b off hx
    rw [hB.frozen (p := ⟨b, off, none⟩) (hlt _ hx)]
    exact hfz b off hx
  · exact hnd
  · exact fun x hx _ => hx
theorem law_calls {i : Nat} {G : FnT} (ok : OkF P i G) (hc : ∀ args w, (callFunc i args).run P w = .ok (.enter i args) w) {args : List Value} {W : World} (h : callP G args W fun v w' => v = .bool true ∧ Sat W [] w') :
    Calls P i args.toArray W fun e w' => e = .returned (.bool true) ∧ Fr [] W w' := by
  obtain ⟨k0, h0, hk⟩ := h
  rcases (ok _ _ _ h0) with ⟨_, hC⟩ | ⟨v, w', hr, _⟩
  · exact hC.mono fun e w' ⟨v, he, hv⟩ => ⟨by rw [he, (hk _ _ hv).1], (hk _ _ hv).2.fr⟩
  · rw [hc] at hr; cases hr
end
end Go.Sx

/- Sz4 -/
namespace Go.Sx
open Go.ChangeShapes Go.WideShapes Go.RowKit
inductive CK where
  | int (k : IntKind)
  | str
  | bool
def Fit (c : CK) (v : Value) : Prop := match c with
  | .int k => ∃ n, v = .int k n ∧ (Lit.int k n).wf = true
  | .str => ∃ s, v = .string s ∧ s.size ≤ maxLen
  | .bool => ∃ b, v = .bool b
def FitL : List CK → List Value → Prop
  | [], [] => True
  | c :: cs, v :: vs => Fit c v ∧ FitL cs vs
  | _, _ => False
theorem FitL.append : ∀ {a b : List CK} {x y : List Value}, FitL a x → FitL b y → FitL (a ++ b) (x ++ y)
  | [], _, [], _, _, h => h
  | _ :: _, _, _ :: _, _, h, h' => ⟨h.1, h.2.append h'⟩
  | [], _, _ :: _, _, h, _ => h.elim
  | _ :: _, _, [], _, h, _ => h.elim
theorem FitL.length : ∀ {a : List CK} {x : List Value}, FitL a x → x.length = a.length
  | [], [], _ => rfl
  | _ :: _, _ :: _, h => by simp [h.2.length]
  | [], _ :: _, h => h.elim
  | _ :: _, [], h => h.elim
section
variable {H : Type} {enc : TypeId × Value → H} {P : Program} {w : World} {base : Nat} {sp : Nat → Bool} {held : Bool}
theorem add_add (a : Addr) (x y : Nat) : (a.add x).add y = a.add (x + y) := by
  unfold Addr.add
  by_cases hx : x = 0 <;> by_cases hy : y = 0 <;> simp [hx, hy]
  omega
theorem flat_at {α : Type} {f : α → List Value} {es : Nat} (hf : ∀ x, (f x).length = es) : ∀ (l : List α) (i : Nat) (hi : i < l.length), ((l.flatMap f).drop (i * es)).take es = f l[i]
  | x :: l, 0, _ => by
    rw [List.flatMap_cons, Nat.zero_mul, List.drop_zero, List.take_left' (hf x)]; rfl
  | x :: l, i + 1, hi => by
    rw [List.flatMap_cons, Nat.add_mul, Nat.one_mul, Nat.add_comm, ← List.drop_drop, List.drop_left' (hf x)]
    exact flat_at hf l i (by simpa using hi)
theorem Rd.elem {α : Type} {f : α → List Value} {es n i : Nat} {v : Value} {l : List α} {j : IntKind} (h : Rd w es v n (l.flatMap f)) (hf : ∀ x, (f x).length = es) (hn : n = l.length) (hi : i < l.length) :
    ∃ b o, pIndexL es v (.int j i) = some (.pointer (some ⟨b, o, none⟩)) ∧ ldN es (.pointer (some ⟨b, o, none⟩)) w = some (.agg (f l[i]).toArray) ∧ ∀ k, w.cell? ⟨b, o + k, none⟩ = (f l[i])[k]? ∨ es ≤ k := by
  have hc2 := flat_at hf l i hi
  generalize l.flatMap f = cs at h hc2
  cases h with
  | emp => omega
  | blk hb hn ha hc =>
    rename_i b o cap a ty fz
    have e1 : i * es + es ≤ n * es := by
      have := Nat.mul_le_mul_right es (show i + 1 ≤ n by omega)
      rw [Nat.add_mul] at this; omega
    have e2 : f l[i] = (a.toList.drop (o + i * es)).take es := by
      rw [← hc2, hc, List.drop_take, List.take_take, List.drop_drop, Nat.min_eq_left (by omega)]
    refine ⟨b, o + i * es, ?_, ?_, fun k => ?_⟩
    · simp only [pIndexL]; rw [if_pos ⟨by omega, by omega⟩]; simp
    · rw [ldN_of hb (by omega), e2]
      congr 2
      apply Array.ext'
      simp only [Array.toList_extract, List.extract_eq_take_drop]
      rw [show o + i * es + es - (o + i * es) = es by omega]
    · rcases Nat.lt_or_ge k es with hk | hk
      · left
        rw [cell_of hb, e2, List.getElem?_take_of_lt hk, List.getElem?_drop, Array.getElem?_toList]
      · exact .inr hk
end
end Go.Sx

/- Sz5 -/
namespace Go.Sx
section
variable {κ ν : Type}
structure MapOk (ek : κ → Value) (ev : ν → Value) (es : Array MapEntry) (clock : Nat) (m : List (κ × ν)) : Prop where
  kv : es.toList.map (fun e => (e.key, e.val)) = m.map (fun x => (ek x.1, ev x.2))
  nd : (es.toList.map (·.born)).Nodup
  lt : ∀ e ∈ es.toList, e.born < clock
  kd : (m.map Prod.fst).Nodup
def MapH (ek : κ → Value) (ev : ν → Value) (v : Value) (m : List (κ × ν)) : HP := HEx fun r => HEx fun es => HEx fun clock => HPr (v = .map (some r) ∧ MapOk ek ev es clock m) (Blk r (.map es clock))
variable {ek : κ → Value} {ev : ν → Value} {m : List (κ × ν)} {w0 w : World} {L : List HP} {v : Value}
theorem map_iff : Sat w0 (MapH ek ev v m :: L) w ↔ ∃ r es clock, (v = .map (some r) ∧ MapOk ek ev es clock m) ∧ Sat w0 (Blk r (.map es clock) :: L) w := by
  simp only [MapH, Sat.ex_iff, Sat.pr_iff]
def ItH (ek : κ → Value) (ev : ν → Value) (it v : Value) (m rem : List (κ × ν)) : HP := HEx fun q => HEx fun r => HEx fun es => HEx fun clock => HEx fun seen =>
  HPr (it = ptr q ∧ v = .map (some r) ∧ MapOk ek ev es clock m ∧ (es.toList.filter (fun e => !seen.contains e.born)).map (fun e => (e.key, e.val)) = rem.map (fun x => (ek x.1, ev x.2)) ∧ rem.Sublist m)
    (HSt (Blk q (.mapIter (some r) clock seen clock)) (Blk r (.map es clock)))
theorem it_iff {it : Value} {rem : List (κ × ν)} : Sat w0 (ItH ek ev it v m rem :: L) w ↔ ∃ q r es clock seen, (it = ptr q ∧ v = .map (some r) ∧ MapOk ek ev es clock m ∧ (es.toList.filter (fun e => !seen.contains e.born)).map (fun e => (e.key, e.val)) = rem.map (fun x => (ek x.1, ev x.2)) ∧ rem.Sublist m) ∧
    Sat w0 (Blk q (.mapIter (some r) clock seen clock) :: Blk r (.map es clock) :: L) w := by
  simp only [ItH, Sat.ex_iff, Sat.pr_iff, Sat.star_iff]
theorem map_one (h : Sat w0 (MapH ek ev v m :: L) w) : OneV v := by
  obtain ⟨r, es, c, ⟨rfl, _⟩, _⟩ := map_iff.1 h; infer_instance
theorem lenM_map (h : Sat w0 (MapH ek ev v m :: L) w) : lenM v w = some (.int .i64 m.length) := by
  obtain ⟨r, es, clock, ⟨rfl, hm⟩, hs⟩ := map_iff.1 h
  have := congrArg List.length hm.kv
  simp at this
  simp [lenM, mapOf, hs.blk, this]
theorem it_map {it : Value} {rem : List (κ × ν)} (h : Sat w0 (ItH ek ev it v m rem :: L) w) : Sat w0 (MapH ek ev v m :: L) w := by
  obtain ⟨q, r, es, clock, seen, ⟨_, h2, h3, _⟩, h5⟩ := it_iff.1 h
  exact map_iff.2 ⟨r, es, clock, ⟨h2, h3⟩, h5.drop⟩
theorem map_eraseIdx' {α β : Type} (f : α → β) : ∀ (l : List α) (j : Nat), (l.eraseIdx j).map f = (l.map f).eraseIdx j
  | [], _ => by simp
  | _ :: _, 0 => by simp
  | a :: l, j + 1 => by simp [map_eraseIdx' f l j]
theorem eClear_sat {P : Program} {kt : TypeId} {K : Value → World → Prop} (h : Sat w0 (MapH ek ev v m :: L) w) {t et : TypeId} (hu : P.underlying t = some (.map kt et))
    (hK : ∀ w', Sat w0 (MapH ek ev v ([] : List (κ × ν)) :: L) w' → K unit w') : eClear P t v w K := by
  obtain ⟨r, es, clock, ⟨rfl, hm⟩, hs⟩ := map_iff.1 h
  simp only [eClear, hu, hs.blk]
  exact hK _ (map_iff.2 ⟨r, _, _, ⟨rfl, ⟨by simp, by simp, by simp, by simp⟩⟩, hs.set _⟩)
theorem eMakeMap_sat {K : Value → World → Prop} (ek : κ → Value) (ev : ν → Value) (h : Sat w0 L w) (hK : ∀ v w', Sat w0 (MapH ek ev v ([] : List (κ × ν)) :: L) w' → K v w') : eMakeMap none w K :=
  hK _ _ (map_iff.2 ⟨_, _, _, ⟨rfl, ⟨by simp, by simp, by simp, by simp⟩⟩, h.alloc _⟩)
theorem eRange_sat {P : Program} {kt : TypeId} {K : Value → World → Prop} (h : Sat w0 (MapH ek ev v m :: L) w) {t et : TypeId} (hu : P.underlying t = some (.map kt et))
    (hK : ∀ it w', Sat w0 (ItH ek ev it v m m :: L) w' → K it w') : eRange P t v w K := by
  obtain ⟨r, es, clock, ⟨rfl, hm⟩, hs⟩ := map_iff.1 h
  simp only [eRange, hu, hs.blk]
  exact hK _ _ (it_iff.2 ⟨_, r, es, clock, #[], ⟨rfl, rfl, hm, by rw [List.filter_eq_self.2 (by simp)]; exact hm.kv, List.Sublist.refl _⟩, hs.alloc _⟩)
end
section
variable {κ ν : Type} [DecidableEq κ]
def aGet (k : κ) : List (κ × ν) → Option ν
  | [] => none
  | x :: r => if k = x.1 then some x.2 else aGet k r
def aSet (k : κ) (v : ν) : List (κ × ν) → List (κ × ν)
  | [] => [(k, v)]
  | x :: r => if k = x.1 then (k, v) :: r else x :: aSet k v r
def aDel (k : κ) : List (κ × ν) → List (κ × ν)
  | [] => []
  | x :: r => if k = x.1 then r else x :: aDel k r
def aFind (ev : ν → Value) (k : κ) : List (κ × ν) → Nat → Option (Nat × Value)
  | [], _ => none
  | x :: r, i => if k = x.1 then some (i, ev x.2) else aFind ev k r (i + 1)
structure KeyT (P : Program) (kt : TypeId) (ek : κ → Value) : Prop where
  u : (P.underlying kt).isSome = true
  ck : ∀ k, ckv P 10000 kt (ek k) = true
  eq : ∀ a b, eqv P Op.maxDepth kt (ek a) (ek b) = some (decide (a = b))
  sb : ∀ a, Instr.sameBits 10000 (ek a) (ek a) = true
variable {P : Program} {kt : TypeId} {ek : κ → Value} {ev : ν → Value} {m : List (κ × ν)} {k : κ}
theorem aFind_some {j i : Nat} {val : Value} : ∀ {m : List (κ × ν)} {i : Nat}, aFind ev k m i = some (j, val) → ∃ b, i ≤ j ∧ m[j - i]? = some (k, b) ∧ val = ev b ∧ aGet k m = some b ∧ (∀ x, aSet k x m = m.set (j - i) (k, x)) ∧ aDel k m = m.eraseIdx (j - i) := by
  intro m
  induction m with
  | nil => intro i h; simp [aFind] at h
  | cons y r ih =>
    intro i h
    unfold aFind at h
    by_cases hk : k = y.1
    · simp [hk] at h
      obtain ⟨rfl, rfl⟩ := h
      exact ⟨y.2, Nat.le_refl _, by simp [hk], rfl, by simp [aGet, hk], by simp [aSet, hk], by simp [aDel, hk]⟩
    · simp only [hk, if_false] at h
      obtain ⟨b, h1, h2, h3, h4, h5, h6⟩ := ih h
      have e : j - i = j - (i + 1) + 1 := by omega
      exact ⟨b, by omega, by rw [e]; simpa using h2, h3, by simp [aGet, hk, h4], fun x => by rw [e]; simp [aSet, hk, h5], by rw [e]; simp [aDel, hk, h6]⟩
theorem aFind_none : ∀ {m : List (κ × ν)} {i : Nat}, aFind ev k m i = none → aGet k m = none ∧ (∀ x, aSet k x m = m ++ [(k, x)]) ∧ aDel k m = m ∧ k ∉ m.map Prod.fst := by
  intro m
  induction m with
  | nil => intro i _; simp [aGet, aSet, aDel]
  | cons y r ih =>
    intro i h
    unfold aFind at h
    by_cases hk : k = y.1
    · simp [hk] at h
    · simp only [hk, if_false] at h
      obtain ⟨h1, h2, h3, h4⟩ := ih h
      refine ⟨by simp [aGet, hk, h1], fun x => by simp [aSet, hk, h2], by simp [aDel, hk, h3], ?_⟩
      rw [List.map_cons, List.mem_cons]; rintro (h | h)
      · exact hk h
      · exact h4 h
theorem mFind_al (K : KeyT P kt ek) : ∀ (l : List MapEntry) (m : List (κ × ν)) (i : Nat), l.map (fun e => (e.key, e.val)) = m.map (fun x => (ek x.1, ev x.2)) → mFind (eqv P Op.maxDepth kt (ek k)) l i = some (aFind ev k m i) := by
  intro l
  induction l with
  | nil => intro m i h; cases m with | nil => rfl | cons => simp at h
  | cons e l ih =>
    intro m i h
    cases m with
    | nil => simp at h
    | cons x m =>
      simp only [List.map_cons, List.cons.injEq, Prod.mk.injEq] at h
      obtain ⟨⟨h1, h2⟩, h3⟩ := h
      unfold mFind aFind
      rw [h1, K.eq]
      by_cases hk : k = x.1
      · simp [hk, h2]
      · simp [hk, ih _ _ h3]
theorem aGet_set (k k' : κ) (x : ν) : ∀ (m : List (κ × ν)), aGet k (aSet k' x m) = if k = k' then some x else aGet k m
  | [] => by by_cases h : k = k' <;> simp [aSet, aGet, h]
  | y :: r => by
    by_cases h' : k' = y.1
    · by_cases h : k = k'
      · simp [aSet, aGet, h, h']
      · have : ¬ k = y.1 := fun e => h (e.trans h'.symm)
        simp [aSet, aGet, h, h', this]
    · by_cases h : k = y.1
      · have : ¬ k = k' := fun e => h' (e.symm.trans h)
        have : ¬ y.1 = k' := fun e => h' e.symm
        simp [aSet, aGet, h, h', this]
      · simp [aSet, aGet, h, h', aGet_set k k' x r]
theorem aGet_mem {k : κ} {x : ν} : ∀ {m : List (κ × ν)}, aGet k m = some x → (k, x) ∈ m
  | [], h => by simp [aGet] at h
  | y :: r, h => by
    unfold aGet at h
    by_cases hk : k = y.1
    · simp [hk] at h; subst h; subst hk; simp
    · simp only [hk, if_false] at h; exact List.mem_cons_of_mem _ (aGet_mem h)
theorem mem_aGet {k : κ} {x : ν} : ∀ {m : List (κ × ν)}, (m.map Prod.fst).Nodup → (k, x) ∈ m → aGet k m = some x
  | [], _, h => by simp at h
  | y :: r, hn, h => by
    simp only [List.map_cons, List.nodup_cons] at hn
    unfold aGet
    rcases List.mem_cons.1 h with rfl | h
    · simp
    · have : ¬ k = y.1 := fun e => hn.1 (by rw [← e]; exact List.mem_map_of_mem (f := Prod.fst) h)
      simp only [this, if_false]; exact mem_aGet hn.2 h
section
variable {w0 w : World} {L : List HP} {v : Value}
theorem look_map (h : Sat w0 (MapH ek ev v m :: L) w) (K : KeyT P kt ek) {t et : TypeId} {z : Value} (hu : P.underlying t = some (.map kt et)) (hz : fZero P et = some z) (ok : Bool) (k : κ) :
    fLook P t v (ek k) ok w = some (if ok then .tuple #[(aGet k m).elim z ev, .bool (aGet k m).isSome] else (aGet k m).elim z ev) := by
  obtain ⟨r, es, clock, ⟨rfl, hm⟩, hs⟩ := map_iff.1 h
  simp only [fLook, hu, mapOf, hs.blk]
  rw [if_pos ⟨K.ck k, K.u⟩, mFind_al K _ _ 0 hm.kv]
  cases hf : aFind ev k m 0 with
  | none => simp [(aFind_none hf).1, hz]
  | some x =>
    obtain ⟨j, val⟩ := x
    obtain ⟨b, _, _, rfl, h4, _⟩ := aFind_some (i := 0) hf
    simp [h4]
theorem look2 (h : Sat w0 (MapH ek ev v m :: L) w) (K : KeyT P kt ek) {t et : TypeId} {z : Value} (hu : P.underlying t = some (.map kt et)) (hz : fZero P et = some z) (k : κ) : fLook P t v (ek k) true w = some (.tuple #[(aGet k m).elim z ev, .bool (aGet k m).isSome]) := by
  rw [look_map h K hu hz]; rfl
theorem aSet_keys {x : ν} (h : (m.map Prod.fst).Nodup) : ((aSet k x m).map Prod.fst).Nodup := by
  cases hf : aFind (fun _ : ν => Value.int .i64 0) k m 0 with
  | none =>
    obtain ⟨_, h2, _, h4⟩ := aFind_none hf
    rw [h2, List.map_append, List.nodup_append]
    refine ⟨h, by simp, fun a ha b hb => ?_⟩
    simp at hb; subst hb; intro e; subst e; exact h4 ha
  | some y =>
    obtain ⟨j, val⟩ := y
    obtain ⟨b, _, h2, _, _, h5, _⟩ := aFind_some (i := 0) hf
    rw [h5, List.map_set]
    have : (m.map Prod.fst).set (j - 0) k = m.map Prod.fst := by
      apply List.ext_getElem?
      intro i
      rw [List.getElem?_set]
      split
      · rename_i hi; subst hi
        split
        · simp at h2; simp [h2]
        · rename_i hn; have := (List.getElem?_eq_some_iff.1 h2).1; simp at hn; omega
      · rfl
    rw [this]; exact h
theorem eMapSet_sat {K : Value → World → Prop} (h : Sat w0 (MapH ek ev v m :: L) w) (T : KeyT P kt ek) {t et : TypeId} (hu : P.underlying t = some (.map kt et)) (k : κ) (x : ν)
    (hK : ∀ w', Sat w0 (MapH ek ev v (aSet k x m) :: L) w' → K unit w') : eMapSet P t v (ek k) (ev x) w K := by
  obtain ⟨r, es, clock, ⟨rfl, hm⟩, hs⟩ := map_iff.1 h
  simp only [eMapSet, hu, hs.blk]
  refine ⟨⟨T.ck k, T.u⟩, ?_⟩
  rw [mFind_al T _ _ 0 hm.kv]
  have kd := aSet_keys (k := k) (x := x) hm.kd
  cases hf : aFind ev k m 0 with
  | none =>
    obtain ⟨_, h2, _, h4⟩ := aFind_none hf
    refine hK _ (map_iff.2 ⟨r, _, _, ⟨rfl, ?_, ?_, ?_, kd⟩, hs.set _⟩)
    · rw [h2]; simp [hm.kv]
    · simp only [Array.toList_push, List.map_append, List.nodup_append]
      refine ⟨hm.nd, by simp, fun a ha b hb => ?_⟩
      simp at hb; subst hb
      obtain ⟨e, he, rfl⟩ := List.mem_map.1 ha
      have := hm.lt e he; omega
    · intro e he
      simp only [Array.toList_push, List.mem_append, List.mem_singleton] at he
      rcases he with he | rfl
      · have := hm.lt e he; omega
      · simp
  | some y =>
    obtain ⟨j, val⟩ := y
    obtain ⟨b, _, h2, _, _, h5, _⟩ := aFind_some (i := 0) hf
    simp only [Nat.sub_zero] at h2 h5
    have hj : j < m.length := by
      rcases Nat.lt_or_ge j m.length with h | h
      · exact h
      · rw [List.getElem?_eq_none h] at h2; cases h2
    have hlen := congrArg List.length hm.kv
    simp at hlen
    have hje : j < es.size := by omega
    have hkey : es[j].key = ek k := by
      have := congrArg (fun l => l[j]?) hm.kv
      simp [hje, h2] at this
      exact this.1
    refine ⟨?_, hK _ (map_iff.2 ⟨r, _, _, ⟨rfl, ?_, ?_, ?_, kd⟩, hs.set _⟩)⟩
    · simp [hje, hkey, T.sb]
    · rw [h5, List.map_set]
      apply List.ext_getElem?
      intro i
      have := congrArg (fun l => l[i]?) hm.kv
      simp only [List.getElem?_map, Array.getElem?_toList, Array.getElem?_modify, List.getElem?_set] at this ⊢
      by_cases hi : j = i
      · subst hi; simp [hje, hj]
      · simp [hi]; simpa using this
    · have : (es.modify j fun e => { e with key := ek k, val := ev x }).toList.map (·.born) = es.toList.map (·.born) := by
        apply List.ext_getElem?
        intro i
        simp only [List.getElem?_map, Array.getElem?_toList, Array.getElem?_modify]
        split
        · cases es[i]? <;> simp
        · rfl
      rw [this]; exact hm.nd
    · intro e he
      obtain ⟨i, hi, rfl⟩ := List.getElem_of_mem he
      simp at hi
      simp only [Array.getElem_toList, Array.getElem_modify]
      have := hm.lt es[i] (by simp)
      split <;> exact this
end
end
theorem KeyT.int {P : Program} {kt : TypeId} (h : P.underlying kt = some (.int .i64)) : KeyT P kt (fun n : Int => Value.int .i64 n) where
  u := by simp [h]
  ck := fun k => by simp [ckv, h]
  eq := fun a b => by simp [eqv, Op.maxDepth, h]; rw [Bool.eq_iff_iff]; simp
  sb := fun a => by simp [Instr.sameBits]
theorem KeyT.str {P : Program} {kt : TypeId} (h : P.underlying kt = some .string) : KeyT P kt (fun n : ByteArray => Value.string n) where
  u := by simp [h]
  ck := fun k => by simp [ckv, h]
  eq := fun a b => by simp [eqv, Op.maxDepth, h, sEq_eq]
  sb := fun a => by simp [Instr.sameBits]
end Go.Sx

/- Sz6 -/
namespace Go.Sx
structure Cod {α : Type} (f : α → List Value) (es : Nat) : Prop where
  len : ∀ x, (f x).length = es
  one : ∀ x, (f x).all (·.oneCell') = true
  pos : 0 < es
def LsH {α : Type} (f : α → List Value) (es : Nat) (ty : TypeId) (v : Value) (l : List α) : HP := SlH es ty v l.length (l.flatMap f)
def elP (es : Nat) (v : Value) (i : Int) : Value := (pIndexL es v (.int .i64 i)).getD undef
section
variable {α : Type} {f : α → List Value} {es : Nat} {ty : TypeId} {v : Value} {l : List α} {w0 w : World} {L : List HP}
theorem flat_len (C : Cod f es) (l : List α) : (l.flatMap f).length = l.length * es := by
  induction l with
  | nil => simp
  | cons x l ih => simp [ih, C.len, Nat.add_mul, Nat.add_comm]
theorem flat_one (C : Cod f es) (l : List α) : (l.flatMap f).all (·.oneCell') = true := by
  induction l with
  | nil => simp
  | cons x l ih => rw [List.flatMap_cons, List.all_append, C.one, ih]; rfl
theorem flat_take (C : Cod f es) : ∀ (l : List α) (i : Nat), (l.flatMap f).take (i * es) = (l.take i).flatMap f
  | [], i => by simp
  | x :: l, 0 => by simp
  | x :: l, i + 1 => by
    rw [List.flatMap_cons, Nat.add_mul, Nat.one_mul, Nat.add_comm, List.take_append_add_of_len (C.len x), flat_take C l i, List.take_succ_cons, List.flatMap_cons]
theorem flat_drop (C : Cod f es) : ∀ (l : List α) (i : Nat), (l.flatMap f).drop (i * es) = (l.drop i).flatMap f
  | [], i => by simp
  | x :: l, 0 => by simp
  | x :: l, i + 1 => by
    rw [List.flatMap_cons, Nat.add_mul, Nat.one_mul, Nat.add_comm, ← List.drop_drop, List.drop_left' (C.len x), flat_drop C l i, List.drop_succ_cons]
theorem ls_rd (h : Sat w0 (LsH f es ty v l :: L) w) : Rd w es v l.length (l.flatMap f) := Sat.rd h
theorem ls_one (h : Sat w0 (LsH f es ty v l :: L) w) : OneV v := (ls_rd h).one
theorem rd_ix {n : Nat} {cs : List Value} (h : Rd w es v n cs) {i : Nat} (hi : i < n) : ∃ b o, pIndexL es v (.int .i64 i) = some (.pointer (some ⟨b, o, none⟩)) ∧ elP es v i = .pointer (some ⟨b, o, none⟩) := by
  cases h with
  | emp => omega
  | blk hb hn ha hc =>
    rename_i b o cap a ty fz
    have e : pIndexL es (.slice (some ⟨b, o, none⟩) n cap) (.int .i64 i) = some (.pointer (some ⟨b, o + i * es, none⟩)) := by
      simp only [pIndexL]; rw [if_pos ⟨by omega, by omega⟩]; simp
    exact ⟨b, o + i * es, e, by simp [elP, e]⟩
theorem ix_el {n : Nat} {cs : List Value} (h : Rd w es v n cs) {i : Nat} (hi : i < n) : pIndexL es v (.int .i64 i) = some (elP es v i) := by
  obtain ⟨b, o, h1, h2⟩ := rd_ix h hi
  rw [h1, h2]
theorem rd_ld (C : Cod f es) (h : Rd w es v l.length (l.flatMap f)) {i : Nat} (hi : i < l.length) : ldN es (elP es v i) w = some (.agg (f l[i]).toArray) := by
  obtain ⟨b, o, h1, h2, _⟩ := h.elem C.len rfl hi (j := .i64)
  have : elP es v i = .pointer (some ⟨b, o, none⟩) := by simp [elP, h1]
  rw [this, h2]
theorem rd_ld1 {g : α → Value} (h : Rd w 1 v l.length (l.flatMap fun x => [g x])) {i : Nat} (hi : i < l.length) : ld1 (elP 1 v i) w = some (g l[i]) := by
  obtain ⟨b, o, h1, _, h3⟩ := h.elem (fun _ => rfl) rfl hi (j := .i64)
  have : elP 1 v i = .pointer (some ⟨b, o, none⟩) := by simp [elP, h1]
  rw [this]
  have := h3 0
  simpa using this
theorem rd_fld (C : Cod f es) (h : Rd w es v l.length (l.flatMap f)) {i k : Nat} (hi : i < l.length) (hk : k < es) : ∃ a, pFieldAddr k (elP es v i) = some (.pointer (some a)) ∧ w.cell? a = (f l[i])[k]? := by
  obtain ⟨b, o, h1, _, h3⟩ := h.elem C.len rfl hi (j := .i64)
  have : elP es v i = .pointer (some ⟨b, o, none⟩) := by simp [elP, h1]
  rw [this]
  refine ⟨⟨b, o + k, none⟩, rfl, ?_⟩
  rcases h3 k with h | h
  · exact h
  · omega
theorem ls_nil (h : Sat w0 L w) : Sat w0 (LsH f es ty (.slice none 0 0) [] :: L) w := h.nilsl
theorem ls_app {P : Program} {t xt : TypeId} {bytes : Nat} {s x : Value} {m : List α} {K : Value → World → Prop} (C : Cod f es) (h : Sat w0 (LsH f es ty s l :: L) w) (T : SlT P t ty es bytes) (hxt : isSS P xt = true)
    (hR : Rd w es x m.length (m.flatMap f)) (hb : (l.length + m.length) * bytes ≤ 140737488355328) (hK : ∀ s' w', Sat w0 (LsH f es ty s' (l ++ m) :: L) w' → K s' w') : eAppend P t xt s x w K := by
  refine eAppend_sat h T hxt hR (flat_one C m) hb fun s' w' h' => hK s' w' ?_
  unfold LsH
  rw [List.length_append, List.flatMap_append]; exact h'
theorem ls_lit {P : Program} {t : TypeId} {m : List α} {parts : List (Nat × Value)} {K : Value → World → Prop} {c : Array Value} (C : Cod f es) (h : Sat w0 L w) (hu : P.underlying t = some (.slice ty)) (hc : fBuildSl P ty m.length parts = some c) (hm : c.toList = m.flatMap f)
    (hK : ∀ s w', Sat w0 (LsH f es ty s m :: L) w' → K s w') : eBuildSl P t m.length parts w K := by
  refine eBuildSl_sat (es := es) h hu hc ?_ fun s w' h' => hK s w' ?_
  · have := congrArg List.length hm
    rw [flat_len C] at this; simpa using this
  · unfold LsH; rw [← hm]; exact h'
theorem ls_sub {lo hi : Nat} {A H M : Option Value} (C : Cod f es) (h : Sat w0 (LsH f es ty v l :: L) w) (hL : Bd 0 A lo) (hH : Bd l.length H hi) (hM : BdM hi l.length H M) (h1 : lo ≤ hi) (h2 : hi ≤ l.length) :
    ∃ v', pSliceL es v A H M = some v' ∧ Sat w0 (LsH f es ty v' ((l.take hi).drop lo) :: L) w := by
  obtain ⟨fp, hO, k⟩ := Sat.own h
  obtain ⟨v', e, hO'⟩ := hO.sub hL hH hM h1 h2
  refine ⟨v', e, ?_⟩
  have := k _ _ _ _ _ _ _ hO' (.refl _ _)
  unfold LsH
  rw [flat_take C, flat_drop C] at this
  have e : ((l.take hi).drop lo).length = hi - lo := by simp; omega
  rw [e]; exact this
theorem rd_sub {lo hi : Nat} {A H M : Option Value} {v' : Value} (C : Cod f es) (h : Rd w es v l.length (l.flatMap f)) (hs : pSliceL es v A H M = some v') (hL : Bd 0 A lo) (hH : Bd l.length H hi) (hM : BdM hi l.length H M) (h1 : lo ≤ hi) (h2 : hi ≤ l.length) :
    Rd w es v' ((l.take hi).drop lo).length (((l.take hi).drop lo).flatMap f) := by
  have := h.sub' hs hL hH hM h1 h2
  rw [flat_take C, flat_drop C] at this
  have e : ((l.take hi).drop lo).length = hi - lo := by simp; omega
  rw [e]; exact this
end
def cI (n : Int) : List Value := [.int .i64 n]
theorem CI : Cod cI 1 := ⟨fun _ => rfl, fun _ => rfl, by omega⟩
end Go.Sx

/- Sz7 -/
namespace Go.Sx
section
variable {α : Type}
structure PermOn (a b : Nat) (l l' : List α) : Prop where
  perm : l'.Perm l
  out : ∀ i, (i < a ∨ b ≤ i) → l'[i]? = l[i]?
theorem PermOn.refl (a b : Nat) (l : List α) : PermOn a b l l := ⟨.refl _, fun _ _ => rfl⟩
theorem PermOn.trans {a b : Nat} {l m n : List α} (h : PermOn a b l m) (h' : PermOn a b m n) : PermOn a b l n := ⟨h'.perm.trans h.perm, fun i hi => (h'.out i hi).trans (h.out i hi)⟩
theorem PermOn.wide {a b a' b' : Nat} {l m : List α} (h : PermOn a b l m) (ha : a' ≤ a) (hb : b ≤ b') : PermOn a' b' l m := ⟨h.perm, fun i hi => h.out i (by omega)⟩
theorem PermOn.len {a b : Nat} {l m : List α} (h : PermOn a b l m) : m.length = l.length := h.perm.length_eq
theorem take_eq_of {l m : List α} {a : Nat} (h : ∀ i, i < a → m[i]? = l[i]?) : m.take a = l.take a := by
  apply List.ext_getElem?
  intro i
  simp only [List.getElem?_take]
  split
  · exact h i ‹_›
  · rfl
theorem drop_eq_of {l m : List α} {a : Nat} (h : ∀ i, a ≤ i → m[i]? = l[i]?) : m.drop a = l.drop a := by
  apply List.ext_getElem?
  intro i
  simp only [List.getElem?_drop]
  exact h _ (by omega)
theorem PermOn.mid {a b : Nat} {l m : List α} (h : PermOn a b l m) (hab : a ≤ b) : ((m.take b).drop a).Perm ((l.take b).drop a) := by
  have e : ∀ x : List α, x = x.take a ++ ((x.take b).drop a ++ x.drop b) := fun x => by
    have : x.take a = (x.take b).take a := by rw [List.take_take, Nat.min_eq_left hab]
    rw [this, ← List.append_assoc, List.take_append_drop, List.take_append_drop]
  have hp := h.perm
  rw [e m, e l, take_eq_of fun i hi => h.out i (.inl hi), drop_eq_of fun i hi => h.out i (.inr hi)] at hp
  have := (List.perm_append_left_iff _).1 hp
  exact (List.perm_append_right_iff _).1 this
theorem PermOn.all {a b : Nat} {l m : List α} (h : PermOn a b l m) {p : α → Prop} (hp : ∀ i x, a ≤ i → i < b → l[i]? = some x → p x) : ∀ i x, a ≤ i → i < b → m[i]? = some x → p x := by
  intro i x ha hb hx
  have hm : x ∈ (m.take b).drop a := by
    apply List.mem_of_getElem? (i := i - a)
    rw [List.getElem?_drop, List.getElem?_take_of_lt (by omega), show a + (i - a) = i by omega, hx]
  have := (h.mid (by omega)).subset hm
  obtain ⟨j, hj⟩ := List.getElem?_of_mem this
  have hj' := hj
  rw [List.getElem?_drop, List.getElem?_take] at hj
  split at hj
  · exact hp (a + j) x (by omega) ‹_› hj
  · cases hj
def swapL (l : List α) (i j : Nat) : List α := match l[i]?, l[j]? with | some x, some y => (l.set i y).set j x | _, _ => l
theorem swapL_eq {l : List α} {i j : Nat} (hi : i < l.length) (hj : j < l.length) : swapL l i j = (l.set i l[j]).set j l[i] := by simp [swapL, hi, hj]
theorem swapL_get {l : List α} {i j : Nat} (hi : i < l.length) (hj : j < l.length) (k : Nat) : (swapL l i j)[k]? = if k = j then some l[i] else if k = i then some l[j] else l[k]? := by
  rw [swapL_eq hi hj]
  simp only [List.getElem?_set, List.length_set]
  by_cases h1 : j = k
  · subst h1; simp [hj]
  · by_cases h2 : i = k
    · subst h2; simp [h1, hi, Ne.symm h1]
    · simp [h1, h2, Ne.symm h1, Ne.symm h2]
theorem swapL_perm {l : List α} {i j : Nat} (hi : i < l.length) (hj : j < l.length) : (swapL l i j).Perm l := by
  have h := Array.swap_perm (xs := l.toArray) (i := i) (j := j) (by simpa using hi) (by simpa using hj)
  have e : (l.toArray.swap i j (by simpa using hi) (by simpa using hj)).toList = swapL l i j := by
    rw [swapL_eq hi hj]; simp [Array.swap]
  have := h.toList
  rw [e] at this
  exact this
theorem PermOn.swap {a b i j : Nat} {l : List α} (hi : a ≤ i ∧ i < b) (hj : a ≤ j ∧ j < b) (hb : b ≤ l.length) : PermOn a b l (swapL l i j) :=
  ⟨swapL_perm (by omega) (by omega), fun k hk => by
    rw [swapL_get (by omega) (by omega)]
    rw [if_neg (by omega), if_neg (by omega)]⟩
structure SWO (lt : α → α → Bool) : Prop where
  asym : ∀ a b, lt a b = true → lt b a = false
  tr : ∀ a b c, lt b a = false → lt c b = false → lt c a = false
variable {lt : α → α → Bool}
theorem SWO.lt_le {a b c : α} (S : SWO lt) (h : lt a b = true) (h' : lt c b = false) : lt a c = true := by
  cases h2 : lt a c with
  | true => rfl
  | false => have := S.tr b c a h' h2; rw [this] at h; cases h
theorem SWO.irr (S : SWO lt) (a : α) : lt a a = false := by
  cases h : lt a a with
  | false => rfl
  | true => have := S.asym a a h; rw [this] at h; cases h
def SortOn (lt : α → α → Bool) (a b : Nat) (l : List α) : Prop := ∀ i j x y, a ≤ i → i < j → j < b → l[i]? = some x → l[j]? = some y → lt y x = false
theorem SortOn.of_eq {a b : Nat} {l m : List α} (h : SortOn lt a b l) (e : ∀ i, a ≤ i → i < b → m[i]? = l[i]?) : SortOn lt a b m :=
  fun i j x y h1 h2 h3 hx hy => h i j x y h1 h2 h3 (by rw [← e i h1 (by omega)]; exact hx) (by rw [← e j (by omega) h3]; exact hy)
theorem SortOn.step (S : SWO lt) {a b : Nat} {l : List α} (h : ∀ i x y, a ≤ i → i + 1 < b → l[i]? = some x → l[i + 1]? = some y → lt y x = false) : SortOn lt a b l := by
  intro i j x y h1 h2 h3 hx hy
  induction j generalizing y with
  | zero => omega
  | succ j ih =>
    by_cases e : i = j
    · subst e; exact h i x y h1 h3 hx hy
    · have hj : j < l.length := by have := (List.getElem?_eq_some_iff.1 hy).1; omega
      have hz : l[j]? = some l[j] := List.getElem?_eq_getElem hj
      exact S.tr _ _ _ (ih l[j] (by omega) (by omega) hz) (h j l[j] y (by omega) h3 hz hy)
theorem SortOn.join (S : SWO lt) {a m b : Nat} {l : List α} {p : α} (hm : l[m]? = some p) (h1 : SortOn lt a m l) (h2 : SortOn lt (m + 1) b l)
    (hl : ∀ i x, a ≤ i → i < m → l[i]? = some x → lt p x = false) (hr : ∀ i x, m < i → i < b → l[i]? = some x → lt x p = false) : SortOn lt a b l := by
  intro i j x y g1 g2 g3 hx hy
  rcases Nat.lt_trichotomy j m with h | h | h
  · exact h1 i j x y g1 g2 h hx hy
  · subst h; rw [hm] at hy; cases hy; exact hl i x g1 g2 hx
  · rcases Nat.lt_trichotomy i m with g | g | g
    · exact S.tr _ _ _ (hl i x g1 g hx) (hr j y h g3 hy)
    · subst g; rw [hm] at hx; cases hx; exact hr j y h g3 hy
    · exact h2 i j x y (by omega) g2 g3 hx hy
theorem sorted_unique (ht : ∀ a b, lt a b = false → lt b a = false → a = b) {l m : List α} (hp : l.Perm m) (hl : l.Pairwise fun x y => lt y x = false) (hm : m.Pairwise fun x y => lt y x = false) : l = m :=
  hp.eq_of_pairwise (fun a b _ _ h1 h2 => ht a b h2 h1) hl hm
end
end Go.Sx

/- Sz8 -/
namespace Go.Sx
section
variable {κ ν : Type} {ek : κ → Value} {ev : ν → Value} {m : List (κ × ν)} {w0 w : World} {L : List HP} {v : Value}
end
def HS : List HP → HP
  | [] => HEm
  | P :: l => HSt P (HS l)
theorem Sat.hs_iff {w0 w : World} {L : List HP} : ∀ {l : List HP}, Sat w0 (HS l :: L) w ↔ Sat w0 (l ++ L) w := by
  intro l
  have key : ∀ (l : List HP) (L : List HP) (h : Hp), SepL (HS l :: L) h ↔ SepL (l ++ L) h := by
    intro l
    induction l with
    | nil =>
      intro L h
      constructor
      · rintro ⟨a, b, hd, rfl, _, hL⟩
        have : ∀ (M : List HP) (b h : Hp), (∀ i o, b i = some o → h i = some o) → SepL M b → SepL M h := by
          intro M
          induction M with
          | nil => intro _ _ _ _; trivial
          | cons Q M ih =>
            rintro b h hb ⟨x, y, hxy, rfl, hQ, hM⟩
            refine ⟨x, fun i => match x i with | some _ => none | none => h i, ?_, ?_, hQ, ih y _ ?_ hM⟩
            · intro i o hx; simp [hx]
            · funext i; unfold hOr
              cases hx : x i with
              | none => simp [hx]
              | some o => simp; exact hb i o (hOr_l hx)
            · intro i o hy
              have hx : x i = none := hxy.symm i o hy
              simp [hx]
              exact hb i o (hOr_r hxy hy)
        exact this L b _ (fun i o hb => hOr_r hd hb) hL
      · intro h1
        exact ⟨fun _ => none, h, (fun _ _ h => by cases h), rfl, trivial, h1⟩
    | cons P l ih =>
      intro L h
      show SepL (HSt P (HS l) :: L) h ↔ _
      rw [SepL.star]
      constructor
      · exact fun h1 => h1.tail fun _ h2 => (ih L _).1 h2
      · exact fun h1 => SepL.tail (fun _ h2 => (ih L _).2 h2) h1
  exact ⟨fun h => h.conv fun _ => (key l L _).1, fun h => h.conv fun _ => (key l L _).2⟩
section
variable {P : Program} {t : TypeId} {x y : Operand}
end
end Go.Sx

/- Sz9 -/
namespace Go.Sx
def bs (l : List UInt8) : ByteArray := ⟨l.toArray⟩
theorem mk_bs (l : List UInt8) : ByteArray.mk l.toArray = bs l := by unfold bs; rfl
theorem bs_of (s : ByteArray) : s = bs s.data.toList := by cases s; simp [bs]
@[simp] theorem bs_size (l : List UInt8) : (bs l).size = l.length := by simp [bs, ByteArray.size]
@[simp] theorem bs_data (l : List UInt8) : (bs l).data.toList = l := by simp [bs]
@[simp] theorem bs_append (a b : List UInt8) : bs a ++ bs b = bs (a ++ b) := by
  apply ByteArray.ext; simp [bs, ByteArray.data_append]
@[simp] theorem bs_inj {a b : List UInt8} : bs a = bs b ↔ a = b := by simp [bs]
@[simp] theorem bs_extract (l : List UInt8) (i j : Nat) : (bs l).extract i j = bs ((l.take j).drop i) := by
  apply ByteArray.ext
  rw [ByteArray.data_extract]
  simp only [bs, List.extract_toArray, List.extract_eq_take_drop]
  rw [List.drop_take]
@[simp] theorem bs_get (l : List UInt8) (i : Nat) : (bs l)[i]? = l[i]? := by
  by_cases h : i < l.length
  · rw [List.getElem?_eq_getElem h, getElem?_pos (bs l) i (by simpa using h)]
    simp [bs, ByteArray.getElem_eq_getElem_data]
  · rw [List.getElem?_eq_none (by omega), getElem?_neg (bs l) i (by simpa using h)]
theorem ix_txt {l : List UInt8} {i : Nat} {j : IntKind} (h : i < l.length) : pIndexS (.string (bs l)) (.int j i) = some (.int .u8 l[i].toNat) := by
  simp [pIndexS, h]
  rfl
theorem sub_from {l : List UInt8} {i : Nat} {j : IntKind} (h : i ≤ l.length) : pSliceS (.string (bs l)) (some (.int j i)) none = some (.string (bs (l.drop i))) := by
  simp [pSliceS, hiB, bnd, h]
theorem sub_to {l : List UInt8} {i : Nat} {j : IntKind} (h : i ≤ l.length) : pSliceS (.string (bs l)) none (some (.int j i)) = some (.string (bs (l.take i))) := by
  simp [pSliceS, hiB, bnd]
  rw [if_pos (by omega)]
theorem add_txt {a b : List UInt8} (h : a.length + b.length ≤ 9223372036854775807) : bAdd (.string (bs a)) (.string (bs b)) = some (.string (bs (a ++ b))) := by
  have e : IntKind.i64.max = 9223372036854775807 := by decide
  simp only [bAdd, bs_size, e]
  rw [if_neg (by omega), bs_append]
def cellsB (l : List UInt8) : List Value := l.map fun b => .int .u8 b.toNat
@[simp] theorem cellsB_len (l : List UInt8) : (cellsB l).length = l.length := by simp [cellsB]
@[simp] theorem bytesOf_cells : ∀ l : List UInt8, bytesOf (cellsB l) = some l
  | [] => rfl
  | b :: l => by
    show bytesOf (.int .u8 b.toNat :: cellsB l) = _
    simp [bytesOf, bytesOf_cells l]
theorem cBytes_rd {w : World} {v : Value} {n : Nat} {l : List UInt8} (h : Rd w 1 v n (cellsB l)) (h0 : 0 < n) : cBytes v w = some (.string (bs l)) := by
  have hl := h.length
  generalize hc : cellsB l = cs at h hl
  cases h with
  | emp => omega
  | blk hb hn ha hcs =>
    rename_i b o cap a ty fz
    subst hcs
    simp only [cBytes, hb]
    rw [if_pos (by omega)]
    have : (a.extract o (o + n)).toList = (a.toList.drop o).take (n * 1) := by simp [List.take_drop]
    rw [this, ← hc, bytesOf_cells]
    rfl
section
variable {w0 w : World} {L : List HP}
end
theorem bShr_nat {n k : Nat} {j j' : IntKind} (h : k ≤ j.bits) : bShr (.int j n) (.int j' k) = some (.int j ((n / 2 ^ k : Nat))) := by
  simp only [bShr]
  rw [if_neg (by omega)]
  simp only [Int.toNat_natCast, Nat.min_eq_left h]
  congr 2
  rw [Int.fdiv_eq_ediv_of_nonneg _ (by exact_mod_cast Nat.zero_le _)]
  exact_mod_cast rfl
theorem wrap_u8 (n : Nat) : IntKind.u8.wrap n = (n % 256 : Nat) := by
  have e : IntKind.u8.wrap n = (n : Int) % 256 := by rfl
  rw [e]; omega
theorem bOr_i64 {a b : Nat} (ha : a < 9223372036854775808) (hb : b < 9223372036854775808) : bBit .or (.int .i64 a) (.int .i64 b) = some (.int .i64 ((a ||| b : Nat))) := by
  have h : a ||| b < 2 ^ 63 := Nat.or_lt_two_pow (by omega) (by omega)
  have e : (2 : Nat) ^ IntKind.i64.bits = 18446744073709551616 := by decide
  simp only [bBit, bBits, if_true, Option.map_some]
  congr 2
  rw [BitVec.toNat_or]
  simp only [BitVec.ofInt_natCast, BitVec.toNat_ofNat, e]
  rw [Nat.mod_eq_of_lt (show a < _ by omega), Nat.mod_eq_of_lt (show b < _ by omega)]
  exact wrap_id ⟨by omega, by omega⟩
theorem or_add {a b i : Nat} (h : b < 2 ^ i) : (a * 2 ^ i) ||| b = a * 2 ^ i + b := by
  rw [Nat.mul_comm, Nat.two_pow_add_eq_or_of_lt h]
end Go.Sx

/- Sz10 -/
namespace Go.Sx
open Go.ChangeShapes Go.WideShapes Go.RowKit
section
variable {H : Type} {enc : TypeId × Value → H} {P : Program} {w : World} {base : Nat} {held : Bool}
end
theorem str_bs {s : ByteArray} : ∃ l : List UInt8, s = bs l ∧ l.length = s.size := ⟨s.data.toList, bs_of s, by rw [Array.length_toList]; rfl⟩
theorem on0_mk {p : Prop} (h : p) : on0 p [] := h
theorem on1_mk {p : Value → Prop} {a : Value} (h : p a) : on1 p [a] := h
theorem on2_mk {p : Value → Value → Prop} {a b : Value} (h : p a b) : on2 p [a, b] := h
theorem on3_mk {p : Value → Value → Value → Prop} {a b c : Value} (h : p a b c) : on3 p [a, b, c] := h
theorem on4_mk {p : Value → Value → Value → Value → Prop} {a b c d : Value} (h : p a b c d) : on4 p [a, b, c, d] := h
end Go.Sx

/- Sz11 -/
namespace Go.Sx
inductive Rep (A B : HP) : List HP → List HP → Prop
  | here {L : List HP} : Rep A B (A :: L) (B :: L)
  | there {X : HP} {L L' : List HP} : Rep A B L L' → Rep A B (X :: L) (X :: L')
inductive Fnt (A : HP) : List HP → List HP → Prop
  | here {L : List HP} : Fnt A (A :: L) L
  | there {X : HP} {L M : List HP} : Fnt A L M → Fnt A (X :: L) (X :: M)
inductive Get : List HP → List HP → Prop
  | done {L : List HP} : Get L L
  | skip {X : HP} {L L' : List HP} : Get L L' → Get (X :: L) L'
  | pick {A : HP} {L M L' : List HP} : Fnt A L M → Get M L' → Get L (A :: L')
theorem Fnt.perm {A : HP} {L M : List HP} (f : Fnt A L M) : L.Perm (A :: M) := by
  induction f with
  | here => exact .refl _
  | there _ ih => exact (ih.cons _).trans (.swap _ _ _)
theorem Rep.split {A B : HP} {L L' : List HP} (r : Rep A B L L') : ∃ M, L.Perm (A :: M) ∧ (B :: M).Perm L' := by
  induction r with
  | here => exact ⟨_, .refl _, .refl _⟩
  | there _ ih => obtain ⟨M, h1, h2⟩ := ih; exact ⟨_ :: M, (h1.cons _).trans (.swap _ _ _), (List.Perm.swap _ _ _).trans (h2.cons _)⟩
class Nth (l : List Value) (i : Nat) (v : outParam Value) : Prop where
  get : l[i]? = some v
instance {a : Value} {l : List Value} : Nth (a :: l) 0 a := ⟨rfl⟩
instance {a b : Value} {l : List Value} {n : Nat} [h : Nth l n a] : Nth (b :: l) (n + 1) a := ⟨by simpa using h.get⟩
class Upd (l : List Value) (i : Nat) (y : Value) (l' : outParam (List Value)) : Prop where
  lt : i < l.length
  eq : l.set i y = l'
instance {a y : Value} {l : List Value} : Upd (a :: l) 0 y (y :: l) := ⟨by simp, rfl⟩
instance {y b : Value} {l l' : List Value} {n : Nat} [h : Upd l n y l'] : Upd (b :: l) (n + 1) y (b :: l') := ⟨by simpa using h.lt, by simp [h.eq]⟩
class Part (l : List Value) (o n : Nat) (l' : outParam (List Value)) : Prop where
  le : o + n ≤ l.length
  eq : (l.drop o).take n = l'
instance {l : List Value} : Part l 0 0 [] := ⟨by simp, by simp⟩
instance {a : Value} {l l' : List Value} {n : Nat} [h : Part l 0 n l'] : Part (a :: l) 0 (n + 1) (a :: l') := ⟨by have := h.le; simp; omega, by simpa using h.eq⟩
instance {a : Value} {l l' : List Value} {o n : Nat} [h : Part l o n l'] : Part (a :: l) (o + 1) n l' := ⟨by have := h.le; simp; omega, by simpa using h.eq⟩
theorem Part.all (l : List Value) : Part l 0 l.length l := ⟨by simp, by simp⟩
class Ups (l : List Value) (o : Nat) (ys : List Value) (l' : outParam (List Value)) : Prop where
  le : o + ys.length ≤ l.length
  eq : l.take o ++ (ys ++ l.drop (o + ys.length)) = l'
instance {l : List Value} : Ups l 0 [] l := ⟨by simp, by simp⟩
instance {a y : Value} {l ys l' : List Value} [h : Ups l 0 ys l'] : Ups (a :: l) 0 (y :: ys) (y :: l') := ⟨by have := h.le; simp at *; omega, by simpa using h.eq⟩
instance {a : Value} {l ys l' : List Value} {o : Nat} [h : Ups l o ys l'] : Ups (a :: l) (o + 1) ys (a :: l') := ⟨by have := h.le; simp; omega, by rw [Nat.add_right_comm]; simpa using h.eq⟩
theorem Ups.all {l ys : List Value} (h : l.length = ys.length) : Ups l 0 ys ys := ⟨by omega, by simp; omega⟩
class CellIn (p : Nat) (l : outParam (List Value)) (ty : outParam TypeId) (L : List HP) : Prop where
  mem : Cl p l.toArray ty ∈ L
instance {p : Nat} {l : List Value} {ty : TypeId} {L : List HP} : CellIn p l ty (Cl p l.toArray ty :: L) := ⟨.head _⟩
instance (priority := low) {p : Nat} {l : List Value} {ty : TypeId} {X : HP} {L : List HP} [h : CellIn p l ty L] : CellIn p l ty (X :: L) := ⟨.tail _ h.mem⟩
class Rp (p : Nat) (l' : List Value) (l : outParam (List Value)) (ty : outParam TypeId) (L : List HP) (L' : outParam (List HP)) : Prop where
  rep : Rep (Cl p l.toArray ty) (Cl p l'.toArray ty) L L'
instance {p : Nat} {l l' : List Value} {ty : TypeId} {L : List HP} : Rp p l' l ty (Cl p l.toArray ty :: L) (Cl p l'.toArray ty :: L) := ⟨.here⟩
instance (priority := low) {p : Nat} {l l' : List Value} {ty : TypeId} {X : HP} {L L' : List HP} [h : Rp p l' l ty L L'] : Rp p l' l ty (X :: L) (X :: L') := ⟨.there h.rep⟩
class LsIn (v : Value) (L : List HP) (α : outParam Type) (f : outParam (α → List Value)) (es : outParam Nat) (ty : outParam TypeId) (l : outParam (List α)) : Prop where
  fnt : ∃ M, Fnt (LsH f es ty v l) L M
instance {v : Value} {L : List HP} {α : Type} {f : α → List Value} {es : Nat} {ty : TypeId} {l : List α} : LsIn v (LsH f es ty v l :: L) α f es ty l := ⟨_, .here⟩
instance (priority := low) {v : Value} {X : HP} {L : List HP} {α : Type} {f : α → List Value} {es : Nat} {ty : TypeId} {l : List α} [h : LsIn v L α f es ty l] : LsIn v (X :: L) α f es ty l := ⟨h.fnt.elim fun M h => ⟨X :: M, .there h⟩⟩
class CodC {α : Type} (f : α → List Value) (es : outParam Nat) : Prop where
  cod : Cod f es
class SameC (w w' : World) : Prop where
  same : Same w w'
instance {w : World} : SameC w w := ⟨.refl _⟩
instance {w w' : World} [h : SameC w w'] : SameC w w'.drew := ⟨h.same.trans (.drew _)⟩
def elF (es : Nat) (v : Value) (i : Int) (k : Nat) : Value := (pFieldAddr k (elP es v i)).getD undef
section
variable {w0 w : World} {L L' M : List HP} {A B : HP} {k : Value → Prop} {K : Value → World → Prop}
theorem Sat.front (h : Sat w0 L w) (f : Fnt A L M) : Sat w0 (A :: M) w := h.perm f.perm
theorem Sat.get (h : Sat w0 L w) (g : Get L L') : Sat w0 L' w := by
  obtain ⟨hf, hh, h1, h2⟩ := h
  have key : ∀ {L L' : List HP}, Get L L' → ∀ {a : Hp}, SepL L a → ∃ b, SepL L' b ∧ ∀ i o, b i = some o → a i = some o := by
    intro L L' g
    induction g with
    | done => exact fun h => ⟨_, h, fun _ _ h => h⟩
    | skip _ ih =>
      intro a h
      obtain ⟨b, hb, h3⟩ := h.drop
      obtain ⟨c, hc, h4⟩ := ih hb
      exact ⟨c, hc, fun i o h => h3 i o (h4 i o h)⟩
    | pick f _ ih =>
      intro a h
      obtain ⟨x, y, hd, rfl, hP, hL⟩ := h.perm f.perm
      obtain ⟨c, hc, h4⟩ := ih hL
      refine ⟨hOr x c, ⟨x, c, fun i o hx => ?_, rfl, hP, hc⟩, fun i o h => ?_⟩
      · cases hci : c i with
        | none => rfl
        | some z => have h6 := h4 i z hci; rw [hd i o hx] at h6; cases h6
      · unfold hOr at h
        cases hx : x i with
        | some z => rw [hx] at h; simp at h; subst h; exact hOr_l hx
        | none => rw [hx] at h; simp at h; exact hOr_r hd (h4 i o h)
  obtain ⟨b, hb, h3⟩ := key g h1
  exact ⟨hf, b, hb, fun i o h => h2 i o (h3 i o h)⟩
theorem Sat.mem {b : Nat} {o : Obj} (h : Sat w0 L w) (hm : Blk b o ∈ L) : w.heap[b]? = some o := by
  obtain ⟨X, Y, rfl⟩ := List.append_of_mem hm
  exact (h.perm List.perm_middle).blk
theorem Sat.memc {b : Nat} {c : Array Value} {ty : TypeId} (h : Sat w0 L w) (hm : Cl b c ty ∈ L) : w.heap[b]? = some (.cells c ty (0, 0)) := h.mem hm
theorem Sat.rep {w' : World} (h : Sat w0 L w) (r : Rep A B L L') (f : ∀ M, Sat w0 (A :: M) w → Sat w0 (B :: M) w') : Sat w0 L' w' := by
  obtain ⟨M, h1, h2⟩ := r.split
  exact (f M (h.perm h1)).perm h2
theorem go_cell {p i : Nat} {c : Array Value} {ty : TypeId} {v : Value} (h : Sat w0 L w) (hm : Cl p c ty ∈ L) (hc : c[i]? = some v) : w.cell? ⟨p, i, none⟩ = some v := by
  rw [cell_of (h.memc hm), hc]
theorem ld1_cells {p i : Nat} {l : List Value} {ty : TypeId} {v : Value} {w1 : World} (h : Sat w0 L w) [e : SameC w w1] [hm : CellIn p l ty L] [hc : Nth l i v] : ld1 (.pointer (some ⟨p, i, none⟩)) w1 = some v := by
  rw [ld1_ptr]; exact go_cell (h.to e.same) hm.mem (by rw [List.getElem?_toArray]; exact hc.get)
theorem ld_part {p o n : Nat} {l l' : List Value} {ty : TypeId} {w1 : World} (h : Sat w0 L w) (e : Same w w1) (hm : Cl p l.toArray ty ∈ L) (hc : Part l o n l') : ldN n (.pointer (some ⟨p, o, none⟩)) w1 = some (.agg l'.toArray) := by
  rw [ldN_of ((h.to e).memc hm) (by simpa using hc.le)]
  congr 2
  apply Array.ext'
  rw [Array.toList_extract, List.extract_eq_take_drop]
  simpa using hc.eq
theorem go_some {o : Option Value} {v : Value} (h : o = some v) (hk : k v) : bindP o k := by rw [h, bindP_some]; exact hk
theorem go_ld1 {p i : Nat} {l : List Value} {ty : TypeId} {v : Value} {w1 : World} (h : Sat w0 L w) [SameC w w1] [CellIn p l ty L] [Nth l i v] (hk : k v) : bindP (ld1 (.pointer (some ⟨p, i, none⟩)) w1) k :=
  go_some (ld1_cells h) hk
theorem go_ldN {p o n : Nat} {l l' : List Value} {ty : TypeId} {w1 : World} (h : Sat w0 L w) [e : SameC w w1] [hm : CellIn p l ty L] [hc : Part l o n l'] (hk : k (.agg l'.toArray)) : bindP (ldN n (.pointer (some ⟨p, o, none⟩)) w1) k :=
  go_some (ld_part h e.same hm.mem hc) hk
theorem go_ldA {p n : Nat} {l : List Value} {ty : TypeId} {w1 : World} (h : Sat w0 L w) [e : SameC w w1] [hm : CellIn p l ty L] (hc : l.length = n) (hk : k (.agg l.toArray)) : bindP (ldN n (.pointer (some ⟨p, 0, none⟩)) w1) k :=
  go_some (ld_part h e.same hm.mem (hc ▸ Part.all l)) hk
theorem go_st {p i : Nat} {l l' m : List Value} {ty ty' : TypeId} {y : Value} [OneV y] {k : World → Prop} {w1 : World} (h : Sat w0 L w) [e : SameC w w1] [hm : CellIn p l ty L] [hc : Upd l i y l'] [r : Rp p l' m ty' L L']
    (hk : ∀ w', Sat w0 L' w' → k w') : bindW (st 1 (.pointer (some ⟨p, i, none⟩)) y w1) k := by
  have h := h.to e.same
  have hb := h.memc hm.mem
  rw [st_at hb y (by simpa using hc.lt)]
  rw [bindW_some]
  refine hk _ (h.rep r.rep fun M h => ?_)
  have h2 := h.cl
  rw [hb] at h2
  simp only [Option.some.injEq, Obj.cells.injEq, and_true] at h2
  obtain ⟨e1, rfl⟩ := h2
  obtain rfl : l = m := by simpa using congrArg Array.toList e1
  rw [List.setIfInBounds_toArray, hc.eq]; exact h.setc _
theorem go_stW {p o n : Nat} {l ys l' m : List Value} {ty ty' : TypeId} {k : World → Prop} {w1 : World} (h : Sat w0 L w) (e : Same w w1) (hm : Cl p l.toArray ty ∈ L) (hn : ys.length = n) (h1 : ys.all (·.oneCell') = true) (hc : Ups l o ys l') (r : Rep (Cl p m.toArray ty') (Cl p l'.toArray ty') L L')
    (hk : ∀ w', Sat w0 L' w' → k w') : bindW (st n (.pointer (some ⟨p, o, none⟩)) (.agg ys.toArray) w1) k := by
  have h := h.to e
  have hb := h.memc hm
  have hle := hc.le
  rw [st_cells hb (by simpa using hn) (by simpa using h1) (by simp; omega), bindW_some]
  refine hk _ (h.rep r fun M h => ?_)
  have h2 := h.cl
  rw [hb] at h2
  simp only [Option.some.injEq, Obj.cells.injEq, and_true] at h2
  obtain ⟨e1, rfl⟩ := h2
  obtain rfl : l = m := by simpa using congrArg Array.toList e1
  have e : wr l.toArray o (Value.agg ys.toArray).cells.toList = l'.toArray := by
    apply Array.ext'
    rw [wr_toList _ _ _ (by simp; omega)]
    simpa using hc.eq
  rw [e]; exact h.setc _
theorem go_stN {p o n : Nat} {l ys l' m : List Value} {ty ty' : TypeId} {k : World → Prop} {w1 : World} (h : Sat w0 L w) [e : SameC w w1] [hm : CellIn p l ty L] [hc : Ups l o ys l'] [r : Rp p l' m ty' L L'] (hn : ys.length = n) (h1 : ys.all (·.oneCell') = true)
    (hk : ∀ w', Sat w0 L' w' → k w') : bindW (st n (.pointer (some ⟨p, o, none⟩)) (.agg ys.toArray) w1) k :=
  go_stW h e.same hm.mem hn h1 hc r.rep hk
theorem go_stA {p n : Nat} {l ys m : List Value} {ty ty' : TypeId} {k : World → Prop} {w1 : World} (h : Sat w0 L w) [e : SameC w w1] [hm : CellIn p l ty L] [r : Rp p ys m ty' L L'] (hl : l.length = n) (hn : ys.length = n) (h1 : ys.all (·.oneCell') = true)
    (hk : ∀ w', Sat w0 L' w' → k w') : bindW (st n (.pointer (some ⟨p, 0, none⟩)) (.agg ys.toArray) w1) k :=
  go_stW h e.same hm.mem hn h1 (Ups.all (by omega)) r.rep hk
theorem go_box {t : TypeId} {v : Value} {l : List Value} {w1 : World} (h : Sat w0 L w) [e : SameC w w1] (hc : v.cells = l.toArray) (hK : ∀ p w', Sat w0 (Cl p l.toArray t :: L) w' → K (.pointer (some ⟨p, 0, none⟩)) w') : eBox t v w1 K := by
  refine eBox_sat (h.to e.same) fun p w' h' => hK p w' ?_
  rw [← hc]; exact h'
theorem go_alloc {Pg : Program} {t : TypeId} {z : Value} {l : List Value} {w1 : World} (h : Sat w0 L w) [e : SameC w w1] (hz : fZero Pg t = some z) (hc : z.cells = l.toArray) (hK : ∀ p w', Sat w0 (Cl p l.toArray t :: L) w' → K (.pointer (some ⟨p, 0, none⟩)) w') : eAlloc Pg t w1 K := by
  refine eAlloc_sat (h.to e.same) hz fun p w' h' => hK p w' ?_
  rw [← hc]; exact h'
theorem go_rd {p i : Nat} {l : List Value} {ty : TypeId} {v v' : Value} {X : Prop} {w1 : World} (h : Sat w0 L w) [e : SameC w w1] [hm : CellIn p l ty L] [hc : Nth l i v] (hv : v = v') (hX : X) : fok true (ld1 (.pointer (some ⟨p, i, none⟩)) w1) v' ∧ X := by
  subst hv
  exact ⟨by rw [fok_true]; exact ld1_cells h, hX⟩
theorem go_rdN {p o n : Nat} {l l' : List Value} {ty : TypeId} {v' : Value} {X : Prop} {w1 : World} (h : Sat w0 L w) [e : SameC w w1] [hm : CellIn p l ty L] [hc : Part l o n l'] (hv : .agg l'.toArray = v') (hX : X) : fok true (ldN n (.pointer (some ⟨p, o, none⟩)) w1) v' ∧ X := by
  subst hv
  exact ⟨by rw [fok_true]; exact ld_part h e.same hm.mem hc, hX⟩
theorem go_look2 {Pg : Program} {κ ν : Type} [DecidableEq κ] {ek : κ → Value} {ev : ν → Value} {v : Value} {m : List (κ × ν)} {kt t et : TypeId} {z : Value} {w1 : World} (h : Sat w0 L w) [e : SameC w w1] (hm : Fnt (MapH ek ev v m) L M) (T : KeyT Pg kt ek)
    (hu : Pg.underlying t = some (.map kt et)) (hz : fZero Pg et = some z) (q : κ) (hk : k (.tuple #[(aGet q m).elim z ev, .bool (aGet q m).isSome])) : bindP (fLook Pg t v (ek q) true w1) k :=
  go_some (look2 ((h.to e.same).front hm) T hu hz q) hk
theorem go_lenM {κ ν : Type} [DecidableEq κ] {ek : κ → Value} {ev : ν → Value} {v : Value} {m : List (κ × ν)} {w1 : World} (h : Sat w0 L w) [e : SameC w w1] (hm : Fnt (MapH ek ev v m) L M) (hk : k (.int .i64 m.length)) : bindP (lenM v w1) k :=
  go_some (lenM_map ((h.to e.same).front hm)) hk
theorem go_fok {o : Option Value} {v : Value} {X : Prop} (ho : o = some v) (hX : X) : fok true o v ∧ X := ⟨by rw [fok_true]; exact ho, hX⟩
theorem ls_of {α : Type} {f : α → List Value} {es : Nat} {ty : TypeId} {v : Value} {l : List α} {w1 : World} (h : Sat w0 L w) (e : Same w w1) (m : LsIn v L α f es ty l) : Rd w1 es v l.length (l.flatMap f) := by
  obtain ⟨M, hm⟩ := m.fnt
  exact ls_rd ((h.to e).front hm)
theorem rd_fa {α : Type} {f : α → List Value} {es i j : Nat} {v : Value} {l : List α} (C : Cod f es) (h : Rd w es v l.length (l.flatMap f)) (hi : i < l.length) (hj : j < es) : pFieldAddr j (elP es v i) = some (elF es v i j) := by
  obtain ⟨a, h1, _⟩ := rd_fld C h hi hj
  unfold elF; rw [h1]; rfl
theorem rd_f1 {α : Type} {f : α → List Value} {es i j : Nat} {v x : Value} {l : List α} (C : Cod f es) (h : Rd w es v l.length (l.flatMap f)) (hi : i < l.length) (hx : Nth (f l[i]) j x) : ld1 (elF es v i j) w = some x := by
  have hj : j < es := by
    have := (List.getElem?_eq_some_iff.1 hx.get).1
    rwa [C.len] at this
  obtain ⟨a, h1, h2⟩ := rd_fld C h hi hj
  have : elF es v i j = .pointer (some a) := by unfold elF; rw [h1]; rfl
  rw [this, ld1_ptr, h2, hx.get]
theorem go_lenL {α : Type} {f : α → List Value} {es : Nat} {ty : TypeId} {v : Value} {l : List α} (h : Sat w0 L w) [m : LsIn v L α f es ty l] (hk : k (.int .i64 l.length)) : bindP (lenL v) k :=
  go_some (ls_of h (.refl _) m).len hk
theorem go_ix {α : Type} {f : α → List Value} {es i : Nat} {ty : TypeId} {v : Value} {l : List α} (h : Sat w0 L w) [m : LsIn v L α f es ty l] (hi : i < l.length) (hk : k (elP es v i)) : bindP (pIndexL es v (.int .i64 i)) k :=
  go_some (ix_el (ls_of h (.refl _) m) hi) hk
theorem go_elN {α : Type} {f : α → List Value} {es i : Nat} {ty : TypeId} {v : Value} {l : List α} {w1 : World} (h : Sat w0 L w) [e : SameC w w1] [m : LsIn v L α f es ty l] [C : CodC f es] (hi : i < l.length) (hk : k (.agg (f l[i]).toArray)) : bindP (ldN es (elP es v i) w1) k :=
  go_some (rd_ld C.cod (ls_of h e.same m) hi) hk
theorem go_f1 {α : Type} {f : α → List Value} {es i j : Nat} {ty : TypeId} {v x : Value} {l : List α} {w1 : World} (h : Sat w0 L w) [e : SameC w w1] [m : LsIn v L α f es ty l] [C : CodC f es] (hi : i < l.length) (hx : Nth (f l[i]) j x) (hk : k x) : bindP (ld1 (elF es v i j) w1) k :=
  go_some (rd_f1 C.cod (ls_of h e.same m) hi hx) hk
theorem go_rf1 {α : Type} {f : α → List Value} {es i j : Nat} {ty : TypeId} {v x x' : Value} {l : List α} {X : Prop} {w1 : World} (h : Sat w0 L w) [e : SameC w w1] [m : LsIn v L α f es ty l] [C : CodC f es] (hi : i < l.length) (hx : Nth (f l[i]) j x) (hv : x = x') (hX : X) : fok true (ld1 (elF es v i j) w1) x' ∧ X := by
  subst hv
  exact ⟨by rw [fok_true]; exact rd_f1 C.cod (ls_of h e.same m) hi hx, hX⟩
theorem go_rel {α : Type} {f : α → List Value} {es i : Nat} {ty : TypeId} {v x' : Value} {l : List α} {X : Prop} {w1 : World} (h : Sat w0 L w) [e : SameC w w1] [m : LsIn v L α f es ty l] [C : CodC f es] (hi : i < l.length) (hv : .agg (f l[i]).toArray = x') (hX : X) : fok true (ldN es (elP es v i) w1) x' ∧ X := by
  subst hv
  exact ⟨by rw [fok_true]; exact rd_ld C.cod (ls_of h e.same m) hi, hX⟩
theorem go_rlen {α : Type} {f : α → List Value} {es : Nat} {ty : TypeId} {v x' : Value} {l : List α} {X : Prop} (h : Sat w0 L w) [m : LsIn v L α f es ty l] (hv : .int .i64 l.length = x') (hX : X) : fok true (lenL v) x' ∧ X := by
  subst hv
  exact ⟨by rw [fok_true]; exact (ls_of h (.refl _) m).len, hX⟩
theorem bAdd_i64 {a b : Int} (h : -9223372036854775808 ≤ a + b ∧ a + b ≤ 9223372036854775807) : bAdd (.int .i64 a) (.int .i64 b) = some (.int .i64 (a + b)) := by rw [bAdd_int, wrap_id h]
theorem bSub_i64 {a b : Int} (h : -9223372036854775808 ≤ a - b ∧ a - b ≤ 9223372036854775807) : bSub (.int .i64 a) (.int .i64 b) = some (.int .i64 (a - b)) := by rw [bSub_int, wrap_id h]
theorem pMin_int {j : IntKind} {a b : Int} : pMin (.int j a) (.int j b) = some (.int j (min a b)) := by
  simp only [pMin]; congr 2; rw [Int.min_def]; split <;> split <;> omega
theorem pMax_int {j : IntKind} {a b : Int} : pMax (.int j a) (.int j b) = some (.int j (max a b)) := by
  simp only [pMax]; congr 2; rw [Int.max_def]; split <;> split <;> omega
end
theorem evA : (∀ (v : Value) (k : Value → Prop), bindP (some v) k = k v) ∧ (∀ (o : Option Value) (k : Value → Prop), Sx.stepG true o k = bindP o k) ∧ (∀ (o : Option Value) (k : Value → Prop), Sx.stepG false o k = k undef) ∧
    (∀ (v : Value) (k : Value → Prop), stepM true v k = k v) ∧ (∀ (v : Value) (k : Value → Prop), stepM false v k = k undef) ∧
    (∀ (E : (Value → World → Prop) → Prop) (w : World) (K : Value → World → Prop), stepE true E w K = E K) ∧ (∀ (E : (Value → World → Prop) → Prop) (w : World) (K : Value → World → Prop), stepE false E w K = K undef w) ∧
    (∀ (w : World) (q : World → Prop), bindW (some w) q = q w) ∧ (∀ a b : Prop, ifB (.bool true) a b = a) ∧ (∀ a b : Prop, ifB (.bool false) a b = b) ∧ (∀ b : Bool, gd true (.bool b) = b) ∧ (∀ b : Bool, gd false (.bool b) = !b) ∧
    (∀ a b : Value, pPick (.bool true) a b = some a) ∧ (∀ a b : Value, pPick (.bool false) a b = some b) ∧ (∀ a : Addr, pNil (.pointer (some a)) = some (.pointer (some a))) ∧ (∀ off b o : Nat, pFieldAddr off (.pointer (some ⟨b, o, none⟩)) = some (.pointer (some ⟨b, o + off, none⟩))) ∧
    (∀ b : Bool, uNot (.bool b) = some (.bool !b)) ∧ (∀ b : Bool, gd b undef = false) :=
  ⟨fun _ _ => bindP_some _, fun _ _ => stepG_true _, fun _ _ => stepG_false _, fun _ _ => stepM_true _, fun _ _ => stepM_false _, fun _ _ _ => stepE_true _, fun _ _ _ => stepE_false _, fun _ _ => bindW_some _, fun _ _ => ifB_true, fun _ _ => ifB_false, gd_true, gd_false, pPick_true, pPick_false, pNil_ptr, pFieldAddr_ptr, uNot_bool, fun b => by cases b <;> rfl⟩
theorem evB : (∀ j (a b : Int), bLt (.int j a) (.int j b) = some (.bool (a < b))) ∧ (∀ j (a b : Int), bLe (.int j a) (.int j b) = some (.bool (a ≤ b))) ∧ (∀ j (a b : Int), bGt (.int j a) (.int j b) = some (.bool (a > b))) ∧ (∀ j (a b : Int), bGe (.int j a) (.int j b) = some (.bool (a ≥ b))) ∧
    (∀ P t x y j (a b : Int), bEq P t x y (.int j a) (.int j b) = some (.bool (decide (a = b)))) ∧ (∀ P t x y j (a b : Int), bNe P t x y (.int j a) (.int j b) = some (.bool (!decide (a = b)))) ∧
    (∀ P t x y (a b : ByteArray), bEq P t x y (.string a) (.string b) = some (.bool (decide (a = b)))) ∧ (∀ P t x y (a b : ByteArray), bNe P t x y (.string a) (.string b) = some (.bool (!decide (a = b)))) ∧
    (∀ (l : List Value) i, pTuple (.tuple l.toArray) i = l[i]?) ∧ (∀ (a : Value) (l : List Value), (a :: l)[0]? = some a) ∧ (∀ (a : Value) (l : List Value) i, (a :: l)[i + 1]? = l[i]?) ∧
    (∀ a n c, lenL (.slice a n c) = some (.int .i64 (n : Nat))) ∧ (∀ s : ByteArray, lenS (.string s) = some (.int .i64 s.size)) ∧ (∀ l : List UInt8, (bs l).size = l.length) ∧ (∀ j (a b : Int), pMin (.int j a) (.int j b) = some (.int j (min a b))) ∧ (∀ j (a b : Int), pMax (.int j a) (.int j b) = some (.int j (max a b))) ∧
    (∀ l : List UInt8, ByteArray.mk l.toArray = bs l) ∧ (∀ a b : List UInt8, (bs a = bs b) = (a = b)) ∧
    (∀ v w, ld1 v w.drew = ld1 v w) ∧ (∀ n v w, ldN n v w.drew = ldN n v w) ∧ (∀ v w, lenM v w.drew = lenM v w) ∧ (∀ v w, cBytes v w.drew = cBytes v w) ∧ (∀ P t m k b w, fLook P t m k b w.drew = fLook P t m k b w) ∧ (∀ v, fok true (some v) v = True) :=
  ⟨bLt_int, bLe_int, bGt_int, bGe_int, fun _ _ _ _ => bEq_int, fun _ _ _ _ => bNe_int, fun _ _ _ _ _ _ => by rw [bEq_str, bs_beq], fun _ _ _ _ _ _ => by rw [bNe_str, bs_beq], pTuple_mk, fun _ _ => List.getElem?_cons_zero, fun _ _ _ => List.getElem?_cons_succ, lenL_mk, lenS_mk, bs_size, fun _ _ _ => pMin_int, fun _ _ _ => pMax_int, mk_bs, fun _ _ => by rw [bs_inj], fun _ _ => rfl, fun _ _ _ => rfl, fun _ _ => rfl, fun _ _ => rfl, fun _ _ _ _ _ _ => rfl, fun _ => by rw [fok_true]; simp⟩
theorem evC : (∀ p, ptr p = .pointer (some ⟨p, 0, none⟩)) ∧ (∀ n : Nat, 0 + n = n) ∧ ((!true) = false) ∧ ((!false) = true) ∧ (∀ (α : Type) (a : α), (some a).isNone = false) ∧ (∀ α : Type, (none : Option α).isNone = true) ∧ (∀ (α : Type) (a : α), (some a).isSome = true) ∧ (∀ α : Type, (none : Option α).isSome = false) ∧
    (∀ [i : Decidable True], @decide True i = true) ∧ (∀ [i : Decidable False], @decide False i = false) ∧ (∀ (α : Type) (a : α), (a = a) = True) ∧ (∀ p : Prop, (True ∧ p) = p) ∧ (∀ a b c : Prop, ((a ∧ b) ∧ c) = (a ∧ b ∧ c)) :=
  ⟨fun _ => rfl, Nat.zero_add, rfl, rfl, fun _ _ => rfl, fun _ => rfl, fun _ _ => rfl, fun _ => rfl, fun {_} => by simp, fun {_} => by simp, fun _ _ => by simp, fun _ => by simp, fun _ _ _ => propext and_assoc⟩
class StpS (w0 : World) (L : List HP) (w : World) (G : Prop) (G' : outParam Prop) : Prop where
  go : Sat w0 L w → G' → G
section
variable {w0 w w1 : World} {L L' : List HP} {k : Value → Prop} {G G' : Prop}
theorem go_s (h : Sat w0 L w) [s : StpS w0 L w G G'] (hk : G') : G := s.go h hk
instance {p i : Nat} {l : List Value} {ty : TypeId} {v : Value} [SameC w w1] [CellIn p l ty L] [Nth l i v] : StpS w0 L w (bindP (ld1 (.pointer (some ⟨p, i, none⟩)) w1) k) (k v) := ⟨fun h hk => go_ld1 h hk⟩
instance {p o n : Nat} {l l' : List Value} {ty : TypeId} [SameC w w1] [CellIn p l ty L] [Part l o n l'] : StpS w0 L w (bindP (ldN n (.pointer (some ⟨p, o, none⟩)) w1) k) (k (.agg l'.toArray)) := ⟨fun h hk => go_ldN h hk⟩
instance {p i : Nat} {l : List Value} {ty : TypeId} {v : Value} {X : Prop} [SameC w w1] [CellIn p l ty L] [Nth l i v] : StpS w0 L w (fok true (ld1 (.pointer (some ⟨p, i, none⟩)) w1) v ∧ X) X := ⟨fun h hk => go_rd h rfl hk⟩
instance {p o n : Nat} {l l' : List Value} {ty : TypeId} {X : Prop} [SameC w w1] [CellIn p l ty L] [Part l o n l'] : StpS w0 L w (fok true (ldN n (.pointer (some ⟨p, o, none⟩)) w1) (.agg l'.toArray) ∧ X) X := ⟨fun h hk => go_rdN h rfl hk⟩
instance {α : Type} {f : α → List Value} {es : Nat} {ty : TypeId} {v : Value} {l : List α} [LsIn v L α f es ty l] : StpS w0 L w (bindP (lenL v) k) (k (.int .i64 l.length)) := ⟨fun h hk => go_lenL h hk⟩
instance {α : Type} {f : α → List Value} {es : Nat} {ty : TypeId} {v : Value} {l : List α} {X : Prop} [LsIn v L α f es ty l] : StpS w0 L w (fok true (lenL v) (.int .i64 l.length) ∧ X) X := ⟨fun h hk => go_rlen h rfl hk⟩
class StwS (w0 : World) (L : List HP) (w : World) (G : Prop) (L' : outParam (List HP)) (k : outParam (World → Prop)) : Prop where
  go : Sat w0 L w → (∀ w', Sat w0 L' w' → k w') → G
theorem go_w {k : World → Prop} (h : Sat w0 L w) [s : StwS w0 L w G L' k] (hk : ∀ w', Sat w0 L' w' → k w') : G := s.go h hk
instance {p i : Nat} {l l' m : List Value} {ty ty' : TypeId} {y : Value} {k : World → Prop} [OneV y] [SameC w w1] [CellIn p l ty L] [Upd l i y l'] [Rp p l' m ty' L L'] : StwS w0 L w (bindW (st 1 (.pointer (some ⟨p, i, none⟩)) y w1) k) L' k := ⟨fun h hk => go_st h hk⟩
end
theorem Sat.frt {A : HP} {w0 w : World} {L M : List HP} (h : Sat w0 L w) (f : Fnt A L M := by repeat (first | exact .here | apply Fnt.there)) : Sat w0 (A :: M) w := h.front f
theorem Sat.got {w0 w : World} {L L' : List HP} (h : Sat w0 L w) (g : Get L L' := by repeat (first | exact .done | (refine .pick (by repeat (first | exact .here | apply Fnt.there)) ?_) | refine .skip ?_)) : Sat w0 L' w := h.get g
end Go.Sx

/- Sz12 -/
namespace Go.Sx
open Go.ChangeShapes Go.WideShapes Go.RowKit
inductive CK2 where
  | int (k : IntKind)
  | str
  | bool
  | sl (es : Nat) (ks : List CK2)
mutual
def Fit2 (w : World) (B : Nat) : CK2 → Value → Prop
  | .int k, v => ∃ n, v = .int k n ∧ (Lit.int k n).wf = true
  | .str, v => ∃ s, v = .string s ∧ s.size ≤ B
  | .bool, v => ∃ b, v = .bool b
  | .sl es ks, v => ∃ n cs, Rd w es v n cs ∧ n ≤ B ∧ ∀ i, i < n → FitL2 w B ks ((cs.drop (i * es)).take es)
def FitL2 (w : World) (B : Nat) : List CK2 → List Value → Prop
  | [], vs => vs = []
  | c :: cs, vs => ∃ v r, vs = v :: r ∧ Fit2 w B c v ∧ FitL2 w B cs r
end
section
variable {w : World} {B : Nat}
theorem FitL2.append : ∀ {a b : List CK2} {x y : List Value}, FitL2 w B a x → FitL2 w B b y → FitL2 w B (a ++ b) (x ++ y)
  | [], _, x, _, h, h' => by simp only [FitL2] at h; subst h; exact h'
  | _ :: _, _, x, _, h, h' => by
    simp only [FitL2] at h
    obtain ⟨v, r, rfl, h1, h2⟩ := h
    simp only [List.cons_append, FitL2]
    exact ⟨v, _, rfl, h1, h2.append h'⟩
theorem FitL2.length : ∀ {a : List CK2} {x : List Value}, FitL2 w B a x → x.length = a.length
  | [], x, h => by simp only [FitL2] at h; subst h; rfl
  | _ :: _, x, h => by
    simp only [FitL2] at h
    obtain ⟨v, r, rfl, _, h2⟩ := h
    simp [h2.length]
theorem fitL2_nil {cs : List Value} (h : FitL2 w B [] cs) : cs = [] := by simpa only [FitL2] using h
theorem fitL2_int {k : IntKind} {ks : List CK2} {cs : List Value} (h : FitL2 w B (.int k :: ks) cs) : ∃ (n : Int) (vs : List Value), cs = .int k n :: vs ∧ (Lit.int k n).wf = true ∧ FitL2 w B ks vs := by
  simp only [FitL2, Fit2] at h
  obtain ⟨v, r, rfl, ⟨n, rfl, hn⟩, h2⟩ := h
  exact ⟨n, r, rfl, hn, h2⟩
theorem fitL2_bool {ks : List CK2} {cs : List Value} (h : FitL2 w B (.bool :: ks) cs) : ∃ (b : Bool) (vs : List Value), cs = .bool b :: vs ∧ FitL2 w B ks vs := by
  simp only [FitL2, Fit2] at h
  obtain ⟨v, r, rfl, ⟨n, rfl⟩, h2⟩ := h
  exact ⟨n, r, rfl, h2⟩
theorem fitL2_str {ks : List CK2} {cs : List Value} (h : FitL2 w B (.str :: ks) cs) : ∃ (l : List UInt8) (vs : List Value), cs = .string (bs l) :: vs ∧ l.length ≤ B ∧ FitL2 w B ks vs := by
  simp only [FitL2, Fit2] at h
  obtain ⟨v, r, rfl, ⟨s, rfl, hs⟩, h2⟩ := h
  obtain ⟨l, rfl, hl⟩ := str_bs (s := s)
  exact ⟨l, r, rfl, by omega, h2⟩
theorem fitL2_sl {es : Nat} {k ks : List CK2} {cs : List Value} (h : FitL2 w B (.sl es k :: ks) cs) : ∃ (v : Value) (vs : List Value), cs = v :: vs ∧ (∃ n ds, Rd w es v n ds ∧ n ≤ B ∧ ∀ i, i < n → FitL2 w B k ((ds.drop (i * es)).take es)) ∧ FitL2 w B ks vs := by
  simp only [FitL2, Fit2] at h
  obtain ⟨v, r, rfl, h1, h2⟩ := h
  exact ⟨v, r, rfl, h1, h2⟩
end
def scal2F (P : Program) (r : TypeId → Option (List CK2)) : List Field → Nat → Option (List CK2)
  | [], _ => some []
  | f :: fs, off => match f.offset == off, r f.type with
    | true, some ks => match ks.length == P.cellsOf f.type, scal2F P r fs (off + ks.length) with
      | true, some l => some (ks ++ l)
      | _, _ => none
    | _, _ => none
def repCK2 (ks : List CK2) : Nat → List CK2
  | 0 => []
  | n + 1 => ks ++ repCK2 ks n
def scal2 (P : Program) : Nat → TypeId → Option (List CK2)
  | 0, _ => none
  | d + 1, t => match P.underlying t with
    | some .bool => some [.bool]
    | some (.int k) => some [.int k]
    | some .string => some [.str]
    | some (.slice e) => match scal2 P d e with
      | some ks => if 0 < P.cellsOf e ∧ 0 < P.bytesOf e then some [.sl (P.cellsOf e) ks] else none
      | none => none
    | some (.struct fs) => match scal2F P (scal2 P d) fs.toList 0 with
      | some ks => if ks.length = P.cellsOf t then some ks else none
      | none => none
    | some (.array n e) => match scal2 P d e with
      | some ks => if ks.length = P.cellsOf e ∧ n * ks.length = P.cellsOf t then some (repCK2 ks n) else none
      | none => none
    | _ => none
section
variable {H : Type} {enc : TypeId × Value → H} {P : Program} {w : World} {base : Nat} {held : Bool} {B : Nat}
theorem weightsAll_mem {e : TypeId} : ∀ {l : List (DataW H)} {d : DataW H}, d ∈ l → ∀ n ∈ d.weights P e, n ∈ DataW.weightsAll P e l
  | x :: l, d, hd, n, hn => by
    simp only [DataW.weightsAll, List.mem_append]
    rcases List.mem_cons.1 hd with rfl | hd
    · exact .inl hn
    · exact .inr (weightsAll_mem hd n hn)
  | [], _, hd, _, _ => by simp at hd
theorem scal2F_ok {r : TypeId → Option (List CK2)} {R : TypeId → List Value → Option (DataW H × List MemPlace)} {cs : List Value} (hr : ∀ t ks c x, r t = some ks → R t c = some x → (∀ n ∈ x.1.weights P t, n ≤ B) → FitL2 w B ks c) :
    ∀ (fs : List Field) (off : Nat) (ks : List CK2) (xs : List (DataW H × List MemPlace)), scal2F P r fs off = some ks → fs.mapM (fun f => R f.type ((cs.drop f.offset).take (P.cellsOf f.type))) = some xs →
      (∀ n ∈ DataW.weightsEach P (fs.map (·.type)) (xs.map (·.1)), n ≤ B) → FitL2 w B ks ((cs.drop off).take ks.length) := by
  intro fs
  induction fs with
  | nil => intro off ks xs h _ _; simp [scal2F] at h; subst h; simp [FitL2]
  | cons f fs ih =>
    intro off ks xs h hm hw
    unfold scal2F at h
    split at h
    · rename_i ks1 ho hks
      split at h
      · rename_i l hl hk
        simp only [Option.some.injEq] at h; subst h
        simp only [beq_iff_eq] at ho hl
        simp only [List.mapM_cons, Option.bind_eq_bind, Option.bind_eq_some_iff] at hm
        obtain ⟨x, hx, ys, hys, he⟩ := hm
        simp only [Option.pure_def, Option.some.injEq] at he; subst he
        simp only [List.map_cons, DataW.weightsEach, List.mem_append] at hw
        have f1 := hr _ _ _ _ hks hx fun n hn => hw n (.inl hn)
        have f2 := ih _ _ _ hk hys fun n hn => hw n (.inr hn)
        rw [ho, ← hl] at f1
        have := f1.append f2
        rw [List.length_append, List.take_add, List.drop_drop]
        exact this
      · cases h
    · cases h
theorem rep2_ok {ks : List CK2} {cs : List Value} : ∀ (n o : Nat), (∀ i, i < n → FitL2 w B ks ((cs.drop (o + i * ks.length)).take ks.length)) → FitL2 w B (repCK2 ks n) ((cs.drop o).take (n * ks.length)) := by
  intro n
  induction n with
  | zero => intro o _; simp [repCK2, FitL2]
  | succ n ih =>
    intro o h
    have h0 := h 0 (by omega)
    simp only [Nat.zero_mul, Nat.add_zero] at h0
    have h1 := ih (o + ks.length) fun i hi => by
      have := h (i + 1) (by omega)
      rwa [Nat.add_mul, Nat.one_mul, Nat.add_comm (i * ks.length), ← Nat.add_assoc] at this
    have := h0.append h1
    rw [show (n + 1) * ks.length = ks.length + n * ks.length by rw [Nat.add_mul]; omega, List.take_add, List.drop_drop]
    exact this
theorem mapM_mem {α β : Type} {f : α → Option β} : ∀ {l : List α} {r : List β}, l.mapM f = some r → ∀ x ∈ l, ∃ y ∈ r, f x = some y := by
  intro l
  induction l with
  | nil => intro r _ x hx; simp at hx
  | cons a l ih =>
    intro r h x hx
    simp only [List.mapM_cons, Option.bind_eq_bind, Option.bind_eq_some_iff] at h
    obtain ⟨y, hy, ys, hys, he⟩ := h
    simp only [Option.pure_def, Option.some.injEq] at he; subst he
    rcases List.mem_cons.1 hx with rfl | hx
    · exact ⟨y, by simp, hy⟩
    · obtain ⟨z, hz, h2⟩ := ih hys x hx; exact ⟨z, by simp [hz], h2⟩
theorem rd_of_slice {e : TypeId} {es : Nat} {a : Addr} {len cap m : Nat} {R : Nat → List Value → Prop} (he : P.cellsOf e = es) (hpos : 0 < es) (hlc : len ≤ cap) (hm : m = cap)
    (hel : ∀ i, i < m → ∃ cs', w.cells? base (a.add (i * es)) es = some cs' ∧ R i cs') :
    ∃ cs, Rd w es (.slice (some a) len cap) len cs ∧ ∀ i, i < len → R i ((cs.drop (i * es)).take es) := by
  subst hm
  by_cases hc0 : m = 0
  · have : len = 0 := by omega
    subst this
    exact ⟨[], .emp _ _, fun i hi => by omega⟩
  have cell : ∀ k, k < m * es → ∃ u, w.cell? (a.add k) = some u := by
    intro k hk
    have hi : k / es < m := by rw [Nat.div_lt_iff_lt_mul hpos]; exact hk
    obtain ⟨cs', h1, _⟩ := hel _ hi
    obtain ⟨_, h2, h3⟩ := World.cells?_some h1
    have hm := Nat.mod_lt k hpos
    have h4 := h3 (k % es) hm
    rw [add_add, show k / es * es + k % es = k by rw [Nat.mul_comm]; exact Nat.div_add_mod k es] at h4
    exact ⟨cs'[k % es]'(by omega), by rw [h4, List.getElem?_eq_getElem]⟩
  have hpos2 : 0 < m * es := Nat.mul_pos (by omega) hpos
  obtain ⟨b, o, spot⟩ := a
  have hspot : spot = none ∧ ∃ arr ty fz, w.heap[b]? = some (.cells arr ty fz) := by
    obtain ⟨u, hu⟩ := cell 0 hpos2
    simp only [Addr.add, if_true, World.cell?] at hu
    split at hu
    · rename_i arr ty fz hb'
      cases spot with
      | none => exact ⟨rfl, _, _, _, hb'⟩
      | some s => simp at hu
    · cases hu
  obtain ⟨rfl, arr, ty, fz, hb'⟩ := hspot
  have cell2 : ∀ k, k < m * es → o + k < arr.size := by
    intro k hk
    obtain ⟨u, hu⟩ := cell k hk
    rw [addr_add, cell_of hb'] at hu
    rcases Nat.lt_or_ge (o + k) arr.size with h | h
    · exact h
    · rw [Array.getElem?_eq_none h] at hu; cases hu
  have hsz := cell2 (m * es - 1) (by omega)
  have hle := Nat.mul_le_mul_right es hlc
  refine ⟨_, .blk hb' hlc (by omega) rfl, fun i hi => ?_⟩
  obtain ⟨cs', h1, h2⟩ := hel i (by omega)
  obtain ⟨_, h4, h5⟩ := World.cells?_some h1
  have hi2 : i * es + es ≤ len * es := by
    have := Nat.mul_le_mul_right es (show i + 1 ≤ len by omega)
    rw [Nat.add_mul] at this; omega
  have : (((arr.toList.drop o).take (len * es)).drop (i * es)).take es = cs' := by
    apply List.ext_getElem
    · simp; omega
    · intro j j1 j2
      have := h5 j (by omega)
      rw [addr_add, addr_add, cell_of hb', List.getElem?_eq_getElem j2, Array.getElem?_eq_getElem (cell2 (i * es + j) (by omega) |> fun h => by omega)] at this
      simp only [Option.some.injEq] at this
      rw [← this]
      simp [Nat.add_assoc]
  rw [this]; exact h2
theorem scal2_ok : ∀ (d : Nat) (t : TypeId) (ks : List CK2), scal2 P d t = some ks → ∀ (fuel : Nat) (cs : List Value) (x : DataW H × List MemPlace), DataW.trod enc P w base (fun _ => true) held fuel t cs = some x → (∀ n ∈ x.1.weights P t, n ≤ B) → FitL2 w B ks cs := by
  intro d
  induction d with
  | zero => intro t ks h; simp [scal2] at h
  | succ d ih =>
    intro t ks h fuel cs x hx hw
    cases fuel with
    | zero => simp [DataW.trod] at hx
    | succ fuel =>
    unfold scal2 at h
    split at h
    · rename_i hu
      simp only [Option.some.injEq] at h; subst h
      unfold DataW.trod at hx
      rw [hu] at hx
      split at hx <;> first | (simp_all; done) | (exact (by simp only [FitL2, Fit2]; exact ⟨_, _, rfl, ⟨_, rfl⟩, rfl⟩)) | (rename_i h1; simp at h1)
    · rename_i k hu
      simp only [Option.some.injEq] at h; subst h
      unfold DataW.trod at hx
      rw [hu] at hx
      split at hx
      all_goals first | (rename_i h1; simp at h1; done) | skip
      all_goals first | (simp at hx; done) | skip
      all_goals
        rename_i h1
        simp at h1
        subst h1
        split at hx
        · rename_i h2; obtain ⟨rfl, h3⟩ := h2; simp only [FitL2, Fit2]; exact ⟨_, _, rfl, ⟨_, rfl, h3⟩, rfl⟩
        · simp at hx
    · rename_i hu
      simp only [Option.some.injEq] at h; subst h
      unfold DataW.trod at hx
      rw [hu] at hx
      split at hx
      all_goals first | (rename_i h1; simp at h1; done) | skip
      all_goals first | (simp at hx; done) | skip
      all_goals
        split at hx
        · simp only [Option.some.injEq] at hx; subst hx
          rename_i s _ _
          have := hw s.size (by simp [DataW.weights])
          simp only [FitL2, Fit2]; exact ⟨_, _, rfl, ⟨_, rfl, this⟩, rfl⟩
        · simp at hx
    · rename_i e hu
      split at h
      · rename_i ks' hks
        split at h
        · rename_i hcell
          simp only [Option.some.injEq] at h; subst h
          rcases Go.Deep.open_slice hu hx with ⟨rfl, rfl⟩ | ⟨a, len, cap, m, n, D, Pl, rfl, hb, hlc, hcm, hm, rfl, hel⟩
          · simp only [FitL2, Fit2]
            exact ⟨_, _, rfl, ⟨0, [], .emp _ _, Nat.zero_le _, fun i hi => by omega⟩, rfl⟩
          · simp only [if_true] at hm
            simp only [DataW.weights, hu, List.mem_cons, List.mem_append, List.length_map, List.length_range] at hw
            have hn : len ≤ B := by
              have := hw _ (.inl rfl)
              have h3 := Nat.le_mul_of_pos_right (len + (m - len)) hcell.2
              omega
            obtain ⟨cs, hr, hR⟩ := rd_of_slice (R := fun i cs' => i < len → FitL2 w B ks' cs') rfl hcell.1 hlc hm fun i hi => by
              obtain ⟨cs', h1, h2⟩ := hel i hi
              refine ⟨cs', h1, fun hi2 => ih _ _ hks _ _ _ h2 fun n hn => hw n (.inr (.inl (weightsAll_mem (d := D i) ?_ n hn)))⟩
              exact List.mem_map.2 ⟨i, by simpa using hi2, rfl⟩
            simp only [FitL2, Fit2]
            exact ⟨_, _, rfl, ⟨len, cs, hr, hn, fun i hi => hR i hi hi⟩, rfl⟩
        · cases h
      · cases h
    · rename_i fs hu
      split at h
      · rename_i ks' hks
        split at h
        · rename_i hlen
          simp only [Option.some.injEq] at h; subst h
          have : cs.length = P.cellsOf t ∧ ∃ xs, fs.toList.mapM (fun f => DataW.trod enc P w base (fun _ => true) held fuel f.type ((cs.drop f.offset).take (P.cellsOf f.type))) = some xs ∧ x.1 = .agg (xs.map (·.1)) := by
            unfold DataW.trod at hx
            rw [hu] at hx
            split at hx
            all_goals first | (rename_i h1; simp at h1; done) | skip
            all_goals first | (simp at hx; done) | skip
            all_goals first | exact (‹∀ (fs_1 : Array Field), some (TypeDesc.struct fs) = some (TypeDesc.struct fs_1) → False› fs rfl).elim | skip
            all_goals
              have h1 := ‹some (TypeDesc.struct fs) = some (TypeDesc.struct _)›
              cases h1
              split at hx
              · rename_i hl
                simp only [Option.map_eq_some_iff] at hx
                obtain ⟨xs, hxs, rfl⟩ := hx
                exact ⟨hl, xs, hxs, rfl⟩
              · simp at hx
          obtain ⟨hl, xs, hxs, hx1⟩ := this
          rw [hx1] at hw
          simp only [DataW.weights, hu] at hw
          have := scal2F_ok (R := DataW.trod enc P w base (fun _ => true) held fuel) (fun t ks c x h1 h2 h3 => ih t ks h1 fuel c x h2 h3) fs.toList 0 ks' xs hks hxs hw
          rw [List.drop_zero, List.take_of_length_le (by omega)] at this
          exact this
        · cases h
      · cases h
    · rename_i n e hu
      split at h
      · rename_i ks' hks
        split at h
        · rename_i hlen
          simp only [Option.some.injEq] at h; subst h
          have : cs.length = P.cellsOf t ∧ ∃ xs, (List.range n).mapM (fun i => DataW.trod enc P w base (fun _ => true) held fuel e ((cs.drop (i * P.cellsOf e)).take (P.cellsOf e))) = some xs ∧ x.1 = .agg (xs.map (·.1)) := by
            unfold DataW.trod at hx
            rw [hu] at hx
            split at hx
            all_goals first | (rename_i h1; simp at h1; done) | skip
            all_goals first | (simp at hx; done) | skip
            all_goals first | exact (‹∀ (n_1 : Nat) (e_1 : TypeId), some (TypeDesc.array n e) = some (TypeDesc.array n_1 e_1) → False› n e rfl).elim | skip
            all_goals
              have h1 := ‹some (TypeDesc.array n e) = some (TypeDesc.array _ _)›
              cases h1
              split at hx
              · rename_i hl
                simp only [Option.map_eq_some_iff] at hx
                obtain ⟨xs, hxs, rfl⟩ := hx
                exact ⟨hl, xs, hxs, rfl⟩
              · simp at hx
          obtain ⟨hl, xs, hxs, hx1⟩ := this
          rw [hx1] at hw
          simp only [DataW.weights, hu] at hw
          have := rep2_ok (w := w) (B := B) (ks := ks') (cs := cs) n 0 fun i hi => by
            obtain ⟨y, hym, hy⟩ := mapM_mem hxs i (by simpa using hi)
            have := ih _ _ hks _ _ _ hy fun n hn => hw n (weightsAll_mem (List.mem_map.2 ⟨y, hym, rfl⟩) n hn)
            rw [Nat.zero_add, hlen.1]; exact this
          rw [List.drop_zero, List.take_of_length_le (by omega)] at this
          exact this
        · cases h
      · cases h
    · cases h
theorem arg_any {t : TypeId} {ks : List CK2} {v : Value} {d : DataW H} {ps : List MemPlace} {n0 : Nat} (hks : scal2 P n0 t = some ks)
    (hd : DataW.Trod enc P w base (fun _ => true) held t v d ps) (hw : ∀ n ∈ d.weights P t, n ≤ B) : FitL2 w B ks v.cells.toList := by
  obtain ⟨fuel, hx⟩ := hd
  exact scal2_ok _ _ _ hks _ _ _ hx hw
theorem arg_sl {t e : TypeId} {v : Value} {r : _root_.Go.Reach} {b0 : Nat} (ht : P.underlying t = some (.slice e)) (hval : Value.okWide P w r b0 t v) : v.cells.toList = [v] := by
  simp only [Value.okWide, ht, Cell.okWide, Cell.ok] at hval
  split at hval <;> first | rfl | (exact hval.elim) | simp_all [Value.cells]
end
theorem fit_list2 {α : Type} {f : α → List Value} {good : α → Prop} {Q : List Value → Prop} {es : Nat} (hf : ∀ c, Q c → ∃ x, c = f x ∧ good x) : ∀ (n : Nat) (cs : List Value), cs.length = n * es → (∀ i, i < n → Q ((cs.drop (i * es)).take es)) →
    ∃ l : List α, l.length = n ∧ cs = l.flatMap f ∧ ∀ x ∈ l, good x := by
  intro n
  induction n with
  | zero => intro cs h _; exact ⟨[], rfl, by simpa using h, by simp⟩
  | succ n ih =>
    intro cs h hx
    obtain ⟨x, e1, g1⟩ := hf _ (hx 0 (by omega))
    obtain ⟨l, e2, e3, g2⟩ := ih (cs.drop es) (by simp [h, Nat.add_mul]) fun i hi => by
      have := hx (i + 1) (by omega)
      rwa [Nat.add_mul, Nat.one_mul, Nat.add_comm (i * es), ← List.drop_drop] at this
    refine ⟨x :: l, by simp [e2], ?_, by simpa using ⟨g1, g2⟩⟩
    rw [List.flatMap_cons, ← e3, ← e1]
    simp
section
variable {w0 w : World} {L : List HP} {k : Value → Prop} {K : Value → World → Prop} {α : Type} {f : α → List Value} {es i : Nat} {ty : TypeId} {v : Value} {l : List α}
theorem go_lit1 {P : Program} {t : TypeId} {x : α} {y : Value} {c : Array Value} {w1 : World} (C : Cod f es) (h : Sat w0 L w) [e : SameC w w1] (hu : P.underlying t = some (.slice ty)) (hc : fBuildSl P ty 1 [(0, y)] = some c) (hm : c.toList = f x)
    (hK : ∀ s w', Sat w0 (LsH f es ty s [x] :: L) w' → K s w') : eBuildSl P t 1 [(0, y)] w1 K :=
  ls_lit (m := [x]) C (h.to e.same) hu hc (by simp [hm]) hK
theorem go_lit0 {P : Program} {t : TypeId} {w1 : World} (C : Cod f es) (h : Sat w0 L w) [e : SameC w w1] (hu : P.underlying t = some (.slice ty)) (hc : fBuildSl P ty 0 [] = some #[])
    (hK : ∀ s w', Sat w0 (LsH f es ty s [] :: L) w' → K s w') : eBuildSl P t 0 [] w1 K :=
  ls_lit (m := []) C (h.to e.same) hu hc (by simp) hK
end
end Go.Sx

/- Sz13 -/
namespace Go.Sx
section
variable {w0 w w1 : World} {L M : List HP} {k : Value → Prop} {K : Value → World → Prop} {α : Type} {f : α → List Value} {es i j n : Nat} {ty : TypeId} {v : Value} {l : List α} {l' : List Value}
theorem rd_fN (C : Cod f es) (h : Rd w es v l.length (l.flatMap f)) (hi : i < l.length) (hp : Part (f l[i]) j n l') : ldN n (elF es v i j) w = some (.agg l'.toArray) := by
  generalize hcs : l.flatMap f = cs at h
  obtain ⟨m, hm⟩ : ∃ m, m = l.length := ⟨_, rfl⟩
  rw [← hm] at h
  cases h with
  | emp => omega
  | blk hb hn ha hc =>
    rename_i b o cap a ty fz
    have hlen := C.len l[i]
    have hle := hp.le
    have e : elF es (.slice (some ⟨b, o, none⟩) m cap) i j = .pointer (some ⟨b, o + i * es + j, none⟩) := by
      unfold elF elP
      simp only [pIndexL]
      rw [if_pos ⟨by omega, by omega⟩]
      simp [pFieldAddr]
    have him : i * es + es ≤ m * es := by
      have := Nat.mul_le_mul_right es (show i + 1 ≤ m by omega)
      rw [Nat.add_mul] at this; omega
    rw [e, ldN_of hb (by omega)]
    congr 2
    apply Array.ext'
    rw [Array.toList_extract, List.extract_eq_take_drop]
    have hf := flat_at C.len l i (by omega)
    rw [hcs, hc] at hf
    rw [show o + i * es + j + n - (o + i * es + j) = n from by omega]
    rw [← hp.eq, ← hf]
    simp only [List.drop_take, List.take_take, List.drop_drop, List.toList_toArray]
    congr 1
    omega
theorem go_subTo' {jk : IntKind} (h : Sat w0 L w) [m : LsIn v L α f es ty l] [C : CodC f es] (hi : i ≤ l.length) (hk : ∀ v', (∀ {L' : List HP} {w' : World}, Sat w0 L' w' → LsIn v L' α f es ty l → Rd w' es v' (l.take i).length ((l.take i).flatMap f)) → k v') : bindP (pSliceL es v none (some (.int jk i)) none) k := by
  have hr := ls_of h (.refl _) m
  obtain ⟨v', e, _⟩ := hr.sub (L := none) (H := some (.int jk i)) (M := none) (lo := 0) (hi := i) .none (.some _ _) (.none _) (Nat.zero_le _) hi
  refine go_some e (hk v' fun h' m' => ?_)
  have := rd_sub C.cod (ls_of h' (.refl _) m') e (lo := 0) (hi := i) .none (.some _ _) (.none _) (Nat.zero_le _) hi
  rw [List.drop_zero] at this
  exact this
theorem go_subFrom' {jk : IntKind} (h : Sat w0 L w) [m : LsIn v L α f es ty l] [C : CodC f es] (hi : i ≤ l.length) (hk : ∀ v', (∀ {L' : List HP} {w' : World}, Sat w0 L' w' → LsIn v L' α f es ty l → Rd w' es v' (l.drop i).length ((l.drop i).flatMap f)) → k v') : bindP (pSliceL es v (some (.int jk i)) none none) k := by
  have hr := ls_of h (.refl _) m
  obtain ⟨v', e, _⟩ := hr.sub (L := some (.int jk i)) (H := none) (M := none) (lo := i) (hi := l.length) (.some _ _) .none (.none _) hi (Nat.le_refl _)
  refine go_some e (hk v' fun h' m' => ?_)
  have := rd_sub C.cod (ls_of h' (.refl _) m') e (lo := i) (hi := l.length) (.some _ _) .none (.none _) hi (Nat.le_refl _)
  rw [List.take_length] at this
  exact this
theorem Sat.nilLs (f : α → List Value) (es : Nat) (ty : TypeId) (h : Sat w0 L w) : Sat w0 (LsH f es ty (.slice none 0 0) ([] : List α) :: L) w := Sat.nilsl h
end
class RdIn (w0 : World) (L : List HP) (v : Value) (α : outParam Type) (f : outParam (α → List Value)) (es : outParam Nat) (l : outParam (List α)) : Prop where
  rd : ∀ w, Sat w0 L w → Rd w es v l.length (l.flatMap f)
instance {w0 : World} {L : List HP} {v : Value} {α : Type} {f : α → List Value} {es : Nat} {ty : TypeId} {l : List α} : RdIn w0 (LsH f es ty v l :: L) v α f es l := ⟨fun _ h => ls_rd h⟩
instance (priority := low) {w0 : World} {L : List HP} {X : HP} {v : Value} {α : Type} {f : α → List Value} {es : Nat} {l : List α} [m : RdIn w0 L v α f es l] : RdIn w0 (X :: L) v α f es l := ⟨fun w h => m.rd w h.drop⟩
theorem RdIn.arg {w0 : World} {L : List HP} {v : Value} {α : Type} {f : α → List Value} {es : Nat} {l : List α} (h : Rd w0 es v l.length (l.flatMap f)) : RdIn w0 L v α f es l := ⟨fun _ hs => h.sat hs⟩
section
variable {w0 w w1 : World} {L M : List HP} {k : Value → Prop} {K : Value → World → Prop} {α : Type} {f : α → List Value} {es i j n : Nat} {ty : TypeId} {v x : Value} {l : List α} {l' : List Value}
theorem go_lenR (h : Sat w0 L w) [m : RdIn w0 L v α f es l] (hk : k (.int .i64 l.length)) : bindP (lenL v) k := go_some (m.rd w h).len hk
theorem go_ixR (h : Sat w0 L w) [m : RdIn w0 L v α f es l] (hi : i < l.length) (hk : k (elP es v i)) : bindP (pIndexL es v (.int .i64 i)) k := go_some (ix_el (m.rd w h) hi) hk
theorem go_elR (h : Sat w0 L w) [e : SameC w w1] [m : RdIn w0 L v α f es l] (hc : CodC f es) (hi : i < l.length) (hk : k (.agg (f l[i]).toArray)) : bindP (ldN es (elP es v i) w1) k := go_some (rd_ld hc.cod (m.rd _ (h.to e.same)) hi) hk
theorem go_faR (h : Sat w0 L w) [m : RdIn w0 L v α f es l] (hc : CodC f es) (hi : i < l.length) (hj : j < es) (hk : k (elF es v i j)) : bindP (pFieldAddr j (elP es v i)) k := go_some (rd_fa hc.cod (m.rd w h) hi hj) hk
theorem go_f1R (h : Sat w0 L w) [e : SameC w w1] [m : RdIn w0 L v α f es l] (hc : CodC f es) (hi : i < l.length) (hx : Nth (f l[i]) j x) (hk : k x) : bindP (ld1 (elF es v i j) w1) k := go_some (rd_f1 hc.cod (m.rd _ (h.to e.same)) hi hx) hk
theorem go_fNR (h : Sat w0 L w) [e : SameC w w1] [m : RdIn w0 L v α f es l] (hc : CodC f es) (hi : i < l.length) (hp : Part (f l[i]) j n l') (hk : k (.agg l'.toArray)) : bindP (ldN n (elF es v i j) w1) k := go_some (rd_fN hc.cod (m.rd _ (h.to e.same)) hi hp) hk
theorem go_rf1R {x' : Value} {X : Prop} (h : Sat w0 L w) [e : SameC w w1] [m : RdIn w0 L v α f es l] (hc : CodC f es) (hi : i < l.length) (hx : Nth (f l[i]) j x) (hv : x = x') (hX : X) : fok true (ld1 (elF es v i j) w1) x' ∧ X := by
  subst hv; exact ⟨by rw [fok_true]; exact rd_f1 hc.cod (m.rd _ (h.to e.same)) hi hx, hX⟩
theorem go_relR {x' : Value} {X : Prop} (h : Sat w0 L w) [e : SameC w w1] [m : RdIn w0 L v α f es l] (hc : CodC f es) (hi : i < l.length) (hv : .agg (f l[i]).toArray = x') (hX : X) : fok true (ldN es (elP es v i) w1) x' ∧ X := by
  subst hv; exact ⟨by rw [fok_true]; exact rd_ld hc.cod (m.rd _ (h.to e.same)) hi, hX⟩
theorem go_rlenR {x' : Value} {X : Prop} (h : Sat w0 L w) [m : RdIn w0 L v α f es l] (hv : .int .i64 l.length = x') (hX : X) : fok true (lenL v) x' ∧ X := by
  subst hv; exact ⟨by rw [fok_true]; exact (m.rd w h).len, hX⟩
theorem rd_e1 (C : Cod f 1) (h : Rd w 1 v l.length (l.flatMap f)) (hi : i < l.length) (hx : Nth (f l[i]) 0 x) : ld1 (elP 1 v i) w = some x := by
  obtain ⟨b, o, h1, _, h3⟩ := h.elem C.len rfl hi (j := .i64)
  have e : elP 1 v i = .pointer (some ⟨b, o, none⟩) := by simp [elP, h1]
  rw [e, ld1_ptr]
  rcases h3 0 with h | h
  · rw [show o + 0 = o from rfl] at h
    rw [h]; exact hx.get
  · omega
theorem go_e1R (h : Sat w0 L w) [e : SameC w w1] [m : RdIn w0 L v α f 1 l] (hc : CodC f 1) (hi : i < l.length) (hx : Nth (f l[i]) 0 x) (hk : k x) : bindP (ld1 (elP 1 v i) w1) k := go_some (rd_e1 hc.cod (m.rd _ (h.to e.same)) hi hx) hk
theorem go_re1R {x' : Value} {X : Prop} (h : Sat w0 L w) [e : SameC w w1] [m : RdIn w0 L v α f 1 l] (hc : CodC f 1) (hi : i < l.length) (hx : Nth (f l[i]) 0 x) (hv : x = x') (hX : X) : fok true (ld1 (elP 1 v i) w1) x' ∧ X := by
  subst hv; exact ⟨by rw [fok_true]; exact rd_e1 hc.cod (m.rd _ (h.to e.same)) hi hx, hX⟩
theorem go_appR {P : Program} {t xt : TypeId} {bytes : Nat} {s x : Value} {l m : List α} {K : Value → World → Prop} (h : Sat w0 L w) (T : SlT P t ty es bytes) (hxt : isSS P xt = true) [e : SameC w w1] (hm : Fnt (LsH f es ty s l) L M) [C : CodC f es] [mx : RdIn w0 L x α f es m]
    (hb : (l.length + m.length) * bytes ≤ 140737488355328) (hK : ∀ s' w', OneV s' → Sat w0 (LsH f es ty s' (l ++ m) :: M) w' → K s' w') : eAppend P t xt s x w1 K :=
  have h := h.to e.same
  ls_app C.cod (h.front hm) T hxt (mx.rd _ h) hb fun s' w' h' => hK s' w' (ls_one h') h'
end
end Go.Sx

/- Sz14 -/
namespace Go.Sx
instance : CodC cI 1 := ⟨CI⟩
instance (n : Int) : Nth (cI n) 0 (.int .i64 n) := ⟨rfl⟩
section
variable {w0 w w1 : World} {L M : List HP} {k : Value → Prop} {K : Value → World → Prop} {α : Type} {f : α → List Value} {es i j n : Nat} {ty : TypeId} {v : Value} {l : List α}
theorem rd_faF (C : Cod f es) (h : Rd w es v l.length (l.flatMap f)) (hi : i < l.length) : pFieldAddr n (elF es v i j) = some (elF es v i (j + n)) := by
  obtain ⟨b, o, h1, _, _⟩ := h.elem C.len rfl hi (j := .i64)
  have e : elP es v i = .pointer (some ⟨b, o, none⟩) := by simp [elP, h1]
  have ef : ∀ q, elF es v i q = .pointer (some ⟨b, o + q, none⟩) := fun q => by unfold elF; rw [e]; simp [pFieldAddr]
  rw [ef, ef]; simp [pFieldAddr, Nat.add_assoc]
theorem go_faFR (h : Sat w0 L w) [m : RdIn w0 L v α f es l] (hc : CodC f es) (hi : i < l.length) (hk : k (elF es v i (j + n))) : bindP (pFieldAddr n (elF es v i j)) k :=
  go_some (rd_faF hc.cod (m.rd w h) hi) hk
end
end Go.Sx

/- Sz15 -/
namespace Go.Sx
open Go
end Go.Sx

/- Sz16 -/
namespace Go.Sx
theorem int_of_shape {P : Program} {w : World} {g : Nat} {t : TypeId} {k : IntKind} {zero : Array Value} (h : w.ShapedOpen P) (hg : g < P.globals.size)
    (h0 : ((begin P (fun _ _ => 0) default).world.heap[g]?).bind Obj.row? = some (zero, t)) (hz : zero.size = 1)
    (hb : P.buildable t = true) (hc : P.cellTypes P.depth t = some [t]) (hu : P.underlying t = some (.int k)) : ∃ n, w.cell? ⟨g, 0, none⟩ = some (.int k n) := by
  obtain ⟨cs, hh, hs, hr⟩ := h.1 g zero t hg h0
  obtain ⟨ts, hts, _, hall⟩ := hr hb
  rw [hc] at hts
  cases hts
  have h1 : 0 < cs.size := by omega
  obtain ⟨u, hu', hok⟩ := hall 0 cs[0] (by simp [h1])
  have : u = t := by simpa using hu'.symm
  subst this
  have hcell : w.cell? ⟨g, 0, none⟩ = some cs[0] := by simp [World.cell?, hh, h1]
  rw [hcell]
  unfold Cell.ok at hok
  rw [hu] at hok
  cases hv : cs[0] <;> rw [hv] at hok <;> first | (simp only at hok; obtain ⟨rfl, _⟩ := hok; exact ⟨_, rfl⟩) | exact ⟨_, rfl⟩ | simp at hok
end Go.Sx

/- So1 -/
namespace Go.Sx
open Go.Proofs (CmpLays)
section
variable {α : Type} [Inhabited α] {f : α → List Value} {es : Nat}
theorem flatK_eq (C : Cod f es) (l : List α) : Go.Sort.flatK f es l.toArray = (l.flatMap f).toArray := by
  refine Go.Sort.ext_get! (by rw [Go.Sort.size_flatK]; simp [flat_len C l]) fun t ht => ?_
  rw [Go.Sort.size_flatK, List.size_toArray] at ht
  rw [Go.Sort.get_flatK _ _ _ _ (by simpa using ht)]
  have hm := Nat.mod_lt t C.pos
  have hi : t / es < l.length := by rw [Nat.div_lt_iff_lt_mul C.pos]; exact ht
  have h1 := flat_at C.len l (t / es) hi
  have h2 : (l.flatMap f)[t]? = (f l[t / es])[t % es]? := by
    rw [← h1, List.getElem?_take, if_pos hm, List.getElem?_drop, Nat.div_add_mod']
  have h3 : t < (l.flatMap f).length := by rw [flat_len C]; exact ht
  have h4 : t % es < (f l[t / es]).length := by rw [C.len]; exact hm
  rw [List.getElem?_eq_getElem h3, List.getElem?_eq_getElem h4] at h2
  have e1 : l.toArray[t / es]! = l[t / es] := by rw [getElem!_pos l.toArray (t / es) (by simpa using hi)]; simp
  rw [e1, getElem!_pos (f l[t / es]) (t % es) h4, getElem!_pos (l.flatMap f).toArray t (by simpa using h3)]
  simp only [List.getElem_toArray]
  exact (Option.some.inj h2).symm
theorem holds_of {w : World} {b o : Nat} {a : Array Value} {ty : TypeId} {l : List α} (C : Cod f es) (hb : w.heap[b]? = some (.cells a ty (0, 0))) (hc : l.flatMap f = (a.toList.drop o).take (l.length * es)) (ha : o + l.length * es ≤ a.size) : Go.Sort.HoldsK f es w b o l.toArray := by
  unfold Go.Sort.HoldsK
  rw [flatK_eq C]
  intro j hj
  have hj : j < l.length * es := by simpa [flat_len C l] using hj
  have hj2 : j < (l.flatMap f).length := by rw [flat_len C]; exact hj
  refine ⟨?_, by simp [World.frozen?, hb]⟩
  rw [cell_of hb, getElem!_pos _ _ (by simpa using hj2)]
  simp only [List.getElem_toArray, id]
  have : (l.flatMap f)[j]? = a.toList[o + j]? := by rw [hc, List.getElem?_take, if_pos hj, List.getElem?_drop]
  rw [List.getElem?_eq_getElem hj2] at this
  rw [this]; simp
theorem heap_put {w : World} {b o : Nat} {F : Array Value} (i : Nat) : (Go.Sort.putRow id w b o F).heap[i]? = if i = b then (w.heap[b]?).map (Go.Sort.onCells (Go.Sort.putCells id o F)) else w.heap[i]? := by
  unfold Go.Sort.putRow Go.Sort.mapBlock
  simp only [Array.getElem?_modify]
  by_cases h : i = b
  · subst h; simp
  · rw [if_neg (fun e => h e.symm), if_neg h]
theorem sortW {w : World} {b o q : Nat} {a : Array Value} {ty : TypeId} {l l' : List α} {os : Array Obj} (C : Cod f es) (hb : w.heap[b]? = some (.cells a ty (0, 0))) (hlen : l'.length = l.length) (ha : o + l.length * es ≤ a.size) :
    ∃ a' : Array Value, (Go.Proofs.sortWorldK f es w b o q l'.toArray os).heap[b]? = some (.cells a' ty (0, 0)) ∧ a'.size = a.size ∧ l'.flatMap f = (a'.toList.drop o).take (l.length * es) ∧ Stp [b] [b] w (Go.Proofs.sortWorldK f es w b o q l'.toArray os) := by
  have hlt := lt_of_blk hb
  have heap : ∀ i, i < w.heap.size → (Go.Proofs.sortWorldK f es w b o q l'.toArray os).heap[i]? = (Go.Sort.putRow id w b o (l'.flatMap f).toArray).heap[i]? := by
    intro i hi
    show (((Go.Sort.putRowK f es (Go.Sort.ahead w q) b o l'.toArray).heap) ++ os)[i]? = _
    have hs : (Go.Sort.putRowK f es (Go.Sort.ahead w q) b o l'.toArray).heap.size = w.heap.size := by
      unfold Go.Sort.putRowK Go.Sort.putRow Go.Sort.mapBlock Go.Sort.ahead; simp
    rw [Array.getElem?_append_left (by rw [hs]; exact hi)]
    unfold Go.Sort.putRowK
    rw [flatK_eq C, heap_put, heap_put]
    rfl
  have hsz : w.heap.size ≤ (Go.Proofs.sortWorldK f es w b o q l'.toArray os).heap.size := by
    show _ ≤ (((Go.Sort.putRowK f es (Go.Sort.ahead w q) b o l'.toArray).heap) ++ os).size
    have hs : (Go.Sort.putRowK f es (Go.Sort.ahead w q) b o l'.toArray).heap.size = w.heap.size := by
      unfold Go.Sort.putRowK Go.Sort.putRow Go.Sort.mapBlock Go.Sort.ahead; simp
    rw [Array.size_append, hs]; omega
  refine ⟨Go.Sort.putCells id o (l'.flatMap f).toArray a, ?_, by simp [Go.Sort.putCells], ?_, ⟨⟨rfl, rfl, rfl, hsz, fun i hi hn => ?_⟩, fun x hx => .inl hx⟩⟩
  · rw [heap b hlt, heap_put, if_pos rfl, hb]; rfl
  · have hl' : (l'.flatMap f).length = l.length * es := by rw [flat_len C, hlen]
    apply List.ext_getElem?
    intro i
    rw [List.getElem?_take]
    by_cases hi : i < l.length * es
    · rw [if_pos hi, List.getElem?_drop]
      have h1 : o + i < a.size := by omega
      have h2 : i < (l'.flatMap f).length := by omega
      rw [List.getElem?_eq_getElem h2, Array.getElem?_toList]
      simp only [Go.Sort.putCells, Array.getElem?_mapIdx, Array.getElem?_eq_getElem h1, Option.map_some]
      rw [if_pos ⟨by omega, by rw [List.size_toArray]; omega⟩]
      simp only [id, Nat.add_sub_cancel_left]
      rw [getElem!_pos _ _ (by simpa using h2)]
      simp
    · rw [if_neg hi, List.getElem?_eq_none (by omega)]
  · rw [heap i hi, heap_put, if_neg (by simpa using hn)]
end
def Gr (W W' : World) : Prop := ∃ q os', W' = Go.Sort.grow (W.drewN q) os'
theorem Gr.refl (W : World) : Gr W W := ⟨0, #[], by rw [Go.Sort.grow_empty]; rfl⟩
theorem Gr.alloc {W W' : World} (h : Gr W W') (o : Obj) : Gr W (W'.alloc o) := by
  obtain ⟨q, os, rfl⟩ := h
  exact ⟨q, os ++ #[o], by rw [Go.Sort.alloc_eq_grow, Go.Sort.grow_grow]⟩
theorem Gr.drew {W W' : World} (h : Gr W W') : Gr W W'.drew := by
  obtain ⟨q, os, rfl⟩ := h
  exact ⟨q + 1, os, rfl⟩
section
variable {w0 w W : World} {L : List HP} {K : Value → World → Prop}
theorem eBox_ex {t : TypeId} {v : Value} (h : Sat w0 L w) (g : Gr W w) (hK : ∀ p w', Sat w0 (Cl p v.cells t :: L) w' → Gr W w' → K (ptr p) w') : eBox t v w K := hK _ _ (h.alloc _) (g.alloc _)
theorem eBuildSl_ex {α : Type} {f : α → List Value} {es : Nat} {P : Program} {t ty : TypeId} {m : List α} {parts : List (Nat × Value)} {c : Array Value} (C : Cod f es) (h : Sat w0 L w) (g : Gr W w) (hu : P.underlying t = some (.slice ty)) (hc : fBuildSl P ty m.length parts = some c) (hm : c.toList = m.flatMap f)
    (hK : ∀ s w', Sat w0 (LsH f es ty s m :: L) w' → Gr W w' → K s w') : eBuildSl P t m.length parts w K := by
  have key : eBuildSl P t m.length parts w fun s w' => Sat w0 (LsH f es ty s m :: L) w' := ls_lit C h hu hc hm fun s w' h => h
  unfold eBuildSl at key ⊢
  rw [hu] at key ⊢
  simp only [hc] at key ⊢
  exact hK _ _ key (g.alloc _)
end
theorem swo_of {α : Type} {lt : α → α → Bool} (S : SWO lt) : Go.Sort.SWO lt := ⟨S.irr, fun x y z h1 h2 => S.lt_le h1 (by
    cases h : lt z y with
    | false => rfl
    | true => have := S.asym _ _ h2; rw [this] at h; cases h), fun x y z h1 h2 => by
    cases h : lt x z with
    | false => rfl
    | true =>
      have := S.lt_le h h2
      rw [h1] at this; cases this⟩
def gSortF (P : Program) (es : Nat) (ty : TypeId) : FnT := fun args w K => ∃ (α : Type) (_ : Inhabited α) (f : α → List Value) (cf : α → α → Int) (lt : α → α → Bool) (g : Nat) (cb : List Value) (v : Value) (w0 : World) (L : List HP) (l : List α),
  args = [v, .func (.func g) #[] cb.toArray] ∧ Cod f es ∧ Go.Sort.SWO (Go.Proofs.ltOf cf) ∧ (∀ x y, Go.Proofs.ltOf cf x y = lt x y) ∧ (∀ args w, (callFunc g args).run P w = .ok (.enter g args) w) ∧
  (∀ (W : World) (l2 : List α), l2.length = l.length → Sat w0 (LsH f es ty v l2 :: L) W → ∀ (x y : α), Calls P g (#[.agg (f x).toArray, .agg (f y).toArray] ++ cb.toArray) W fun e W' => e = .returned (.int .i64 (cf x y)) ∧ Gr W W') ∧
  Sat w0 (LsH f es ty v l :: L) w ∧ l.length < 4611686018427387904 ∧ ∀ l' w', l'.Perm l → l'.Pairwise (fun x y => lt y x = false) → Sat w0 (LsH f es ty v l' :: L) w' → K (.tuple #[]) w'
theorem okSortF {P : Program} {ρ : Go.Shelf.Ren} (S : Go.Proofs.SlLaysF0.n6 P ρ) {es : Nat} {ty : TypeId} (aE : ∀ w, (isAgg (ρ.t 24)).run P w = .ok true w) (zE : ∀ w, (Go.sizeOf (ρ.t 24)).run P w = .ok es w)
    (ef : ∀ args w, (callFunc (ρ.f 6) args).run P w = .ok (.enter (ρ.f 6) args) w) : OkF P (ρ.f 6) (gSortF P es ty) := by
  intro args w K ⟨α, inst, f, cf, lt, g, cb, v, w0, L, l, ha, C, hO, hlt, eg, hcmp, hs, hlen, hk⟩
  subst ha
  refine .inl ⟨ef _ _, ?_⟩
  obtain ⟨fp, hO', kk⟩ := Sat.own hs
  generalize hcs : l.flatMap f = cs at hO'
  generalize hn' : l.length = n at hO'
  cases hO' with
  | nil =>
    obtain rfl : l = [] := List.eq_nil_of_length_eq_zero hn'
    refine (Go.Proofs.AnyF.slices_SortFunc_none S none 0 (.func (.func g) #[] cb.toArray) w).mono fun e w' ⟨he, hw⟩ => ?_
    subst hw
    exact ⟨_, he, hk [] w' (.refl _) .nil hs⟩
  | blk hb hn ha hc =>
    rename_i b o cap a
    subst hn'
    have h2 := Nat.mul_le_mul_right es hn
    have hH : Go.Sort.HoldsK f es w b o l.toArray := holds_of C hb (by rw [hcs]; exact hc) (by omega)
    have put : ∀ (l' : List α) (q : Nat) (os : Array Obj), l'.length = l.length → Sat w0 (LsH f es ty (.slice (some ⟨b, o, none⟩) l.length cap) l' :: L) (Go.Proofs.sortWorldK f es w b o q l'.toArray os) := by
      intro l' q os hlen'
      obtain ⟨a', hb', hs', hc', hst⟩ := sortW (q := q) (os := os) C hb hlen' (by omega : o + l.length * es ≤ a.size)
      have := kk _ [b] (.slice (some ⟨b, o, none⟩) l.length cap) l.length (l'.flatMap f) es ty (.blk hb' hn (by omega) (by rw [hc'])) hst
      unfold LsH
      rw [hlen']; exact this
    have hcon := Go.Proofs.AnyQ.slices_SortFunc S es aE zE f C.len (fun x v hv => List.all_eq_true.1 (C.one x) v hv) cf hO g cb.toArray b o cap l.toArray w eg
      (fun m os dk hd x y => by
        obtain ⟨l', rfl⟩ : ∃ l' : List α, dk = l'.toArray := ⟨dk.toList, by simp⟩
        have hl' : l'.length = l.length := by simpa using hd
        exact hcmp _ l' hl' (put l' m os hl') x y) hH (lt_of_blk hb) (by simpa using hlen)
    rw [List.size_toArray] at hcon
    refine hcon.mono fun e w' ⟨he, d', q, os, hp, hsr, hw⟩ => ?_
    obtain ⟨l', rfl⟩ : ∃ l' : List α, d' = l'.toArray := ⟨d'.toList, by simp⟩
    obtain ⟨hp1, _, hp3⟩ := hp
    have hlen' : l'.length = l.length := by simpa using hp1
    have hperm : l'.Perm l := by
      have := hp3
      simp only [List.extract_toArray, List.extract_eq_take_drop] at this
      simpa [List.take_of_length_le, hlen'] using this
    refine ⟨_, he, hk l' w' hperm ?_ ?_⟩
    · rw [List.pairwise_iff_getElem]
      intro i j hi hj hij
      have := hsr i j (Nat.zero_le _) hij (by omega)
      rw [hlt, getElem!_pos _ _ (by simpa using hj), getElem!_pos _ _ (by simpa using hi)] at this
      simpa using this
    · rw [hw]; exact put l' q os hlen'
theorem calls_of {P : Program} {i : Nat} {G : FnT} (ok : OkF P i G) (hc : ∀ args w, (callFunc i args).run P w = .ok (.enter i args) w) {args : List Value} {W : World} {r : Value} (h : callP G args W fun v w' => v = r ∧ Gr W w') :
    Calls P i args.toArray W fun e w' => e = .returned r ∧ Gr W w' := by
  obtain ⟨k0, h0, hk⟩ := h
  rcases (ok _ _ _ h0) with ⟨_, hC⟩ | ⟨v, w', hr, _⟩
  · exact hC.mono fun e w' ⟨v, he, hv⟩ => ⟨by rw [he, (hk _ _ hv).1], (hk _ _ hv).2⟩
  · rw [hc] at hr; cases hr
section
variable {α : Type} [Inhabited α] {f : α → List Value} {es : Nat}
theorem sortC_sat {P : Program} {g : Nat} {G : FnT} {ty : TypeId} {cf : α → α → Int} {lt : α → α → Bool} {cb : List Value} {v : Value} {l : List α} {w0 w : World} {L : List HP} {K : Value → World → Prop} (h : Sat w0 (LsH f es ty v l :: L) w) (hl : l.length < 4611686018427387904) (C : Cod f es)
    (S : SWO lt) (hlt : ∀ x y, cf x y < 0 ↔ lt x y = true) (ok : OkF P g G) (eg : ∀ args w, (callFunc g args).run P w = .ok (.enter g args) w)
    (hc : ∀ (W : World) (l2 : List α), l2.length = l.length → Sat w0 (LsH f es ty v l2 :: L) W → ∀ (x y : α), callP G ([.agg (f x).toArray, .agg (f y).toArray] ++ cb) W fun v w' => v = .int .i64 (cf x y) ∧ Gr W w')
    (hK : ∀ l' w', l'.Perm l → l'.Pairwise (fun x y => lt y x = false) → Sat w0 (LsH f es ty v l' :: L) w' → K (.tuple #[]) w') : callP (gSortF P es ty) [v, .func (.func g) #[] cb.toArray] w K := by
  have e : ∀ x y, Go.Proofs.ltOf cf x y = lt x y := fun x y => by
    unfold Go.Proofs.ltOf
    rw [Bool.eq_iff_iff]; simp [hlt]
  have e2 : Go.Proofs.ltOf cf = lt := by funext x y; exact e x y
  refine callP_intro ⟨α, inferInstance, f, cf, lt, g, cb, v, w0, L, l, rfl, C, by rw [e2]; exact swo_of S, e, eg, fun W l2 hl2 h2 x y => ?_, h, hl, hK⟩
  have := calls_of ok eg (hc W l2 hl2 h2 x y)
  simpa using this
theorem sortF_sat {P : Program} {g : Nat} {G : FnT} {ty : TypeId} {cf : α → α → Int} {lt : α → α → Bool} {v : Value} {l : List α} {w0 w : World} {L : List HP} {K : Value → World → Prop} (h : Sat w0 (LsH f es ty v l :: L) w) (hl : l.length < 4611686018427387904) (C : Cod f es)
    (S : SWO lt) (hlt : ∀ x y, cf x y < 0 ↔ lt x y = true) (ok : OkF P g G) (eg : ∀ args w, (callFunc g args).run P w = .ok (.enter g args) w)
    (hc : ∀ (W : World) (x y : α), callP G [.agg (f x).toArray, .agg (f y).toArray] W fun v w' => v = .int .i64 (cf x y) ∧ Gr W w')
    (hK : ∀ l' w', l'.Perm l → l'.Pairwise (fun x y => lt y x = false) → Sat w0 (LsH f es ty v l' :: L) w' → K (.tuple #[]) w') : callP (gSortF P es ty) [v, .func (.func g) #[] #[]] w K :=
  sortC_sat (cb := []) h hl C S hlt ok eg (fun W _ _ _ x y => hc W x y) hK
end
end Go.Sx

/- So2 -/
set_option linter.all false
namespace Go.Sx
open Go.Proofs Go.Maps
section
variable {κ ν : Type} {ek : κ → Value} {ev : ν → Value} {m : List (κ × ν)} {w0 w : World} {L : List HP} {v : Value} {P : Program} {k : TypeId}
end
theorem stp_of_below {w w' : World} (h : RowKit.Below w.heap.size w w') (fp : List Nat) (hf : ∀ b ∈ fp, w.heap.size ≤ b) : Stp [] fp w w' :=
  ⟨⟨h.os, h.tape, h.output, h.size, fun b hb _ => h.block b hb⟩, fun x hx => .inr (hf x hx)⟩
abbrev kSt (s : List UInt8) : Value := .string (bs s)
abbrev cSt (s : List UInt8) : List Value := [.string (bs s)]
end Go.Sx

/- So3 -/
set_option linter.all false
namespace Go.Sx
open Go.Proofs
section
variable {P : Program} {w : World}
structure Wid (P : Program) (F : Fence) : Prop where
  fn : ∀ f, F.fn f
  dp : F.depth = none
  calls : ∀ n f args w R, Calls P f args w R → CallsIn F n P f args w R
theorem Wid.wide : Wid P Fence.wide := ⟨fun _ => trivial, rfl, fun _ _ _ _ _ h => callsIn_wide.2 h⟩
theorem Wid.round (l : Nat) : Wid P (Fence.wide.inRound l) := ⟨fun _ => trivial, rfl, fun _ _ _ _ _ h => CallsIn.inRound l (callsIn_wide.2 h)⟩
theorem wpIn_of_runs {F : Fence} (W : Wid P F) {n : Nat} {o : Oper} {a : Act} {next : Act → World → Prop} {Q : Exit → Act → World → Prop} {k : Value → World → Prop}
    (h : RunsTo P (execOp a.eval o) w k) (nd : ∀ c, o.op ≠ .defer c) (hk : ∀ v w', k v w' → next (a.put o.dst v) w') : o.wpIn F n P a w next Q := by
  refine ⟨fun _ _ => W.fn _, ?_⟩
  rw [Oper.semAt_plain _ _ _ nd]
  rcases h with ⟨v, w', hr, h⟩ | ⟨w', hr, h⟩ | ⟨f, args, hr, h⟩
  · rw [hr]; exact hk _ _ h
  · rw [hr]; exact hk _ _ h
  · rw [hr]
    refine ⟨fun hd => by simp [W.dp] at hd, ?_⟩
    refine W.calls _ _ _ _ _ (h.mono ?_)
    rintro e w' ⟨v, rfl, h⟩
    exact hk _ _ h
theorem wpIn_yield {F : Fence} (W : Wid P F) {n l : Nat} {o : Oper} {a : Act} {next : Act → World → Prop} {Q : Exit → Act → World → Prop} {f x : Operand} {ats : Array TypeId} {R : Ending → World → Prop}
    (ho : o.op = .call { callee := .value f, args := #[x], argTypes := ats }) (hf : a.eval f = .func (.yield l) #[] #[]) (hy : YieldAt F (n - 1) P l #[a.eval x] w R) (hR : ∀ e w', R e w' → ∃ v, e = .returned v ∧ next (a.put o.dst v) w') : o.wpIn F n P a w next Q := by
  refine ⟨fun _ _ => W.fn _, ?_⟩
  rw [Oper.semAt_plain _ _ _ (by rw [ho]; intro c hc; cases hc)]
  obtain ⟨fn, tmps, assign, body, hrun, hr⟩ := hy
  have key : ∀ ρ : Operand → Value, ρ f = .func (.yield l) #[] #[] → (Instr.yield l #[ρ x]).run P w = .ok (.round l fn tmps assign body) w → (execOp ρ o).run P w = .ok (.round l fn tmps assign body) w := by
    intro ρ h1 h2
    simp [execOp, ho, resolve, Deferred.ofValue, h1, invoke, Sem.run_bind, Result.andThen, h2]
  have e := key _ hf hrun
  rw [e]
  refine ⟨fun hd => by simp [W.dp] at hd, hr.mono ?_⟩
  intro e w' h
  obtain ⟨v, he, hn⟩ := hR _ _ h
  subst he
  exact hn
theorem not_defer_of_fop {e : Env} {o : Oper} {v : Value} (h : fop P e o.op w = some v) : ∀ c, o.op ≠ .defer c := by
  intro c ho
  rw [ho] at h
  simp [fop] at h
theorem not_defer_of_eop {call : CallT} {e : Env} {o : Oper} {k : Value → World → Prop} (h : eop P call e o.op w k) : ∀ c, o.op ≠ .defer c := by
  intro c ho
  rw [ho] at h
  simp [eop] at h
structure RelD (nt : Nat) (ds : List Deferred) (e : Env) (a : Act) : Prop where
  sz : a.tmps.size = nt
  df : a.defers = ds
  v : ∀ t, val a t = e t
theorem RelD.put {nt : Nat} {ds : List Deferred} {e : Env} {a : Act} (h : RelD nt ds e a) (d : Option Tmp) (v : Value) : RelD nt ds (Sx.put nt e d v) (a.put d v) := by
  have h2 : Rel nt e { a with defers := [] } := ⟨h.sz, rfl, h.v⟩
  have h3 := h2.put d v
  refine ⟨by rw [size_put, h.sz], by rw [dfr_put, h.df], fun t => ?_⟩
  have := h3.v t
  cases d <;> exact this
theorem runS_okIn {F : Fence} (W : Wid P F) {call : CallT} (hc : SoundC P call) {n : Nat} {ops : Array Oper} {nt : Nat} {ds : List Deferred} {k : Env → World → Prop} {Q : Exit → Act → World → Prop}
    (r : List Oper) (hQ : ∀ e' w' a', RelD nt ds e' a' → k e' w' → wpListIn F n P ops Q r a' w') : ∀ (l : List Oper) (e : Env) (w : World) (a : Act), RelD nt ds e a → runS P call ops nt l e w k → wpListIn F n P ops Q (l ++ r) a w := by
  intro l
  induction l with
  | nil => intro e w a hr h; exact hQ e w a hr h
  | cons o l ih =>
    intro e w a hr h
    unfold runS at h
    have hag : ∀ t ∈ o.looksAt ops, val a t = e t := fun t _ => hr.v t
    rw [List.cons_append]
    unfold wpListIn
    split at h
    · rw [flStep_eq] at h
      unfold stepG at h
      rw [wanted_of hag]
      split at h
      · rename_i hg
        unfold bindP at h
        split at h
        · rename_i v hf
          rw [if_pos hg]
          refine wpIn_of_runs W (k := fun v' w' => v' = v ∧ w' = w) ?_ (not_defer_of_fop hf) ?_
          · rw [execOp_agree hag (not_select_of_fop hf)]
            exact .inl ⟨v, w, fop_ok hf, rfl, rfl⟩
          · rintro v' w' ⟨rfl, rfl⟩
            exact ih _ _ _ (hr.put _ _) h
        · exact h.elim
      · rename_i hg
        rw [if_neg (by rw [hg]; decide)]
        exact ⟨fun _ _ => W.fn _, ih _ _ _ (hr.put _ _) h⟩
    · unfold efStep stepE at h
      rw [wanted_of hag]
      split at h
      · rename_i hg
        rw [if_pos hg]
        refine wpIn_of_runs W (k := fun v w' => runS P call ops nt l (put nt e o.dst v) w' k) ?_ (not_defer_of_eop h) fun v w' hk => ih _ _ _ (hr.put _ _) hk
        rw [execOp_agree hag (not_select_of_eop h)]
        exact eop_ok hc h
      · rename_i hg
        rw [if_neg (by rw [hg]; decide)]
        exact ⟨fun _ _ => W.fn _, ih _ _ _ (hr.put _ _) h⟩
end
theorem born_inj : ∀ {l : List MapEntry}, (l.map (·.born)).Nodup → ∀ {a b : MapEntry}, a ∈ l → b ∈ l → a.born = b.born → a = b
  | [], _, _, _, h, _, _ => by simp at h
  | x :: l, hn, a, b, ha, hb, e => by
    simp only [List.map_cons, List.nodup_cons] at hn
    rcases List.mem_cons.1 ha with rfl | ha'
    · rcases List.mem_cons.1 hb with rfl | hb'
      · rfl
      · exact absurd (by rw [e]; exact List.mem_map_of_mem (f := (·.born)) hb') hn.1
    · rcases List.mem_cons.1 hb with rfl | hb'
      · exact absurd (by rw [← e]; exact List.mem_map_of_mem (f := (·.born)) ha') hn.1
      · exact born_inj hn.2 ha' hb' e
section
variable {κ ν : Type} {ek : κ → Value} {ev : ν → Value} {m : List (κ × ν)} {w0 w : World} {L : List HP} {v : Value}
theorem eNext_sat2 {K : Value → World → Prop} {it : Value} {rem : List (κ × ν)} (h : Sat w0 (ItH ek ev it v m rem :: L) w)
    (h0 : rem = [] → ∀ w', Sat w0 (ItH ek ev it v m [] :: L) w' → K over w')
    (h1 : ∀ (x : κ × ν) (r1 r2 : List (κ × ν)) (w' : World), rem = r1 ++ x :: r2 → Sat w0 (ItH ek ev it v m (r1 ++ r2) :: L) w' → fEntry it w' = some (.tuple #[ek x.1, ev x.2]) → K (.tuple #[.bool true, ek x.1, ev x.2]) w') : eNext it false w K := by
  obtain ⟨q, r, es, clock, seen, ⟨rfl, rfl, hm, hrem, hsub⟩, hs⟩ := it_iff.1 h
  simp only [eNext, ptr, hs.blk, hs.f1.blk]
  have hall : ∀ e ∈ es.toList, e.born < clock := hm.lt
  have hold : (es.filter fun e => !seen.contains e.born).filter (fun e => decide (e.born < clock)) = es.filter fun e => !seen.contains e.born := by
    apply Array.ext'
    simp only [Array.toList_filter]
    exact List.filter_eq_self.2 fun e he => by simpa using hall e (List.mem_filter.1 he).1
  have hnew : (es.filter fun e => !seen.contains e.born).filter (fun e => decide (e.born ≥ clock)) = #[] := by
    apply Array.ext'
    simp only [Array.toList_filter]
    refine List.filter_eq_nil_iff.2 fun e he => ?_
    have := hall e (List.mem_filter.1 he).1
    simp; omega
  have hC : nextC es clock seen = (if (es.filter fun e => !seen.contains e.born).isEmpty then #[none] else #[]) ++ (es.filter fun e => !seen.contains e.born).map some := by
    simp only [nextC, hold, hnew, Array.append_empty]
  refine ⟨?_, ?_⟩
  · cases hes : es.toList with
    | nil => have : es = #[] := by apply Array.ext'; simpa using hes
             subst this; simp
    | cons e l =>
      have : e.born < clock := hall e (by rw [hes]; simp)
      have h3 : es.all (fun x => decide (x.born ≥ clock)) = false := by
        rw [Bool.eq_false_iff]
        intro hx
        rw [Array.all_eq_true_iff_forall_mem] at hx
        have := hx e (by rw [← Array.mem_toList_iff, hes]; simp)
        simp at this; omega
      simp [h3]
  · intro j w1 hw1 hj
    have hs1 : Sat w0 (Blk q (.mapIter (some r) clock seen clock) :: Blk r (.map es clock) :: L) w1 := by
      rcases hw1 with rfl | rfl
      · exact hs
      · exact hs.drew
    rw [hC] at hj ⊢
    generalize hl : (es.filter fun e => !seen.contains e.born) = left at *
    have hleft : left.toList = es.toList.filter fun e => !seen.contains e.born := by rw [← hl]; simp
    rw [← hleft] at hrem
    by_cases hemp : left.toList = []
    · have : left = #[] := Array.ext' (by simpa using hemp)
      subst this
      simp at hj ⊢
      subst hj
      simp
      have hr0 : rem = [] := by simpa using hrem
      subst hr0
      exact h0 rfl _ (it_iff.2 ⟨q, r, es, clock, seen, ⟨rfl, rfl, hm, by rw [← hleft]; simp, hsub⟩, hs1⟩)
    · have hne : left.isEmpty = false := by
        rw [Bool.eq_false_iff]; intro hx
        simp at hx; exact hemp (by simp [hx])
      simp [hne] at hj ⊢
      have hlen := congrArg List.length hrem
      simp at hlen
      have hjr : j < rem.length := by omega
      simp [hj]
      have hkv := congrArg (fun l => l[j]?) hrem
      simp [hj, hjr] at hkv
      have split : rem = rem.take j ++ rem[j] :: rem.drop (j + 1) := by
        rw [List.getElem_cons_drop, List.take_append_drop]
      have := h1 rem[j] (rem.take j) (rem.drop (j + 1)) (setBlk w1 q (.mapIter (some r) clock (seen.push left[j].born) clock)) split ?_ ?_
      · rw [← hkv.1, ← hkv.2] at this; exact this
      · refine it_iff.2 ⟨q, r, es, clock, seen.push left[j].born, ⟨rfl, rfl, hm, ?_, ?_⟩, hs1.set _⟩
        · have hnd : (left.toList.map (·.born)).Nodup := by
            rw [hleft]; exact hm.nd.sublist (List.filter_sublist.map _)
          have e1 : es.toList.filter (fun e => !(seen.push left[j].born).contains e.born) = left.toList.eraseIdx j := by
            have e2 : es.toList.filter (fun e => !(seen.push left[j].born).contains e.born) = left.toList.filter (fun e => decide (e.born ≠ left[j].born)) := by
              rw [hleft, List.filter_filter]
              congr 1; funext e
              rw [Bool.eq_iff_iff]; simp; 
              constructor
              · rintro ⟨a, b⟩; exact ⟨b, a⟩
              · rintro ⟨a, b⟩; exact ⟨b, a⟩
            rw [e2]
            have key : ∀ (l : List MapEntry) (j : Nat) (hj : j < l.length), (l.map (·.born)).Nodup → l.filter (fun e => decide (e.born ≠ l[j].born)) = l.eraseIdx j := by
              intro l
              induction l with
              | nil => intro j hj; simp at hj
              | cons a l ih =>
                intro j hj hn
                simp only [List.map_cons, List.nodup_cons] at hn
                cases j with
                | zero =>
                  simp
                  intro x hx e
                  exact hn.1 (by rw [← e]; exact List.mem_map_of_mem hx)
                | succ j =>
                  simp only [List.length_cons, Nat.add_lt_add_iff_right] at hj
                  have : a.born ≠ l[j].born := fun e => hn.1 (by rw [e]; exact List.mem_map_of_mem (List.getElem_mem hj))
                  simp [this]
                  simpa using ih j hj hn.2
            exact key left.toList j (by simpa using hj) hnd
          rw [e1, map_eraseIdx', hrem, ← map_eraseIdx', List.eraseIdx_eq_take_drop_succ]
        · rw [← List.eraseIdx_eq_take_drop_succ]; exact (List.eraseIdx_sublist _ _).trans hsub
      · have hs2 := hs1.set (.mapIter (some r) clock (seen.push left[j].born) clock)
        have hlm : left[j] ∈ es.toList := by
          have : left[j] ∈ left.toList := by rw [← Array.getElem_toList]; exact List.getElem_mem _
          rw [hleft] at this
          exact (List.mem_filter.1 this).1
        have hfd : es.find? (fun e => e.born == left[j].born) = some left[j] := by
          rw [← Array.find?_toList]
          cases hf : es.toList.find? (fun e => e.born == left[j].born) with
          | none =>
            rw [List.find?_eq_none] at hf
            have := hf _ hlm
            simp at this
          | some e =>
            have h3 := List.mem_of_find?_eq_some hf
            have h4 := List.find?_some hf
            simp only [beq_iff_eq] at h4
            rw [born_inj hm.nd h3 hlm h4]
        simp [fEntry, ptr, hs2.blk, hs2.f1.blk, hfd, hkv.1, hkv.2]
end
def nc : CallT := fun _ _ _ _ => False
theorem nc_ok {P : Program} : SoundC P nc := fun _ _ _ _ h => h.elim
theorem wpIn_regS {P : Program} {F : Fence} (W : Wid P F) {n i : Nat} {ops : Array Oper} {nt : Nat} {ds : List Deferred} {k : Env → World → Prop} {Q : Exit → Act → World → Prop} {e : Env} {w : World} {a : Act}
    (hr : RelD nt ds e a) (h : runS P nc ops nt ops.toList e w k) (hQ : ∀ e' w' a', RelD nt ds e' a' → k e' w' → Q .normal a' w') : (Code.region i ops false).wpIn F n P Q a w := by
  have := runS_okIn W nc_ok (n := n) (Q := Q) [] (fun e' w' a' hr' hk => hQ e' w' a' hr' hk) ops.toList e w a hr h
  rw [List.append_nil] at this
  exact wpIn_region_list this
theorem rel_init {args : Array Value} {nt : Nat} (hle : args.size ≤ nt) : RelD nt [] (initE args.toList) { tmps := args ++ Array.replicate (nt - args.size) undef, defers := [] } := by
  refine ⟨by simp; omega, rfl, fun t => ?_⟩
  simp only [val, initE, Array.getD_eq_getD_getElem?, List.getD_eq_getElem?_getD, Array.getElem?_toList]
  by_cases ht : t < args.size
  · rw [Array.getElem?_append_left ht]
  · rw [Array.getElem?_append_right (by omega), Array.getElem?_eq_none (xs := args) (by omega)]
    by_cases ht2 : t - args.size < nt - args.size
    · simp [ht2]
    · simp [ht2]
section
variable {κ ν : Type} {ek : κ → Value} {ev : ν → Value} {m : List (κ × ν)} {w0 w : World} {L : List HP} {mv : Value} {P : Program}
theorem values_ok {kt et : TypeId} {fv : ν → List Value} {fn : Func} {f es l bx : Nat} {tM tV mt : TypeId} {i0 i1 i2 i3 : Nat} {ops0 ops1 ops2 : Array Oper} {q1 q2 q3 q4 : Oper} {ats : Array TypeId} (hf : P.funcs[f]? = some fn) (hres : fn.results = #[]) (hnt : fn.ntmps = 15)
    (hb : fn.body = some (.seq (.region i0 ops0 false) (.block 0 (.loop (.seq (.region i1 ops1 false) (.seq (.cond (.tmp 8) .skip (.exit 0)) (.block 1 (.seq (.region i2 ops2 false) (.seq (.region i3 #[q1, q2, q3, q4] false) (.cond (.tmp 14) .ret .skip))))))))))
    (f0 : ∀ e w k, runS P nc ops0 15 ops0.toList e w k = (bindP (ld1 (e 1) w) fun v => eRange P tM v w fun it w' => k (put 15 (put 15 e (some 5) v) (some 6) it) w'))
    (f1 : ∀ e w k, runS P nc ops1 15 ops1.toList e w k = (eNext (e 6) false w fun nx w' => bindP (pTuple nx 0) fun b => k (put 15 (put 15 e (some 7) nx) (some 8) b) w'))
    (f2 : ∀ e w k, runS P nc ops2 15 ops2.toList e w k = (bindP (fEntry (e 6) w) fun en => bindP (pTuple en 1) fun v => eAlloc P tV w fun p w1 => bindW (st es p v w1) fun w2 => k (put 15 (put 15 (put 15 (put 15 e (some 9) en) (some 10) v) (some 4) p) none undef) w2))
    (f3 : ∀ e w k, runS P nc #[q1, q2, q3, q4] 15 [q1, q2] e w k = (bindP (ldN es (e 4) w) fun v => k (put 15 (put 15 e (some 11) (e 0)) (some 12) v) w))
    (f4 : ∀ e w k, runS P nc #[q1, q2, q3, q4] 15 [q4] e w k = (bindP (uNot (e 13)) fun v => k (put 15 e (some 14) v) w))
    (hq : q3.op = .call { callee := .value (.tmp 11), args := #[.tmp 12], argTypes := ats }) (hg : q3.guard = none) (hds : q3.dst = some 13)
    (um : P.underlying tM = some (.map kt et)) (hev : ∀ x, ev x = .agg (fv x).toArray ∧ (fv x).length = es ∧ (fv x).all (·.oneCell') = true) (z : Value) (hz : fZero P tV = some z) (hzc : z.cells.size = es)
    (J : List ν → HP) (hY : ∀ xs x (L' : List HP) W, xs.length < m.length → Sat w0 (J xs :: L') W → YieldAt Fence.wide 0 P l #[ev x] W fun e W' => e = .returned (.bool true) ∧ Sat w0 (J (xs ++ [x]) :: L') W')
    (h : Sat w0 (J [] :: Cl bx #[mv] mt :: MapH ek ev mv m :: L) w) :
    Calls P f #[.func (.yield l) #[] #[], ptr bx] w fun e W' => (∃ v, e = .returned v) ∧ ∃ xs, xs.Perm (m.map Prod.snd) ∧ Sat w0 (J xs :: Cl bx #[mv] mt :: MapH ek ev mv m :: L) W' := by
  refine calls_of_wp hf hb (wpIn_wide (n := 1).1 ?_)
  have hr0 := rel_init (args := #[.func (.yield l) #[] #[], ptr bx]) (nt := fn.ntmps) (by rw [hnt]; simp)
  generalize ({ tmps := #[.func (.yield l) #[] #[], ptr bx] ++ Array.replicate (fn.ntmps - (#[.func (.yield l) #[] #[], ptr bx] : Array Value).size) undef, defers := [] } : Act) = a0 at hr0 ⊢
  rw [hnt] at hr0
  refine wpIn_seq (wpIn_regS Wid.wide (k := fun e w => e 0 = .func (.yield l) #[] #[] ∧ ∃ it, e 6 = it ∧ Sat w0 (J [] :: Cl bx #[mv] mt :: ItH ek ev it mv m m :: L) w) hr0 ?_ ?_)
  · rw [f0]
    have h1 : ld1 (initE (#[.func (.yield l) #[] #[], ptr bx] : Array Value).toList 1) w = some mv := by
      show ld1 (ptr bx) w = some mv
      simp [ld1, ptr, cell_of h.f1.cl]
    refine go_some h1 ?_
    have h2 : Sat w0 (MapH ek ev mv m :: J [] :: Cl bx #[mv] mt :: L) w := h.perm ((List.Perm.swap _ _ _).cons _ |>.trans (List.Perm.swap _ _ _))
    refine eRange_sat h2 um fun it w' h3 => ⟨rfl, it, rfl, h3.perm ((List.Perm.swap _ _ _).trans ((List.Perm.swap _ _ _).cons _))⟩
  rintro e w a hr ⟨he0, it, he6, h⟩
  refine wpIn_block (wpIn_loop_rounds (m.length + 1) ?_)
  have loop : ∀ (d : Nat) (rem : List (κ × ν)) (xs : List ν) (e : Env) (w : World) (a : Act), rem.length < d → RelD 15 [] e a → e 0 = .func (.yield l) #[] #[] → e 6 = it → (xs ++ rem.map Prod.snd).Perm (m.map Prod.snd) → Sat w0 (J xs :: Cl bx #[mv] mt :: ItH ek ev it mv m rem :: L) w →
      Code.roundsIn Fence.wide 1 P (.seq (.region i1 ops1 false) (.seq (.cond (.tmp 8) .skip (.exit 0)) (.block 1 (.seq (.region i2 ops2 false) (.seq (.region i3 #[q1, q2, q3, q4] false) (.cond (.tmp 14) .ret .skip)))))) (Exit.inBlock 0 (bodyPost P fn fun e W' => (∃ v, e = .returned v) ∧ ∃ xs, xs.Perm (m.map Prod.snd) ∧ Sat w0 (J xs :: Cl bx #[mv] mt :: MapH ek ev mv m :: L) W')) d a w := by
    intro d
    induction d with
    | zero => intro rem xs e w a hd; omega
    | succ d ih =>
      intro rem xs e w a hd hr he0 he6 hp h
      rw [roundsIn_succ]
      have hfr : Sat w0 (ItH ek ev it mv m rem :: J xs :: Cl bx #[mv] mt :: L) w := h.perm ((List.Perm.swap _ _ _).cons _ |>.trans (List.Perm.swap _ _ _))
      refine wpIn_seq (wpIn_regS Wid.wide (k := fun e w => e 0 = .func (.yield l) #[] #[] ∧ e 6 = it ∧ ((e 8 = .bool false ∧ rem = [] ∧ Sat w0 (ItH ek ev it mv m [] :: J xs :: Cl bx #[mv] mt :: L) w) ∨
        (e 8 = .bool true ∧ ∃ x r1 r2, rem = r1 ++ x :: r2 ∧ Sat w0 (ItH ek ev it mv m (r1 ++ r2) :: J xs :: Cl bx #[mv] mt :: L) w ∧ fEntry it w = some (.tuple #[ek x.1, ev x.2])))) hr ?_ ?_)
      · rw [f1, he6]
        refine eNext_sat2 hfr (fun hn w' h' => ?_) (fun x r1 r2 w' hs h' hen => ?_)
        · exact ⟨he0, he6, .inl ⟨rfl, hn, h'⟩⟩
        · exact ⟨he0, he6, .inr ⟨rfl, x, r1, r2, hs, h', hen⟩⟩
      rintro e w a hr ⟨he0, he6, ⟨h8, hn, h⟩ | ⟨h8, x, r1, r2, hs, h, hen⟩⟩
      · refine wpIn_seq (wpIn_cond_false ((eval_of fun t _ => hr.v t).trans h8) (wpIn_exit ?_))
        simp only [Exit.then, Exit.inBlock, if_true]
        obtain ⟨v, hv1, hv2⟩ := run_results (P := P) (fn := fn) (K := fun _ w => Sat w0 (J xs :: Cl bx #[mv] mt :: MapH ek ev mv m :: L) w) hr.v (by
          rw [hres]
          have h3 := it_map h
          exact h3.perm ((List.Perm.swap _ _ _).trans ((List.Perm.swap _ _ _).cons _)))
        exact ⟨hr.df, v, hv1, ⟨v, rfl⟩, xs, by rw [hn] at hp; simpa using hp, hv2⟩
      · refine wpIn_seq (wpIn_cond_true ((eval_of fun t _ => hr.v t).trans h8) (wpIn_skip ?_))
        refine wpIn_block ?_
        have hrm : rem.length = r1.length + r2.length + 1 := by rw [hs]; simp; omega
        have hxl : xs.length < m.length := by
          have := hp.length_eq
          simp at this; omega
        refine wpIn_seq (wpIn_regS Wid.wide (k := fun e w => e 0 = .func (.yield l) #[] #[] ∧ e 6 = it ∧ ∃ p, e 4 = ptr p ∧ Sat w0 (Cl p (fv x.2).toArray tV :: ItH ek ev it mv m (r1 ++ r2) :: J xs :: Cl bx #[mv] mt :: L) w) hr ?_ ?_)
        · rw [f2, he6]
          refine go_some hen ?_
          refine go_some (show pTuple _ 1 = some (ev x.2) from rfl) ?_
          refine eAlloc_sat h hz fun p w h => ?_
          obtain ⟨hv1, hv2, hv3⟩ := hev x.2
          have hc1 : (ev x.2).cells = (fv x.2).toArray := by rw [hv1]; rfl
          have hst := st_cells (n := es) h.cl (x := ev x.2) (o := 0) (by rw [hc1]; simpa using hv2) (by rw [hc1]; simpa using hv3) (by omega)
          have hw : wr z.cells 0 (ev x.2).cells.toList = (fv x.2).toArray := by
            apply Array.ext'
            rw [wr_toList _ _ _ (by rw [hc1]; simp [hv2, hzc]), hc1]
            simp [hv2, hzc]
          unfold bindW
          rw [show st es (ptr p) (ev x.2) w = _ from hst]
          rw [hw]
          exact ⟨he0, he6, p, rfl, h.setc _⟩
        rintro e w a hr ⟨he0, he6, p, he4, h⟩
        have hpre := runS_okIn (F := Fence.wide) (P := P) Wid.wide nc_ok (n := 1) (ops := #[q1, q2, q3, q4]) (nt := 15) (k := fun e w => e 0 = .func (.yield l) #[] #[] ∧ e 6 = it ∧ e 11 = .func (.yield l) #[] #[] ∧ e 12 = ev x.2 ∧ Sat w0 (J xs :: Cl p (fv x.2).toArray tV :: ItH ek ev it mv m (r1 ++ r2) :: Cl bx #[mv] mt :: L) w)
          (Q := Exit.then (fun a w => (Code.cond (.tmp 14) .ret .skip).wpIn Fence.wide 1 P (Exit.inBlock 1 (Exit.then (Code.roundsIn Fence.wide 1 P (.seq (.region i1 ops1 false) (.seq (.cond (.tmp 8) .skip (.exit 0)) (.block 1 (.seq (.region i2 ops2 false) (.seq (.region i3 #[q1, q2, q3, q4] false) (.cond (.tmp 14) .ret .skip)))))) (Exit.inBlock 0 (bodyPost P fn fun e W' => (∃ v, e = .returned v) ∧ ∃ xs, xs.Perm (m.map Prod.snd) ∧ Sat w0 (J xs :: Cl bx #[mv] mt :: MapH ek ev mv m :: L) W')) d) (Exit.inBlock 0 (bodyPost P fn fun e W' => (∃ v, e = .returned v) ∧ ∃ xs, xs.Perm (m.map Prod.snd) ∧ Sat w0 (J xs :: Cl bx #[mv] mt :: MapH ek ev mv m :: L) W')))) a w) (Exit.inBlock 1 (Exit.then (Code.roundsIn Fence.wide 1 P (.seq (.region i1 ops1 false) (.seq (.cond (.tmp 8) .skip (.exit 0)) (.block 1 (.seq (.region i2 ops2 false) (.seq (.region i3 #[q1, q2, q3, q4] false) (.cond (.tmp 14) .ret .skip)))))) (Exit.inBlock 0 (bodyPost P fn fun e W' => (∃ v, e = .returned v) ∧ ∃ xs, xs.Perm (m.map Prod.snd) ∧ Sat w0 (J xs :: Cl bx #[mv] mt :: MapH ek ev mv m :: L) W')) d) (Exit.inBlock 0 (bodyPost P fn fun e W' => (∃ v, e = .returned v) ∧ ∃ xs, xs.Perm (m.map Prod.snd) ∧ Sat w0 (J xs :: Cl bx #[mv] mt :: MapH ek ev mv m :: L) W'))))) [q3, q4] ?_ [q1, q2] e w a hr ?_
        · exact wpIn_seq (wpIn_region_list hpre)
        · rintro e w a hr ⟨he0, he6, h11, h12, h⟩
          refine wpListIn_plain hg fun K hK => wpIn_yield Wid.wide hq ((eval_of fun t _ => hr.v t).trans h11) (R := fun e W' => e = .returned (.bool true) ∧ Sat w0 (J (xs ++ [x.2]) :: Cl p (fv x.2).toArray tV :: ItH ek ev it mv m (r1 ++ r2) :: Cl bx #[mv] mt :: L) W') ?_ ?_
          · rw [show a.eval (.tmp 12) = ev x.2 from (eval_of fun t _ => hr.v t).trans h12]
            exact hY xs x.2 _ w hxl h
          · rintro e' w' ⟨rfl, h'⟩
            refine ⟨_, rfl, hK _ _ ?_⟩
            have hr2 := hr.put q3.dst (.bool true)
            show wpListIn _ _ _ _ _ ([q4] ++ []) _ _
            refine runS_okIn (F := Fence.wide) (P := P) Wid.wide nc_ok (n := 1) (ops := #[q1, q2, q3, q4]) (nt := 15) (k := fun e w => e 0 = .func (.yield l) #[] #[] ∧ e 6 = it ∧ e 14 = .bool false ∧ Sat w0 (J (xs ++ [x.2]) :: Cl p (fv x.2).toArray tV :: ItH ek ev it mv m (r1 ++ r2) :: Cl bx #[mv] mt :: L) w) [] (fun e w a hr hk => ?_) [q4] _ w' _ hr2 ?_
            · obtain ⟨he0, he6, h14, h⟩ := hk
              refine wpIn_cond_false ((eval_of fun t _ => hr.v t).trans h14) (wpIn_skip ?_)
              simp only [Exit.inBlock, Exit.then]
              refine ih (r1 ++ r2) (xs ++ [x.2]) e w a (by simp; omega) hr he0 he6 ?_ ?_
              · rw [hs] at hp
                rw [List.append_assoc]
                refine List.Perm.trans (List.Perm.append_left xs ?_) hp
                simp only [List.map_append, List.map_cons, List.singleton_append]
                exact List.perm_middle.symm
              · exact (h.f1.drop).perm ((List.Perm.swap _ _ _).cons _)
            · rw [f4, hds]
              refine go_some (show uNot _ = some (.bool false) from rfl) ?_
              exact ⟨he0, he6, rfl, h'⟩
        · rw [f3, he4]
          refine go_some (v := ev x.2) ?_ ?_
          · have := ldN_of (n := es) (o := 0) h.cl (by simp [(hev x.2).2.1])
            rw [show ldN es (ptr p) w = _ from this, (hev x.2).1]
            simp [← (hev x.2).2.1]
          · exact ⟨he0, he6, he0, rfl, h.perm ((List.Perm.swap _ _ _).cons _ |>.trans (List.Perm.swap _ _ _))⟩
  exact loop _ m [] e w a (by omega) hr he0 he6 (by simp) h
end
def recA (fn : FuncId) (tmps : Array Value) (A B : Code) (D : Nat) : Loop := { state := .ready, pending := none, fn, tmps, params := #[7], assign := A, body := B, defers := D }
section
variable {ν : Type} {fv : ν → List Value} {w0 w : World} {L : List HP} {P : Program}
def JA (fv : ν → List Value) (es : Nat) (tS tV : TypeId) (l D Bs : Nat) (r : Loop) (xs : List ν) : HP := HEx fun sv => HS [Blk l (.loop r), Blk D (.deferred (some [])), Cl Bs #[sv] tS, LsH fv es tV sv xs]
theorem ja_iff {es : Nat} {tS tV : TypeId} {l D Bs : Nat} {r : Loop} {xs : List ν} : Sat w0 (JA fv es tS tV l D Bs r xs :: L) w ↔ ∃ sv, Sat w0 (Blk l (.loop r) :: Blk D (.deferred (some [])) :: Cl Bs #[sv] tS :: LsH fv es tV sv xs :: L) w := by
  simp only [JA, Sat.ex_iff, Sat.hs_iff, List.cons_append, List.nil_append]
theorem yieldA {n es l D Bs N bytes : Nat} {tS tV : TypeId} {i2 i3 : Nat} {opsA opsB : Array Oper} {fn : FuncId} {a : Act} {e : Env} {ds : List Deferred} (C : Cod fv es) (hr : RelD 13 ds e a) (he2 : e 2 = ptr Bs)
    (fA : ∀ e w k, runS P nc opsA 13 opsA.toList e w k = (eAlloc P tV w fun p w1 => bindW (st es p (e 7) w1) fun w2 => k (put 13 (put 13 e (some 5) p) none undef) w2))
    (fB : ∀ e w k, runS P nc opsB 13 opsB.toList e w k = (bindP (ld1 (e 2) w) fun s => bindP (ldN es (e 5) w) fun x => eBuildSl P tS 1 [(0, x)] w fun s1 w1 => eAppend P tS tS s s1 w1 fun s2 w2 => bindW (st 1 (e 2) s2 w2) fun w3 => k (put 13 (put 13 (put 13 (put 13 (put 13 e (some 8) s) (some 9) x) (some 10) s1) (some 11) s2) none undef) w3))
    (uS : P.underlying tS = some (.slice tV)) (T : SlT P tS tV es bytes) (hS : isSS P tS = true) (hb : N * bytes ≤ 140737488355328) (fb : ∀ x, fBuildSl P tV 1 [(0, .agg (fv x).toArray)] = some (fv x).toArray) (z : Value) (hz : fZero P tV = some z) (hzc : z.cells.size = es)
    {xs : List ν} {x : ν} {L' : List HP} {W : World} (hl : xs.length < N)
    (h : Sat w0 (JA fv es tS tV l D Bs (recA fn a.tmps (.region i2 opsA false) (.block 1 (.region i3 opsB false)) D) xs :: L') W) :
    YieldAt Fence.wide n P l #[.agg (fv x).toArray] W fun e W' => e = .returned (.bool true) ∧ Sat w0 (JA fv es tS tV l D Bs (recA fn a.tmps (.region i2 opsA false) (.block 1 (.region i3 opsB false)) D) (xs ++ [x]) :: L') W' := by
  replace h := ja_iff.1 h
  obtain ⟨sv, h⟩ := h
  have hry := run_yield (P := P) (args := #[.agg (fv x).toArray]) h.blk rfl
  refine ⟨fn, a.tmps.setIfInBounds 7 (.agg (fv x).toArray), .region i2 opsA false, .block 1 (.region i3 opsB false), by simpa [recA] using hry, roundIn_of_wpIn trivial ?_⟩
  have hr1 : RelD 13 [] (put 13 e (some 7) (.agg (fv x).toArray)) { tmps := a.tmps.setIfInBounds 7 (.agg (fv x).toArray), defers := [] } := by
    have := hr.put (some 7) (.agg (fv x).toArray)
    exact ⟨this.sz, rfl, this.v⟩
  refine wpIn_regS (Wid.round l) (k := fun e' w => e' 2 = ptr Bs ∧ ∃ q, e' 5 = ptr q ∧ Sat w0 (Blk l (.loop (recA fn a.tmps (.region i2 opsA false) (.block 1 (.region i3 opsB false)) D)) :: Cl q (fv x).toArray tV :: Blk D (.deferred (some [])) :: Cl Bs #[sv] tS :: LsH fv es tV sv xs :: L') w) hr1 ?_ ?_
  · rw [fA]
    refine eAlloc_sat h hz fun q w h => ?_
    have hlen := C.len x
    have hone := C.one x
    have hst := st_cells (n := es) h.cl (x := .agg (fv x).toArray) (o := 0) (by simpa [Value.cells] using hlen) (by simpa [Value.cells] using hone) (by omega)
    have hw : wr z.cells 0 (Value.agg (fv x).toArray).cells.toList = (fv x).toArray := by
      apply Array.ext'
      have hc1 : (Value.agg (fv x).toArray).cells = (fv x).toArray := rfl
      rw [wr_toList _ _ _ (by rw [hc1]; simp [hlen, hzc]), hc1]
      simp [hlen, hzc]
    unfold bindW
    rw [show put 13 e (some 7) (Value.agg (fv x).toArray) 7 = Value.agg (fv x).toArray from rfl, show st es (ptr q) (.agg (fv x).toArray) w = _ from hst, hw]
    exact ⟨he2, q, rfl, (h.setc _).f1⟩
  rintro e1 w1 a1 hr1 ⟨he2, q, he5, h⟩
  refine ⟨_, run_beginRound h.blk rfl, ?_⟩
  have h2 : Sat w0 (Blk l (.loop { recA fn a.tmps (.region i2 opsA false) (.block 1 (.region i3 opsB false)) D with state := .busy }) :: Cl q (fv x).toArray tV :: Blk D (.deferred (some [])) :: Cl Bs #[sv] tS :: LsH fv es tV sv xs :: L') (w1.putObj l (.loop { recA fn a.tmps (.region i2 opsA false) (.block 1 (.region i3 opsB false)) D with state := .busy })) := h.set _
  generalize w1.putObj l (.loop { recA fn a.tmps (.region i2 opsA false) (.block 1 (.region i3 opsB false)) D with state := .busy }) = W2 at h2 ⊢
  refine wpIn_block (wpIn_regS (Wid.round l) (k := fun e w => ∃ sv', Sat w0 (Blk l (.loop { recA fn a.tmps (.region i2 opsA false) (.block 1 (.region i3 opsB false)) D with state := .busy }) :: Blk D (.deferred (some [])) :: Cl Bs #[sv'] tS :: LsH fv es tV sv' (xs ++ [x]) :: L') w) hr1 ?_ ?_)
  · rw [fB, he2, he5]
    have h3 : Sat w0 (LsH fv es tV sv xs :: Cl Bs #[sv] tS :: Cl q (fv x).toArray tV :: Blk l (.loop { recA fn a.tmps (.region i2 opsA false) (.block 1 (.region i3 opsB false)) D with state := .busy }) :: Blk D (.deferred (some [])) :: L') W2 := h2.get (.pick (.there (.there (.there (.there .here)))) (.pick (.there (.there (.there .here))) (.pick (.there .here) (.pick .here (.pick .here .done)))))
    have e1 : ld1 (ptr Bs) W2 = some sv := by
      have := cell_of h3.f1.cl (i := 0)
      simp only [ld1, ptr]; rw [this]; rfl
    have e2 : ldN es (ptr q) W2 = some (.agg (fv x).toArray) := by
      have hq := (h3.perm (List.Perm.trans (List.Perm.swap _ _ _) ((List.Perm.swap _ _ _).cons _)) |>.f1).cl
      have := ldN_of (n := es) (o := 0) hq (by simp [C.len x])
      rw [show ldN es (ptr q) W2 = _ from this]
      simp [← C.len x]
    refine go_some e1 ?_
    refine go_some e2 ?_
    refine go_lit1 (x := x) C h3 uS (fb x) rfl fun s1 w h => ?_
    refine ls_app (l := xs) (m := [x]) C h.f1 T hS (ls_rd h) (by
      have h1 : xs.length + [x].length ≤ N := by simp; omega
      exact Nat.le_trans (Nat.mul_le_mul_right _ h1) hb) fun s2 w h => ?_
    have := ls_one h
    show bindW (st 1 (.pointer (some ⟨Bs, 0, none⟩)) s2 w) _
    refine go_st h fun _ h => ?_
    exact ⟨s2, h.get (.pick (.there (.there (.there (.there .here)))) (.pick (.there (.there (.there (.there .here)))) (.pick (.there (.there .here)) (.pick .here (.skip (.skip .done))))))⟩
  · rintro e2 w2 a2 hr2 ⟨sv', h⟩
    simp only [Exit.inBlock, roundPost]
    refine ⟨_, _, run_endRound none h.blk, rfl, ja_iff.2 ⟨sv', ?_⟩⟩
    exact h.set _
theorem appendSeq_ok {κ : Type} {ek : κ → Value} {ev : ν → Value} {m : List (κ × ν)} {mv : Value} {fnF : Func} {f g es bx bytes : Nat} {tS tV mt : TypeId} {i0 i1 i2 i3 i4 : Nat} {ops0 ops1 opsA opsB ops4 : Array Oper} (C : Cod fv es) (hf : P.funcs[f]? = some fnF) (hres : fnF.results = #[.tmp 4]) (hnt : fnF.ntmps = 13)
    (hb : fnF.body = some (.seq (.region i0 ops0 false) (.seq (.seq (.region i1 ops1 false) (.block 0 (.rangeFunc (.tmp 6) #[7] (.region i2 opsA false) (.block 1 (.region i3 opsB false))))) (.seq (.region i4 ops4 false) .ret))))
    (f0 : ∀ e w k, runS P nc ops0 13 ops0.toList e w k = (eBox tS (e 0) w fun p w1 => k (put 13 (put 13 e (some 2) p) (some 4) (.slice none 0 0)) w1))
    (f1 : ∀ e w k, runS P nc ops1 13 ops1.toList e w k = k (put 13 e (some 6) (e 1)) w)
    (fA : ∀ e w k, runS P nc opsA 13 opsA.toList e w k = (eAlloc P tV w fun p w1 => bindW (st es p (e 7) w1) fun w2 => k (put 13 (put 13 e (some 5) p) none undef) w2))
    (fB : ∀ e w k, runS P nc opsB 13 opsB.toList e w k = (bindP (ld1 (e 2) w) fun s => bindP (ldN es (e 5) w) fun x => eBuildSl P tS 1 [(0, x)] w fun s1 w1 => eAppend P tS tS s s1 w1 fun s2 w2 => bindW (st 1 (e 2) s2 w2) fun w3 => k (put 13 (put 13 (put 13 (put 13 (put 13 e (some 8) s) (some 9) x) (some 10) s1) (some 11) s2) none undef) w3))
    (f4 : ∀ e w k, runS P nc ops4 13 ops4.toList e w k = (bindP (ld1 (e 2) w) fun s => k (put 13 (put 13 e (some 12) s) (some 4) s) w))
    (uS : P.underlying tS = some (.slice tV)) (T : SlT P tS tV es bytes) (hS : isSS P tS = true) (hbd : m.length * bytes ≤ 140737488355328) (fb : ∀ x, fBuildSl P tV 1 [(0, .agg (fv x).toArray)] = some (fv x).toArray) (z : Value) (hz : fZero P tV = some z) (hzc : z.cells.size = es)
    (eg : ∀ args w, (callFunc g args).run P w = .ok (.enter g args) w) (hev : ∀ x, ev x = .agg (fv x).toArray)
    (hI : ∀ (l : Nat) (J : List ν → HP) (W : World) (L' : List HP), (∀ xs x (L'' : List HP) W, xs.length < m.length → Sat w0 (J xs :: L'') W → YieldAt Fence.wide 0 P l #[ev x] W fun e W' => e = .returned (.bool true) ∧ Sat w0 (J (xs ++ [x]) :: L'') W') →
      Sat w0 (J [] :: Cl bx #[mv] mt :: MapH ek ev mv m :: L') W → Calls P g #[.func (.yield l) #[] #[], ptr bx] W fun e W' => (∃ v, e = .returned v) ∧ ∃ xs, xs.Perm (m.map Prod.snd) ∧ Sat w0 (J xs :: Cl bx #[mv] mt :: MapH ek ev mv m :: L') W')
    (h : Sat w0 (Cl bx #[mv] mt :: MapH ek ev mv m :: L) w) :
    Calls P f #[.slice none 0 0, .func (.func g) #[] #[ptr bx]] w fun e w' => ∃ v, e = .returned v ∧ ∃ xs : List ν, xs.Perm (m.map Prod.snd) ∧ Sat w0 (LsH fv es tV v xs :: Cl bx #[mv] mt :: MapH ek ev mv m :: L) w' := by
  refine callsIn_wide.1 (callsIn_of_wp_marks (n := 2) hf hb trivial ?_)
  have hr0 := rel_init (args := #[.slice none 0 0, .func (.func g) #[] #[ptr bx]]) (nt := fnF.ntmps) (by rw [hnt]; simp)
  generalize ({ tmps := #[.slice none 0 0, .func (.func g) #[] #[ptr bx]] ++ Array.replicate (fnF.ntmps - (#[.slice none 0 0, .func (.func g) #[] #[ptr bx]] : Array Value).size) undef, defers := [] } : Act) = a0 at hr0 ⊢
  rw [hnt] at hr0
  refine wpIn_seq (wpIn_regS Wid.wide (k := fun e w => e 1 = .func (.func g) #[] #[ptr bx] ∧ ∃ Bs, e 2 = ptr Bs ∧ Sat w0 (Cl Bs #[.slice none 0 0] tS :: Cl bx #[mv] mt :: MapH ek ev mv m :: L) w) hr0 ?_ ?_)
  · rw [f0]
    exact eBox_sat h fun p w h => ⟨rfl, p, rfl, h⟩
  rintro e w a hr ⟨he1, Bs, he2, h⟩
  refine wpIn_seq (wpIn_seq (wpIn_regS Wid.wide (k := fun e w => e 6 = .func (.func g) #[] #[ptr bx] ∧ e 2 = ptr Bs ∧ Sat w0 (Cl Bs #[.slice none 0 0] tS :: Cl bx #[mv] mt :: MapH ek ev mv m :: L) w) hr ?_ ?_))
  · rw [f1]
    exact ⟨he1, he2, h⟩
  clear hr he1 he2 h
  rintro e w a hr ⟨he6, he2, h⟩
  refine wpIn_block (wpIn_rangeFunc ?_)
  intro fn _
  have hev6 : a.eval (.tmp 6) = .func (.func g) #[] #[ptr bx] := (eval_of fun t _ => hr.v t).trans he6
  have h1 := (h.alloc (.deferred (some []))).alloc (.loop (recA fn a.tmps (.region i2 opsA false) (.block 1 (.region i3 opsB false)) w.heap.size))
  rw [show (w.alloc (.deferred (some []))).heap.size = w.heap.size + 1 from by simp] at h1
  generalize hD : w.heap.size = D at h1
  obtain ⟨W1, hW1⟩ : ∃ W1, (w.alloc (.deferred (some []))).alloc (.loop (recA fn a.tmps (.region i2 opsA false) (.block 1 (.region i3 opsB false)) D)) = W1 := ⟨_, rfl⟩
  rw [hW1] at h1
  refine ⟨D + 1, [{ target := .collected D, args := #[] }], W1, { target := .fn (.func g) #[ptr bx], args := #[.func (.yield (D + 1)) #[] #[]] }, W1, g, #[.func (.yield (D + 1)) #[] #[], ptr bx], W1, ?_, ?_, fun _ _ => trivial, ?_, fun _ => by omega, ?_⟩
  · rw [← hW1, ← hD]; exact run_enterLoop_outer fn a.tmps #[7] _ _
  · have key : ∀ ρ : Operand → Value, ρ (.tmp 6) = .func (.func g) #[] #[ptr bx] → (∀ v, ρ (.const v) = v) → (resolve ρ (rangeCall (.tmp 6) (D + 1)) 0).run P W1 = .ok { target := .fn (.func g) #[ptr bx], args := #[.func (.yield (D + 1)) #[] #[]] } W1 := by
      intro ρ h1 h2
      simp [resolve, rangeCall, Deferred.ofValue, h1, h2]
    exact key _ hev6 fun _ => rfl
  · simp [invoke, eg]
  · refine callsIn_wide.2 ((hI (D + 1) (JA fv es tS tV (D + 1) D Bs (recA fn a.tmps (.region i2 opsA false) (.block 1 (.region i3 opsB false)) D)) W1 L ?_ ?_).mono ?_)
    · intro xs x L'' W hl hs
      rw [hev x]
      exact yieldA (N := m.length) C hr he2 fA fB uS T hS hbd fb z hz hzc hl hs
    · refine ja_iff.2 ⟨.slice none 0 0, ?_⟩
      have h2 := ls_nil (f := fv) (es := es) (ty := tV) h1
      exact h2.get (.pick (.there .here) (.pick (.there .here) (.pick (.there .here) (.pick .here .done))))
    · rintro e' W2 ⟨⟨v, rfl⟩, xs, hp, hs⟩
      replace hs := ja_iff.1 hs
      obtain ⟨sv, hs⟩ := hs
      refine ⟨_, _, run_endLoop hs.blk (by simp [recA]), ?_⟩
      have hs2 : Sat w0 (Blk (D + 1) _ :: Blk D (.deferred (some [])) :: Cl Bs #[sv] tS :: LsH fv es tV sv xs :: Cl bx #[mv] mt :: MapH ek ev mv m :: L) (W2.putObj (D + 1) (.loop { recA fn a.tmps (.region i2 opsA false) (.block 1 (.region i3 opsB false)) D with state := .exhausted })) := hs.set _
      generalize W2.putObj (D + 1) (.loop { recA fn a.tmps (.region i2 opsA false) (.block 1 (.region i3 opsB false)) D with state := .exhausted }) = W3 at hs2 ⊢
      show Exit.inBlock 0 _ Exit.normal _ W3
      simp only [Exit.inBlock, Exit.then]
      have hrD : RelD 13 [{ target := .collected D, args := #[] }] e { a with defers := [{ target := .collected D, args := #[] }] ++ a.defers } := ⟨hr.sz, by simp [hr.df], hr.v⟩
      have hs3 : Sat w0 (Cl Bs #[sv] tS :: Blk D (.deferred (some [])) :: LsH fv es tV sv xs :: Cl bx #[mv] mt :: MapH ek ev mv m :: L) W3 := hs2.get (.pick (.there (.there .here)) (.pick (.there .here) (.skip .done)))
      refine wpIn_seq (wpIn_regS Wid.wide (k := fun e w => e 4 = sv ∧ Sat w0 (Cl Bs #[sv] tS :: Blk D (.deferred (some [])) :: LsH fv es tV sv xs :: Cl bx #[mv] mt :: MapH ek ev mv m :: L) w) hrD ?_ ?_)
      · rw [f4, he2]
        have e1 : ld1 (ptr Bs) W3 = some sv := by
          have := cell_of hs3.cl (i := 0)
          simp only [ld1, ptr]; rw [this]; rfl
        exact go_some e1 ⟨rfl, hs3⟩
      · rintro e3 w3 a3 hr3 ⟨he4, h3⟩
        refine wpIn_ret ?_
        show LeavesInM _ _ _ _ _ _ a3.defers .returning w3
        rw [hr3.df]
        have hb3 := h3.f1.blk
        refine ⟨by simp, .inl ⟨_, _, rfl, run_takeDeferred hb3, ?_⟩⟩
        have h4 : Sat w0 (Blk D (.deferred none) :: Cl Bs #[sv] tS :: LsH fv es tV sv xs :: Cl bx #[mv] mt :: MapH ek ev mv m :: L) (w3.putObj D (.deferred none)) := h3.f1.set _
        have e4 : a3.tmps.getD 4 undef = sv := (hr3.v 4).trans he4
        exact ⟨_, results_tmp hres _ _ _, _, rfl, xs, hp, by rw [e4]; exact h4.drop.drop⟩
end
def gAppS (P : Program) (tV g es bytes : Nat) : FnT := fun args w K => ∃ (κ ν : Type) (ek : κ → Value) (ev : ν → Value) (fv : ν → List Value) (m : List (κ × ν)) (mv : Value) (bx : Nat) (mt : TypeId) (w0 : World) (L : List HP),
  args = [.slice none 0 0, .func (.func g) #[] #[ptr bx]] ∧ Cod fv es ∧ (∀ x, ev x = .agg (fv x).toArray) ∧ (∀ x, fBuildSl P tV 1 [(0, .agg (fv x).toArray)] = some (fv x).toArray) ∧ m.length * bytes ≤ 140737488355328 ∧
  Sat w0 (Cl bx #[mv] mt :: MapH ek ev mv m :: L) w ∧ ∀ l v w', l.Perm (m.map Prod.snd) → Sat w0 (LsH fv es tV v l :: Cl bx #[mv] mt :: MapH ek ev mv m :: L) w' → K v w'
theorem appS_sat {P : Program} {tV g es bytes : Nat} {κ ν : Type} {ek : κ → Value} {ev : ν → Value} {fv : ν → List Value} {m : List (κ × ν)} {mv : Value} {bx : Nat} {mt : TypeId} {w0 w : World} {L : List HP} {K : Value → World → Prop} (C : Cod fv es) (hev : ∀ x, ev x = .agg (fv x).toArray) (hfb : ∀ x, fBuildSl P tV 1 [(0, .agg (fv x).toArray)] = some (fv x).toArray)
    (hbd : m.length * bytes ≤ 140737488355328) (h : Sat w0 (Cl bx #[mv] mt :: MapH ek ev mv m :: L) w) (hK : ∀ l v w', l.Perm (m.map Prod.snd) → Sat w0 (LsH fv es tV v l :: Cl bx #[mv] mt :: MapH ek ev mv m :: L) w' → K v w') : callP (gAppS P tV g es bytes) [.slice none 0 0, .func (.func g) #[] #[ptr bx]] w K :=
  callP_intro ⟨κ, ν, ek, ev, fv, m, mv, bx, mt, w0, L, rfl, C, hev, hfb, hbd, h, hK⟩
def sA : Code → Code | .seq a _ => a | c => c
def sB : Code → Code | .seq _ b => b | c => c
def rfA : Code → Code | .rangeFunc _ _ a _ => a | c => c
def rfB : Code → Code | .rangeFunc _ _ _ b => b | c => c
def opsOf : Code → Array Oper | .region _ ops _ => ops | _ => #[]
def opAt (a : Array Oper) (i : Nat) : Oper := (a[i]?).getD { dst := none, op := .move (.tmp 0), type := 0, pos := "", after := #[], guard := none }
end Go.Sx

/- Ty -/
namespace Go.Proofs.Gong
open Go Go.Sx Go.Proofs
set_option linter.all false
set_option maxRecDepth 100000
set_option maxHeartbeats 4000000
variable {kn kr : ET} {ke : JT}
theorem mixed : Tryz.prog.follows .mixedOrders = true := by kernel_rfl
theorem z2 : fZero Tryz.prog 2 = some (.int .i64 0) := by kernel_rfl
theorem z3 : fZero Tryz.prog 3 = some (.int .i64 0) := by kernel_rfl
theorem z4 : fZero Tryz.prog 4 = some (.bool false) := by kernel_rfl
theorem z5 : fZero Tryz.prog 5 = some (.int .u8 0) := by kernel_rfl
theorem z9 : fZero Tryz.prog 9 = some (.string ⟨#[]⟩) := by kernel_rfl
theorem z20 : fZero Tryz.prog 20 = some .nilIface := by kernel_rfl
theorem z21 : fZero Tryz.prog 21 = some (.int .i32 0) := by kernel_rfl
theorem u22 : Tryz.prog.underlying 22 = some (.slice 45) := by kernel_rfl
theorem ss22 : isSS Tryz.prog 22 = true := by kernel_rfl
theorem sl22 : SlT Tryz.prog 22 45 11 128 := .of (by kernel_rfl) (by kernel_rfl) (by kernel_rfl) (by omega) (by omega)
theorem z22 : fZero Tryz.prog 22 = some (.slice none 0 0) := by kernel_rfl
theorem z25 : fZero Tryz.prog 25 = some (.pointer none) := by kernel_rfl
theorem z31 : fZero Tryz.prog 31 = some (.pointer none) := by kernel_rfl
theorem z33 : fZero Tryz.prog 33 = some (.agg #[(.int .i64 0), (.int .i64 0), (.int .i64 0), (.int .i64 0), (.int .i64 0), (.int .i64 0), (.int .i64 0)]) := by kernel_rfl
theorem u38 : Tryz.prog.underlying 38 = some (.slice 9) := by kernel_rfl
theorem sl38 : SlT Tryz.prog 38 9 1 16 := .of (by kernel_rfl) (by kernel_rfl) (by kernel_rfl) (by omega) (by omega)
theorem z38 : fZero Tryz.prog 38 = some (.slice none 0 0) := by kernel_rfl
theorem z39 : fZero Tryz.prog 39 = some (.int .i64 0) := by kernel_rfl
theorem z45 : fZero Tryz.prog 45 = some (.agg #[(.int .i64 0), (.string ⟨#[]⟩), (.string ⟨#[]⟩), (.string ⟨#[]⟩), (.int .i64 0), (.string ⟨#[]⟩), (.int .i64 0), (.int .i64 0), (.int .i64 0), (.bool false), (.string ⟨#[]⟩)]) := by kernel_rfl
theorem z55 : fZero Tryz.prog 55 = some (.slice none 0 0) := by kernel_rfl
theorem z60 : fZero Tryz.prog 60 = some (.agg #[(.slice none 0 0), (.slice none 0 0), (.slice none 0 0), (.int .i64 0), (.int .i64 0), (.int .i64 0), (.int .i64 0), (.int .i64 0), (.int .i64 0), (.slice none 0 0)]) := by kernel_rfl
theorem z66 : fZero Tryz.prog 66 = some (.agg #[(.slice none 0 0), (.slice none 0 0), (.slice none 0 0), (.int .i64 0), (.int .i64 0), (.int .i64 0), (.int .i64 0), (.int .i64 0), (.int .i64 0), (.slice none 0 0)]) := by kernel_rfl
theorem z70 : fZero Tryz.prog 70 = some (.agg #[(.int .i64 0), (.int .i64 0), (.int .i64 0), (.int .i64 0), (.int .i64 0), (.int .i64 0), (.int .i64 0)]) := by kernel_rfl
theorem z72 : fZero Tryz.prog 72 = some (.agg #[(.slice none 0 0), (.slice none 0 0), (.slice none 0 0), (.pointer none), (.pointer none), (.int .i64 0), (.int .i64 0), (.int .i64 0), (.int .i64 0), (.int .i64 0), (.int .i64 0), (.int .i64 0), (.int .i64 0), (.int .i64 0), (.slice none 0 0)]) := by kernel_rfl
theorem z75 : fZero Tryz.prog 75 = some (.pointer none) := by kernel_rfl
theorem z76 : fZero Tryz.prog 76 = some (.agg #[(.int .i64 0), (.int .i64 0), (.int .i64 0), (.int .i64 0), (.int .i64 0), (.int .i64 0), (.int .i64 0)]) := by kernel_rfl
theorem z77 : fZero Tryz.prog 77 = some (.agg #[(.pointer none), (.pointer none), (.int .i64 0), (.int .i64 0), (.int .i64 0), (.int .i64 0), (.int .i64 0), (.int .i64 0), (.int .i64 0)]) := by kernel_rfl
theorem z84 : fZero Tryz.prog 84 = some (.agg #[(.int .i64 0), (.int .i64 0), (.int .i64 0), (.int .i64 0), (.int .i64 0), (.int .i64 0), (.int .i64 0)]) := by kernel_rfl
theorem z85 : fZero Tryz.prog 85 = some (.agg #[(.slice none 0 0), (.pointer none), (.pointer none), (.int .i64 0), (.int .i64 0), (.int .i64 0), (.int .i64 0), (.int .i64 0), (.int .i64 0), (.int .i64 0), (.int .i64 0), (.int .i64 0)]) := by kernel_rfl
theorem um91 : Tryz.prog.underlying 91 = some (.map 3 45) := by kernel_rfl
theorem um92 : Tryz.prog.underlying 92 = some (.map 125 3) := by kernel_rfl
theorem z98 : fZero Tryz.prog 98 = some (.agg #[.nilFunc]) := by kernel_rfl
theorem um107 : Tryz.prog.underlying 107 = some (.map 3 178) := by kernel_rfl
theorem z125 : fZero Tryz.prog 125 = some (.agg #[(.string ⟨#[]⟩), (.string ⟨#[]⟩), (.string ⟨#[]⟩)]) := by kernel_rfl
theorem u131 : Tryz.prog.underlying 131 = some (.slice 135) := by kernel_rfl
theorem ss131 : isSS Tryz.prog 131 = true := by kernel_rfl
theorem sl131 : SlT Tryz.prog 131 135 15 160 := .of (by kernel_rfl) (by kernel_rfl) (by kernel_rfl) (by omega) (by omega)
theorem u140 : Tryz.prog.underlying 140 = some (.slice 187) := by kernel_rfl
theorem sl140 : SlT Tryz.prog 140 187 1 8 := .of (by kernel_rfl) (by kernel_rfl) (by kernel_rfl) (by omega) (by omega)
theorem z142 : fZero Tryz.prog 142 = some (.agg #[(.slice none 0 0), .nilFunc, (.int .i64 0)]) := by kernel_rfl
theorem u150 : Tryz.prog.underlying 150 = some (.slice 5) := by kernel_rfl
theorem sl150 : SlT Tryz.prog 150 5 1 1 := .of (by kernel_rfl) (by kernel_rfl) (by kernel_rfl) (by omega) (by omega)
theorem z152 : fZero Tryz.prog 152 = some (.agg #[(.pointer none), (.slice none 0 0)]) := by kernel_rfl
theorem u161 : Tryz.prog.underlying 161 = some (.slice 38) := by kernel_rfl
theorem z210 : fZero Tryz.prog 210 = some (.slice none 0 0) := by kernel_rfl
theorem z213 : fZero Tryz.prog 213 = some (.agg #[(.string ⟨#[]⟩), (.int .i64 0), (.int .i64 0), (.string ⟨#[]⟩), (.bool false), (.slice none 0 0), (.slice none 0 0), (.bool false)]) := by kernel_rfl
theorem u269 : Tryz.prog.underlying 269 = some (.slice 3) := by kernel_rfl
theorem ss269 : isSS Tryz.prog 269 = true := by kernel_rfl
theorem sl269 : SlT Tryz.prog 269 3 1 8 := .of (by kernel_rfl) (by kernel_rfl) (by kernel_rfl) (by omega) (by omega)
end Go.Proofs.Gong

/- Fb -/
namespace Go.Proofs.Gong
open Go Go.Sx Go.Proofs
set_option linter.all false
set_option maxRecDepth 100000
set_option maxHeartbeats 4000000
variable {kn kr : ET} {ke : JT}
theorem fb35_0_1 (x0 : Option Addr) (x1 : Option Addr) : fBuild Tryz.prog 35 [(0, (.pointer x0)), (1, (.pointer x1))] = some (.agg #[.pointer x0, .pointer x1, (.int .i64 0), (.int .i64 0), (.int .i64 0), (.int .i64 0), (.int .i64 0), (.int .i64 0), (.int .i64 0)]) := by kernel_rfl
theorem fb43_0_1_3 (x0 : ByteArray) (x1 : ByteArray) (x2 : Int) : fBuild Tryz.prog 43 [(0, (.string x0)), (1, (.string x1)), (3, (.int .i64 x2))] = some (.agg #[.string x0, .string x1, (.string ⟨#[]⟩), .int .i64 x2, (.string ⟨#[]⟩)]) := by kernel_rfl
theorem fb45_0_1_2 (x0 : Int) (x2 : ByteArray) (x3 : ByteArray) (x4 : ByteArray) (x5 : Int) (x6 : ByteArray) (x7 : Int) : fBuild Tryz.prog 45 [(0, (.int .i64 x0)), (1, (.agg #[.string x2, .string x3, .string x4, .int .i64 x5, .string x6])), (2, (.int .i64 x7))] = some (.agg #[.int .i64 x0, .string x2, .string x3, .string x4, .int .i64 x5, .string x6, .int .i64 x7, (.int .i64 0), (.int .i64 0), (.bool false), (.string ⟨#[]⟩)]) := by kernel_rfl
theorem fb58  : fBuild Tryz.prog 58 [] = some (.agg #[(.slice none 0 0), (.slice none 0 0), (.slice none 0 0)]) := by kernel_rfl
theorem fb60_1_2_4_5_6 (x0 : Int) (x1 : Int) (x2 : Int) (x3 : Int) (x4 : Int) : fBuild Tryz.prog 60 [(1, (.int .i64 x0)), (2, (.int .i64 x1)), (4, (.int .i64 x2)), (5, (.int .i64 x3)), (6, (.int .i64 x4))] = some (.agg #[(.slice none 0 0), (.slice none 0 0), (.slice none 0 0), .int .i64 x0, .int .i64 x1, (.int .i64 0), .int .i64 x2, .int .i64 x3, .int .i64 x4, (.slice none 0 0)]) := by kernel_rfl
theorem fb66_0_1_2_4_5_6 (x1 : Option Addr) (n1 c1 : Nat) (x2 : Option Addr) (n2 c2 : Nat) (x3 : Option Addr) (n3 c3 : Nat) (x4 : Int) (x5 : Int) (x6 : Int) (x7 : Int) (x8 : Int) : fBuild Tryz.prog 66 [(0, (.agg #[.slice x1 n1 c1, .slice x2 n2 c2, .slice x3 n3 c3])), (1, (.int .i64 x4)), (2, (.int .i64 x5)), (4, (.int .i64 x6)), (5, (.int .i64 x7)), (6, (.int .i64 x8))] = some (.agg #[.slice x1 n1 c1, .slice x2 n2 c2, .slice x3 n3 c3, .int .i64 x4, .int .i64 x5, (.int .i64 0), .int .i64 x6, .int .i64 x7, .int .i64 x8, (.slice none 0 0)]) := by kernel_rfl
theorem fb73_0_1_2_3 (x1 : Option Addr) (n1 c1 : Nat) (x2 : Option Addr) (n2 c2 : Nat) (x3 : Option Addr) (n3 c3 : Nat) (x4 : Option Addr) (x5 : Option Addr) (x6 : Int) : fBuild Tryz.prog 73 [(0, (.agg #[.slice x1 n1 c1, .slice x2 n2 c2, .slice x3 n3 c3])), (1, (.pointer x4)), (2, (.pointer x5)), (3, (.int .i64 x6))] = some (.agg #[.slice x1 n1 c1, .slice x2 n2 c2, .slice x3 n3 c3, .pointer x4, .pointer x5, .int .i64 x6, (.int .i64 0), (.int .i64 0), (.int .i64 0), (.int .i64 0), (.int .i64 0), (.int .i64 0), (.int .i64 0), (.int .i64 0), (.slice none 0 0)]) := by kernel_rfl
theorem fb78_0_1 (x0 : Option Addr) (x1 : Option Addr) : fBuild Tryz.prog 78 [(0, (.pointer x0)), (1, (.pointer x1))] = some (.agg #[.pointer x0, .pointer x1, (.int .i64 0), (.int .i64 0), (.int .i64 0), (.int .i64 0), (.int .i64 0), (.int .i64 0), (.int .i64 0)]) := by kernel_rfl
theorem fb86_0_1_2_3 (x0 : Option Addr) (n0 c0 : Nat) (x1 : Option Addr) (x2 : Option Addr) (x3 : Int) : fBuild Tryz.prog 86 [(0, (.slice x0 n0 c0)), (1, (.pointer x1)), (2, (.pointer x2)), (3, (.int .i64 x3))] = some (.agg #[.slice x0 n0 c0, .pointer x1, .pointer x2, .int .i64 x3, (.int .i64 0), (.int .i64 0), (.int .i64 0), (.int .i64 0), (.int .i64 0), (.int .i64 0), (.int .i64 0), (.int .i64 0)]) := by kernel_rfl
theorem fb98  : fBuild Tryz.prog 98 [] = some (.agg #[.nilFunc]) := by kernel_rfl
theorem fb133_0_1_2 (x0 : Int) (x1 : Int) (x2 : Int) : fBuild Tryz.prog 133 [(0, (.int .i64 x0)), (1, (.int .i64 x1)), (2, (.int .i64 x2))] = some (.agg #[.int .i64 x0, .int .i64 x1, .int .i64 x2, (.int .i64 0), (.int .i64 0), (.int .i64 0), (.slice none 0 0)]) := by kernel_rfl
theorem fb142_2 (x0 : Int) : fBuild Tryz.prog 142 [(2, (.int .i64 x0))] = some (.agg #[(.slice none 0 0), .nilFunc, .int .i64 x0]) := by kernel_rfl
theorem fb230_0_1 (x0 : Int) (x1 : Int) : fBuild Tryz.prog 230 [(0, (.int .i64 x0)), (1, (.int .i64 x1))] = some (.agg #[.int .i64 x0, .int .i64 x1, (.slice none 0 0)]) := by kernel_rfl
theorem fb248_0 (x0 : Option Addr) : fBuild Tryz.prog 248 [(0, (.pointer x0))] = some (.agg #[.pointer x0]) := by kernel_rfl
theorem fb252_0_1_2_3_4 (x1 : Option Addr) (x2 : Int) (x3 : Int) (x4 : Option Nat) (x5 : Option Nat) : fBuild Tryz.prog 252 [(0, (.agg #[.pointer x1])), (1, (.int .i64 x2)), (2, (.int .i64 x3)), (3, (.map x4)), (4, (.map x5))] = some (.agg #[.pointer x1, .int .i64 x2, .int .i64 x3, .map x4, .map x5]) := by kernel_rfl
end Go.Proofs.Gong

/- Book -/
namespace Go.Proofs.Gong
open Go Go.Sx Go.Proofs
set_option linter.all false
set_option maxRecDepth 100000
set_option maxHeartbeats 4000000
variable {kn kr : ET} {ke : JT}
def T12 : List (Nat × FnT) := []
def F12 (x0 x1 : Value) (w : World) (K : V1) : Prop :=
bindP (bRem x0 x1) fun v1 =>
bindP (bAdd v1 x1) fun v2 =>
bindP (bRem v2 x1) fun v3 =>
K v3 w
def G12 : FnT := fun args w K => on2 (fun x0 x1 => F12 x0 x1 w K) args
theorem c12 {x0 x1 : Value} {w : World} {K : V1} (h : F12 x0 x1 w K) : callP G12 [x0, x1] w K := callP_intro (on2_mk (p := fun x0 x1 => F12 x0 x1 w K) h)
theorem ok12 : OkF Tryz.prog 12 G12 := by
  refine okF_of (tab_ok (l := T12) trivial) mixed (n := fuel) Tryz.func12 Tryz.call12 fun args w K h => ?_
  obtain ⟨x0, x1, rfl, hh⟩ := of_on2 h
  exact fnD_list (c := bodyOf Tryz.f12) (by kernel_rfl) (by kernel_rfl) (Eq.mp (by kernel_rfl) hh)
def T72 : List (Nat × FnT) := []
def F72 (x0 : Value) (w : World) (K : V1) : Prop :=
bindP (bGe x0 (.int .i64 0)) fun v1 =>
stepM (gd true v1) x0 fun v2 =>
Sx.stepG (gd true v1) (bLe v2 (.int .i64 2305843009213693952)) fun v3 =>
bindP (pPick v1 v3 (.bool false)) fun v4 =>
K v4 w
def G72 : FnT := fun args w K => on1 (fun x0 => F72 x0 w K) args
theorem c72 {x0 : Value} {w : World} {K : V1} (h : F72 x0 w K) : callP G72 [x0] w K := callP_intro (on1_mk (p := fun x0 => F72 x0 w K) h)
theorem ok72 : OkF Tryz.prog 72 G72 := by
  refine okF_of (tab_ok (l := T72) trivial) mixed (n := fuel) Tryz.func72 Tryz.call72 fun args w K h => ?_
  obtain ⟨x0, rfl, hh⟩ := of_on1 h
  exact fnD_list (c := bodyOf Tryz.f72) (by kernel_rfl) (by kernel_rfl) (Eq.mp (by kernel_rfl) hh)
end Go.Proofs.Gong

/- Norm -/
namespace Go.Proofs.Gong
open Go Go.Sx Go.Proofs
set_option linter.all false
set_option maxRecDepth 100000
set_option maxHeartbeats 4000000
variable {kn kr : ET} {ke : JT}
def T252 : List (Nat × FnT) := []
def F252 (x0 : Value) (w : World) (K : V1) : Prop :=
bindP (bLt x0 (.int .u8 128)) fun v1 =>
ifB v1 (
bindP (cInt .i64 x0) fun v2 =>
K (.tuple #[(.int .i64 1), v2]) w) (
bindP (bShr x0 (.int .u64 5)) fun v3 =>
bindP (bEq Tryz.prog 5 (.tmp 11) (.const (.int .u8 6)) v3 (.int .u8 6)) fun v4 =>
ifB v4 (
bindP (bBit .and x0 (.int .u8 31)) fun v5 =>
bindP (cInt .i64 v5) fun v6 =>
K (.tuple #[(.int .i64 2), v6]) w) (
bindP (bShr x0 (.int .u64 4)) fun v7 =>
bindP (bEq Tryz.prog 5 (.tmp 18) (.const (.int .u8 14)) v7 (.int .u8 14)) fun v8 =>
ifB v8 (
bindP (bBit .and x0 (.int .u8 15)) fun v9 =>
bindP (cInt .i64 v9) fun v10 =>
K (.tuple #[(.int .i64 3), v10]) w) (
bindP (bShr x0 (.int .u64 3)) fun v11 =>
bindP (bEq Tryz.prog 5 (.tmp 25) (.const (.int .u8 30)) v11 (.int .u8 30)) fun v12 =>
ifB v12 (
bindP (bBit .and x0 (.int .u8 7)) fun v13 =>
bindP (cInt .i64 v13) fun v14 =>
K (.tuple #[(.int .i64 4), v14]) w) (
K (.tuple #[(.int .i64 0), (.int .i64 0)]) w))))
def G252 : FnT := fun args w K => on1 (fun x0 => F252 x0 w K) args
theorem c252 {x0 : Value} {w : World} {K : V1} (h : F252 x0 w K) : callP G252 [x0] w K := callP_intro (on1_mk (p := fun x0 => F252 x0 w K) h)
theorem ok252 : OkF Tryz.prog 252 G252 := by
  refine okF_of (tab_ok (l := T252) trivial) mixed (n := fuel) Tryz.func252 Tryz.call252 fun args w K h => ?_
  obtain ⟨x0, rfl, hh⟩ := of_on1 h
  exact fnD_list (c := bodyOf Tryz.f252) (by kernel_rfl) (by kernel_rfl) (Eq.mp (by kernel_rfl) hh)
def T253 : List (Nat × FnT) := []
def F253 (x0 : Value) (w : World) (K : V1) : Prop :=
bindP (bGe x0 (.int .i64 0)) fun v1 =>
stepM (gd true v1) x0 fun v2 =>
Sx.stepG (gd true v1) (bLe v2 (.int .i64 1114111)) fun v3 =>
bindP (pPick v1 v3 (.bool false)) fun v4 =>
stepM (gd true v4) x0 fun v5 =>
Sx.stepG (gd true v4) (bLt v5 (.int .i64 55296)) fun v6 =>
stepM (gd true v4) v6 fun v7 =>
stepM (gd false v7) x0 fun v8 =>
Sx.stepG (gd false v7) (bGt v8 (.int .i64 57343)) fun v9 =>
Sx.stepG (gd true v4) (pPick v7 (.bool true) v9) fun v10 =>
bindP (pPick v4 v10 (.bool false)) fun v11 =>
K v11 w
def G253 : FnT := fun args w K => on1 (fun x0 => F253 x0 w K) args
theorem c253 {x0 : Value} {w : World} {K : V1} (h : F253 x0 w K) : callP G253 [x0] w K := callP_intro (on1_mk (p := fun x0 => F253 x0 w K) h)
theorem ok253 : OkF Tryz.prog 253 G253 := by
  refine okF_of (tab_ok (l := T253) trivial) mixed (n := fuel) Tryz.func253 Tryz.call253 fun args w K h => ?_
  obtain ⟨x0, rfl, hh⟩ := of_on1 h
  exact fnD_list (c := bodyOf Tryz.f253) (by kernel_rfl) (by kernel_rfl) (Eq.mp (by kernel_rfl) hh)
def T254 : List (Nat × FnT) := []
def F254 (x0 : Value) (w : World) (K : V1) : Prop :=
bindP (bEq Tryz.prog 3 (.tmp 3) (.const (.int .i64 2)) x0 (.int .i64 2)) fun v1 =>
ifB v1 (
K (.int .i64 128) w) (
bindP (bEq Tryz.prog 3 (.tmp 3) (.const (.int .i64 3)) x0 (.int .i64 3)) fun v2 =>
ifB v2 (
K (.int .i64 2048) w) (
bindP (bEq Tryz.prog 3 (.tmp 3) (.const (.int .i64 4)) x0 (.int .i64 4)) fun v3 =>
ifB v3 (
K (.int .i64 65536) w) (
K (.int .i64 0) w)))
def G254 : FnT := fun args w K => on1 (fun x0 => F254 x0 w K) args
theorem c254 {x0 : Value} {w : World} {K : V1} (h : F254 x0 w K) : callP G254 [x0] w K := callP_intro (on1_mk (p := fun x0 => F254 x0 w K) h)
theorem ok254 : OkF Tryz.prog 254 G254 := by
  refine okF_of (tab_ok (l := T254) trivial) mixed (n := fuel) Tryz.func254 Tryz.call254 fun args w K h => ?_
  obtain ⟨x0, rfl, hh⟩ := of_on1 h
  exact fnD_list (c := bodyOf Tryz.f254) (by kernel_rfl) (by kernel_rfl) (Eq.mp (by kernel_rfl) hh)
def T214 : List (Nat × FnT) := [(252, G252), (253, G253), (254, G254)]
def F214_3b (s2 s3 : Value) (w : World) (K : V1) : Prop :=
callP G253 [s2] w fun v2 w1 =>
bindP (uNot v2) fun v3 =>
stepM (gd false v3) s2 fun v4 =>
stepM (gd false v3) s3 fun v5 =>
stepE (gd false v3) (fun k => callP G254 [v5] w1 k) w1 fun v7 w6 =>
Sx.stepG (gd false v3) (bLt v4 v7) fun v8 =>
bindP (pPick v3 (.bool true) v8) fun v9 =>
ifB v9 (
K (.tuple #[(.int .i64 0), (.int .i64 0), (.int .i64 40)]) w6) (
K (.tuple #[s2, s3, (.int .i64 0)]) w6)
def F214_3 (s2 s3 : Value) (w : World) (K : V1) : Prop := F214_3b s2 s3 w K
theorem ok214_3 {K : V1}
    (hn : HN (fun e w => K (.tuple #[(e 2), (e 3), (e 4)]) w) kn) (hr : HR Tryz.prog [.tmp 2, .tmp 3, .tmp 4] K kr) (he : HE noE ke) :
    ∀ e w, F214_3 (e 2) (e 3) w K → denL Tryz.prog (tabOf T214) 51 fuel ((flat (bodyOf Tryz.f214)).drop 8) e w kn kr ke := by
  intro e w h
  unfold F214_3 at h
  have e1 : ∀ (_ : Unit), F214_3b (e 2) (e 3) w K = denL Tryz.prog (tabOf T214) 51 fuel ((flat (bodyOf Tryz.f214)).drop 8) e w (fun e w => K (.tuple #[(e 2), (e 3), (e 4)]) w) (endD Tryz.prog [.tmp 2, .tmp 3, .tmp 4] K) noE := by intro _; kernel_rfl
  exact seg_end (Eq.mp (e1 ()) h) hn hr he
def F214_2b (s0 s2 s3 s5 : Value) (w : World) (K : V1) (Y0 : V4) (Y1 : V2) : Prop :=
bindP (bLt s5 s3) fun v10 =>
ifB v10 (
bindP (pIndexS s0 s5) fun v11 =>
bindP (bShr v11 (.int .u64 6)) fun v12 =>
bindP (bNe Tryz.prog 5 (.tmp 30) (.const (.int .u8 2)) v12 (.int .u8 2)) fun v13 =>
ifB v13 (
K (.tuple #[(.int .i64 0), (.int .i64 0), (.int .i64 40)]) w) (
bindP (bShl s2 (.int .u64 6)) fun v14 =>
bindP (pIndexS s0 s5) fun v15 =>
bindP (bBit .and v15 (.int .u8 63)) fun v16 =>
bindP (cInt .i64 v16) fun v17 =>
bindP (bBit .or v14 v17) fun v18 =>
bindP (bAdd s5 (.int .i64 1)) fun v19 =>
Y0 s0 v18 s3 v19 w)) (
Y1 s2 s3 w)
def F214_2L : Nat → Value → Value → Value → Value → World → (V1) → Prop
  | 0, _, _, _, _, _, _ => False
  | n + 1, s0, s2, s3, s5, w, K => F214_2b s0 s2 s3 s5 w K (fun a0 a2 a3 a5 w => F214_2L n a0 a2 a3 a5 w K) (fun a2 a3 w => F214_3 a2 a3 w K)
def F214_2 (s0 s2 s3 s5 : Value) (w : World) (K : V1) : Prop := F214_2L fuel s0 s2 s3 s5 w K
theorem ok214_2 {K : V1}
    (hn : HN (fun e w => K (.tuple #[(e 2), (e 3), (e 4)]) w) kn) (hr : HR Tryz.prog [.tmp 2, .tmp 3, .tmp 4] K kr) (he : HE noE ke) :
    ∀ e w, F214_2 (e 0) (e 2) (e 3) (e 5) w K → denL Tryz.prog (tabOf T214) 51 fuel ((flat (bodyOf Tryz.f214)).drop 7) e w kn kr ke := by
  intro e w h
  unfold F214_2 at h
  refine seg_loop (id := 0) (body := (loopB (blkB (nthC (flat (bodyOf Tryz.f214)) 7)))) (l2 := (flat (bodyOf Tryz.f214)).drop 8) (by kernel_rfl) ?_
  refine loop_ok (FL := fun m e w => F214_2L m (e 0) (e 2) (e 3) (e 5) w K) (fr := endD Tryz.prog [.tmp 2, .tmp 3, .tmp 4] K) (fe := (blkK 0 (fun e w => F214_3 (e 2) (e 3) w K) noE)) (fun _ _ h => h) ?_ hr (blkK_mono (fun e w h => ok214_3 hn hr he e w h) he) fuel e w h
  intro m e w h
  have h : F214_2L (m + 1) (e 0) (e 2) (e 3) (e 5) w K := h
  rw [F214_2L] at h
  have e1 : ∀ (Y0 : V4) (Y1 : V2), F214_2b (e 0) (e 2) (e 3) (e 5) w K Y0 Y1 = denL Tryz.prog (tabOf T214) 51 fuel (flat (loopB (blkB (nthC (flat (bodyOf Tryz.f214)) 7)))) e w (fun e w => Y0 (e 0) (e 2) (e 3) (e 5) w) (endD Tryz.prog [.tmp 2, .tmp 3, .tmp 4] K) (blkK 0 (fun e w => Y1 (e 2) (e 3) w) noE) := by intro Y0 Y1; kernel_rfl
  exact Eq.mp (e1 (fun a0 a2 a3 a5 w => F214_2L m a0 a2 a3 a5 w K) (fun a2 a3 w => F214_3 a2 a3 w K)) h
def F214_1b (s0 : Value) (w : World) (K : V1) (Y0 : V4) : Prop :=
bindP (bEq Tryz.prog 9 (.tmp 6) (.const (.string ⟨#[]⟩)) s0 (.string ⟨#[]⟩)) fun v20 =>
ifB v20 (
K (.tuple #[(.int .i64 0), (.int .i64 0), (.int .i64 40)]) w) (
bindP (pIndexS s0 (.int .i64 0)) fun v21 =>
callP G252 [v21] w fun v23 w22 =>
bindP (pTuple v23 0) fun v24 =>
bindP (pTuple v23 1) fun v25 =>
bindP (bEq Tryz.prog 3 (.tmp 14) (.const (.int .i64 0)) v24 (.int .i64 0)) fun v26 =>
stepM (gd false v26) v24 fun v27 =>
stepM (gd false v26) s0 fun v28 =>
Sx.stepG (gd false v26) (lenS v28) fun v29 =>
Sx.stepG (gd false v26) (bGt v27 v29) fun v30 =>
bindP (pPick v26 (.bool true) v30) fun v31 =>
ifB v31 (
K (.tuple #[(.int .i64 0), (.int .i64 0), (.int .i64 40)]) w22) (
Y0 s0 v25 v24 (.int .i64 1) w22))
def F214_1 (s0 : Value) (w : World) (K : V1) : Prop := F214_1b s0 w K (fun a0 a2 a3 a5 w => F214_2 a0 a2 a3 a5 w K)
theorem ok214_1 {K : V1}
    (hn : HN (fun e w => K (.tuple #[(e 2), (e 3), (e 4)]) w) kn) (hr : HR Tryz.prog [.tmp 2, .tmp 3, .tmp 4] K kr) (he : HE noE ke) :
    ∀ e w, F214_1 (e 0) w K → denL Tryz.prog (tabOf T214) 51 fuel ((flat (bodyOf Tryz.f214)).drop 0) e w kn kr ke := by
  intro e w h
  unfold F214_1 at h
  have e1 : ∀ (Y0 : V4), F214_1b (e 0) w K Y0 = denL Tryz.prog (tabOf T214) 51 fuel (((flat (bodyOf Tryz.f214)).drop 0).take 7) e w (fun e w => Y0 (e 0) (e 2) (e 3) (e 5) w) (endD Tryz.prog [.tmp 2, .tmp 3, .tmp 4] K) noE := by intro Y0; kernel_rfl
  exact seg 7 (Eq.mp (e1 (fun a0 a2 a3 a5 w => F214_2 a0 a2 a3 a5 w K)) h) (fun e w h => ok214_2 hn hr he e w h) hr he
def F214 (x0 : Value) (w : World) (K : V1) : Prop := F214_1 x0 w K
def G214 : FnT := fun args w K => on1 (fun x0 => F214 x0 w K) args
theorem c214 {x0 : Value} {w : World} {K : V1} (h : F214 x0 w K) : callP G214 [x0] w K := callP_intro (on1_mk (p := fun x0 => F214 x0 w K) h)
theorem ok214 : OkF Tryz.prog 214 G214 := by
  refine okF_of (tab_ok (l := T214) ⟨ok252, ok253, ok254, trivial⟩) mixed (n := fuel) Tryz.func214 Tryz.call214 fun args w K h => ?_
  obtain ⟨x0, rfl, hh⟩ := of_on1 h
  unfold F214 at hh
  exact fnD_list (c := bodyOf Tryz.f214) (by kernel_rfl) (by kernel_rfl) (ok214_1 (fun _ _ h => h) (fun _ _ h => h) (fun _ _ _ h => h) (initE [x0]) w hh)
def T167 : List (Nat × FnT) := [(214, G214)]
def F167_3b (s4 : Value) (w : World) (K : V1) : Prop :=
K (.tuple #[s4, (.int .i64 0)]) w
def F167_3 (s4 : Value) (w : World) (K : V1) : Prop := F167_3b s4 w K
theorem ok167_3 {K : V1}
    (hn : HN (fun e w => K (.tuple #[(e 2), (e 3)]) w) kn) (hr : HR Tryz.prog [.tmp 2, .tmp 3] K kr) (he : HE noE ke) :
    ∀ e w, F167_3 (e 4) w K → denL Tryz.prog (tabOf T167) 27 fuel ((flat (bodyOf Tryz.f167)).drop 3) e w kn kr ke := by
  intro e w h
  unfold F167_3 at h
  have e1 : ∀ (_ : Unit), F167_3b (e 4) w K = denL Tryz.prog (tabOf T167) 27 fuel ((flat (bodyOf Tryz.f167)).drop 3) e w (fun e w => K (.tuple #[(e 2), (e 3)]) w) (endD Tryz.prog [.tmp 2, .tmp 3] K) noE := by intro _; kernel_rfl
  exact seg_end (Eq.mp (e1 ()) h) hn hr he
def F167_2b (s0 s4 : Value) (w : World) (K : V1) (Y0 : V2) (Y1 : V1) : Prop :=
bindP (bNe Tryz.prog 9 (.tmp 8) (.const (.string ⟨#[]⟩)) s0 (.string ⟨#[]⟩)) fun v1 =>
ifB v1 (
callP G214 [s0] w fun v3 w2 =>
bindP (pTuple v3 0) fun v4 =>
bindP (pTuple v3 1) fun v5 =>
bindP (pTuple v3 2) fun v6 =>
bindP (bNe Tryz.prog 39 (.tmp 16) (.const (.int .i64 0)) v6 (.int .i64 0)) fun v7 =>
ifB v7 (
K (.tuple #[(.slice none 0 0), v6]) w2) (
eBuildSl Tryz.prog 269 1 [(0, v4)] w2 fun v9 w8 =>
eAppend Tryz.prog 269 269 s4 v9 w8 fun v11 w10 =>
bindP (pSliceS s0 (some v5) none) fun v12 =>
Y0 v12 v11 w10)) (
Y1 s4 w)
def F167_2L : Nat → Value → Value → World → (V1) → Prop
  | 0, _, _, _, _ => False
  | n + 1, s0, s4, w, K => F167_2b s0 s4 w K (fun a0 a4 w => F167_2L n a0 a4 w K) (fun a4 w => F167_3 a4 w K)
def F167_2 (s0 s4 : Value) (w : World) (K : V1) : Prop := F167_2L fuel s0 s4 w K
theorem ok167_2 {K : V1}
    (hn : HN (fun e w => K (.tuple #[(e 2), (e 3)]) w) kn) (hr : HR Tryz.prog [.tmp 2, .tmp 3] K kr) (he : HE noE ke) :
    ∀ e w, F167_2 (e 0) (e 4) w K → denL Tryz.prog (tabOf T167) 27 fuel ((flat (bodyOf Tryz.f167)).drop 2) e w kn kr ke := by
  intro e w h
  unfold F167_2 at h
  refine seg_loop (id := 0) (body := (loopB (blkB (nthC (flat (bodyOf Tryz.f167)) 2)))) (l2 := (flat (bodyOf Tryz.f167)).drop 3) (by kernel_rfl) ?_
  refine loop_ok (FL := fun m e w => F167_2L m (e 0) (e 4) w K) (fr := endD Tryz.prog [.tmp 2, .tmp 3] K) (fe := (blkK 0 (fun e w => F167_3 (e 4) w K) noE)) (fun _ _ h => h) ?_ hr (blkK_mono (fun e w h => ok167_3 hn hr he e w h) he) fuel e w h
  intro m e w h
  have h : F167_2L (m + 1) (e 0) (e 4) w K := h
  rw [F167_2L] at h
  have e1 : ∀ (Y0 : V2) (Y1 : V1), F167_2b (e 0) (e 4) w K Y0 Y1 = denL Tryz.prog (tabOf T167) 27 fuel (flat (loopB (blkB (nthC (flat (bodyOf Tryz.f167)) 2)))) e w (fun e w => Y0 (e 0) (e 4) w) (endD Tryz.prog [.tmp 2, .tmp 3] K) (blkK 0 (fun e w => Y1 (e 4) w) noE) := by intro Y0 Y1; kernel_rfl
  exact Eq.mp (e1 (fun a0 a4 w => F167_2L m a0 a4 w K) (fun a4 w => F167_3 a4 w K)) h
def F167_1b (s0 : Value) (w : World) (_K : V1) (Y0 : V2) : Prop :=
Y0 s0 (.slice none 0 0) w
def F167_1 (s0 : Value) (w : World) (K : V1) : Prop := F167_1b s0 w K (fun a0 a4 w => F167_2 a0 a4 w K)
theorem ok167_1 {K : V1}
    (hn : HN (fun e w => K (.tuple #[(e 2), (e 3)]) w) kn) (hr : HR Tryz.prog [.tmp 2, .tmp 3] K kr) (he : HE noE ke) :
    ∀ e w, F167_1 (e 0) w K → denL Tryz.prog (tabOf T167) 27 fuel ((flat (bodyOf Tryz.f167)).drop 0) e w kn kr ke := by
  intro e w h
  unfold F167_1 at h
  have e1 : ∀ (Y0 : V2), F167_1b (e 0) w K Y0 = denL Tryz.prog (tabOf T167) 27 fuel (((flat (bodyOf Tryz.f167)).drop 0).take 2) e w (fun e w => Y0 (e 0) (e 4) w) (endD Tryz.prog [.tmp 2, .tmp 3] K) noE := by intro Y0; kernel_rfl
  exact seg 2 (Eq.mp (e1 (fun a0 a4 w => F167_2 a0 a4 w K)) h) (fun e w h => ok167_2 hn hr he e w h) hr he
def F167 (x0 : Value) (w : World) (K : V1) : Prop := F167_1 x0 w K
def G167 : FnT := fun args w K => on1 (fun x0 => F167 x0 w K) args
theorem c167 {x0 : Value} {w : World} {K : V1} (h : F167 x0 w K) : callP G167 [x0] w K := callP_intro (on1_mk (p := fun x0 => F167 x0 w K) h)
theorem ok167 : OkF Tryz.prog 167 G167 := by
  refine okF_of (tab_ok (l := T167) ⟨ok214, trivial⟩) mixed (n := fuel) Tryz.func167 Tryz.call167 fun args w K h => ?_
  obtain ⟨x0, rfl, hh⟩ := of_on1 h
  unfold F167 at hh
  exact fnD_list (c := bodyOf Tryz.f167) (by kernel_rfl) (by kernel_rfl) (ok167_1 (fun _ _ h => h) (fun _ _ h => h) (fun _ _ _ h => h) (initE [x0]) w hh)
def T169 : List (Nat × FnT) := []
def F169 (x0 : Value) (w : World) (K : V1) : Prop :=
bindP (bLt x0 (.int .i64 32)) fun v1 =>
stepM (gd false v1) x0 fun v2 =>
Sx.stepG (gd false v1) (bEq Tryz.prog 3 (.tmp 6) (.const (.int .i64 127)) v2 (.int .i64 127)) fun v3 =>
bindP (pPick v1 (.bool true) v3) fun v4 =>
K v4 w
def G169 : FnT := fun args w K => on1 (fun x0 => F169 x0 w K) args
theorem c169 {x0 : Value} {w : World} {K : V1} (h : F169 x0 w K) : callP G169 [x0] w K := callP_intro (on1_mk (p := fun x0 => F169 x0 w K) h)
theorem ok169 : OkF Tryz.prog 169 G169 := by
  refine okF_of (tab_ok (l := T169) trivial) mixed (n := fuel) Tryz.func169 Tryz.call169 fun args w K h => ?_
  obtain ⟨x0, rfl, hh⟩ := of_on1 h
  exact fnD_list (c := bodyOf Tryz.f169) (by kernel_rfl) (by kernel_rfl) (Eq.mp (by kernel_rfl) hh)
def T215 : List (Nat × FnT) := [(169, G169)]
def F215_3b (w : World) (K : V1) : Prop :=
K (.int .i64 (-1)) w
def F215_3 (w : World) (K : V1) : Prop := F215_3b w K
theorem ok215_3 {K : V1}
    (hn : HN (fun e w => K (e 4) w) kn) (hr : HR Tryz.prog [.tmp 4] K kr) (he : HE noE ke) :
    ∀ e w, F215_3 w K → denL Tryz.prog (tabOf T215) 19 fuel ((flat (bodyOf Tryz.f215)).drop 3) e w kn kr ke := by
  intro e w h
  unfold F215_3 at h
  have e1 : ∀ (_ : Unit), F215_3b w K = denL Tryz.prog (tabOf T215) 19 fuel ((flat (bodyOf Tryz.f215)).drop 3) e w (fun e w => K (e 4) w) (endD Tryz.prog [.tmp 4] K) noE := by intro _; kernel_rfl
  exact seg_end (Eq.mp (e1 ()) h) hn hr he
def F215_2b (s0 s1 s7 s8 : Value) (w : World) (K : V1) (Y0 : V4) (Y1 : V0) : Prop :=
bindP (bLt s8 s7) fun v1 =>
ifB v1 (
bindP (pIndexL 1 s0 s8) fun v2 =>
bindP (ld1 v2 w) fun v3 =>
eCallV (tabOf T215) s1 [v3] w fun v5 w4 =>
ifB v5 (
K s8 w4) (
bindP (bAdd s8 (.int .i64 1)) fun v6 =>
Y0 s0 s1 s7 v6 w4)) (
Y1 w)
def F215_2L : Nat → Value → Value → Value → Value → World → (V1) → Prop
  | 0, _, _, _, _, _, _ => False
  | n + 1, s0, s1, s7, s8, w, K => F215_2b s0 s1 s7 s8 w K (fun a0 a1 a7 a8 w => F215_2L n a0 a1 a7 a8 w K) (fun w => F215_3 w K)
def F215_2 (s0 s1 s7 s8 : Value) (w : World) (K : V1) : Prop := F215_2L fuel s0 s1 s7 s8 w K
theorem ok215_2 {K : V1}
    (hn : HN (fun e w => K (e 4) w) kn) (hr : HR Tryz.prog [.tmp 4] K kr) (he : HE noE ke) :
    ∀ e w, F215_2 (e 0) (e 1) (e 7) (e 8) w K → denL Tryz.prog (tabOf T215) 19 fuel ((flat (bodyOf Tryz.f215)).drop 2) e w kn kr ke := by
  intro e w h
  unfold F215_2 at h
  refine seg_loop (id := 0) (body := (loopB (blkB (nthC (flat (bodyOf Tryz.f215)) 2)))) (l2 := (flat (bodyOf Tryz.f215)).drop 3) (by kernel_rfl) ?_
  refine loop_ok (FL := fun m e w => F215_2L m (e 0) (e 1) (e 7) (e 8) w K) (fr := endD Tryz.prog [.tmp 4] K) (fe := (blkK 0 (fun e w => F215_3 w K) noE)) (fun _ _ h => h) ?_ hr (blkK_mono (fun e w h => ok215_3 hn hr he e w h) he) fuel e w h
  intro m e w h
  have h : F215_2L (m + 1) (e 0) (e 1) (e 7) (e 8) w K := h
  rw [F215_2L] at h
  have e1 : ∀ (Y0 : V4) (Y1 : V0), F215_2b (e 0) (e 1) (e 7) (e 8) w K Y0 Y1 = denL Tryz.prog (tabOf T215) 19 fuel (flat (loopB (blkB (nthC (flat (bodyOf Tryz.f215)) 2)))) e w (fun e w => Y0 (e 0) (e 1) (e 7) (e 8) w) (endD Tryz.prog [.tmp 4] K) (blkK 0 (fun e w => Y1 w) noE) := by intro Y0 Y1; kernel_rfl
  exact Eq.mp (e1 (fun a0 a1 a7 a8 w => F215_2L m a0 a1 a7 a8 w K) (fun w => F215_3 w K)) h
def F215_1b (s0 s1 : Value) (w : World) (_K : V1) (Y0 : V4) : Prop :=
bindP (lenL s0) fun v7 =>
Y0 s0 s1 v7 (.int .i64 0) w
def F215_1 (s0 s1 : Value) (w : World) (K : V1) : Prop := F215_1b s0 s1 w K (fun a0 a1 a7 a8 w => F215_2 a0 a1 a7 a8 w K)
theorem ok215_1 {K : V1}
    (hn : HN (fun e w => K (e 4) w) kn) (hr : HR Tryz.prog [.tmp 4] K kr) (he : HE noE ke) :
    ∀ e w, F215_1 (e 0) (e 1) w K → denL Tryz.prog (tabOf T215) 19 fuel ((flat (bodyOf Tryz.f215)).drop 0) e w kn kr ke := by
  intro e w h
  unfold F215_1 at h
  have e1 : ∀ (Y0 : V4), F215_1b (e 0) (e 1) w K Y0 = denL Tryz.prog (tabOf T215) 19 fuel (((flat (bodyOf Tryz.f215)).drop 0).take 2) e w (fun e w => Y0 (e 0) (e 1) (e 7) (e 8) w) (endD Tryz.prog [.tmp 4] K) noE := by intro Y0; kernel_rfl
  exact seg 2 (Eq.mp (e1 (fun a0 a1 a7 a8 w => F215_2 a0 a1 a7 a8 w K)) h) (fun e w h => ok215_2 hn hr he e w h) hr he
def F215 (x0 x1 : Value) (w : World) (K : V1) : Prop := F215_1 x0 x1 w K
def G215 : FnT := fun args w K => on2 (fun x0 x1 => F215 x0 x1 w K) args
theorem c215 {x0 x1 : Value} {w : World} {K : V1} (h : F215 x0 x1 w K) : callP G215 [x0, x1] w K := callP_intro (on2_mk (p := fun x0 x1 => F215 x0 x1 w K) h)
theorem ok215 : OkF Tryz.prog 215 G215 := by
  refine okF_of (tab_ok (l := T215) ⟨ok169, trivial⟩) mixed (n := fuel) Tryz.func215 Tryz.call215 fun args w K h => ?_
  obtain ⟨x0, x1, rfl, hh⟩ := of_on2 h
  unfold F215 at hh
  exact fnD_list (c := bodyOf Tryz.f215) (by kernel_rfl) (by kernel_rfl) (ok215_1 (fun _ _ h => h) (fun _ _ h => h) (fun _ _ _ h => h) (initE [x0, x1]) w hh)
def T168 : List (Nat × FnT) := [(215, G215)]
def F168 (x0 x1 : Value) (w : World) (K : V1) : Prop :=
callP G215 [x0, x1] w fun v2 w1 =>
bindP (bGe v2 (.int .i64 0)) fun v3 =>
K v3 w1
def G168 : FnT := fun args w K => on2 (fun x0 x1 => F168 x0 x1 w K) args
theorem c168 {x0 x1 : Value} {w : World} {K : V1} (h : F168 x0 x1 w K) : callP G168 [x0, x1] w K := callP_intro (on2_mk (p := fun x0 x1 => F168 x0 x1 w K) h)
theorem ok168 : OkF Tryz.prog 168 G168 := by
  refine okF_of (tab_ok (l := T168) ⟨ok215, trivial⟩) mixed (n := fuel) Tryz.func168 Tryz.call168 fun args w K h => ?_
  obtain ⟨x0, x1, rfl, hh⟩ := of_on2 h
  exact fnD_list (c := bodyOf Tryz.f168) (by kernel_rfl) (by kernel_rfl) (Eq.mp (by kernel_rfl) hh)
def T115 : List (Nat × FnT) := [(167, G167), (168, G168)]
def F115 (x0 x1 : Value) (w : World) (K : V1) : Prop :=
callP G167 [x0] w fun v2 w1 =>
bindP (pTuple v2 0) fun v3 =>
bindP (pTuple v2 1) fun v4 =>
callP G168 [v3, (.func (.func 169) #[] #[])] w1 fun v6 w5 =>
bindP (bEq Tryz.prog 39 (.tmp 15) (.const (.int .i64 0)) v4 (.int .i64 0)) fun v7 =>
stepM (gd true v7) v6 fun v8 =>
Sx.stepG (gd true v7) (uNot v8) fun v9 =>
bindP (pPick v7 v9 (.bool false)) fun v10 =>
stepM (gd true v10) x0 fun v11 =>
Sx.stepG (gd true v10) (lenS v11) fun v12 =>
stepM (gd true v10) x1 fun v13 =>
Sx.stepG (gd true v10) (bLe v12 v13) fun v14 =>
bindP (pPick v10 v14 (.bool false)) fun v15 =>
K v15 w5
def G115 : FnT := fun args w K => on2 (fun x0 x1 => F115 x0 x1 w K) args
theorem c115 {x0 x1 : Value} {w : World} {K : V1} (h : F115 x0 x1 w K) : callP G115 [x0, x1] w K := callP_intro (on2_mk (p := fun x0 x1 => F115 x0 x1 w K) h)
theorem ok115 : OkF Tryz.prog 115 G115 := by
  refine okF_of (tab_ok (l := T115) ⟨ok167, ok168, trivial⟩) mixed (n := fuel) Tryz.func115 Tryz.call115 fun args w K h => ?_
  obtain ⟨x0, x1, rfl, hh⟩ := of_on2 h
  exact fnD_list (c := bodyOf Tryz.f115) (by kernel_rfl) (by kernel_rfl) (Eq.mp (by kernel_rfl) hh)
def T76 : List (Nat × FnT) := [(115, G115)]
def F76 (x0 : Value) (w : World) (K : V1) : Prop :=
eBox 43 x0 w fun v2 w1 =>
bindP (pFieldAddr 0 v2) fun v3 =>
bindP (ld1 v3 w1) fun v4 =>
bindP (bNe Tryz.prog 9 (.tmp 5) (.const (.string ⟨#[]⟩)) v4 (.string ⟨#[]⟩)) fun v5 =>
Sx.stepG (gd true v5) (pFieldAddr 1 v2) fun v6 =>
Sx.stepG (gd true v5) (ld1 v6 w1) fun v7 =>
Sx.stepG (gd true v5) (bNe Tryz.prog 9 (.tmp 9) (.const (.string ⟨#[]⟩)) v7 (.string ⟨#[]⟩)) fun v8 =>
bindP (pPick v5 v8 (.bool false)) fun v9 =>
Sx.stepG (gd true v9) (pFieldAddr 0 v2) fun v10 =>
Sx.stepG (gd true v9) (ld1 v10 w1) fun v11 =>
stepE (gd true v9) (fun k => callP G115 [v11, (.int .i64 64)] w1 k) w1 fun v13 w12 =>
bindP (pPick v9 v13 (.bool false)) fun v14 =>
Sx.stepG (gd true v14) (pFieldAddr 1 v2) fun v15 =>
Sx.stepG (gd true v14) (ld1 v15 w12) fun v16 =>
stepE (gd true v14) (fun k => callP G115 [v16, (.int .i64 64)] w12 k) w12 fun v18 w17 =>
bindP (pPick v14 v18 (.bool false)) fun v19 =>
bindP (uNot v19) fun v20 =>
Sx.stepG (gd false v20) (pFieldAddr 2 v2) fun v21 =>
Sx.stepG (gd false v20) (ld1 v21 w17) fun v22 =>
stepE (gd false v20) (fun k => callP G115 [v22, (.int .i64 128)] w17 k) w17 fun v24 w23 =>
Sx.stepG (gd false v20) (uNot v24) fun v25 =>
bindP (pPick v20 (.bool true) v25) fun v26 =>
Sx.stepG (gd false v26) (pFieldAddr 4 v2) fun v27 =>
Sx.stepG (gd false v26) (ld1 v27 w23) fun v28 =>
stepE (gd false v26) (fun k => callP G115 [v28, (.int .i64 1024)] w23 k) w23 fun v30 w29 =>
Sx.stepG (gd false v26) (uNot v30) fun v31 =>
bindP (pPick v26 (.bool true) v31) fun v32 =>
Sx.stepG (gd false v32) (pFieldAddr 3 v2) fun v33 =>
Sx.stepG (gd false v32) (ld1 v33 w29) fun v34 =>
Sx.stepG (gd false v32) (bLt v34 (.int .i64 0)) fun v35 =>
bindP (pPick v32 (.bool true) v35) fun v36 =>
Sx.stepG (gd false v36) (pFieldAddr 3 v2) fun v37 =>
Sx.stepG (gd false v36) (ld1 v37 w29) fun v38 =>
Sx.stepG (gd false v36) (bGt v38 (.int .i64 5)) fun v39 =>
bindP (pPick v36 (.bool true) v39) fun v40 =>
ifB v40 (
K (.int .i64 180) w29) (
K (.int .i64 0) w29)
def G76 : FnT := fun args w K => on1 (fun x0 => F76 x0 w K) args
theorem c76 {x0 : Value} {w : World} {K : V1} (h : F76 x0 w K) : callP G76 [x0] w K := callP_intro (on1_mk (p := fun x0 => F76 x0 w K) h)
theorem ok76 : OkF Tryz.prog 76 G76 := by
  refine okF_of (tab_ok (l := T76) ⟨ok115, trivial⟩) mixed (n := fuel) Tryz.func76 Tryz.call76 fun args w K h => ?_
  obtain ⟨x0, rfl, hh⟩ := of_on1 h
  exact fnD_list (c := bodyOf Tryz.f76) (by kernel_rfl) (by kernel_rfl) (Eq.mp (by kernel_rfl) hh)
def T249 : List (Nat × FnT) := []
def F249_4b (s5 : Value) (w : World) (K : V1) : Prop :=
K s5 w
def F249_4 (s5 : Value) (w : World) (K : V1) : Prop := F249_4b s5 w K
theorem ok249_4 {K : V1}
    (hn : HN (fun e w => K (e 4) w) kn) (hr : HR Tryz.prog [.tmp 4] K kr) (he : HE noE ke) :
    ∀ e w, F249_4 (e 5) w K → denL Tryz.prog (tabOf T249) 38 fuel ((flat (bodyOf Tryz.f249)).drop 6) e w kn kr ke := by
  intro e w h
  unfold F249_4 at h
  have e1 : ∀ (_ : Unit), F249_4b (e 5) w K = denL Tryz.prog (tabOf T249) 38 fuel ((flat (bodyOf Tryz.f249)).drop 6) e w (fun e w => K (e 4) w) (endD Tryz.prog [.tmp 4] K) noE := by intro _; kernel_rfl
  exact seg_end (Eq.mp (e1 ()) h) hn hr he
def F249_3b (s0 s1 s5 s6 : Value) (w : World) (_K : V1) (Y0 : V4) (Y1 : V1) : Prop :=
bindP (bLt s6 s1) fun v1 =>
ifB v1 (
bindP (bMul s5 (.int .i64 64)) fun v2 =>
bindP (pIndexS s0 s6) fun v3 =>
bindP (bRem v3 (.int .u8 64)) fun v4 =>
bindP (cInt .i64 v4) fun v5 =>
bindP (bAdd v2 v5) fun v6 =>
bindP (bAdd s6 (.int .i64 1)) fun v7 =>
Y0 s0 s1 v6 v7 w) (
Y1 s5 w)
def F249_3L : Nat → Value → Value → Value → Value → World → (V1) → Prop
  | 0, _, _, _, _, _, _ => False
  | n + 1, s0, s1, s5, s6, w, K => F249_3b s0 s1 s5 s6 w K (fun a0 a1 a5 a6 w => F249_3L n a0 a1 a5 a6 w K) (fun a5 w => F249_4 a5 w K)
def F249_3 (s0 s1 s5 s6 : Value) (w : World) (K : V1) : Prop := F249_3L fuel s0 s1 s5 s6 w K
theorem ok249_3 {K : V1}
    (hn : HN (fun e w => K (e 4) w) kn) (hr : HR Tryz.prog [.tmp 4] K kr) (he : HE noE ke) :
    ∀ e w, F249_3 (e 0) (e 1) (e 5) (e 6) w K → denL Tryz.prog (tabOf T249) 38 fuel ((flat (bodyOf Tryz.f249)).drop 5) e w kn kr ke := by
  intro e w h
  unfold F249_3 at h
  refine seg_loop (id := 1) (body := (loopB (blkB (nthC (flat (bodyOf Tryz.f249)) 5)))) (l2 := (flat (bodyOf Tryz.f249)).drop 6) (by kernel_rfl) ?_
  refine loop_ok (FL := fun m e w => F249_3L m (e 0) (e 1) (e 5) (e 6) w K) (fr := endD Tryz.prog [.tmp 4] K) (fe := (blkK 1 (fun e w => F249_4 (e 5) w K) noE)) (fun _ _ h => h) ?_ hr (blkK_mono (fun e w h => ok249_4 hn hr he e w h) he) fuel e w h
  intro m e w h
  have h : F249_3L (m + 1) (e 0) (e 1) (e 5) (e 6) w K := h
  rw [F249_3L] at h
  have e1 : ∀ (Y0 : V4) (Y1 : V1), F249_3b (e 0) (e 1) (e 5) (e 6) w K Y0 Y1 = denL Tryz.prog (tabOf T249) 38 fuel (flat (loopB (blkB (nthC (flat (bodyOf Tryz.f249)) 5)))) e w (fun e w => Y0 (e 0) (e 1) (e 5) (e 6) w) (endD Tryz.prog [.tmp 4] K) (blkK 1 (fun e w => Y1 (e 5) w) noE) := by intro Y0 Y1; kernel_rfl
  exact Eq.mp (e1 (fun a0 a1 a5 a6 w => F249_3L m a0 a1 a5 a6 w K) (fun a5 w => F249_4 a5 w K)) h
def F249_2b (s0 s1 s5 : Value) (w : World) (_K : V1) (Y0 : V4) : Prop :=
Y0 s0 s1 s5 (.int .i64 1) w
def F249_2 (s0 s1 s5 : Value) (w : World) (K : V1) : Prop := F249_2b s0 s1 s5 w K (fun a0 a1 a5 a6 w => F249_3 a0 a1 a5 a6 w K)
theorem ok249_2 {K : V1}
    (hn : HN (fun e w => K (e 4) w) kn) (hr : HR Tryz.prog [.tmp 4] K kr) (he : HE noE ke) :
    ∀ e w, F249_2 (e 0) (e 1) (e 5) w K → denL Tryz.prog (tabOf T249) 38 fuel ((flat (bodyOf Tryz.f249)).drop 4) e w kn kr ke := by
  intro e w h
  unfold F249_2 at h
  have e1 : ∀ (Y0 : V4), F249_2b (e 0) (e 1) (e 5) w K Y0 = denL Tryz.prog (tabOf T249) 38 fuel (((flat (bodyOf Tryz.f249)).drop 4).take 1) e w (fun e w => Y0 (e 0) (e 1) (e 5) (e 6) w) (endD Tryz.prog [.tmp 4] K) noE := by intro Y0; kernel_rfl
  exact seg 1 (Eq.mp (e1 (fun a0 a1 a5 a6 w => F249_3 a0 a1 a5 a6 w K)) h) (fun e w h => ok249_3 hn hr he e w h) hr he
def F249_1b (s0 s1 : Value) (w : World) (K : V1) (Y0 : V3) : Prop :=
bindP (pIndexS s0 (.int .i64 0)) fun v8 =>
bindP (cInt .i64 v8) fun v9 =>
bindP (bEq Tryz.prog 3 (.tmp 10) (.const (.int .i64 1)) s1 (.int .i64 1)) fun v10 =>
ifB v10 (
K v9 w) (
bindP (bEq Tryz.prog 3 (.tmp 10) (.const (.int .i64 2)) s1 (.int .i64 2)) fun v11 =>
ifB v11 (
bindP (bRem v9 (.int .i64 32)) fun v12 =>
Y0 s0 s1 v12 w) (
bindP (bEq Tryz.prog 3 (.tmp 10) (.const (.int .i64 3)) s1 (.int .i64 3)) fun v13 =>
ifB v13 (
bindP (bRem v9 (.int .i64 16)) fun v14 =>
Y0 s0 s1 v14 w) (
bindP (bRem v9 (.int .i64 8)) fun v15 =>
Y0 s0 s1 v15 w)))
def F249_1 (s0 s1 : Value) (w : World) (K : V1) : Prop := F249_1b s0 s1 w K (fun a0 a1 a5 w => F249_2 a0 a1 a5 w K)
theorem ok249_1 {K : V1}
    (hn : HN (fun e w => K (e 4) w) kn) (hr : HR Tryz.prog [.tmp 4] K kr) (he : HE noE ke) :
    ∀ e w, F249_1 (e 0) (e 1) w K → denL Tryz.prog (tabOf T249) 38 fuel ((flat (bodyOf Tryz.f249)).drop 0) e w kn kr ke := by
  intro e w h
  unfold F249_1 at h
  have e1 : ∀ (Y0 : V3), F249_1b (e 0) (e 1) w K Y0 = denL Tryz.prog (tabOf T249) 38 fuel (((flat (bodyOf Tryz.f249)).drop 0).take 4) e w (fun e w => Y0 (e 0) (e 1) (e 5) w) (endD Tryz.prog [.tmp 4] K) noE := by intro Y0; kernel_rfl
  exact seg 4 (Eq.mp (e1 (fun a0 a1 a5 w => F249_2 a0 a1 a5 w K)) h) (fun e w h => ok249_2 hn hr he e w h) hr he
def F249 (x0 x1 : Value) (w : World) (K : V1) : Prop := F249_1 x0 x1 w K
def G249 : FnT := fun args w K => on2 (fun x0 x1 => F249 x0 x1 w K) args
theorem c249 {x0 x1 : Value} {w : World} {K : V1} (h : F249 x0 x1 w K) : callP G249 [x0, x1] w K := callP_intro (on2_mk (p := fun x0 x1 => F249 x0 x1 w K) h)
theorem ok249 : OkF Tryz.prog 249 G249 := by
  refine okF_of (tab_ok (l := T249) trivial) mixed (n := fuel) Tryz.func249 Tryz.call249 fun args w K h => ?_
  obtain ⟨x0, x1, rfl, hh⟩ := of_on2 h
  unfold F249 at hh
  exact fnD_list (c := bodyOf Tryz.f249) (by kernel_rfl) (by kernel_rfl) (ok249_1 (fun _ _ h => h) (fun _ _ h => h) (fun _ _ _ h => h) (initE [x0, x1]) w hh)
def T250 : List (Nat × FnT) := []
def F250 (x0 : Value) (w : World) (K : V1) : Prop :=
bindP (bGe x0 (.int .i64 0)) fun v1 =>
stepM (gd true v1) x0 fun v2 =>
Sx.stepG (gd true v1) (bLe v2 (.int .i64 1114111)) fun v3 =>
bindP (pPick v1 v3 (.bool false)) fun v4 =>
stepM (gd true v4) x0 fun v5 =>
Sx.stepG (gd true v4) (bLt v5 (.int .i64 55296)) fun v6 =>
stepM (gd true v4) v6 fun v7 =>
stepM (gd false v7) x0 fun v8 =>
Sx.stepG (gd false v7) (bGt v8 (.int .i64 57343)) fun v9 =>
Sx.stepG (gd true v4) (pPick v7 (.bool true) v9) fun v10 =>
bindP (pPick v4 v10 (.bool false)) fun v11 =>
K v11 w
def G250 : FnT := fun args w K => on1 (fun x0 => F250 x0 w K) args
theorem c250 {x0 : Value} {w : World} {K : V1} (h : F250 x0 w K) : callP G250 [x0] w K := callP_intro (on1_mk (p := fun x0 => F250 x0 w K) h)
theorem ok250 : OkF Tryz.prog 250 G250 := by
  refine okF_of (tab_ok (l := T250) trivial) mixed (n := fuel) Tryz.func250 Tryz.call250 fun args w K h => ?_
  obtain ⟨x0, rfl, hh⟩ := of_on1 h
  exact fnD_list (c := bodyOf Tryz.f250) (by kernel_rfl) (by kernel_rfl) (Eq.mp (by kernel_rfl) hh)
def T251 : List (Nat × FnT) := []
def F251 (x0 : Value) (w : World) (K : V1) : Prop :=
bindP (bLt x0 (.int .i64 128)) fun v1 =>
ifB v1 (
bindP (cInt .u8 x0) fun v2 =>
eBuildSl Tryz.prog 150 1 [(0, v2)] w fun v4 w3 =>
bindP (cBytes v4 w3) fun v5 =>
K v5 w3) (
bindP (bLt x0 (.int .i64 2048)) fun v6 =>
ifB v6 (
bindP (bQuo x0 (.int .i64 64)) fun v7 =>
bindP (bAdd (.int .i64 192) v7) fun v8 =>
bindP (cInt .u8 v8) fun v9 =>
bindP (bRem x0 (.int .i64 64)) fun v10 =>
bindP (bAdd (.int .i64 128) v10) fun v11 =>
bindP (cInt .u8 v11) fun v12 =>
eBuildSl Tryz.prog 150 2 [(0, v9), (1, v12)] w fun v14 w13 =>
bindP (cBytes v14 w13) fun v15 =>
K v15 w13) (
bindP (bLt x0 (.int .i64 65536)) fun v16 =>
ifB v16 (
bindP (bQuo x0 (.int .i64 4096)) fun v17 =>
bindP (bAdd (.int .i64 224) v17) fun v18 =>
bindP (cInt .u8 v18) fun v19 =>
bindP (bQuo x0 (.int .i64 64)) fun v20 =>
bindP (bRem v20 (.int .i64 64)) fun v21 =>
bindP (bAdd (.int .i64 128) v21) fun v22 =>
bindP (cInt .u8 v22) fun v23 =>
bindP (bRem x0 (.int .i64 64)) fun v24 =>
bindP (bAdd (.int .i64 128) v24) fun v25 =>
bindP (cInt .u8 v25) fun v26 =>
eBuildSl Tryz.prog 150 3 [(0, v19), (1, v23), (2, v26)] w fun v28 w27 =>
bindP (cBytes v28 w27) fun v29 =>
K v29 w27) (
bindP (bQuo x0 (.int .i64 262144)) fun v30 =>
bindP (bAdd (.int .i64 240) v30) fun v31 =>
bindP (cInt .u8 v31) fun v32 =>
bindP (bQuo x0 (.int .i64 4096)) fun v33 =>
bindP (bRem v33 (.int .i64 64)) fun v34 =>
bindP (bAdd (.int .i64 128) v34) fun v35 =>
bindP (cInt .u8 v35) fun v36 =>
bindP (bQuo x0 (.int .i64 64)) fun v37 =>
bindP (bRem v37 (.int .i64 64)) fun v38 =>
bindP (bAdd (.int .i64 128) v38) fun v39 =>
bindP (cInt .u8 v39) fun v40 =>
bindP (bRem x0 (.int .i64 64)) fun v41 =>
bindP (bAdd (.int .i64 128) v41) fun v42 =>
bindP (cInt .u8 v42) fun v43 =>
eBuildSl Tryz.prog 150 4 [(0, v32), (1, v36), (2, v40), (3, v43)] w fun v45 w44 =>
bindP (cBytes v45 w44) fun v46 =>
K v46 w44)))
def G251 : FnT := fun args w K => on1 (fun x0 => F251 x0 w K) args
theorem c251 {x0 : Value} {w : World} {K : V1} (h : F251 x0 w K) : callP G251 [x0] w K := callP_intro (on1_mk (p := fun x0 => F251 x0 w K) h)
theorem ok251 : OkF Tryz.prog 251 G251 := by
  refine okF_of (tab_ok (l := T251) trivial) mixed (n := fuel) Tryz.func251 Tryz.call251 fun args w K h => ?_
  obtain ⟨x0, rfl, hh⟩ := of_on1 h
  exact fnD_list (c := bodyOf Tryz.f251) (by kernel_rfl) (by kernel_rfl) (Eq.mp (by kernel_rfl) hh)
def T213 : List (Nat × FnT) := [(249, G249), (250, G250), (251, G251)]
def F213_3b (w : World) (K : V1) : Prop :=
K (.tuple #[(.int .i64 0), (.int .i64 0), (.int .i64 40)]) w
def F213_3 (w : World) (K : V1) : Prop := F213_3b w K
theorem ok213_3 {K : V1}
    (hn : HN (fun e w => K (.tuple #[(e 2), (e 3), (e 4)]) w) kn) (hr : HR Tryz.prog [.tmp 2, .tmp 3, .tmp 4] K kr) (he : HE noE ke) :
    ∀ e w, F213_3 w K → denL Tryz.prog (tabOf T213) 32 fuel ((flat (bodyOf Tryz.f213)).drop 3) e w kn kr ke := by
  intro e w h
  unfold F213_3 at h
  have e1 : ∀ (_ : Unit), F213_3b w K = denL Tryz.prog (tabOf T213) 32 fuel ((flat (bodyOf Tryz.f213)).drop 3) e w (fun e w => K (.tuple #[(e 2), (e 3), (e 4)]) w) (endD Tryz.prog [.tmp 2, .tmp 3, .tmp 4] K) noE := by intro _; kernel_rfl
  exact seg_end (Eq.mp (e1 ()) h) hn hr he
def F213_2b (s0 s5 : Value) (w : World) (K : V1) (Y0 : V2) (Y1 : V0) : Prop :=
bindP (bLe s5 (.int .i64 4)) fun v1 =>
stepM (gd true v1) s5 fun v2 =>
stepM (gd true v1) s0 fun v3 =>
Sx.stepG (gd true v1) (lenS v3) fun v4 =>
Sx.stepG (gd true v1) (bLe v2 v4) fun v5 =>
bindP (pPick v1 v5 (.bool false)) fun v6 =>
ifB v6 (
callP G249 [s0, s5] w fun v8 w7 =>
callP G250 [v8] w7.drew fun v10 w9 =>
stepM (gd true v10) v8 fun v11 =>
stepM (gd true v10) s0 fun v12 =>
stepM (gd true v10) s5 fun v13 =>
Sx.stepG (gd true v10) (pSliceS v12 none (some v13)) fun v14 =>
stepE (gd true v10) (fun k => callP G251 [v11] w9 k) w9 fun v16 w15 =>
Sx.stepG (gd true v10) (bEq Tryz.prog 9 (.tmp 24) (.tmp 27) v16 v14) fun v17 =>
bindP (pPick v10 v17 (.bool false)) fun v18 =>
ifB v18 (
K (.tuple #[v8, s5, (.int .i64 0)]) w15) (
bindP (bAdd s5 (.int .i64 1)) fun v19 =>
Y0 s0 v19 w15)) (
Y1 w)
def F213_2L : Nat → Value → Value → World → (V1) → Prop
  | 0, _, _, _, _ => False
  | n + 1, s0, s5, w, K => F213_2b s0 s5 w K (fun a0 a5 w => F213_2L n a0 a5 w K) (fun w => F213_3 w K)
def F213_2 (s0 s5 : Value) (w : World) (K : V1) : Prop := F213_2L fuel s0 s5 w K
theorem ok213_2 {K : V1}
    (hn : HN (fun e w => K (.tuple #[(e 2), (e 3), (e 4)]) w) kn) (hr : HR Tryz.prog [.tmp 2, .tmp 3, .tmp 4] K kr) (he : HE noE ke) :
    ∀ e w, F213_2 (e 0) (e 5) w K → denL Tryz.prog (tabOf T213) 32 fuel ((flat (bodyOf Tryz.f213)).drop 2) e w kn kr ke := by
  intro e w h
  unfold F213_2 at h
  refine seg_loop (id := 0) (body := (loopB (blkB (nthC (flat (bodyOf Tryz.f213)) 2)))) (l2 := (flat (bodyOf Tryz.f213)).drop 3) (by kernel_rfl) ?_
  refine loop_ok (FL := fun m e w => F213_2L m (e 0) (e 5) w K) (fr := endD Tryz.prog [.tmp 2, .tmp 3, .tmp 4] K) (fe := (blkK 0 (fun e w => F213_3 w K) noE)) (fun _ _ h => h) ?_ hr (blkK_mono (fun e w h => ok213_3 hn hr he e w h) he) fuel e w h
  intro m e w h
  have h : F213_2L (m + 1) (e 0) (e 5) w K := h
  rw [F213_2L] at h
  have e1 : ∀ (Y0 : V2) (Y1 : V0), F213_2b (e 0) (e 5) w K Y0 Y1 = denL Tryz.prog (tabOf T213) 32 fuel (flat (loopB (blkB (nthC (flat (bodyOf Tryz.f213)) 2)))) e w (fun e w => Y0 (e 0) (e 5) w) (endD Tryz.prog [.tmp 2, .tmp 3, .tmp 4] K) (blkK 0 (fun e w => Y1 w) noE) := by intro Y0 Y1; kernel_rfl
  exact Eq.mp (e1 (fun a0 a5 w => F213_2L m a0 a5 w K) (fun w => F213_3 w K)) h
def F213_1b (s0 : Value) (w : World) (_K : V1) (Y0 : V2) : Prop :=
Y0 s0 (.int .i64 1) w
def F213_1 (s0 : Value) (w : World) (K : V1) : Prop := F213_1b s0 w K (fun a0 a5 w => F213_2 a0 a5 w K)
theorem ok213_1 {K : V1}
    (hn : HN (fun e w => K (.tuple #[(e 2), (e 3), (e 4)]) w) kn) (hr : HR Tryz.prog [.tmp 2, .tmp 3, .tmp 4] K kr) (he : HE noE ke) :
    ∀ e w, F213_1 (e 0) w K → denL Tryz.prog (tabOf T213) 32 fuel ((flat (bodyOf Tryz.f213)).drop 0) e w kn kr ke := by
  intro e w h
  unfold F213_1 at h
  have e1 : ∀ (Y0 : V2), F213_1b (e 0) w K Y0 = denL Tryz.prog (tabOf T213) 32 fuel (((flat (bodyOf Tryz.f213)).drop 0).take 2) e w (fun e w => Y0 (e 0) (e 5) w) (endD Tryz.prog [.tmp 2, .tmp 3, .tmp 4] K) noE := by intro Y0; kernel_rfl
  exact seg 2 (Eq.mp (e1 (fun a0 a5 w => F213_2 a0 a5 w K)) h) (fun e w h => ok213_2 hn hr he e w h) hr he
def F213 (x0 : Value) (w : World) (K : V1) : Prop := F213_1 x0 w K
def G213 : FnT := fun args w K => on1 (fun x0 => F213 x0 w K) args
theorem c213 {x0 : Value} {w : World} {K : V1} (h : F213 x0 w K) : callP G213 [x0] w K := callP_intro (on1_mk (p := fun x0 => F213 x0 w K) h)
theorem ok213 : OkF Tryz.prog 213 G213 := by
  refine okF_of (tab_ok (l := T213) ⟨ok249, ok250, ok251, trivial⟩) mixed (n := fuel) Tryz.func213 Tryz.call213 fun args w K h => ?_
  obtain ⟨x0, rfl, hh⟩ := of_on1 h
  unfold F213 at hh
  exact fnD_list (c := bodyOf Tryz.f213) (by kernel_rfl) (by kernel_rfl) (ok213_1 (fun _ _ h => h) (fun _ _ h => h) (fun _ _ _ h => h) (initE [x0]) w hh)
def T166 : List (Nat × FnT) := [(213, G213)]
def F166_3b (s4 : Value) (w : World) (K : V1) : Prop :=
K (.tuple #[s4, (.int .i64 0)]) w
def F166_3 (s4 : Value) (w : World) (K : V1) : Prop := F166_3b s4 w K
theorem ok166_3 {K : V1}
    (hn : HN (fun e w => K (.tuple #[(e 2), (e 3)]) w) kn) (hr : HR Tryz.prog [.tmp 2, .tmp 3] K kr) (he : HE noE ke) :
    ∀ e w, F166_3 (e 4) w K → denL Tryz.prog (tabOf T166) 32 fuel ((flat (bodyOf Tryz.f166)).drop 4) e w kn kr ke := by
  intro e w h
  unfold F166_3 at h
  have e1 : ∀ (_ : Unit), F166_3b (e 4) w K = denL Tryz.prog (tabOf T166) 32 fuel ((flat (bodyOf Tryz.f166)).drop 4) e w (fun e w => K (.tuple #[(e 2), (e 3)]) w) (endD Tryz.prog [.tmp 2, .tmp 3] K) noE := by intro _; kernel_rfl
  exact seg_end (Eq.mp (e1 ()) h) hn hr he
def F166_2b (s0 s4 s5 : Value) (w : World) (K : V1) (Y0 : V3) (Y1 : V1) : Prop :=
bindP (lenS s0) fun v1 =>
bindP (bLt s5 v1) fun v2 =>
ifB v2 (
bindP (pSliceS s0 (some s5) none) fun v3 =>
callP G213 [v3] w fun v5 w4 =>
bindP (pTuple v5 0) fun v6 =>
bindP (pTuple v5 1) fun v7 =>
bindP (pTuple v5 2) fun v8 =>
bindP (bNe Tryz.prog 39 (.tmp 21) (.const (.int .i64 0)) v8 (.int .i64 0)) fun v9 =>
ifB v9 (
K (.tuple #[(.slice none 0 0), v8]) w4) (
eBuildSl Tryz.prog 269 1 [(0, v6)] w4 fun v11 w10 =>
eAppend Tryz.prog 269 269 s4 v11 w10 fun v13 w12 =>
bindP (bAdd s5 v7) fun v14 =>
Y0 s0 v13 v14 w12)) (
Y1 s4 w)
def F166_2L : Nat → Value → Value → Value → World → (V1) → Prop
  | 0, _, _, _, _, _ => False
  | n + 1, s0, s4, s5, w, K => F166_2b s0 s4 s5 w K (fun a0 a4 a5 w => F166_2L n a0 a4 a5 w K) (fun a4 w => F166_3 a4 w K)
def F166_2 (s0 s4 s5 : Value) (w : World) (K : V1) : Prop := F166_2L fuel s0 s4 s5 w K
theorem ok166_2 {K : V1}
    (hn : HN (fun e w => K (.tuple #[(e 2), (e 3)]) w) kn) (hr : HR Tryz.prog [.tmp 2, .tmp 3] K kr) (he : HE noE ke) :
    ∀ e w, F166_2 (e 0) (e 4) (e 5) w K → denL Tryz.prog (tabOf T166) 32 fuel ((flat (bodyOf Tryz.f166)).drop 3) e w kn kr ke := by
  intro e w h
  unfold F166_2 at h
  refine seg_loop (id := 0) (body := (loopB (blkB (nthC (flat (bodyOf Tryz.f166)) 3)))) (l2 := (flat (bodyOf Tryz.f166)).drop 4) (by kernel_rfl) ?_
  refine loop_ok (FL := fun m e w => F166_2L m (e 0) (e 4) (e 5) w K) (fr := endD Tryz.prog [.tmp 2, .tmp 3] K) (fe := (blkK 0 (fun e w => F166_3 (e 4) w K) noE)) (fun _ _ h => h) ?_ hr (blkK_mono (fun e w h => ok166_3 hn hr he e w h) he) fuel e w h
  intro m e w h
  have h : F166_2L (m + 1) (e 0) (e 4) (e 5) w K := h
  rw [F166_2L] at h
  have e1 : ∀ (Y0 : V3) (Y1 : V1), F166_2b (e 0) (e 4) (e 5) w K Y0 Y1 = denL Tryz.prog (tabOf T166) 32 fuel (flat (loopB (blkB (nthC (flat (bodyOf Tryz.f166)) 3)))) e w (fun e w => Y0 (e 0) (e 4) (e 5) w) (endD Tryz.prog [.tmp 2, .tmp 3] K) (blkK 0 (fun e w => Y1 (e 4) w) noE) := by intro Y0 Y1; kernel_rfl
  exact Eq.mp (e1 (fun a0 a4 a5 w => F166_2L m a0 a4 a5 w K) (fun a4 w => F166_3 a4 w K)) h
def F166_1b (s0 : Value) (w : World) (_K : V1) (Y0 : V3) : Prop :=
Y0 s0 (.slice none 0 0) (.int .i64 0) w
def F166_1 (s0 : Value) (w : World) (K : V1) : Prop := F166_1b s0 w K (fun a0 a4 a5 w => F166_2 a0 a4 a5 w K)
theorem ok166_1 {K : V1}
    (hn : HN (fun e w => K (.tuple #[(e 2), (e 3)]) w) kn) (hr : HR Tryz.prog [.tmp 2, .tmp 3] K kr) (he : HE noE ke) :
    ∀ e w, F166_1 (e 0) w K → denL Tryz.prog (tabOf T166) 32 fuel ((flat (bodyOf Tryz.f166)).drop 0) e w kn kr ke := by
  intro e w h
  unfold F166_1 at h
  have e1 : ∀ (Y0 : V3), F166_1b (e 0) w K Y0 = denL Tryz.prog (tabOf T166) 32 fuel (((flat (bodyOf Tryz.f166)).drop 0).take 3) e w (fun e w => Y0 (e 0) (e 4) (e 5) w) (endD Tryz.prog [.tmp 2, .tmp 3] K) noE := by intro Y0; kernel_rfl
  exact seg 3 (Eq.mp (e1 (fun a0 a4 a5 w => F166_2 a0 a4 a5 w K)) h) (fun e w h => ok166_2 hn hr he e w h) hr he
def F166 (x0 : Value) (w : World) (K : V1) : Prop := F166_1 x0 w K
def G166 : FnT := fun args w K => on1 (fun x0 => F166 x0 w K) args
theorem c166 {x0 : Value} {w : World} {K : V1} (h : F166 x0 w K) : callP G166 [x0] w K := callP_intro (on1_mk (p := fun x0 => F166 x0 w K) h)
theorem ok166 : OkF Tryz.prog 166 G166 := by
  refine okF_of (tab_ok (l := T166) ⟨ok213, trivial⟩) mixed (n := fuel) Tryz.func166 Tryz.call166 fun args w K h => ?_
  obtain ⟨x0, rfl, hh⟩ := of_on1 h
  unfold F166 at hh
  exact fnD_list (c := bodyOf Tryz.f166) (by kernel_rfl) (by kernel_rfl) (ok166_1 (fun _ _ h => h) (fun _ _ h => h) (fun _ _ _ h => h) (initE [x0]) w hh)
def T114 : List (Nat × FnT) := [(166, G166)]
def F114_3b (s0 s1 s6 : Value) (w : World) (K : V1) : Prop :=
bindP (bEq Tryz.prog 39 (.tmp 31) (.const (.int .i64 0)) s6 (.int .i64 0)) fun v1 =>
stepM (gd true v1) s0 fun v2 =>
Sx.stepG (gd true v1) (lenS v2) fun v3 =>
stepM (gd true v1) s1 fun v4 =>
Sx.stepG (gd true v1) (bLe v3 v4) fun v5 =>
bindP (pPick v1 v5 (.bool false)) fun v6 =>
K v6 w
def F114_3 (s0 s1 s6 : Value) (w : World) (K : V1) : Prop := F114_3b s0 s1 s6 w K
theorem ok114_3 {K : V1}
    (hn : HN (fun e w => K (e 4) w) kn) (hr : HR Tryz.prog [.tmp 4] K kr) (he : HE noE ke) :
    ∀ e w, F114_3 (e 0) (e 1) (e 6) w K → denL Tryz.prog (tabOf T114) 39 fuel ((flat (bodyOf Tryz.f114)).drop 4) e w kn kr ke := by
  intro e w h
  unfold F114_3 at h
  have e1 : ∀ (_ : Unit), F114_3b (e 0) (e 1) (e 6) w K = denL Tryz.prog (tabOf T114) 39 fuel ((flat (bodyOf Tryz.f114)).drop 4) e w (fun e w => K (e 4) w) (endD Tryz.prog [.tmp 4] K) noE := by intro _; kernel_rfl
  exact seg_end (Eq.mp (e1 ()) h) hn hr he
def F114_2b (s0 s1 s5 s6 s7 : Value) (w : World) (K : V1) (Y0 : V5) (Y1 : V3) : Prop :=
bindP (lenL s5) fun v7 =>
bindP (bLt s7 v7) fun v8 =>
ifB v8 (
bindP (pIndexL 1 s5 s7) fun v9 =>
bindP (ld1 v9 w) fun v10 =>
bindP (bLt v10 (.int .i64 32)) fun v11 =>
stepM (gd false v11) s5 fun v12 =>
stepM (gd false v11) s7 fun v13 =>
Sx.stepG (gd false v11) (pIndexL 1 v12 v13) fun v14 =>
Sx.stepG (gd false v11) (ld1 v14 w) fun v15 =>
Sx.stepG (gd false v11) (bEq Tryz.prog 3 (.tmp 28) (.const (.int .i64 127)) v15 (.int .i64 127)) fun v16 =>
bindP (pPick v11 (.bool true) v16) fun v17 =>
ifB v17 (
K (.bool false) w) (
bindP (bAdd s7 (.int .i64 1)) fun v18 =>
Y0 s0 s1 s5 s6 v18 w)) (
Y1 s0 s1 s6 w)
def F114_2L : Nat → Value → Value → Value → Value → Value → World → (V1) → Prop
  | 0, _, _, _, _, _, _, _ => False
  | n + 1, s0, s1, s5, s6, s7, w, K => F114_2b s0 s1 s5 s6 s7 w K (fun a0 a1 a5 a6 a7 w => F114_2L n a0 a1 a5 a6 a7 w K) (fun a0 a1 a6 w => F114_3 a0 a1 a6 w K)
def F114_2 (s0 s1 s5 s6 s7 : Value) (w : World) (K : V1) : Prop := F114_2L fuel s0 s1 s5 s6 s7 w K
theorem ok114_2 {K : V1}
    (hn : HN (fun e w => K (e 4) w) kn) (hr : HR Tryz.prog [.tmp 4] K kr) (he : HE noE ke) :
    ∀ e w, F114_2 (e 0) (e 1) (e 5) (e 6) (e 7) w K → denL Tryz.prog (tabOf T114) 39 fuel ((flat (bodyOf Tryz.f114)).drop 3) e w kn kr ke := by
  intro e w h
  unfold F114_2 at h
  refine seg_loop (id := 0) (body := (loopB (blkB (nthC (flat (bodyOf Tryz.f114)) 3)))) (l2 := (flat (bodyOf Tryz.f114)).drop 4) (by kernel_rfl) ?_
  refine loop_ok (FL := fun m e w => F114_2L m (e 0) (e 1) (e 5) (e 6) (e 7) w K) (fr := endD Tryz.prog [.tmp 4] K) (fe := (blkK 0 (fun e w => F114_3 (e 0) (e 1) (e 6) w K) noE)) (fun _ _ h => h) ?_ hr (blkK_mono (fun e w h => ok114_3 hn hr he e w h) he) fuel e w h
  intro m e w h
  have h : F114_2L (m + 1) (e 0) (e 1) (e 5) (e 6) (e 7) w K := h
  rw [F114_2L] at h
  have e1 : ∀ (Y0 : V5) (Y1 : V3), F114_2b (e 0) (e 1) (e 5) (e 6) (e 7) w K Y0 Y1 = denL Tryz.prog (tabOf T114) 39 fuel (flat (loopB (blkB (nthC (flat (bodyOf Tryz.f114)) 3)))) e w (fun e w => Y0 (e 0) (e 1) (e 5) (e 6) (e 7) w) (endD Tryz.prog [.tmp 4] K) (blkK 0 (fun e w => Y1 (e 0) (e 1) (e 6) w) noE) := by intro Y0 Y1; kernel_rfl
  exact Eq.mp (e1 (fun a0 a1 a5 a6 a7 w => F114_2L m a0 a1 a5 a6 a7 w K) (fun a0 a1 a6 w => F114_3 a0 a1 a6 w K)) h
def F114_1b (s0 s1 : Value) (w : World) (_K : V1) (Y0 : V5) : Prop :=
callP G166 [s0] w fun v20 w19 =>
bindP (pTuple v20 0) fun v21 =>
bindP (pTuple v20 1) fun v22 =>
Y0 s0 s1 v21 v22 (.int .i64 0) w19
def F114_1 (s0 s1 : Value) (w : World) (K : V1) : Prop := F114_1b s0 s1 w K (fun a0 a1 a5 a6 a7 w => F114_2 a0 a1 a5 a6 a7 w K)
theorem ok114_1 {K : V1}
    (hn : HN (fun e w => K (e 4) w) kn) (hr : HR Tryz.prog [.tmp 4] K kr) (he : HE noE ke) :
    ∀ e w, F114_1 (e 0) (e 1) w K → denL Tryz.prog (tabOf T114) 39 fuel ((flat (bodyOf Tryz.f114)).drop 0) e w kn kr ke := by
  intro e w h
  unfold F114_1 at h
  have e1 : ∀ (Y0 : V5), F114_1b (e 0) (e 1) w K Y0 = denL Tryz.prog (tabOf T114) 39 fuel (((flat (bodyOf Tryz.f114)).drop 0).take 3) e w (fun e w => Y0 (e 0) (e 1) (e 5) (e 6) (e 7) w) (endD Tryz.prog [.tmp 4] K) noE := by intro Y0; kernel_rfl
  exact seg 3 (Eq.mp (e1 (fun a0 a1 a5 a6 a7 w => F114_2 a0 a1 a5 a6 a7 w K)) h) (fun e w h => ok114_2 hn hr he e w h) hr he
def F114 (x0 x1 : Value) (w : World) (K : V1) : Prop := F114_1 x0 x1 w K
def G114 : FnT := fun args w K => on2 (fun x0 x1 => F114 x0 x1 w K) args
theorem c114 {x0 x1 : Value} {w : World} {K : V1} (h : F114 x0 x1 w K) : callP G114 [x0, x1] w K := callP_intro (on2_mk (p := fun x0 x1 => F114 x0 x1 w K) h)
theorem ok114 : OkF Tryz.prog 114 G114 := by
  refine okF_of (tab_ok (l := T114) ⟨ok166, trivial⟩) mixed (n := fuel) Tryz.func114 Tryz.call114 fun args w K h => ?_
  obtain ⟨x0, x1, rfl, hh⟩ := of_on2 h
  unfold F114 at hh
  exact fnD_list (c := bodyOf Tryz.f114) (by kernel_rfl) (by kernel_rfl) (ok114_1 (fun _ _ h => h) (fun _ _ h => h) (fun _ _ _ h => h) (initE [x0, x1]) w hh)
def T71 : List (Nat × FnT) := [(114, G114)]
def F71 (x0 : Value) (w : World) (K : V1) : Prop :=
eBox 43 x0 w fun v2 w1 =>
bindP (pFieldAddr 0 v2) fun v3 =>
bindP (ld1 v3 w1) fun v4 =>
bindP (bEq Tryz.prog 9 (.tmp 4) (.const (.string ⟨#[]⟩)) v4 (.string ⟨#[]⟩)) fun v5 =>
Sx.stepG (gd false v5) (pFieldAddr 1 v2) fun v6 =>
Sx.stepG (gd false v5) (ld1 v6 w1) fun v7 =>
Sx.stepG (gd false v5) (bEq Tryz.prog 9 (.tmp 8) (.const (.string ⟨#[]⟩)) v7 (.string ⟨#[]⟩)) fun v8 =>
bindP (pPick v5 (.bool true) v8) fun v9 =>
Sx.stepG (gd false v9) (pFieldAddr 0 v2) fun v10 =>
Sx.stepG (gd false v9) (ld1 v10 w1) fun v11 =>
stepE (gd false v9) (fun k => callP G114 [v11, (.int .i64 64)] w1 k) w1 fun v13 w12 =>
Sx.stepG (gd false v9) (uNot v13) fun v14 =>
bindP (pPick v9 (.bool true) v14) fun v15 =>
Sx.stepG (gd false v15) (pFieldAddr 1 v2) fun v16 =>
Sx.stepG (gd false v15) (ld1 v16 w12) fun v17 =>
stepE (gd false v15) (fun k => callP G114 [v17, (.int .i64 64)] w12 k) w12 fun v19 w18 =>
Sx.stepG (gd false v15) (uNot v19) fun v20 =>
bindP (pPick v15 (.bool true) v20) fun v21 =>
Sx.stepG (gd false v21) (pFieldAddr 2 v2) fun v22 =>
Sx.stepG (gd false v21) (ld1 v22 w18) fun v23 =>
stepE (gd false v21) (fun k => callP G114 [v23, (.int .i64 128)] w18 k) w18 fun v25 w24 =>
Sx.stepG (gd false v21) (uNot v25) fun v26 =>
bindP (pPick v21 (.bool true) v26) fun v27 =>
Sx.stepG (gd false v27) (pFieldAddr 4 v2) fun v28 =>
Sx.stepG (gd false v27) (ld1 v28 w24) fun v29 =>
stepE (gd false v27) (fun k => callP G114 [v29, (.int .i64 1024)] w24 k) w24 fun v31 w30 =>
Sx.stepG (gd false v27) (uNot v31) fun v32 =>
bindP (pPick v27 (.bool true) v32) fun v33 =>
Sx.stepG (gd false v33) (pFieldAddr 3 v2) fun v34 =>
Sx.stepG (gd false v33) (ld1 v34 w30) fun v35 =>
Sx.stepG (gd false v33) (bLt v35 (.int .i64 0)) fun v36 =>
bindP (pPick v33 (.bool true) v36) fun v37 =>
Sx.stepG (gd false v37) (pFieldAddr 3 v2) fun v38 =>
Sx.stepG (gd false v37) (ld1 v38 w30) fun v39 =>
Sx.stepG (gd false v37) (bGt v39 (.int .i64 5)) fun v40 =>
bindP (pPick v37 (.bool true) v40) fun v41 =>
ifB v41 (
K (.int .i64 180) w30) (
K (.int .i64 0) w30)
def G71 : FnT := fun args w K => on1 (fun x0 => F71 x0 w K) args
theorem c71 {x0 : Value} {w : World} {K : V1} (h : F71 x0 w K) : callP G71 [x0] w K := callP_intro (on1_mk (p := fun x0 => F71 x0 w K) h)
theorem ok71 : OkF Tryz.prog 71 G71 := by
  refine okF_of (tab_ok (l := T71) ⟨ok114, trivial⟩) mixed (n := fuel) Tryz.func71 Tryz.call71 fun args w K h => ?_
  obtain ⟨x0, rfl, hh⟩ := of_on1 h
  exact fnD_list (c := bodyOf Tryz.f71) (by kernel_rfl) (by kernel_rfl) (Eq.mp (by kernel_rfl) hh)
end Go.Proofs.Gong
