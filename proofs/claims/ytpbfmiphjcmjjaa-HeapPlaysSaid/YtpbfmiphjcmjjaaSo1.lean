/- A part of the proofs: what stands below it, told in lemmas. No condition. -/
import Derived.Test.YtpbfmiphjcmjjaaSz12
import Derived.Shelf.SlSortCmp.WholeK
import Derived.Shelf.SlSortCmp.NoneTotal
set_option linter.all false
namespace Go.Sx
open Go.Proofs (CmpLays)
/-! slices.SortFunc over structs, by the kit's contract, in the words of parts that lie apart -/
section
variable {α : Type} [Inhabited α] {f : α → List Value} {es : Nat}
theorem flatK_eq (C : Cod f es) (l : List α) : Go.Sort.flatK f es l.toArray = (l.flatMap f).toArray := by
  refine Go.Sort.ext_get! (by rw [Go.Sort.size_flatK]; simp [flat_len C l]) fun t ht => ?_
  rw [Go.Sort.size_flatK, List.size_toArray] at ht
  rw [Go.Sort.get_flatK _ _ _ _ (by simpa using ht)]
  have hm := Nat.mod_lt t C.pos
  have hi : t / es < l.length := by rw [Nat.div_lt_iff_lt_mul C.pos]; exact ht
  have h1 := flat_at C.len l (t / es) hi
  have h2 : (l.flatMap f)[t]? = (f l[t / es])[t % es]? := by
    rw [← h1, List.getElem?_take, if_pos hm, List.getElem?_drop, Nat.div_add_mod']
  have h3 : t < (l.flatMap f).length := by rw [flat_len C]; exact ht
  have h4 : t % es < (f l[t / es]).length := by rw [C.len]; exact hm
  rw [List.getElem?_eq_getElem h3, List.getElem?_eq_getElem h4] at h2
  have e1 : l.toArray[t / es]! = l[t / es] := by rw [getElem!_pos l.toArray (t / es) (by simpa using hi)]; simp
  rw [e1, getElem!_pos (f l[t / es]) (t % es) h4, getElem!_pos (l.flatMap f).toArray t (by simpa using h3)]
  simp only [List.getElem_toArray]
  exact (Option.some.inj h2).symm
theorem holds_of {w : World} {b o : Nat} {a : Array Value} {ty : TypeId} {l : List α} (C : Cod f es) (hb : w.heap[b]? = some (.cells a ty (0, 0))) (hc : l.flatMap f = (a.toList.drop o).take (l.length * es)) (ha : o + l.length * es ≤ a.size) : Go.Sort.HoldsK f es w b o l.toArray := by
  unfold Go.Sort.HoldsK
  rw [flatK_eq C]
  intro j hj
  have hj : j < l.length * es := by simpa [flat_len C l] using hj
  have hj2 : j < (l.flatMap f).length := by rw [flat_len C]; exact hj
  refine ⟨?_, by simp [World.frozen?, hb]⟩
  rw [cell_of hb, getElem!_pos _ _ (by simpa using hj2)]
  simp only [List.getElem_toArray, id]
  have : (l.flatMap f)[j]? = a.toList[o + j]? := by rw [hc, List.getElem?_take, if_pos hj, List.getElem?_drop]
  rw [List.getElem?_eq_getElem hj2] at this
  rw [this]; simp
theorem heap_put {w : World} {b o : Nat} {F : Array Value} (i : Nat) : (Go.Sort.putRow id w b o F).heap[i]? = if i = b then (w.heap[b]?).map (Go.Sort.onCells (Go.Sort.putCells id o F)) else w.heap[i]? := by
  unfold Go.Sort.putRow Go.Sort.mapBlock
  simp only [Array.getElem?_modify]
  by_cases h : i = b
  · subst h; simp
  · rw [if_neg (fun e => h e.symm), if_neg h]
theorem sortW {w : World} {b o q : Nat} {a : Array Value} {ty : TypeId} {l l' : List α} {os : Array Obj} (C : Cod f es) (hb : w.heap[b]? = some (.cells a ty (0, 0))) (hlen : l'.length = l.length) (ha : o + l.length * es ≤ a.size) :
    ∃ a' : Array Value, (Go.Proofs.sortWorldK f es w b o q l'.toArray os).heap[b]? = some (.cells a' ty (0, 0)) ∧ a'.size = a.size ∧ l'.flatMap f = (a'.toList.drop o).take (l.length * es) ∧ Stp [b] [b] w (Go.Proofs.sortWorldK f es w b o q l'.toArray os) := by
  have hlt := lt_of_blk hb
  have heap : ∀ i, i < w.heap.size → (Go.Proofs.sortWorldK f es w b o q l'.toArray os).heap[i]? = (Go.Sort.putRow id w b o (l'.flatMap f).toArray).heap[i]? := by
    intro i hi
    show (((Go.Sort.putRowK f es (Go.Sort.ahead w q) b o l'.toArray).heap) ++ os)[i]? = _
    have hs : (Go.Sort.putRowK f es (Go.Sort.ahead w q) b o l'.toArray).heap.size = w.heap.size := by
      unfold Go.Sort.putRowK Go.Sort.putRow Go.Sort.mapBlock Go.Sort.ahead; simp
    rw [Array.getElem?_append_left (by rw [hs]; exact hi)]
    unfold Go.Sort.putRowK
    rw [flatK_eq C, heap_put, heap_put]
    rfl
  have hsz : w.heap.size ≤ (Go.Proofs.sortWorldK f es w b o q l'.toArray os).heap.size := by
    show _ ≤ (((Go.Sort.putRowK f es (Go.Sort.ahead w q) b o l'.toArray).heap) ++ os).size
    have hs : (Go.Sort.putRowK f es (Go.Sort.ahead w q) b o l'.toArray).heap.size = w.heap.size := by
      unfold Go.Sort.putRowK Go.Sort.putRow Go.Sort.mapBlock Go.Sort.ahead; simp
    rw [Array.size_append, hs]; omega
  refine ⟨Go.Sort.putCells id o (l'.flatMap f).toArray a, ?_, by simp [Go.Sort.putCells], ?_, ⟨⟨rfl, rfl, rfl, hsz, fun i hi hn => ?_⟩, fun x hx => .inl hx⟩⟩
  · rw [heap b hlt, heap_put, if_pos rfl, hb]; rfl
  · have hl' : (l'.flatMap f).length = l.length * es := by rw [flat_len C, hlen]
    apply List.ext_getElem?
    intro i
    rw [List.getElem?_take]
    by_cases hi : i < l.length * es
    · rw [if_pos hi, List.getElem?_drop]
      have h1 : o + i < a.size := by omega
      have h2 : i < (l'.flatMap f).length := by omega
      rw [List.getElem?_eq_getElem h2, Array.getElem?_toList]
      simp only [Go.Sort.putCells, Array.getElem?_mapIdx, Array.getElem?_eq_getElem h1, Option.map_some]
      rw [if_pos ⟨by omega, by rw [List.size_toArray]; omega⟩]
      simp only [id, Nat.add_sub_cancel_left]
      rw [getElem!_pos _ _ (by simpa using h2)]
      simp
    · rw [if_neg hi, List.getElem?_eq_none (by omega)]
  · rw [heap i hi, heap_put, if_neg (by simpa using hn)]
end
/-- nothing that lay before is touched: blocks behind, draws -/
def Gr (W W' : World) : Prop := ∃ q os', W' = Go.Sort.grow (W.drewN q) os'
theorem Gr.refl (W : World) : Gr W W := ⟨0, #[], by rw [Go.Sort.grow_empty]; rfl⟩
theorem Gr.alloc {W W' : World} (h : Gr W W') (o : Obj) : Gr W (W'.alloc o) := by
  obtain ⟨q, os, rfl⟩ := h
  exact ⟨q, os ++ #[o], by rw [Go.Sort.alloc_eq_grow, Go.Sort.grow_grow]⟩
theorem Gr.drew {W W' : World} (h : Gr W W') : Gr W W'.drew := by
  obtain ⟨q, os, rfl⟩ := h
  exact ⟨q + 1, os, rfl⟩
section
variable {w0 w W : World} {L : List HP} {K : Value → World → Prop}
theorem eBox_ex {t : TypeId} {v : Value} (h : Sat w0 L w) (g : Gr W w) (hK : ∀ p w', Sat w0 (Cl p v.cells t :: L) w' → Gr W w' → K (ptr p) w') : eBox t v w K := hK _ _ (h.alloc _) (g.alloc _)
theorem eBuildSl_ex {α : Type} {f : α → List Value} {es : Nat} {P : Program} {t ty : TypeId} {m : List α} {parts : List (Nat × Value)} {c : Array Value} (C : Cod f es) (h : Sat w0 L w) (g : Gr W w) (hu : P.underlying t = some (.slice ty)) (hc : fBuildSl P ty m.length parts = some c) (hm : c.toList = m.flatMap f)
    (hK : ∀ s w', Sat w0 (LsH f es ty s m :: L) w' → Gr W w' → K s w') : eBuildSl P t m.length parts w K := by
  have key : eBuildSl P t m.length parts w fun s w' => Sat w0 (LsH f es ty s m :: L) w' := ls_lit C h hu hc hm fun s w' h => h
  unfold eBuildSl at key ⊢
  rw [hu] at key ⊢
  simp only [hc] at key ⊢
  exact hK _ _ key (g.alloc _)
end
theorem swo_of {α : Type} {lt : α → α → Bool} (S : SWO lt) : Go.Sort.SWO lt := ⟨S.irr, fun x y z h1 h2 => S.lt_le h1 (by
    cases h : lt z y with
    | false => rfl
    | true => have := S.asym _ _ h2; rw [this] at h; cases h), fun x y z h1 h2 => by
    cases h : lt x z with
    | false => rfl
    | true =>
      have := S.lt_le h h2
      rw [h1] at this; cases this⟩
def gSortF (P : Program) (es : Nat) (ty : TypeId) : FnT := fun args w K => ∃ (α : Type) (_ : Inhabited α) (f : α → List Value) (cf : α → α → Int) (lt : α → α → Bool) (g : Nat) (v : Value) (w0 : World) (L : List HP) (l : List α),
  args = [v, .func (.func g) #[] #[]] ∧ Cod f es ∧ Go.Sort.SWO (Go.Proofs.ltOf cf) ∧ (∀ x y, Go.Proofs.ltOf cf x y = lt x y) ∧ (∀ args w, (callFunc g args).run P w = .ok (.enter g args) w) ∧
  (∀ (W : World) (x y : α), Calls P g #[.agg (f x).toArray, .agg (f y).toArray] W fun e W' => e = .returned (.int .i64 (cf x y)) ∧ Gr W W') ∧
  Sat w0 (LsH f es ty v l :: L) w ∧ l.length < 4611686018427387904 ∧ ∀ l' w', l'.Perm l → l'.Pairwise (fun x y => lt y x = false) → Sat w0 (LsH f es ty v l' :: L) w' → K (.tuple #[]) w'
theorem okSortF {P : Program} {ρ : Go.Shelf.Ren} (S : Go.Proofs.SlLaysF0.n6 P ρ) {es : Nat} {ty : TypeId} (aE : ∀ w, (isAgg (ρ.t 24)).run P w = .ok true w) (zE : ∀ w, (Go.sizeOf (ρ.t 24)).run P w = .ok es w)
    (ef : ∀ args w, (callFunc (ρ.f 6) args).run P w = .ok (.enter (ρ.f 6) args) w) : OkF P (ρ.f 6) (gSortF P es ty) := by
  intro args w K ⟨α, inst, f, cf, lt, g, v, w0, L, l, ha, C, hO, hlt, eg, hcmp, hs, hlen, hk⟩
  subst ha
  refine .inl ⟨ef _ _, ?_⟩
  obtain ⟨fp, hO', kk⟩ := Sat.own hs
  generalize hcs : l.flatMap f = cs at hO'
  generalize hn' : l.length = n at hO'
  cases hO' with
  | nil =>
    obtain rfl : l = [] := List.eq_nil_of_length_eq_zero hn'
    refine (Go.Proofs.AnyF.slices_SortFunc_none S none 0 (.func (.func g) #[] #[]) w).mono fun e w' ⟨he, hw⟩ => ?_
    subst hw
    exact ⟨_, he, hk [] w' (.refl _) .nil hs⟩
  | blk hb hn ha hc =>
    rename_i b o cap a
    subst hn'
    have h2 := Nat.mul_le_mul_right es hn
    have hH : Go.Sort.HoldsK f es w b o l.toArray := holds_of C hb (by rw [hcs]; exact hc) (by omega)
    have hcon := Go.Proofs.AnyQ.slices_SortFunc S es aE zE f C.len (fun x v hv => List.all_eq_true.1 (C.one x) v hv) cf hO g #[] b o cap l.toArray w eg
      (fun m os dk hd x y => hcmp _ x y) hH (lt_of_blk hb) (by simpa using hlen)
    rw [List.size_toArray] at hcon
    refine hcon.mono fun e w' ⟨he, d', q, os, hp, hsr, hw⟩ => ?_
    obtain ⟨l', rfl⟩ : ∃ l' : List α, d' = l'.toArray := ⟨d'.toList, by simp⟩
    obtain ⟨hp1, _, hp3⟩ := hp
    have hlen' : l'.length = l.length := by simpa using hp1
    have hperm : l'.Perm l := by
      have := hp3
      simp only [List.extract_toArray, List.extract_eq_take_drop] at this
      simpa [List.take_of_length_le, hlen'] using this
    obtain ⟨a', hb', hs', hc', hst⟩ := sortW (q := q) (os := os) C hb hlen' (by omega : o + l.length * es ≤ a.size)
    refine ⟨_, he, hk l' w' hperm ?_ ?_⟩
    · rw [List.pairwise_iff_getElem]
      intro i j hi hj hij
      have := hsr i j (Nat.zero_le _) hij (by omega)
      rw [hlt, getElem!_pos _ _ (by simpa using hj), getElem!_pos _ _ (by simpa using hi)] at this
      simpa using this
    · rw [hw]
      have := kk _ [b] (.slice (some ⟨b, o, none⟩) l.length cap) l.length (l'.flatMap f) es ty (.blk hb' hn (by omega) (by rw [hc'])) hst
      unfold LsH
      rw [hlen']; exact this
theorem calls_of {P : Program} {i : Nat} {G : FnT} (ok : OkF P i G) (hc : ∀ args w, (callFunc i args).run P w = .ok (.enter i args) w) {args : List Value} {W : World} {r : Value} (h : callP G args W fun v w' => v = r ∧ Gr W w') :
    Calls P i args.toArray W fun e w' => e = .returned r ∧ Gr W w' := by
  obtain ⟨k0, h0, hk⟩ := h
  rcases (ok _ _ _ h0) with ⟨_, hC⟩ | ⟨v, w', hr, _⟩
  · exact hC.mono fun e w' ⟨v, he, hv⟩ => ⟨by rw [he, (hk _ _ hv).1], (hk _ _ hv).2⟩
  · rw [hc] at hr; cases hr
section
variable {α : Type} [Inhabited α] {f : α → List Value} {es : Nat}
/-- a call of the sort -/
theorem sortF_sat {P : Program} {g : Nat} {G : FnT} {ty : TypeId} {cf : α → α → Int} {lt : α → α → Bool} {v : Value} {l : List α} {w0 w : World} {L : List HP} {K : Value → World → Prop} (h : Sat w0 (LsH f es ty v l :: L) w) (hl : l.length < 4611686018427387904) (C : Cod f es)
    (S : SWO lt) (hlt : ∀ x y, cf x y < 0 ↔ lt x y = true) (ok : OkF P g G) (eg : ∀ args w, (callFunc g args).run P w = .ok (.enter g args) w)
    (hc : ∀ (W : World) (x y : α), callP G [.agg (f x).toArray, .agg (f y).toArray] W fun v w' => v = .int .i64 (cf x y) ∧ Gr W w')
    (hK : ∀ l' w', l'.Perm l → l'.Pairwise (fun x y => lt y x = false) → Sat w0 (LsH f es ty v l' :: L) w' → K (.tuple #[]) w') : callP (gSortF P es ty) [v, .func (.func g) #[] #[]] w K := by
  have e : ∀ x y, Go.Proofs.ltOf cf x y = lt x y := fun x y => by
    unfold Go.Proofs.ltOf
    rw [Bool.eq_iff_iff]; simp [hlt]
  have e2 : Go.Proofs.ltOf cf = lt := by funext x y; exact e x y
  exact callP_intro ⟨α, inferInstance, f, cf, lt, g, v, w0, L, l, rfl, C, by rw [e2]; exact swo_of S, e, eg, fun W x y => calls_of ok eg (hc W x y), h, hl, hK⟩
end
end Go.Sx
