/- A part of the proofs: what stands below it, told in lemmas. No condition. -/
import Derived.Test.YtpbfmiphjcmjjaaSx3
set_option linter.all false
namespace Go.Sx
variable {P : Program} {w : World}

/-! operations that turn the world -/
def setBlk (w : World) (b : Nat) (o : Obj) : World := { w with heap := w.heap.setIfInBounds b o }
def wr (c : Array Value) (o : Nat) : List Value → Array Value
  | [] => c
  | v :: r => wr (c.setIfInBounds o v) (o + 1) r
@[simp] theorem size_wr (l : List Value) : ∀ (c : Array Value) (o : Nat), (wr c o l).size = c.size := by
  induction l with
  | nil => intro c o; rfl
  | cons v l ih => intro c o; simp [wr, ih]
def stCells (w : World) (b o : Nat) (vs : List Value) : Option World := match w.heap[b]? with
  | some (.cells c ty fz) => if o + vs.length ≤ c.size ∧ (fz.2 ≤ fz.1 ∨ o + vs.length ≤ fz.1 ∨ fz.2 ≤ o) ∧ vs.all (·.oneCell') = true then
      some (setBlk w b (.cells (wr c o vs) ty fz)) else none
  | _ => none

theorem setBlk_get (w : World) (b : Nat) (o : Obj) (b' : Nat) : (setBlk w b o).heap[b']? = if b = b' then (if b < w.heap.size then some o else none) else w.heap[b']? := by
  simp only [setBlk, Array.getElem?_setIfInBounds]
theorem setBlk_setBlk (w : World) (b : Nat) (o o' : Obj) : setBlk (setBlk w b o) b o' = setBlk w b o' := by
  simp [setBlk, Array.setIfInBounds_setIfInBounds]
theorem lt_of_blk {b : Nat} {o : Obj} (h : w.heap[b]? = some o) : b < w.heap.size := by
  rcases Nat.lt_or_ge b w.heap.size with h' | h'
  · exact h'
  · simp [Array.getElem?_eq_none h'] at h
theorem setCell_eq {b i : Nat} {c : Array Value} {ty : TypeId} {fz : Nat × Nat} (hb : w.heap[b]? = some (.cells c ty fz)) (v : Value) :
    w.setCell ⟨b, i, none⟩ v = setBlk w b (.cells (c.setIfInBounds i v) ty fz) := by
  have hlt := lt_of_blk hb
  have he : w.heap.modify b (fun | .cells c elem frozen => .cells (c.setIfInBounds i v) elem frozen | o => o) = w.heap.setIfInBounds b (.cells (c.setIfInBounds i v) ty fz) := by
    apply Array.ext_getElem?
    intro j
    rw [Array.getElem?_modify, Array.getElem?_setIfInBounds]
    by_cases hj : b = j
    · subst hj; rw [if_pos rfl, if_pos rfl, hb, if_pos hlt]; rfl
    · rw [if_neg hj, if_neg hj]
  simp only [World.setCell, Option.isSome_none, Bool.false_eq_true, if_false, setBlk]
  exact congrArg (fun h => ({ w with heap := h } : World)) he

theorem storeCells_ok {b : Nat} {ty : TypeId} {fz : Nat × Nat} (o : Nat) : ∀ (vs : List Value) (w : World) (c : Array Value) (i : Nat), w.heap[b]? = some (.cells c ty fz) →
    o + i + vs.length ≤ c.size → (fz.2 ≤ fz.1 ∨ o + i + vs.length ≤ fz.1 ∨ fz.2 ≤ o + i) → vs.all (·.oneCell') = true →
    (storeCells ⟨b, o, none⟩ vs i).run P w = .ok () (setBlk w b (.cells (wr c (o + i) vs) ty fz)) := by
  intro vs
  induction vs with
  | nil =>
    intro w c i hb _ _ _
    have : setBlk w b (.cells (wr c (o + i) []) ty fz) = w := by
      have hlt := lt_of_blk hb
      simp only [wr, setBlk]
      have : w.heap.setIfInBounds b (.cells c ty fz) = w.heap := by
        apply Array.ext_getElem?
        intro j
        rw [Array.getElem?_setIfInBounds]
        split
        · rename_i h; subst h; exact hb.symm
        · rfl
      rw [this]
    rw [this]; simp [storeCells]
  | cons v vs ih =>
    intro w c i hb hsz hf hall
    simp only [List.all_cons, Bool.and_eq_true] at hall
    simp only [List.length_cons] at hsz hf
    have hadd : (⟨b, o, none⟩ : Addr).add i = ⟨b, o + i, none⟩ := by unfold Addr.add; split <;> simp_all
    have hc : w.cell? ⟨b, o + i, none⟩ = some (c[o + i]'(by omega)) := by simp [World.cell?, hb, show o + i < c.size by omega]
    have hfz : w.frozen? ⟨b, o + i, none⟩ = false := by
      simp only [World.frozen?, hb]
      rw [Bool.and_eq_false_iff, decide_eq_false_iff_not, decide_eq_false_iff_not]; omega
    simp only [storeCells, Sem.run_bind, hadd, run_store P w _ v _ hall.1, hc, hfz, Bool.false_eq_true, if_false, Result.andThen_ok]
    rw [setCell_eq hb]
    have hlt := lt_of_blk hb
    have hb' : (setBlk w b (.cells (c.setIfInBounds (o + i) v) ty fz)).heap[b]? = some (.cells (c.setIfInBounds (o + i) v) ty fz) := by
      rw [setBlk_get, if_pos rfl, if_pos hlt]
    rw [ih _ _ (i + 1) hb' (by simp; omega) (by omega) hall.2, setBlk_setBlk]
    rfl
theorem run_stCells {b o : Nat} {vs : List Value} {w' : World} (h : stCells w b o vs = some w') : (storeCells ⟨b, o, none⟩ vs).run P w = .ok () w' := by
  unfold stCells at h
  split at h
  · rename_i hb
    split at h
    · rename_i hc
      simp only [Option.some.injEq] at h; subst h
      have := storeCells_ok (P := P) o vs w _ 0 hb (by omega) (by omega) hc.2.2
      simpa using this
    · simp at h
  · simp at h

def fStore (P : Program) (t : TypeId) (a x : Value) (w : World) : Option World := match P.info? t with
  | some i => match a with
    | .pointer (some ⟨b, o, none⟩) => if x.cells.size = i.size then stCells w b o x.cells.toList else none
    | _ => none
  | none => none
theorem run_fStore {t : TypeId} {a x : Value} {w' : World} (h : fStore P t a x w = some w') : (Instr.storeAt t a x).run P w = .ok () w' := by
  unfold fStore at h
  split at h
  · rename_i i hi
    split at h
    · split at h
      · rename_i hs
        simp [Instr.storeAt, Instr.sureAddr, storeVar, sizeOf, run_typeInfo' hi, hs, run_stCells h]
      · simp at h
    · simp at h
  · simp at h

def ptr (b : Nat) : Value := .pointer (some ⟨b, 0, none⟩)
def sl (b len cap : Nat) : Value := .slice (some ⟨b, 0, none⟩) len cap
def eAlloc (P : Program) (t : TypeId) (w : World) (k : Value → World → Prop) : Prop := match fZero P t with
  | some z => k (ptr w.heap.size) (w.alloc (.cells z.cells t))
  | none => False
def eBox (t : TypeId) (v : Value) (w : World) (k : Value → World → Prop) : Prop := k (ptr w.heap.size) (w.alloc (.cells v.cells t))
def zcells (z : Array Value) (n : Nat) : Array Value := (Array.range n).map (z[· % z.size]!)
def zOf (P : Program) (el n : Nat) : Option (Array Value) := if n = 0 then some #[] else (fZero P el).map (·.cells)
def fBuildSl (P : Program) (el : TypeId) (len : Nat) (parts : List (Nat × Value)) : Option (Array Value) := match P.info? el with
  | some i => if len * i.size ≤ 2 ^ 24 then match zOf P el (len * i.size) with
      | some z => Instr.fill (fun j => some (j * i.size, i.size)) (zcells z (len * i.size)) parts
      | none => none
    else none
  | none => none
def eBuildSl (P : Program) (t : TypeId) (len : Nat) (parts : List (Nat × Value)) (w : World) (k : Value → World → Prop) : Prop := match P.underlying t with
  | some (.slice el) => match fBuildSl P el len parts with
    | some c => k (sl w.heap.size len len) (w.alloc (.cells c el))
    | none => False
  | _ => False
def eMakeMap (r : Option Value) (w : World) (k : Value → World → Prop) : Prop := match r with
  | none => k (.map (some w.heap.size)) (w.alloc (.map #[] 0))
  | some _ => False
def eMakeSl (P : Program) (t : TypeId) (l c : Value) (w : World) (k : Value → World → Prop) : Prop := match P.underlying t with
  | some (.slice el) => match P.info? el, l, c with
    | some i, .int .i64 l, .int .i64 c => 0 ≤ l ∧ l ≤ c ∧ c < 2 ^ 63 ∧ i.bytes * c ≤ 2 ^ 48 ∧
      match zOf P el (c.toNat * i.size) with
      | some z => k (sl w.heap.size l.toNat c.toNat) (w.alloc (.cells (zcells z (c.toNat * i.size)) el))
      | none => False
    | _, _, _ => False
  | _ => False

/-- the first n members of a slice (or bytes of a text), as cells -/
def firstC (size n : Nat) (x : Value) (w : World) : Option (Array Value) := match x with
  | .slice none _ _ => some #[]
  | .slice (some a) _ _ => if n * size = 0 then some #[] else match a with
    | ⟨b, o, none⟩ => match w.heap[b]? with
      | some (.cells c _ _) => if o + n * size ≤ c.size then some (c.extract o (o + n * size)) else none
      | _ => none
    | _ => none
  | .string s => some ((s.extract 0 n).data.map fun b => .int .u8 b.toNat)
  | _ => none
def lenV (x : Value) : Option Nat := match x with
  | .slice _ n _ => some n
  | .string s => some s.size
  | _ => none
def stMaybe (w : World) (base : Option Addr) (off : Nat) (vs : List Value) : Option World := match base with
  | none => some w
  | some ⟨b, o, none⟩ => stCells w b (o + off) vs
  | some _ => none
def isSS (P : Program) (t : TypeId) : Bool := match P.underlying t with
  | some (.slice _) => true
  | some .string => true
  | _ => false
def eAppend (P : Program) (t xt : TypeId) (s x : Value) (w : World) (k : Value → World → Prop) : Prop := match P.underlying t with
  | some (.slice el) => match P.info? el, isSS P xt, s, lenV x with
    | some i, true, .slice base sLen sCap, some n => match firstC i.size n x w with
      | some new =>
        (sLen + n ≤ sCap → match stMaybe w base (sLen * i.size) new.toList with
          | some w' => k (.slice base (sLen + n) sCap) w'
          | none => False) ∧
        (sCap < sLen + n → Builtin.nextslicecap (sLen + n) sCap * i.bytes ≤ 2 ^ 48 ∧ i.bytes ≠ 0 ∧
          match firstC i.size sLen s w, fZero P el with
          | some old, some z => ∀ cap, sLen + n ≤ cap → k (sl w.heap.size (sLen + n) cap) (w.drew.alloc (.cells (old ++ new ++ Builtin.zeroCells z.cells (cap - (sLen + n))) el))
          | _, _ => False)
      | none => False
    | _, _, _, _ => False
  | _ => False
def eCopy (P : Program) (t : TypeId) (d x : Value) (w : World) (k : Value → World → Prop) : Prop := match P.underlying t with
  | some (.slice el) => match P.info? el, d, lenV x with
    | some i, .slice base dLen _, some m => match firstC i.size (Nat.min m dLen) x w with
      | some new => match stMaybe w base 0 new.toList with
        | some w' => k (.int .i64 (Nat.min m dLen)) w'
        | none => False
      | none => False
    | _, _, _ => False
  | _ => False
def unit : Value := .tuple #[]
def eMapSet (P : Program) (t : TypeId) (m key v : Value) (w : World) (k : Value → World → Prop) : Prop := match P.underlying t with
  | some (.map kt _) => match m with
    | .map (some r) => match w.heap[r]? with
      | some (.map es clock) => (ckv P 10000 kt key = true ∧ (P.underlying kt).isSome = true) ∧
        match mFind (eqv P Op.maxDepth kt key) es.toList 0 with
        | some (some (i, _)) => Instr.sameBits 10000 (((es[i]?).map (·.key)).getD key) key = true ∧ k unit (setBlk w r (.map (es.modify i fun e => { e with key := key, val := v }) clock))
        | some none => k unit (setBlk w r (.map (es.push { key := key, val := v, born := clock }) (clock + 1)))
        | none => False
      | _ => False
    | _ => False
  | _ => False
def eDelete (P : Program) (t : TypeId) (m key : Value) (w : World) (k : Value → World → Prop) : Prop := match P.underlying t with
  | some (.map kt _) => match m with
    | .map (some r) => match w.heap[r]? with
      | some (.map es clock) => (ckv P 10000 kt key = true ∧ (P.underlying kt).isSome = true) ∧
        match mFind (eqv P Op.maxDepth kt key) es.toList 0 with
        | some (some (i, _)) => k unit (setBlk w r (.map (es.eraseIdxIfInBounds i) clock))
        | some none => k unit (setBlk w r (.map es clock))
        | none => False
      | _ => False
    | _ => False
  | _ => False
def eClear (P : Program) (t : TypeId) (m : Value) (w : World) (k : Value → World → Prop) : Prop := match P.underlying t with
  | some (.map _ _) => match m with
    | .map none => k unit w
    | .map (some r) => match w.heap[r]? with
      | some (.map _ clock) => k unit (setBlk w r (.map #[] clock))
      | _ => False
    | _ => False
  | _ => False
def eRange (P : Program) (t : TypeId) (x : Value) (w : World) (k : Value → World → Prop) : Prop := match P.underlying t with
  | some .string => match x with
    | .string s => k (ptr w.heap.size) (w.alloc (.stringIter s 0))
    | _ => False
  | some (.map _ _) => match x with
    | .map none => k (ptr w.heap.size) (w.alloc (.mapIter none 0 #[] 0))
    | .map (some m) => match w.heap[m]? with
      | some (.map _ clock) => k (ptr w.heap.size) (w.alloc (.mapIter (some m) clock #[] clock))
      | _ => False
    | _ => False
  | _ => False
def over : Value := .tuple #[.bool false]
def nextC (es : Array MapEntry) (since : Nat) (seen : Array Nat) : Array (Option MapEntry) :=
  let left := es.filter fun e => !seen.contains e.born
  let old := left.filter (·.born < since)
  let new := left.filter (·.born ≥ since)
  (if old.isEmpty then #[none] else #[]) ++ (old ++ new).map some
def eNext (it : Value) (isString : Bool) (w : World) (k : Value → World → Prop) : Prop := match it with
  | .pointer (some ⟨r, 0, _⟩) => match w.heap[r]?, isString with
    | some (.stringIter s pos), true => if pos < s.size then
        k (.tuple #[.bool true, .int .i64 pos, .int .i32 (Utf8.decode s pos).1]) (setBlk w r (.stringIter s (pos + (Utf8.decode s pos).2))) else k over w
    | some (.mapIter none _ _ _), false => k over w
    | some (.mapIter (some m) since seen last), false => match w.heap[m]? with
      | some (.map es clock) => (!seen.isEmpty && !es.isEmpty && es.all (·.born ≥ last)) = false ∧
        ∀ (j : Nat) (w1 : World), (w1 = w ∨ w1 = w.drew) → j < (nextC es since seen).size → match (nextC es since seen)[j]? with
          | some (some e) => k (.tuple #[.bool true, e.key, e.val]) (setBlk w1 r (.mapIter (some m) since (seen.push e.born) clock))
          | some none => k over w1
          | none => False
      | _ => False
    | _, _ => False
  | _ => False
def eToBytes (P : Program) (s d : TypeId) (x : Value) (w : World) (k : Value → World → Prop) : Prop := match P.underlying s, P.underlying d with
  | some .string, some (.slice el) => match P.underlying el, x with
    | some (.int .u8), .string s => ∀ cap, s.size ≤ cap → k (sl w.heap.size s.size cap)
        (w.drew.alloc (.cells ((s.data.map fun b => .int .u8 b.toNat) ++ Array.replicate (cap - s.size) (.int .u8 0)) el (cap, cap + 1)))
    | _, _ => False
  | _, _ => False

abbrev CallT := FuncId → List Value → World → (Value → World → Prop) → Prop
abbrev FnT := List Value → World → (Value → World → Prop) → Prop
def callP (F : FnT) (args : List Value) (w : World) (k : Value → World → Prop) : Prop := ∃ k0, F args w k0 ∧ ∀ v w', k0 v w' → k v w'
def eCallV (call : CallT) (f : Value) (args : List Value) (w : World) (k : Value → World → Prop) : Prop := match f with
  | .func (.func g) first captured => callP (call g) (first.toList ++ (args ++ captured.toList)) w k
  | _ => False
def bindW (o : Option World) (k : World → Prop) : Prop := match o with | some w => k w | none => False
def eCall (P : Program) (call : CallT) (e : Env) (c : Call) (w : World) (k : Value → World → Prop) : Prop := match c.callee with
  | .value f => eCallV call (ev e f) (c.args.toList.map (ev e)) w k
  | .builtin b => match b, c.args.toList, c.argTypes.toList with
    | .append, [s, x], [t, xt] => eAppend P t xt (ev e s) (ev e x) w k
    | .copy, [d, x], [t, _] => eCopy P t (ev e d) (ev e x) w k
    | .delete, [m, x], [t, _] => eDelete P t (ev e m) (ev e x) w k
    | .clear, [m], [t] => eClear P t (ev e m) w k
    | _, _, _ => False
  | .invoke _ _ => False
def eop (P : Program) (call : CallT) (e : Env) (o : Op) (w : World) (k : Value → World → Prop) : Prop := match o with
  | .alloc t => eAlloc P t w k
  | .box t x => eBox t (ev e x) w k
  | .buildSlice t len parts => eBuildSl P t len (parts.toList.map fun p => (p.1, ev e p.2)) w k
  | .store t a x => bindW (fStore P t (ev e a) (ev e x) w) fun w' => k undef w'
  | .makeMap _ r => eMakeMap (r.map (ev e)) w k
  | .makeSlice t l c => eMakeSl P t (ev e l) (ev e c) w k
  | .mapUpdate t m key v => eMapSet P t (ev e m) (ev e key) (ev e v) w k
  | .insert t m key v => eMapSet P t (ev e m) (ev e key) (ev e v) w k
  | .range t x => eRange P t (ev e x) w k
  | .next it s => eNext (ev e it) s w k
  | .convert s d x => eToBytes P s d (ev e x) w k
  | .call c => eCall P call e c w k
  | _ => False
end Go.Sx
