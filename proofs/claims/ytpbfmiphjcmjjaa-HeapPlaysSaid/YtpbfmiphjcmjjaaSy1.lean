/- A part of the proofs: what stands below it, told in lemmas. No condition. -/
import Derived.Test.YtpbfmiphjcmjjaaSx10
set_option linter.all false
namespace Go.Sx
/-! evaluating a text -/
section
variable {w : World} {k : Value → Prop} {K : Value → World → Prop}
@[congr] theorem bindP_congr {o o' : Option Value} (h : o = o') : bindP o k = bindP o' k := by rw [h]
@[congr] theorem stepG_congr {g g' : Bool} {o : Option Value} (h : g = g') : Sx.stepG g o k = Sx.stepG g' o k := by rw [h]
@[congr] theorem stepM_congr {g g' : Bool} {v : Value} (h : g = g') : stepM g v k = stepM g' v k := by rw [h]
@[congr] theorem stepE_congr {g g' : Bool} {E : (Value → World → Prop) → Prop} (h : g = g') : stepE g E w K = stepE g' E w K := by rw [h]
@[congr] theorem bindW_congr {o o' : Option World} {q : World → Prop} (h : o = o') : bindW o q = bindW o' q := by rw [h]
@[congr] theorem ifB_congr {c c' : Value} {a b : Prop} (h : c = c') : ifB c a b = ifB c' a b := by rw [h]
@[congr] theorem callP_congr {F : FnT} {l l' : List Value} (h : l = l') : callP F l w K = callP F l' w K := by rw [h]
@[simp] theorem bindP_some (v : Value) : bindP (some v) k = k v := congrFun (rfl : bindP (some v) = fun k => k v) k
@[simp] theorem stepG_true (o : Option Value) : Sx.stepG true o k = bindP o k := congrFun (rfl : Sx.stepG true o = bindP o) k
@[simp] theorem stepG_false (o : Option Value) : Sx.stepG false o k = k undef := congrFun (rfl : Sx.stepG false o = fun k => k undef) k
@[simp] theorem stepM_true (v : Value) : stepM true v k = k v := congrFun (rfl : stepM true v = fun k => k v) k
@[simp] theorem stepM_false (v : Value) : stepM false v k = k undef := congrFun (rfl : stepM false v = fun k => k undef) k
@[simp] theorem stepE_true (E : (Value → World → Prop) → Prop) : stepE true E w K = E K := congrFun (rfl : stepE true E w = E) K
@[simp] theorem stepE_false (E : (Value → World → Prop) → Prop) : stepE false E w K = K undef w := congrFun (rfl : stepE false E w = fun K => K undef w) K
@[simp] theorem bindW_some {q : World → Prop} (w' : World) : bindW (some w') q = q w' := congrFun (rfl : bindW (some w') = fun q => q w') q
@[simp] theorem ifB_true {a b : Prop} : ifB (.bool true) a b = a := congrFun (rfl : ifB (.bool true) a = fun _ => a) b
@[simp] theorem ifB_false {a b : Prop} : ifB (.bool false) a b = b := congrFun (rfl : ifB (.bool false) a = fun b => b) b
@[simp] theorem gd_true (b : Bool) : gd true (.bool b) = b := by cases b <;> rfl
@[simp] theorem gd_false (b : Bool) : gd false (.bool b) = !b := by cases b <;> rfl
@[simp] theorem pPick_true (a b : Value) : pPick (.bool true) a b = some a := rfl
@[simp] theorem pPick_false (a b : Value) : pPick (.bool false) a b = some b := rfl
@[simp] theorem pNil_ptr (a : Addr) : pNil (.pointer (some a)) = some (.pointer (some a)) := rfl
@[simp] theorem pFieldAddr_ptr (off b o : Nat) : pFieldAddr off (.pointer (some ⟨b, o, none⟩)) = some (.pointer (some ⟨b, o + off, none⟩)) := rfl
@[simp] theorem ld1_ptr (a : Addr) : ld1 (.pointer (some a)) w = w.cell? a := rfl
@[simp] theorem fok_true (o : Option Value) (v : Value) : fok true o v = (o = some v) := rfl
@[simp] theorem fok_false (o : Option Value) (v : Value) : fok false o v = (v = undef) := rfl
@[simp] theorem uNot_bool (b : Bool) : uNot (.bool b) = some (.bool !b) := rfl
@[simp] theorem bAdd_int (j : IntKind) (a b : Int) : bAdd (.int j a) (.int j b) = some (.int j (j.wrap (a + b))) := by simp [bAdd]
@[simp] theorem bSub_int (j : IntKind) (a b : Int) : bSub (.int j a) (.int j b) = some (.int j (j.wrap (a - b))) := by simp [bSub]
@[simp] theorem bMul_int (j : IntKind) (a b : Int) : bMul (.int j a) (.int j b) = some (.int j (j.wrap (a * b))) := by simp [bMul]
theorem bRem_int (j : IntKind) (a b : Int) (h : b ≠ 0) : bRem (.int j a) (.int j b) = some (.int j (a.tmod b)) := by simp [bRem, h]
theorem bQuo_int (j : IntKind) (a b : Int) (h : b ≠ 0) : bQuo (.int j a) (.int j b) = some (.int j (j.wrap (a.tdiv b))) := by simp [bQuo, h]
@[simp] theorem bLt_int (j : IntKind) (a b : Int) : bLt (.int j a) (.int j b) = some (.bool (a < b)) := by simp [bLt]
@[simp] theorem bLe_int (j : IntKind) (a b : Int) : bLe (.int j a) (.int j b) = some (.bool (a ≤ b)) := by simp [bLe]
@[simp] theorem bGt_int (j : IntKind) (a b : Int) : bGt (.int j a) (.int j b) = some (.bool (a > b)) := by simp [bGt]
@[simp] theorem bGe_int (j : IntKind) (a b : Int) : bGe (.int j a) (.int j b) = some (.bool (a ≥ b)) := by simp [bGe]
variable {P : Program} {t : TypeId} {x y : Operand}
@[simp] theorem bEq_int (j : IntKind) (a b : Int) : bEq P t x y (.int j a) (.int j b) = some (.bool (decide (a = b))) := by have : (a == b) = decide (a = b) := (by rw [Bool.eq_iff_iff]; simp); simp [bEq, bEqv, this]
@[simp] theorem bNe_int (j : IntKind) (a b : Int) : bNe P t x y (.int j a) (.int j b) = some (.bool (!decide (a = b))) := by have : (a == b) = decide (a = b) := (by rw [Bool.eq_iff_iff]; simp); simp [bNe, bEqv, this]
@[simp] theorem bEq_str (a b : ByteArray) : bEq P t x y (.string a) (.string b) = some (.bool (a == b)) := by simp [bEq, bEqv, sEq_eq]
@[simp] theorem bNe_str (a b : ByteArray) : bNe P t x y (.string a) (.string b) = some (.bool (!(a == b))) := by simp [bNe, bEqv, sEq_eq]
theorem bEq_bool (h : P.underlying t = some .bool) (a b : Bool) : bEq P t x y (.bool a) (.bool b) = some (.bool (a == b)) := by
  simp [bEq, bEqv, eqPlain, eqv, Op.maxDepth, h]
theorem bNe_bool (h : P.underlying t = some .bool) (a b : Bool) : bNe P t x y (.bool a) (.bool b) = some (.bool (!(a == b))) := by
  simp [bNe, bEqv, eqPlain, eqv, Op.maxDepth, h]
theorem bEq_nilp {e : TypeId} (h : P.underlying t = some (.pointer e)) (a : Option Addr) : bEq P t x y (.pointer a) (.pointer none) = some (.bool a.isNone) := by
  cases a <;> simp [bEq, bEqv, eqPlain, eqv, Op.maxDepth, h]
theorem bNe_nilp {e : TypeId} (h : P.underlying t = some (.pointer e)) (a : Option Addr) : bNe P t x y (.pointer a) (.pointer none) = some (.bool (!a.isNone)) := by
  cases a <;> simp [bNe, bEqv, eqPlain, eqv, Op.maxDepth, h]
@[simp] theorem pTuple_mk (l : List Value) (i : Nat) : pTuple (.tuple l.toArray) i = l[i]? := by simp [pTuple]
@[simp] theorem lenL_mk (a : Option Addr) (n c : Nat) : lenL (.slice a n c) = some (.int .i64 n) := rfl
@[simp] theorem lenS_mk (s : ByteArray) : lenS (.string s) = some (.int .i64 s.size) := rfl
end
theorem callP_intro {F : FnT} {l : List Value} {w : World} {K : Value → World → Prop} (h : F l w K) : callP F l w K := ⟨K, h, fun _ _ h => h⟩

/-! worlds -/
@[simp] theorem heap_drew (w : World) : w.drew.heap = w.heap := rfl
theorem cell_of {w : World} {b i : Nat} {c : Array Value} {ty : TypeId} {fz : Nat × Nat} (h : w.heap[b]? = some (.cells c ty fz)) : w.cell? ⟨b, i, none⟩ = c[i]? := by simp [World.cell?, h]
theorem heap_alloc_new (w : World) (o : Obj) : (w.alloc o).heap[w.heap.size]? = some o := by show (w.heap.push o)[w.heap.size]? = _; simp
theorem heap_alloc_lt (w : World) (o : Obj) {b : Nat} (h : b < w.heap.size) : (w.alloc o).heap[b]? = w.heap[b]? := by show (w.heap.push o)[b]? = _; rw [Array.getElem?_push, if_neg (by omega)]
@[simp] theorem size_setBlk (w : World) (b : Nat) (o : Obj) : (setBlk w b o).heap.size = w.heap.size := by simp [setBlk]
theorem setBlk_same {w : World} {b : Nat} {o o' : Obj} (h : w.heap[b]? = some o') : (setBlk w b o).heap[b]? = some o := by rw [setBlk_get, if_pos rfl, if_pos (lt_of_blk h)]
theorem setBlk_ne {w : World} {b b' : Nat} {o : Obj} (h : b ≠ b') : (setBlk w b o).heap[b']? = w.heap[b']? := by rw [setBlk_get, if_neg h]

/-- but for the blocks of l, all that was there is as it was -/
structure Fr (l : List Nat) (w w' : World) : Prop where
  os : w'.os = w.os
  tape : w'.tape = w.tape
  output : w'.output = w.output
  size : w.heap.size ≤ w'.heap.size
  blk : ∀ b, b < w.heap.size → b ∉ l → w'.heap[b]? = w.heap[b]?
theorem Fr.refl (l : List Nat) (w : World) : Fr l w w := ⟨rfl, rfl, rfl, Nat.le_refl _, fun _ _ _ => rfl⟩
theorem Fr.trans {l l' : List Nat} {a b c : World} (h : Fr l a b) (h' : Fr l' b c) (hl : ∀ x ∈ l', x ∈ l ∨ a.heap.size ≤ x) : Fr l a c :=
  ⟨h'.os.trans h.os, h'.tape.trans h.tape, h'.output.trans h.output, Nat.le_trans h.size h'.size, fun x hx hn => by
    rw [h'.blk x (by have := h.size; omega) fun hm => by rcases hl x hm with h1 | h1; exact hn h1; omega, h.blk x hx hn]⟩
theorem Fr.mono {l l' : List Nat} {a b : World} (h : Fr l a b) (hl : ∀ x ∈ l, x ∈ l' ∨ a.heap.size ≤ x) : Fr l' a b :=
  ⟨h.os, h.tape, h.output, h.size, fun x hx hn => h.blk x hx fun hm => by rcases hl x hm with h1 | h1; exact hn h1; omega⟩
theorem Fr.alloc (l : List Nat) (w : World) (o : Obj) : Fr l w (w.alloc o) := ⟨rfl, rfl, rfl, by simp, fun _ h _ => heap_alloc_lt w o h⟩
theorem Fr.drew (l : List Nat) (w : World) : Fr l w w.drew := ⟨rfl, rfl, rfl, Nat.le_refl _, fun _ _ _ => rfl⟩
theorem Fr.set {l : List Nat} (w : World) {b : Nat} (o : Obj) (h : b ∈ l) : Fr l w (setBlk w b o) := ⟨rfl, rfl, rfl, by simp, fun _ _ hn => setBlk_ne fun e => hn (e ▸ h)⟩
theorem Fr.below {w w' : World} (h : Fr [] w w') : RowKit.Below w.heap.size w w' := ⟨h.os, h.tape, h.output, h.size, fun b hb => h.blk b hb (by simp)⟩
theorem wrap_id {n : Int} (h : -9223372036854775808 ≤ n ∧ n ≤ 9223372036854775807) : IntKind.i64.wrap n = n := IntWalk.i64_in n h
end Go.Sx
