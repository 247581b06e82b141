/- A part of the proofs: what stands below it, told in lemmas. No condition. -/
import Derived.Test.YtpbfmiphjcmjjaaSy1
set_option linter.all false
namespace Go.Sx
/-! slices that are owned -/
theorem setBlk_drew (w : World) (b : Nat) (o : Obj) : (setBlk w.drew b o) = (setBlk w b o).drew := rfl
@[simp] theorem cell_drew (w : World) (a : Addr) : w.drew.cell? a = w.cell? a := rfl

/-- fp is what is owned; behind a step fp' is -/
structure Stp (fp fp' : List Nat) (w w' : World) : Prop where
  fr : Fr fp w w'
  ext : ∀ b ∈ fp', b ∈ fp ∨ w.heap.size ≤ b
theorem Stp.refl (fp : List Nat) (w : World) : Stp fp fp w w := ⟨.refl _ _, fun _ h => .inl h⟩
theorem Stp.trans {fp fp' fp'' : List Nat} {a b c : World} (h : Stp fp fp' a b) (h' : Stp fp' fp'' b c) : Stp fp fp'' a c :=
  ⟨h.fr.trans h'.fr h.ext, fun x hx => by
    rcases h'.ext x hx with h1 | h1
    · exact h.ext x h1
    · exact .inr (Nat.le_trans h.fr.size h1)⟩
/-- what two own is apart, and stays so -/
def Apart (l m : List Nat) : Prop := ∀ x ∈ l, x ∉ m
theorem Apart.symm {l m : List Nat} (h : Apart l m) : Apart m l := fun x hx hl => h x hl hx
theorem Apart.step {l l' m : List Nat} {w w' : World} (h : Apart l m) (hm : ∀ b ∈ m, b < w.heap.size) (s : Stp l l' w w') : Apart l' m := fun x hx hl => by
  rcases s.ext x hx with h1 | h1
  · exact h x h1 hl
  · have := hm x hl; omega
theorem Stp.keep {fp fp' : List Nat} {w w' : World} (s : Stp fp fp' w w') {b : Nat} (hb : b < w.heap.size) (hn : b ∉ fp) : w'.heap[b]? = w.heap[b]? := s.fr.blk b hb hn

theorem Stp.of {fp fp' gp gp' : List Nat} {w w' : World} (s : Stp fp fp' w w') (h1 : ∀ b ∈ fp, b ∈ gp) (h2 : ∀ b ∈ gp', b ∈ gp ∨ b ∈ fp' ∨ w.heap.size ≤ b) : Stp gp gp' w w' :=
  ⟨s.fr.mono fun x hx => .inl (h1 x hx), fun b hb => by
    rcases h2 b hb with h | h | h
    · exact .inl h
    · rcases s.ext b h with h | h
      · exact .inl (h1 b h)
      · exact .inr h
    · exact .inr h⟩
theorem Stp.cons {fp fp' : List Nat} {w w' : World} (s : Stp fp fp' w w') (p : Nat) : Stp (p :: fp) (p :: fp') w w' :=
  s.of (fun b hb => by simp [hb]) fun b hb => by
    rcases List.mem_cons.1 hb with h | h
    · exact .inl (by simp [h])
    · exact .inr (.inl h)
theorem Stp.fresh {fp' : List Nat} {w w' : World} (s : Stp [] fp' w w') (gp : List Nat) : Stp gp gp w w' := s.of (by simp) fun _ h => .inl h
theorem Stp.drew (gp : List Nat) (w : World) : Stp gp gp w w.drew := ⟨Fr.drew _ _, fun _ h => .inl h⟩
theorem Stp.set {gp : List Nat} (w : World) {b : Nat} (o : Obj) (h : b ∈ gp) : Stp gp gp w (setBlk w b o) := ⟨Fr.set _ _ h, fun _ h => .inl h⟩

structure SlT (P : Program) (t el : TypeId) (es bytes : Nat) : Prop where
  u : P.underlying t = some (.slice el)
  i : ∃ i, P.info? el = some i ∧ i.size = es ∧ i.bytes = bytes
  z : ∃ z, fZero P el = some z ∧ z.cells.size = es
  pos : 0 < es
  bpos : 0 < bytes

/-- a slice v of n members, whose cells read as cs -/
inductive Rd (w : World) (es : Nat) : Value → Nat → List Value → Prop
  | emp (a : Option Addr) (cap : Nat) : Rd w es (.slice a 0 cap) 0 []
  | blk {b o n cap : Nat} {a : Array Value} {ty : TypeId} {fz : Nat × Nat} {cs : List Value} (hb : w.heap[b]? = some (.cells a ty fz)) (hn : n ≤ cap) (ha : o + n * es ≤ a.size)
      (hc : cs = (a.toList.drop o).take (n * es)) : Rd w es (.slice (some ⟨b, o, none⟩) n cap) n cs
/-- that, with the block's right to be written -/
inductive Own (w : World) (es : Nat) (ty : TypeId) : List Nat → Value → Nat → List Value → Prop
  | nil : Own w es ty [] (.slice none 0 0) 0 []
  | blk {b o n cap : Nat} {a : Array Value} {cs : List Value} (hb : w.heap[b]? = some (.cells a ty (0, 0))) (hn : n ≤ cap) (ha : o + cap * es ≤ a.size)
      (hc : cs = (a.toList.drop o).take (n * es)) : Own w es ty [b] (.slice (some ⟨b, o, none⟩) n cap) n cs
section
variable {w w' : World} {es n : Nat} {ty : TypeId} {fp : List Nat} {v : Value} {cs : List Value}
theorem Own.rd (h : Own w es ty fp v n cs) : Rd w es v n cs := by
  cases h with
  | nil => exact .emp _ _
  | blk hb hn ha hc => exact .blk hb hn (by have := Nat.mul_le_mul_right es hn; omega) hc
theorem Own.keep (h : Own w es ty fp v n cs) (hk : ∀ b ∈ fp, w'.heap[b]? = w.heap[b]?) : Own w' es ty fp v n cs := by
  cases h with
  | nil => exact .nil
  | blk hb hn ha hc => exact .blk (by rw [hk _ (by simp), hb]) hn ha hc
theorem Own.lt (h : Own w es ty fp v n cs) : ∀ b ∈ fp, b < w.heap.size := by
  cases h with
  | nil => simp
  | blk hb hn ha hc => intro b hb'; simp at hb'; subst hb'; exact lt_of_blk hb
theorem Rd.length (h : Rd w es v n cs) : cs.length = n * es := by
  cases h with
  | emp => simp
  | blk hb hn ha hc => subst hc; rw [List.length_take, List.length_drop, Array.length_toList]; omega
theorem Rd.len (h : Rd w es v n cs) : lenL v = some (.int .i64 n) := by cases h <;> rfl
theorem Rd.lenV (h : Rd w es v n cs) : lenV v = some n := by cases h <;> rfl
theorem Rd.cap (h : Rd w es v n cs) : ∃ a c, v = .slice a n c ∧ n ≤ c := by
  cases h with
  | emp => exact ⟨_, _, rfl, Nat.zero_le _⟩
  | blk hb hn ha hc => exact ⟨_, _, rfl, hn⟩
theorem Rd.firstC (h : Rd w es v n cs) {m : Nat} (hm : m ≤ n) : firstC es m v w = some (cs.take (m * es)).toArray := by
  cases h with
  | emp a cap => have : m = 0 := by omega
                 subst this; cases a <;> simp [Sx.firstC]
  | blk hb hn ha hc =>
    have hm' := Nat.mul_le_mul_right es hm
    simp only [Sx.firstC, hb]
    by_cases h0 : m * es = 0
    · rw [if_pos h0, h0]; simp
    rw [if_neg h0, if_pos (by omega)]
    subst hc
    rw [List.take_take, Nat.min_eq_left hm']
    congr 1
    apply Array.ext'
    simp only [Array.toList_extract, List.extract_eq_take_drop]
    rw [show ∀ o : Nat, o + m * es - o = m * es by intro o; omega]
theorem Rd.at1 (h : Rd w 1 v n cs) {i : Nat} (hi : i < n) {j : IntKind} : ∃ a, pIndexL 1 v (.int j i) = some (.pointer (some a)) ∧ w.cell? a = cs[i]? := by
  cases h with
  | emp => omega
  | blk hb hn ha hc =>
    rename_i b o cap a ty fz
    refine ⟨⟨b, o + i, none⟩, ?_, ?_⟩
    · simp only [pIndexL]; rw [if_pos ⟨by omega, by omega⟩]; simp
    · rw [cell_of hb]; subst hc
      rw [List.getElem?_take_of_lt (by omega), List.getElem?_drop, Array.getElem?_toList]

theorem List.take_append_add_of_len {α : Type} {l m : List α} {o k : Nat} (h : l.length = o) : List.take (o + k) (l ++ m) = l ++ List.take k m := by
  subst h; rw [List.take_length_add_append]
theorem List.drop_append_add {α : Type} {l m : List α} {k : Nat} : List.drop (l.length + k) (l ++ m) = List.drop k m := by
  rw [List.drop_length_add_append]
theorem wr_toList : ∀ (l : List Value) (c : Array Value) (o : Nat), o + l.length ≤ c.size → (wr c o l).toList = c.toList.take o ++ l ++ c.toList.drop (o + l.length) := by
  intro l
  induction l with
  | nil => intro c o h; simp [wr]
  | cons v l ih =>
    intro c o h
    simp only [List.length_cons] at h
    simp only [wr]
    rw [ih _ _ (by simp; omega)]
    simp only [Array.toList_setIfInBounds, List.length_cons]
    have hlt : o < c.toList.length := by simp; omega
    have e2 : (List.take o c.toList).length = o := by simp; omega
    rw [List.set_eq_take_append_cons_drop, if_pos hlt, show o + 1 + l.length = (List.take o c.toList).length + (1 + l.length) by omega, List.drop_append_add]
    rw [List.take_append_add_of_len e2]
    simp [Nat.add_comm]
    omega

theorem stCells_ok {b o : Nat} {a : Array Value} {vs : List Value} (hb : w.heap[b]? = some (.cells a ty (0, 0))) (h : o + vs.length ≤ a.size) (hv : vs.all (·.oneCell') = true) :
    stCells w b o vs = some (setBlk w b (.cells (wr a o vs) ty (0, 0))) := by
  simp only [stCells, hb]; rw [if_pos ⟨h, by omega, hv⟩]

theorem eAppend_own {P : Program} {t xt el : TypeId} {bytes m : Nat} {s x : Value} {ds : List Value} {K : Value → World → Prop} (T : SlT P t el es bytes) (hxt : isSS P xt = true)
    (hO : Own w es el fp s n cs) (hR : Rd w es x m ds) (hd : ds.all (·.oneCell') = true) (hb : (n + m) * bytes ≤ 140737488355328)
    (hK : ∀ w' fp' s', Own w' es el fp' s' (n + m) (cs ++ ds) → Stp fp fp' w w' → K s' w') : eAppend P t xt s x w K := by
  obtain ⟨i, hi, his, hib⟩ := T.i
  obtain ⟨z, hz, hzs⟩ := T.z
  have hrd := hO.rd
  have hnew := hR.firstC (Nat.le_refl m)
  have hlen := hR.length
  rw [List.take_of_length_le (by omega)] at hnew
  have hold := hrd.firstC (Nat.le_refl n)
  have hlenc := hrd.length
  rw [List.take_of_length_le (by omega)] at hold
  have grow : ∀ sc : Nat, sc < n + m → Builtin.nextslicecap (n + m) sc * i.bytes ≤ 2 ^ 48 ∧ i.bytes ≠ 0 ∧
      (∀ cap, n + m ≤ cap → K (sl w.heap.size (n + m) cap) (w.drew.alloc (.cells (cs.toArray ++ ds.toArray ++ Builtin.zeroCells z.cells (cap - (n + m))) el))) := by
    intro sc hsc
    have := growslice_fits hsc (hib ▸ hb)
    have hbp := T.bpos
    refine ⟨by rw [hib] at this ⊢; omega, by omega, fun cap hcap => hK _ [w.heap.size] _ (.blk (o := 0) (heap_alloc_new _ _) hcap ?_ ?_) ⟨?_, ?_⟩⟩
    · simp [Builtin.zeroCells, hzs, hlen, hlenc, ← Nat.add_mul]
      rw [Nat.add_sub_cancel' hcap]; exact Nat.le_refl _
    · simp only [List.drop_zero, Array.toList_append]
      rw [List.take_append_of_le_length (by simp [hlen, hlenc, Nat.add_mul])]
      rw [List.take_of_length_le (by simp [hlen, hlenc, Nat.add_mul])]
    · exact ((Fr.drew fp w).trans (Fr.alloc fp w.drew _) fun x hx => .inl hx)
    · intro b hb; simp at hb; subst hb; exact .inr (Nat.le_refl _)
  unfold eAppend
  simp only [T.u, hi, hxt, hR.lenV]
  cases hO with
  | nil =>
    simp only [hz, his, hnew, hold]
    refine ⟨fun h => ?_, fun h => ?_⟩
    · have : m = 0 := by omega
      subst this
      have : ds = [] := by cases ds with | nil => rfl | cons => simp at hlen
      subst this
      simp only [stMaybe]
      exact hK _ _ _ .nil (.refl _ _)
    · obtain ⟨h1, h2, h3⟩ := grow 0 h
      exact ⟨h1, h2, h3⟩
  | blk hb' hn ha hc =>
    rename_i b o cap a
    simp only [hz, his, hnew, hold]
    refine ⟨fun h => ?_, fun h => ?_⟩
    · have hm1 := Nat.mul_le_mul_right es h
      rw [Nat.add_mul] at hm1
      simp only [stMaybe]
      rw [stCells_ok hb' (by simp only [hlen]; omega) hd]
      refine hK _ [b] _ (.blk (setBlk_same hb') h (by simpa using ha) ?_) ⟨Fr.set _ _ (by simp), fun x hx => .inl hx⟩
      rw [wr_toList _ _ _ (by rw [hlen]; omega), Nat.add_mul]
      subst hc
      have e1 : List.take (o + n * es) a.toList = List.take o a.toList ++ List.take (n * es) (List.drop o a.toList) := by rw [List.take_add]
      have e2 : (List.take o a.toList).length = o := by simp; omega
      rw [e1]
      simp only [List.append_assoc]
      rw [List.drop_left' e2]
      rw [← List.append_assoc, List.take_left' (by rw [List.length_append, hlen, hlenc])]
    · obtain ⟨h1, h2, h3⟩ := grow cap h
      exact ⟨h1, h2, h3⟩
end
end Go.Sx
