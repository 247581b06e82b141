/- A part of the proofs: what stands below it, told in lemmas. No condition. -/
import Derived.Test.YtpbfmiphjcmjjaaSz1
set_option linter.all false
namespace Go.Sx
@[simp] theorem bs_beq (a b : ByteArray) : (a == b) = decide (a = b) := by
  rcases a with ⟨a⟩; rcases b with ⟨b⟩
  show (a == b) = _
  rw [Bool.eq_iff_iff]; simp
@[simp] theorem one_int (k : IntKind) (n : Int) : (Value.int k n).oneCell' = true := rfl
@[simp] theorem one_str (s : ByteArray) : (Value.string s).oneCell' = true := rfl
@[simp] theorem one_bool (b : Bool) : (Value.bool b).oneCell' = true := rfl
@[simp] theorem one_ptr (a : Option Addr) : (Value.pointer a).oneCell' = true := rfl
@[simp] theorem one_sl (a : Option Addr) (n c : Nat) : (Value.slice a n c).oneCell' = true := rfl
@[simp] theorem one_map (a : Option Nat) : (Value.map a).oneCell' = true := rfl
@[simp] theorem cells_agg (a : Array Value) : (Value.agg a).cells = a := rfl
section
variable {w0 w : World} {L : List HP}
theorem Sat.drops {M : List HP} (h : Sat w0 (M ++ L) w) : Sat w0 L w := by
  induction M with
  | nil => exact h
  | cons a r ih => exact ih h.drop
/-- parts by their places -/
theorem Sat.pick (h : Sat w0 L w) (idx rest : List Nat) (n : Nat) (hi : (rest ++ idx).Perm (List.range n)) (hn : n ≤ L.length) : Sat w0 (idx.map (fun i => L.getD i HEm) ++ L.drop n) w := by
  have p : (L.take n).Perm (rest.map (fun i => L.getD i HEm) ++ idx.map (fun i => L.getD i HEm)) := by
    have := (hi.map fun i => L.getD i HEm).symm
    rw [List.map_append] at this
    refine List.Perm.trans (List.Perm.of_eq ?_) this
    apply List.ext_getElem
    · simp; omega
    · intro i h1 h2; simp at h1 h2 ⊢
      rw [List.getElem?_eq_getElem (by omega)]; rfl
  refine Sat.drops (M := rest.map fun i => L.getD i HEm) (h.perm ?_)
  have := p.append_right (L.drop n)
  rw [List.take_append_drop, List.append_assoc] at this
  exact this
theorem bindW_st {b o : Nat} {c : Array Value} {ty : TypeId} {x : Value} {k : World → Prop} (h : Sat w0 (Cl b c ty :: L) w) [OneV x] (ho : o < c.size) (hk : ∀ w', Sat w0 (Cl b (c.setIfInBounds o x) ty :: L) w' → k w') :
    bindW (st 1 (.pointer (some ⟨b, o, none⟩)) x w) k := by
  rw [st_at h.cl x ho]; exact hk _ (h.setc _)
theorem bindW_stN {b o n : Nat} {c : Array Value} {ty : TypeId} {x : Value} {k : World → Prop} (h : Sat w0 (Cl b c ty :: L) w) (hn : x.cells.size = n) (hv : x.cells.toList.all (·.oneCell') = true) (ho : o + n ≤ c.size)
    (hk : ∀ w', Sat w0 (Cl b (wr c o x.cells.toList) ty :: L) w' → k w') : bindW (st n (.pointer (some ⟨b, o, none⟩)) x w) k := by
  rw [st_cells h.cl hn hv ho]; exact hk _ (h.setc _)
/-- the same but for draws -/
structure Same (w w' : World) : Prop where
  heap : w'.heap = w.heap
  os : w'.os = w.os
  tape : w'.tape = w.tape
  output : w'.output = w.output
theorem Same.refl (w : World) : Same w w := ⟨rfl, rfl, rfl, rfl⟩
theorem Same.drew (w : World) : Same w w.drew := ⟨rfl, rfl, rfl, rfl⟩
theorem Same.trans {a b c : World} (h : Same a b) (h' : Same b c) : Same a c := ⟨h'.heap.trans h.heap, h'.os.trans h.os, h'.tape.trans h.tape, h'.output.trans h.output⟩
theorem Sat.to {w' : World} (h : Sat w0 L w) (e : Same w w') : Sat w0 L w' := h.same e.heap e.os e.tape e.output
theorem Rd.to {w' : World} {es n : Nat} {v : Value} {cs : List Value} (h : Rd w es v n cs) (e : Same w w') : Rd w' es v n cs := h.heap e.heap
theorem Same.cell {w' : World} (e : Same w w') (a : Addr) : w'.cell? a = w.cell? a := by simp [World.cell?, e.heap]
/-- one cell of a slice is written -/
theorem st_elem {es n i o : Nat} {ty : TypeId} {v : Value} {cs : List Value} {j : IntKind} (h : Sat w0 (SlH es ty v n cs :: L) w) (hi : i < n) (ho : o < es) (x : Value) [OneV x] :
    ∃ b q, pIndexL es v (.int j i) = some (.pointer (some ⟨b, q, none⟩)) ∧ ∃ w', st 1 (.pointer (some ⟨b, q + o, none⟩)) x w = some w' ∧ Sat w0 (SlH es ty v n (cs.set (i * es + o) x) :: L) w' := by
  obtain ⟨fp, hO, kk⟩ := h.own
  cases hO with
  | nil => omega
  | blk hb hn ha hc =>
    rename_i b q cap a
    have h1 : i * es + o < n * es := by
      have := Nat.mul_le_mul_right es (show i + 1 ≤ n by omega)
      rw [Nat.add_mul] at this; omega
    have h2 := Nat.mul_le_mul_right es hn
    refine ⟨b, q + i * es, ?_, _, st_at hb x (by omega), kk _ [b] _ _ _ _ _ (.blk (setBlk_same hb) hn (by simpa using ha) ?_) (.set _ _ (by simp))⟩
    · simp only [pIndexL]; rw [if_pos ⟨by omega, by omega⟩]; simp
    · subst hc
      rw [Array.toList_setIfInBounds, List.drop_set, if_neg (by omega), List.take_set, show q + i * es + o - q = i * es + o by omega]
/-- a part of a slice, wherever it is read -/
theorem Rd.sub' {es n lo hi : Nat} {v v' : Value} {cs : List Value} {L H M : Option Value} (h : Rd w es v n cs) (hs : pSliceL es v L H M = some v') (hL : Bd 0 L lo) (hH : Bd n H hi) (hM : BdM hi n H M) (h1 : lo ≤ hi) (h2 : hi ≤ n) :
    Rd w es v' (hi - lo) ((cs.take (hi * es)).drop (lo * es)) := by
  obtain ⟨v2, e, hr⟩ := h.sub hL hH hM h1 h2
  rw [e] at hs; cases hs; exact hr
end
end Go.Sx
