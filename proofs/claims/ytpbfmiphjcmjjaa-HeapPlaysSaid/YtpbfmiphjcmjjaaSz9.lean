/- A part of the proofs: what stands below it, told in lemmas. No condition. -/
import Derived.Test.YtpbfmiphjcmjjaaSz8
set_option linter.all false
namespace Go.Sx
/-! texts as lists of bytes -/
def bs (l : List UInt8) : ByteArray := ⟨l.toArray⟩
theorem mk_bs (l : List UInt8) : ByteArray.mk l.toArray = bs l := by unfold bs; rfl
theorem bs_of (s : ByteArray) : s = bs s.data.toList := by cases s; simp [bs]
@[simp] theorem bs_size (l : List UInt8) : (bs l).size = l.length := by simp [bs, ByteArray.size]
@[simp] theorem bs_data (l : List UInt8) : (bs l).data.toList = l := by simp [bs]
@[simp] theorem bs_append (a b : List UInt8) : bs a ++ bs b = bs (a ++ b) := by
  apply ByteArray.ext; simp [bs, ByteArray.data_append]
@[simp] theorem bs_inj {a b : List UInt8} : bs a = bs b ↔ a = b := by simp [bs]
@[simp] theorem bs_extract (l : List UInt8) (i j : Nat) : (bs l).extract i j = bs ((l.take j).drop i) := by
  apply ByteArray.ext
  rw [ByteArray.data_extract]
  simp only [bs, List.extract_toArray, List.extract_eq_take_drop]
  rw [List.drop_take]
@[simp] theorem bs_get (l : List UInt8) (i : Nat) : (bs l)[i]? = l[i]? := by
  by_cases h : i < l.length
  · rw [List.getElem?_eq_getElem h, getElem?_pos (bs l) i (by simpa using h)]
    simp [bs, ByteArray.getElem_eq_getElem_data]
  · rw [List.getElem?_eq_none (by omega), getElem?_neg (bs l) i (by simpa using h)]
theorem ix_txt {l : List UInt8} {i : Nat} {j : IntKind} (h : i < l.length) : pIndexS (.string (bs l)) (.int j i) = some (.int .u8 l[i].toNat) := by
  simp [pIndexS, h]
  rfl
theorem sub_from {l : List UInt8} {i : Nat} {j : IntKind} (h : i ≤ l.length) : pSliceS (.string (bs l)) (some (.int j i)) none = some (.string (bs (l.drop i))) := by
  simp [pSliceS, hiB, bnd, h]
theorem sub_to {l : List UInt8} {i : Nat} {j : IntKind} (h : i ≤ l.length) : pSliceS (.string (bs l)) none (some (.int j i)) = some (.string (bs (l.take i))) := by
  simp [pSliceS, hiB, bnd]
  rw [if_pos (by omega)]
theorem sub_both {l : List UInt8} {a b : Nat} {j k : IntKind} (h1 : a ≤ b) (h2 : b ≤ l.length) : pSliceS (.string (bs l)) (some (.int j a)) (some (.int k b)) = some (.string (bs ((l.take b).drop a))) := by
  simp [pSliceS, hiB, bnd]
  rw [if_pos (by omega)]
  simp
  rw [if_pos (by omega)]
theorem add_txt {a b : List UInt8} (h : a.length + b.length ≤ 9223372036854775807) : bAdd (.string (bs a)) (.string (bs b)) = some (.string (bs (a ++ b))) := by
  have e : IntKind.i64.max = 9223372036854775807 := by decide
  simp only [bAdd, bs_size, e]
  rw [if_neg (by omega), bs_append]
/-! bytes in cells -/
def cellsB (l : List UInt8) : List Value := l.map fun b => .int .u8 b.toNat
@[simp] theorem cellsB_len (l : List UInt8) : (cellsB l).length = l.length := by simp [cellsB]
@[simp] theorem bytesOf_cells : ∀ l : List UInt8, bytesOf (cellsB l) = some l
  | [] => rfl
  | b :: l => by
    show bytesOf (.int .u8 b.toNat :: cellsB l) = _
    simp [bytesOf, bytesOf_cells l]
theorem cBytes_rd {w : World} {v : Value} {n : Nat} {l : List UInt8} (h : Rd w 1 v n (cellsB l)) (h0 : 0 < n) : cBytes v w = some (.string (bs l)) := by
  have hl := h.length
  generalize hc : cellsB l = cs at h hl
  cases h with
  | emp => omega
  | blk hb hn ha hcs =>
    rename_i b o cap a ty fz
    subst hcs
    simp only [cBytes, hb]
    rw [if_pos (by omega)]
    have : (a.extract o (o + n)).toList = (a.toList.drop o).take (n * 1) := by simp [List.take_drop]
    rw [this, ← hc, bytesOf_cells]
    rfl
theorem cBytes_arr {w : World} {b i n : Nat} {c : Array Value} {ty : TypeId} {fz : Nat × Nat} {j : IntKind} {l : List UInt8} (h : w.heap[b]? = some (.cells c ty fz)) (hn : c.size = n) (hi : i ≤ n) (hl : c.toList.drop i = cellsB l) :
    ∃ v, pSliceA n 1 (.pointer (some ⟨b, 0, none⟩)) (some (.int j i)) none none = some v ∧ cBytes v w = some (.string (bs l)) := by
  have e : ∀ a, cBytes (.slice (some ⟨b, a, none⟩) (n - i) (n - i)) w = if a + (n - i) ≤ c.size then (bytesOf (c.extract a (a + (n - i))).toList).map fun l => .string ⟨l.toArray⟩ else none := by
    intro a; simp [cBytes, h]
  have hll := congrArg List.length hl
  simp at hll
  simp [pSliceA, hiB, bnd]
  rw [if_pos (by omega)]
  simp only
  by_cases hni : n = i
  · subst hni
    refine ⟨_, rfl, ?_⟩
    rw [if_pos rfl, e, if_pos (by omega)]
    have : l = [] := by cases l; rfl; simp at hll; omega
    subst this
    simp [bytesOf]; rfl
  · refine ⟨_, rfl, ?_⟩
    have e0 : (if i = 0 then (⟨b, 0, none⟩ : Addr) else ⟨b, i, none⟩) = ⟨b, i, none⟩ := by split <;> simp_all
    rw [if_neg hni]
    simp only [Addr.add, Nat.zero_add, Nat.mul_one]
    rw [e0, e, if_pos (by omega)]
    have : (c.extract i (i + (n - i))).toList = c.toList.drop i := by
      simp
      rw [List.take_of_length_le (by simp; omega)]
    rw [this, hl, bytesOf_cells]
    rfl
section
variable {w0 w : World} {L : List HP}
theorem eToBytes_sat {P : Program} {s d el : TypeId} {l : List UInt8} {K : Value → World → Prop} (h : Sat w0 L w) (us : P.underlying s = some .string) (ud : P.underlying d = some (.slice el)) (ue : P.underlying el = some (.int .u8))
    (hK : ∀ v w' b o, Sat w0 (Blk b o :: L) w' → Rd w' 1 v l.length (cellsB l) → K v w') : eToBytes P s d (.string (bs l)) w K := by
  simp only [eToBytes, us, ud, ue]
  intro cap hc
  have h1 := (h.drew).alloc (.cells (((bs l).data.map fun b => .int .u8 b.toNat) ++ Array.replicate (cap - (bs l).size) (.int .u8 0)) el (cap, cap + 1))
  refine hK _ _ _ _ h1 ?_
  have hb := h1.blk
  simp at hc
  simp only [sl, bs_size]
  refine .blk (o := 0) hb hc ?_ ?_
  · simp [bs]
  · simp [bs, cellsB]
end
/-! numbers -/
theorem bShr_nat {n k : Nat} {j j' : IntKind} (h : k ≤ j.bits) : bShr (.int j n) (.int j' k) = some (.int j ((n / 2 ^ k : Nat))) := by
  simp only [bShr]
  rw [if_neg (by omega)]
  simp only [Int.toNat_natCast, Nat.min_eq_left h]
  congr 2
  rw [Int.fdiv_eq_ediv_of_nonneg _ (by exact_mod_cast Nat.zero_le _)]
  exact_mod_cast rfl
theorem wrap_u64 {n : Nat} (h : n < 18446744073709551616) : IntKind.u64.wrap n = n := by
  have e : IntKind.u64.wrap n = Int.emod n 18446744073709551616 := by rfl
  rw [e]; exact Int.emod_eq_of_lt (by omega) (by omega)
theorem wrap_u8 (n : Nat) : IntKind.u8.wrap n = (n % 256 : Nat) := by
  have e : IntKind.u8.wrap n = (n : Int) % 256 := by rfl
  rw [e]; omega
theorem bOr_i64 {a b : Nat} (ha : a < 9223372036854775808) (hb : b < 9223372036854775808) : bBit .or (.int .i64 a) (.int .i64 b) = some (.int .i64 ((a ||| b : Nat))) := by
  have h : a ||| b < 2 ^ 63 := Nat.or_lt_two_pow (by omega) (by omega)
  have e : (2 : Nat) ^ IntKind.i64.bits = 18446744073709551616 := by decide
  simp only [bBit, bBits, if_true, Option.map_some]
  congr 2
  rw [BitVec.toNat_or]
  simp only [BitVec.ofInt_natCast, BitVec.toNat_ofNat, e]
  rw [Nat.mod_eq_of_lt (show a < _ by omega), Nat.mod_eq_of_lt (show b < _ by omega)]
  exact wrap_id ⟨by omega, by omega⟩
theorem bOr_u64 {a b : Nat} (ha : a < 18446744073709551616) (hb : b < 18446744073709551616) : bBit .or (.int .u64 a) (.int .u64 b) = some (.int .u64 ((a ||| b : Nat))) := by
  have h : a ||| b < 2 ^ 64 := Nat.or_lt_two_pow (by omega) (by omega)
  have e : (2 : Nat) ^ IntKind.u64.bits = 18446744073709551616 := by decide
  simp only [bBit, bBits, if_true, Option.map_some]
  congr 2
  rw [BitVec.toNat_or]
  simp only [BitVec.ofInt_natCast, BitVec.toNat_ofNat, e]
  rw [Nat.mod_eq_of_lt (show a < _ by omega), Nat.mod_eq_of_lt (show b < _ by omega)]
  exact wrap_u64 (by omega)
theorem andNot_all : ∀ n : Fin 256, bBits .andNot .u8 (n.val : Int) 128 = some ((n.val % 128 : Nat) : Int) := by decide +kernel
theorem bAndNot_u8 (b : UInt8) : bBit .andNot (.int .u8 b.toNat) (.int .u8 128) = some (.int .u8 ((b.toNat % 128 : Nat))) := by
  have := andNot_all ⟨b.toNat, b.toNat_lt⟩
  simp only at this
  simp only [bBit, if_true, this, Option.map_some]
theorem or_add {a b i : Nat} (h : b < 2 ^ i) : (a * 2 ^ i) ||| b = a * 2 ^ i + b := by
  rw [Nat.mul_comm, Nat.two_pow_add_eq_or_of_lt h]
end Go.Sx
