/- A part of the proofs: what stands below it, told in lemmas. No condition. -/
import Derived.Test.YtpbfmiphjcmjjaaSy2
set_option linter.all false
namespace Go.Sx
/-! more of slices -/
theorem SlT.of {P : Program} {t el : TypeId} {es bytes : Nat} (u : P.underlying t = some (.slice el)) (i : (P.info? el).map (fun i => (i.size, i.bytes)) = some (es, bytes))
    (z : (fZero P el).map (fun z => z.cells.size) = some es) (pos : 0 < es) (bpos : 0 < bytes) : SlT P t el es bytes := by
  simp only [Option.map_eq_some_iff, Prod.mk.injEq] at i z
  exact ⟨u, i, z, pos, bpos⟩
/-- values that are one cell -/
class OneV (v : Value) : Prop where
  c : v.cells = #[v]
  o : v.oneCell' = true
instance (k : IntKind) (n : Int) : OneV (.int k n) := ⟨rfl, rfl⟩
instance (s : ByteArray) : OneV (.string s) := ⟨rfl, rfl⟩
instance (b : Bool) : OneV (.bool b) := ⟨rfl, rfl⟩
instance (a : Option Addr) : OneV (.pointer a) := ⟨rfl, rfl⟩
instance (a : Option Addr) (n c : Nat) : OneV (.slice a n c) := ⟨rfl, rfl⟩
instance (m : Option Nat) : OneV (.map m) := ⟨rfl, rfl⟩
theorem Rd.one {w : World} {es n : Nat} {v : Value} {cs : List Value} (h : Rd w es v n cs) : OneV v := by cases h <;> infer_instance
theorem Own.one {w : World} {es n : Nat} {ty : TypeId} {fp : List Nat} {v : Value} {cs : List Value} (h : Own w es ty fp v n cs) : OneV v := h.rd.one

section
variable {w w' : World} {es n : Nat} {ty : TypeId} {fp : List Nat} {v : Value} {cs : List Value}
theorem st_at {b o : Nat} {c : Array Value} (h : w.heap[b]? = some (.cells c ty (0, 0))) (x : Value) [hx : OneV x] (ho : o < c.size) :
    st 1 (.pointer (some ⟨b, o, none⟩)) x w = some (setBlk w b (.cells (c.setIfInBounds o x) ty (0, 0))) := by
  simp only [st, hx.c]
  rw [if_pos (by rfl), stCells_ok h (by simp; omega) (by simp [hx.o])]
  rfl
theorem cell_set {b : Nat} {o' : Obj} (h : w.heap[b]? = some o') (c : Array Value) (ty : TypeId) (fz : Nat × Nat) (i : Nat) : (setBlk w b (.cells c ty fz)).cell? ⟨b, i, none⟩ = c[i]? := cell_of (setBlk_same h)
theorem st_set {b o : Nat} {o' : Obj} (h : w.heap[b]? = some o') (c : Array Value) (ty : TypeId) (x : Value) [OneV x] (ho : o < c.size) :
    st 1 (.pointer (some ⟨b, o, none⟩)) x (setBlk w b (.cells c ty (0, 0))) = some (setBlk w b (.cells (c.setIfInBounds o x) ty (0, 0))) := by
  rw [st_at (setBlk_same h) x ho, setBlk_setBlk]

theorem eBuildSl_own {P : Program} {t el : TypeId} {len : Nat} {parts : List (Nat × Value)} {K : Value → World → Prop} {c : Array Value} (hu : P.underlying t = some (.slice el))
    (hc : fBuildSl P el len parts = some c) (hs : c.size = len * es) (hK : ∀ w' s, Own w' es el [w.heap.size] s len c.toList → Stp [] [w.heap.size] w w' → K s w') : eBuildSl P t len parts w K := by
  simp only [eBuildSl, hu, hc]
  refine hK _ _ (.blk (heap_alloc_new _ _) (Nat.le_refl _) (by omega) ?_) ⟨Fr.alloc _ _ _, fun b hb => .inr (by simp at hb; omega)⟩
  rw [← hs, List.drop_zero, List.take_of_length_le (by simp)]
theorem eMakeSl_own {P : Program} {t el : TypeId} {bytes : Nat} {l c : Nat} {K : Value → World → Prop} (T : SlT P t el es bytes) (hl : l ≤ c) (hc : c * bytes ≤ 281474976710656)
    (hK : ∀ w' s cs, Own w' es el [w.heap.size] s l cs → Stp [] [w.heap.size] w w' → K s w') : eMakeSl P t (.int .i64 l) (.int .i64 c) w K := by
  obtain ⟨i, hi, his, hib⟩ := T.i
  obtain ⟨z, hz, hzs⟩ := T.z
  have hb := T.bpos
  have : c ≤ c * bytes := Nat.le_mul_of_pos_right _ hb
  simp only [eMakeSl, T.u, hi, his, hib]
  have hcm : (bytes : Int) * (c : Int) ≤ 2 ^ 48 := by rw [Int.mul_comm]; exact_mod_cast hc
  refine ⟨by omega, by omega, by omega, hcm, ?_⟩
  have hzo : ∃ z, zOf P el ((c : Int).toNat * es) = some z := by
    unfold zOf; split
    · exact ⟨_, rfl⟩
    · exact ⟨z.cells, by simp [hz]⟩
  obtain ⟨z', hz'⟩ := hzo
  rw [hz']
  exact hK _ _ _ (.blk (heap_alloc_new _ _) (by omega) (by simp [zcells]) rfl) ⟨Fr.alloc _ _ _, fun b hb => .inr (by simp at hb; omega)⟩
/-- copy over all of a slice that is as long -/
theorem eCopy_own {P : Program} {t el : TypeId} {bytes : Nat} {d x : Value} {ds : List Value} {K : Value → World → Prop} (T : SlT P t el es bytes) (hO : Own w es el fp d n cs) (hR : Rd w es x n ds)
    (hd : ds.all (·.oneCell') = true) (hK : ∀ w', Own w' es el fp d n ds → Stp fp fp w w' → K (.int .i64 n) w') : eCopy P t d x w K := by
  obtain ⟨i, hi, his, hib⟩ := T.i
  have hnew := hR.firstC (Nat.le_refl n)
  have hlen := hR.length
  rw [List.take_of_length_le (by omega)] at hnew
  cases hO with
  | nil =>
    have : ds = [] := by cases ds with | nil => rfl | cons => simp at hlen
    subst this
    simp only [eCopy, T.u, hi, hR.lenV, his, Nat.min_def, Nat.le_refl, if_true, hnew, stMaybe]
    exact hK _ .nil (.refl _ _)
  | blk hb hn ha hc =>
    rename_i b o cap a
    have hm := Nat.mul_le_mul_right es hn
    simp only [eCopy, T.u, hi, hR.lenV, his, Nat.min_def, Nat.le_refl, if_true, hnew, stMaybe, Nat.add_zero]
    rw [stCells_ok hb (by simp only [hlen]; omega) hd]
    refine hK _ (.blk (setBlk_same hb) hn (by simpa using ha) ?_) ⟨Fr.set _ _ (by simp), fun x hx => .inl hx⟩
    rw [wr_toList _ _ _ (by rw [hlen]; omega)]
    rw [List.append_assoc, List.drop_left' (by simp; omega), List.take_left' hlen]
end

/-! parts of slices -/
/-- a bound: none for what stands at it, or a number -/
inductive Bd (d : Nat) : Option Value → Nat → Prop
  | none : Bd d none d
  | some (j : IntKind) (i : Nat) : Bd d (some (.int j i)) i
inductive BdM (hi n : Nat) : Option Value → Option Value → Prop
  | none (h : Option Value) : BdM hi n h none
  | some (v : Value) (j : IntKind) (m : Nat) (h1 : hi ≤ m) (h2 : m ≤ n) : BdM hi n (some v) (some (.int j m))
theorem pSliceL_ok {es n cap lo hi : Nat} {a : Option Addr} {L H M : Option Value} (hL : Bd 0 L lo) (hH : Bd n H hi) (hM : BdM hi n H M) (h1 : lo ≤ hi) (h2 : hi ≤ n) (h3 : n ≤ cap) :
    ∃ m, hi ≤ m ∧ m ≤ cap ∧ pSliceL es (.slice a n cap) L H M = some (.slice (if m = lo then a else a.map (·.add (lo * es))) (hi - lo) (m - lo)) := by
  have bl : bnd L 0 hi = some lo := by cases hL <;> simp [bnd] <;> omega
  cases hM with
  | none =>
    refine ⟨cap, by omega, Nat.le_refl _, ?_⟩
    have bh : hiB none H n cap = some hi := by cases hH <;> simp [hiB, bnd]; omega
    simp [pSliceL, bnd, bh] at *
    simp [bl]
  | some v j m h1 h2 =>
    refine ⟨m, h1, by omega, ?_⟩
    have bm : bnd (some (.int j m)) cap cap = some m := by simp [bnd]; omega
    have bh : hiB (some (.int j m)) (some v) n m = some hi := by cases hH; simp [hiB, bnd]; omega
    simp only [pSliceL, bm, bh, bl]
theorem addr_add {b o k : Nat} : (⟨b, o, none⟩ : Addr).add k = ⟨b, o + k, none⟩ := by unfold Addr.add; split <;> simp_all
section
variable {w : World} {es n lo hi : Nat} {ty : TypeId} {fp : List Nat} {v : Value} {cs : List Value} {L H M : Option Value}
theorem sub_cells {a : List Value} {o : Nat} (h1 : lo ≤ hi) (h2 : hi ≤ n) : List.drop (lo * es) (List.take (hi * es) (List.take (n * es) (List.drop o a))) = List.take ((hi - lo) * es) (List.drop (o + lo * es) a) := by
  have e1 := Nat.mul_le_mul_right es h1
  have e2 := Nat.mul_le_mul_right es h2
  rw [List.take_take, Nat.min_eq_left e2, List.drop_take, List.drop_drop, Nat.sub_mul]
theorem Own.sub (h : Own w es ty fp v n cs) (hL : Bd 0 L lo) (hH : Bd n H hi) (hM : BdM hi n H M) (h1 : lo ≤ hi) (h2 : hi ≤ n) :
    ∃ v', pSliceL es v L H M = some v' ∧ Own w es ty fp v' (hi - lo) ((cs.take (hi * es)).drop (lo * es)) := by
  cases h with
  | nil =>
    obtain ⟨m, hm1, hm2, e⟩ := pSliceL_ok (es := es) (a := none) hL hH hM h1 h2 (Nat.le_refl _)
    refine ⟨_, e, ?_⟩
    have : m = 0 := by omega
    subst this
    have : hi = 0 := by omega
    subst this
    have : lo = 0 := by omega
    subst this
    simpa using Own.nil
  | blk hb hn ha hc =>
    rename_i b o cap a
    obtain ⟨m, hm1, hm2, e⟩ := pSliceL_ok (es := es) (a := some ⟨b, o, none⟩) hL hH hM h1 h2 hn
    refine ⟨_, e, ?_⟩
    have e3 := Nat.mul_le_mul_right es hm2
    subst hc
    rw [sub_cells h1 h2]
    by_cases hml : m = lo
    · have : hi - lo = 0 := by omega
      rw [if_pos hml, this]
      exact .blk hb (by omega) (by rw [hml, Nat.sub_self]; omega) (by simp)
    · rw [if_neg hml]
      simp only [Option.map_some, addr_add]
      refine .blk hb (by omega) ?_ rfl
      have e4 : lo * es ≤ m * es := Nat.mul_le_mul_right es (by omega)
      rw [Nat.sub_mul]; omega
theorem Rd.sub (h : Rd w es v n cs) (hL : Bd 0 L lo) (hH : Bd n H hi) (hM : BdM hi n H M) (h1 : lo ≤ hi) (h2 : hi ≤ n) :
    ∃ v', pSliceL es v L H M = some v' ∧ Rd w es v' (hi - lo) ((cs.take (hi * es)).drop (lo * es)) := by
  cases h with
  | emp a cap =>
    obtain ⟨m, hm1, hm2, e⟩ := pSliceL_ok (es := es) (a := a) hL hH hM h1 h2 (Nat.zero_le cap)
    refine ⟨_, e, ?_⟩
    have : hi = 0 := by omega
    subst this
    have : lo = 0 := by omega
    subst this
    simpa using Rd.emp _ _
  | blk hb hn ha hc =>
    rename_i b o cap a ty fz
    obtain ⟨m, hm1, hm2, e⟩ := pSliceL_ok (es := es) (a := some ⟨b, o, none⟩) hL hH hM h1 h2 hn
    refine ⟨_, e, ?_⟩
    have e3 := Nat.mul_le_mul_right es h2
    subst hc
    rw [sub_cells h1 h2]
    by_cases hml : m = lo
    · have : hi - lo = 0 := by omega
      rw [if_pos hml, this]
      exact .blk hb (by omega) (by omega) (by simp)
    · rw [if_neg hml]
      simp only [Option.map_some, addr_add]
      refine .blk hb (by omega) ?_ rfl
      have e4 : lo * es ≤ hi * es := Nat.mul_le_mul_right es (by omega)
      rw [Nat.sub_mul]; omega
end
end Go.Sx
