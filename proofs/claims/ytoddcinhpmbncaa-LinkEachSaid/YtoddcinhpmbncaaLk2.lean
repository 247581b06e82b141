/- A part of the proofs: what stands below it, told in lemmas. No condition. -/
import Derived.Test.YtoddcinhpmbncaaLk1
namespace Go.Proofs.Gong
open Go Go.Sx Go.Proofs
set_option maxRecDepth 100000
def LinkM.rcells (l : LinkM) (sv : Value) : Array Value := #[.int .i64 l.most, .int .i64 l.passed, sv, .int .i64 l.sent, .int .i64 l.came, .int .i64 l.lost, .int .i64 l.doubled]
def RefH (v : Value) (l : LinkM) : HP := HEx fun p => HEx fun sv => HPr (v = ptr p ∧ (l.letters.length : Int) ≤ l.most ∧ l.most ≤ 65536) (HSt (Cl p (l.rcells sv) 59) (SlH 1 9 sv l.letters.length (strs l.letters)))
section
variable {w0 w : World} {L : List HP} {v : Value} {l : LinkM} {s : ByteArray} {K : Value → World → Prop}
theorem ref_iff : Sat w0 (RefH v l :: L) w ↔ ∃ p sv, (v = ptr p ∧ (l.letters.length : Int) ≤ l.most ∧ l.most ≤ 65536) ∧ Sat w0 (Cl p (l.rcells sv) 59 :: SlH 1 9 sv l.letters.length (strs l.letters) :: L) w := by
  simp only [RefH, Sat.ex_iff, Sat.pr_iff, Sat.star_iff]
theorem ref_mk {p : Nat} {sv : Value} (h : Sat w0 (Cl p (l.rcells sv) 59 :: SlH 1 9 sv l.letters.length (strs l.letters) :: L) w) (h1 : (l.letters.length : Int) ≤ l.most) (h2 : l.most ≤ 65536) : Sat w0 (RefH (ptr p) l :: L) w :=
  ref_iff.2 ⟨p, sv, ⟨rfl, h1, h2⟩, h⟩
theorem rsend_spec (h : Sat w0 (RefH v l :: L) w) (hK : ∀ w', Sat w0 (RefH v (l.send s).2 :: L) w' → K (.int .i64 (l.send s).1) w') : callP G25 [v, .string s] w K := by
  refine c25 ?_
  unfold F25
  obtain ⟨p, sv, ⟨hv, hf, hm⟩, hs⟩ := ref_iff.1 h; subst hv; have h := hs
  have hb := h.cl
  have hlen := h.f1.rd.len
  simp [ptr, cell_of hb, LinkM.rcells, hlen]
  by_cases hfull : (l.letters.length : Int) ≥ l.most
  · simp [LinkM.send, hfull] at hK ⊢
    exact hK _ (ref_mk h hf hm).drew
  · simp [LinkM.send, hfull] at hK ⊢
    simp [st_at (show w.drew.heap[p]? = _ from hb), LinkM.rcells]
    refine eBuildSl_sat (c := #[]) (len := 0) (es := 1) (h.drew.setc _) u49 (by kernel_rfl) rfl fun s1 w1 h1 => ?_
    simp [cell_of h1.f1.cl]
    refine eAppend_sat (m := l.letters.length) (ds := strs l.letters) h1 sl49 ss49 h1.f2.rd (strs_one _) (by omega) fun s2 w2 h2 => ?_
    refine eBuildSl_sat (c := #[.string s]) (len := 1) (es := 1) h2 u49 (by kernel_rfl) rfl fun s3 w3 h3 => ?_
    refine eAppend_sat (m := 1) (ds := strs [s]) h3.f1 sl49 ss49 h3.rd (strs_one _) (by omega) fun s4 w4 h4 => ?_
    have := h4.rd.one
    refine bindW_st h4.f2 (by simp) fun w5 h5 => ?_
    refine hK _ (ref_mk (sv := s4) (l := { l with sent := inc l.sent, letters := l.letters ++ [s]}) ?_ (by simp; omega) hm)
    have h6 := h5.pick [0, 1] [2, 3] 4 (by decide) (by simp)
    simp only [List.length_append, List.length_cons, List.length_nil, Nat.zero_add, strs_append] at h6 ⊢
    exact h6
theorem rtake_spec {i : Int} (h : Sat w0 (RefH v l :: L) w) (hK : ∀ w', Sat w0 (RefH v (if l.at i then { l with letters := l.letters.take i.toNat ++ l.letters.drop (i.toNat + 1) } else l) :: L) w' →
    K (.tuple #[.string (if l.at i then l.letters.getD i.toNat ⟨#[]⟩ else ⟨#[]⟩), .bool (l.at i)]) w') : callP G33 [v, .int .i64 i] w K := by
  refine c33 ?_
  unfold F33
  obtain ⟨p, sv, ⟨hv, hf, hm⟩, hs⟩ := ref_iff.1 h; subst hv; have h := hs
  have hb := h.cl
  obtain ⟨fp, hO, k⟩ := h.f1.own
  have hlen := hO.rd.len
  by_cases h0 : i < 0
  · have ha : l.at i = false := by simp [LinkM.at]; omega
    simp [h0, ha] at hK ⊢
    exact hK _ (ref_mk h hf hm)
  by_cases h1 : (l.letters.length : Int) ≤ i
  · have ha : l.at i = false := by simp [LinkM.at]; omega
    simp [h0, ha, h1, ptr, cell_of hb, LinkM.rcells, hlen] at hK ⊢
    exact hK _ (ref_mk h hf hm)
  have ha : l.at i = true := by simp [LinkM.at]; omega
  obtain ⟨i, rfl, hi⟩ := at_lt ha
  obtain ⟨a, ha1, ha2⟩ := hO.rd.at1 hi (j := .i64)
  obtain ⟨s1, hs1, hO1⟩ := hO.sub (lo := 0) (hi := i) (L := none) (H := some (.int .i64 i)) (M := none) .none (.some _ _) (.none _) (by omega) (by omega)
  obtain ⟨s2, hs2, hO2⟩ := hO.sub (lo := i + 1) (hi := l.letters.length) (L := some (.int .i64 (i + 1 : Nat))) (H := none) (M := none) (.some _ _) .none (.none _) (by omega) (by omega)
  have hw : IntKind.i64.wrap ((i : Int) + 1) = ((i + 1 : Nat) : Int) := by rw [wrap_id (by omega)]; rfl
  have hc : (strs l.letters)[i]? = some (.string l.letters[i]) := by simp [strs, hi]
  rw [Int.natCast_add] at hs2 hw
  simp only [Int.natCast_one] at hs2 hw
  have h0' : ¬ ((i : Int) < 0) := by omega
  simp only [ha, if_true, Int.toNat_natCast] at hK
  simp [ptr, cell_of hb, LinkM.rcells, hlen, ha1, ha2, hc, hs1, hw, hs2, h1, h0']
  refine eBuildSl_sat (c := #[]) (len := 0) (es := 1) h.drew u49 (by kernel_rfl) rfl fun s3 w3 h3 => ?_
  have hr1 := h3.f2.rd.sub' hs1 .none (.some _ _) (.none _) (by omega) (by omega)
  refine ⟨cell_of h3.f1.cl, eAppend_sat (m := i) (ds := strs (l.letters.take i)) h3 sl49 ss49 (by simpa [strs, List.map_take] using hr1) (strs_one _) (by omega) fun s4 w4 h4 => ⟨cell_of h4.f1.cl, ?_⟩⟩
  have hr2 := h4.f2.rd.sub' (hs2 : pSliceL 1 sv (some (.int .i64 ((i : Int) + 1))) none none = some s2) (lo := i + 1) (hi := l.letters.length) (.some _ _) .none (.none _) (by omega) (by omega)
  refine eAppend_sat (m := l.letters.length - (i + 1)) (ds := strs (l.letters.drop (i + 1))) h4 sl49 ss49 (by simpa [strs, List.map_drop, List.take_of_length_le] using hr2) (strs_one _) (by omega) fun s5 w5 h5 => ?_
  have := h5.rd.one
  refine bindW_st h5.f1 (by simp [LinkM.rcells]) fun w6 h6 => ?_
  have := hK w6 (ref_mk (sv := s5) (l := { l with letters := l.letters.take i ++ l.letters.drop (i + 1) }) ?_ (by simp; omega) hm)
  · simpa [hi] using this
  · have h6 := h6.pick [0, 1] [2] 3 (by decide) (by simp)
    have e : (l.letters.take i ++ l.letters.drop (i + 1)).length = 0 + i + (l.letters.length - (i + 1)) := by simp; omega
    simp only [e, strs_append]
    exact h6
theorem rTake_spec {i : Int} (h : Sat w0 (RefH v l :: L) w)
    (hK : ∀ w', Sat w0 (RefH v (l.take i).2 :: L) w' → K (.tuple #[.string (l.take i).1.1, .int .i64 (l.take i).1.2]) w') : callP G26 [v, .int .i64 i] w K := by
  refine c26 ?_
  unfold F26
  refine rtake_spec h fun w1 h1 => ?_
  by_cases ha : l.at i = true
  · simp [LinkM.take, ha] at hK h1 ⊢
    obtain ⟨p, sv, ⟨hv, hf, hm⟩, hs⟩ := ref_iff.1 h1; subst hv; have h := hs
    have hb := h.cl
    simp [ptr, cell_of hb, LinkM.rcells, st_at hb]
    exact hK _ (ref_mk (h.setc _) hf hm)
  · simp [LinkM.take, ha] at hK h1 ⊢
    exact hK _ h1
theorem rlose_spec {i : Int} (h : Sat w0 (RefH v l :: L) w)
    (hK : ∀ w', Sat w0 (RefH v (l.lose i).2 :: L) w' → K (.int .i64 (l.lose i).1) w') : callP G27 [v, .int .i64 i] w K := by
  refine c27 ?_
  unfold F27
  refine rtake_spec h fun w1 h1 => ?_
  by_cases ha : l.at i = true
  · simp [LinkM.lose, ha] at hK h1 ⊢
    obtain ⟨p, sv, ⟨hv, hf, hm⟩, hs⟩ := ref_iff.1 h1; subst hv; have h := hs
    have hb := h.cl
    simp [ptr, cell_of hb, LinkM.rcells, st_at hb]
    exact hK _ (ref_mk (h.setc _) hf hm)
  · simp [LinkM.lose, ha] at hK h1 ⊢
    exact hK _ h1
theorem rdouble_spec {i : Int} (h : Sat w0 (RefH v l :: L) w)
    (hK : ∀ w', Sat w0 (RefH v (l.double i).2 :: L) w' → K (.int .i64 (l.double i).1) w') : callP G28 [v, .int .i64 i] w K := by
  refine c28 ?_
  unfold F28
  obtain ⟨p, sv, ⟨hv, hf, hm⟩, hs⟩ := ref_iff.1 h; subst hv; have h := hs
  have hb := h.cl
  have hlen := h.f1.rd.len
  by_cases h0 : i < 0
  · have ha : l.at i = false := by simp [LinkM.at]; omega
    simp [h0, ha, LinkM.double] at hK ⊢
    exact hK _ (ref_mk h hf hm)
  by_cases h1 : (l.letters.length : Int) ≤ i
  · have ha : l.at i = false := by simp [LinkM.at]; omega
    simp [h0, ha, h1, ptr, cell_of hb, LinkM.rcells, hlen, LinkM.double] at hK ⊢
    exact hK _ (ref_mk h hf hm)
  have ha : l.at i = true := by simp [LinkM.at]; omega
  obtain ⟨i, rfl, hi⟩ := at_lt ha
  obtain ⟨a, ha1, ha2⟩ := h.f1.rd.at1 hi (j := .i64)
  have hc : (strs l.letters)[i]? = some (.string l.letters[i]) := by simp [strs, hi]
  have h0' : ¬ ((i : Int) < 0) := by omega
  by_cases hfull : (l.letters.length : Int) ≥ l.most
  · simp [LinkM.double, ha, hfull] at hK
    simp [ptr, cell_of hb, LinkM.rcells, hlen, h1, h0', hfull]
    exact hK _ (ref_mk h hf hm).drew
  · simp [LinkM.double, ha, hfull, hi] at hK
    simp [ptr, cell_of hb, LinkM.rcells, hlen, h1, h0', hfull]
    refine bindW_st h.drew (by simp [LinkM.rcells]) fun w1 g => ?_
    have g := g.drew
    have e0 : ∀ (W : World) (M : List HP) (c : Array Value), Sat w0 (Cl p c 59 :: SlH 1 9 sv l.letters.length (strs l.letters) :: M) W → c[2]? = some sv → W.cell? ⟨p, 2, none⟩ = some sv ∧ W.cell? a = some (.string l.letters[i]) := by
      intro W M c hW hc2
      obtain ⟨a', hb1, hb2⟩ := hW.f1.rd.at1 hi (j := .i64)
      rw [ha1] at hb1; cases hb1
      exact ⟨by rw [cell_of hW.cl, hc2], by rw [hb2, hc]⟩
    have fin : ∀ (W : World) (s' : Value), Sat w0 (SlH 1 9 s' (l.letters.length + 1) (strs l.letters ++ [.string l.letters[i]]) :: Cl p ((l.rcells sv).setIfInBounds 6 (Value.int IntKind.i64 (IntKind.i64.wrap (l.doubled + 1)))) 59 :: L) W →
        bindW (st 1 (.pointer (some ⟨p, 2, none⟩)) s' W) fun w46 => K (.int .i64 0) w46 := by
      intro W s' hW
      have := hW.rd.one
      refine bindW_st hW.f1 (by simp [LinkM.rcells]) fun w5 h5 => ?_
      refine hK _ (ref_mk (sv := s') (l := { l with doubled := inc l.doubled, letters := l.letters ++ [l.letters[i]]}) ?_ (by simp; omega) hm)
      simp only [List.length_append, List.length_cons, List.length_nil, Nat.zero_add, strs_append]
      exact h5
    have hc2 : ((l.rcells sv).setIfInBounds 6 (Value.int IntKind.i64 (IntKind.i64.wrap (l.doubled + 1))))[2]? = some sv := by simp [LinkM.rcells]
    have e1 := e0 _ _ _ g hc2
    simp only [cell_drew] at e1
    simp [e1, ha1, -List.size_toArray]
    have lit0 : ∀ (W : World) (M : List HP) (K' : Value → World → Prop), Sat w0 M W → (∀ s' W', Sat w0 (SlH 1 9 s' 0 [] :: M) W' → K' s' W') → eBuildSl Try.prog 49 0 [] W K' :=
      fun W M K' hW hk => eBuildSl_sat (c := #[]) (len := 0) (es := 1) hW u49 (by kernel_rfl) rfl hk
    have lit1 : ∀ (W : World) (M : List HP) (K' : Value → World → Prop), Sat w0 M W → (∀ s' W', Sat w0 (SlH 1 9 s' 1 [.string l.letters[i]] :: M) W' → K' s' W') → eBuildSl Try.prog 49 1 [(0, .string l.letters[i])] W K' :=
      fun W M K' hW hk => eBuildSl_sat (c := #[.string l.letters[i]]) (len := 1) (es := 1) hW u49 (by kernel_rfl) rfl hk
    have one1 : ([.string l.letters[i]] : List Value).all (·.oneCell') = true := rfl
    refine ⟨lit0 _ _ _ g fun s3 w3 h3 => ⟨e0 _ _ _ (h3.pick [1, 2, 0] [] 3 (by decide) (by simp)) hc2, ?_, ?_⟩, ?_⟩
    · refine eAppend_sat (m := l.letters.length) h3 sl49 ss49 h3.f2.rd (strs_one _) (by omega) fun s4 w4 h4 => ?_
      refine ⟨e0 _ _ _ (h4.pick [1, 2, 0] [] 3 (by decide) (by simp)) hc2, lit1 _ _ _ h4 fun s5 w5 h5 => ⟨(e0 _ _ _ (h5.pick [2, 3, 0] [1] 4 (by decide) (by simp)) hc2).1, ?_⟩⟩
      refine eAppend_sat (m := 1) h5.f1 sl49 ss49 h5.rd one1 (by omega) fun s6 w6 h6 => ?_
      exact fin _ _ (by simpa using h6.pick [0, 2] [1, 3] 4 (by decide) (by simp))
    · refine lit1 _ _ _ h3 fun s5 w5 h5 => ⟨(e0 _ _ _ (h5.pick [2, 3, 0] [1] 4 (by decide) (by simp)) hc2).1, ?_⟩
      refine eAppend_sat (m := l.letters.length) h5.f1 sl49 ss49 h5.f3.rd (strs_one _) (by omega) fun s4 w4 h4 => ?_
      refine ⟨e0 _ _ _ (h4.pick [2, 3, 0] [1] 4 (by decide) (by simp)) hc2, ?_⟩
      refine eAppend_sat (m := 1) h4 sl49 ss49 h4.f1.rd one1 (by omega) fun s6 w6 h6 => ?_
      exact fin _ _ (by simpa using h6.pick [0, 2] [1, 3] 4 (by decide) (by simp))
    · refine lit1 _ _ _ g fun s3 w3 h3 => ⟨(e0 _ _ _ (h3.pick [1, 2, 0] [] 3 (by decide) (by simp)) hc2).1, ?_⟩
      refine lit0 _ _ _ h3 fun s4 w4 h4 => ⟨e0 _ _ _ (h4.pick [2, 3, 0] [1] 4 (by decide) (by simp)) hc2, ?_⟩
      refine eAppend_sat (m := l.letters.length) h4 sl49 ss49 h4.f3.rd (strs_one _) (by omega) fun s5 w5 h5 => ?_
      refine ⟨e0 _ _ _ (h5.pick [2, 3, 0] [1] 4 (by decide) (by simp)) hc2, ?_⟩
      refine eAppend_sat (m := 1) h5 sl49 ss49 h5.f1.rd one1 (by omega) fun s6 w6 h6 => ?_
      exact fin _ _ (by simpa using h6.pick [0, 2] [1, 3] 4 (by decide) (by simp))
theorem rpass_spec {k : Int} (h : Sat w0 (RefH v l :: L) w)
    (hK : ∀ w', Sat w0 (RefH v (l.pass k).2 :: L) w' → K (.tuple #[.bool (l.pass k).1.1, .int .i64 (l.pass k).1.2]) w') : callP G29 [v, .int .i64 k] w K := by
  refine c29 ?_
  unfold F29
  by_cases hk : k < 1
  · simp [LinkM.pass, hk] at hK ⊢
    exact hK _ h
  · obtain ⟨p, sv, ⟨hv, hf, hm⟩, hs⟩ := ref_iff.1 h; subst hv; have h := hs
    have hb := h.cl
    simp [ptr, cell_of hb, LinkM.rcells, st_at hb, hk, cell_set hb, st_set hb]
    by_cases hp : inc l.passed < k
    · have hp' : ¬ (k ≤ inc l.passed) := by omega
      simp [LinkM.pass, hk, hp] at hK
      simp only [inc] at hp'
      simp [hp']
      exact hK _ (ref_mk (h.setc _) hf hm)
    · have hp' : k ≤ inc l.passed := by omega
      simp [LinkM.pass, hk, hp] at hK
      simp only [inc] at hp'
      simp [hp']
      exact hK _ (ref_mk (h.setc _) hf hm)
theorem rclear_spec (h : Sat w0 (RefH v l :: L) w) (hK : ∀ w', Sat w0 (RefH v l.clear :: L) w' → K (.tuple #[]) w') : callP G30 [v] w K := by
  refine c30 ?_
  unfold F30
  obtain ⟨p, sv, ⟨hv, hf, hm⟩, hs⟩ := ref_iff.1 h; subst hv; have h := hs.drew
  have hb := h.cl
  simp at hb
  simp [ptr, cell_of hb, LinkM.rcells, h.f1.rd.len, st_at h.cl, st_set h.cl]
  exact hK _ (ref_mk (l := l.clear) (((h.f1.drop).nilsl.f1).setc _) (by simp [LinkM.clear]; omega) hm)
theorem rnew_spec {n : Int} (h : Sat w0 L w) (hK0 : (n < 1 ∨ 65536 < n) → K (.tuple #[.pointer none, .int .i64 1]) w)
    (hK : ∀ v w', 1 ≤ n → n ≤ 65536 → Sat w0 (RefH v ⟨n, [], 0, 0, 0, 0, 0⟩ :: L) w' → K (.tuple #[v, .int .i64 0]) w') : callP G17 [.int .i64 n] w K := by
  refine c17 ?_
  unfold F17
  by_cases h1 : n < 1
  · simp [h1]; exact hK0 (.inl h1)
  by_cases h2 : 65536 < n
  · simp [h1, h2]; exact hK0 (.inr h2)
  have e : fBuild Try.prog 59 [(0, .int .i64 n)] = some (.agg (LinkM.rcells ⟨n, [], 0, 0, 0, 0, 0⟩ (.slice none 0 0))) := by kernel_rfl
  simp [h1, h2, e]
  refine eBox_sat h fun p w1 hw => ?_
  exact hK _ _ (by omega) (by omega) (ref_mk (l := ⟨n, [], 0, 0, 0, 0, 0⟩) hw.nilsl.f1 (by simp; omega) (by simp; omega))
/-! the book's words -/
theorem below_spec {x n : Int} (hn : 0 < n) (hn2 : n < 1000000) (hK : ∀ r : Int, 0 ≤ r → r < n → r = (x.tmod n + n).tmod n → K (.int .i64 r) w) : callP G6 [.int .i64 x, .int .i64 n] w K := by
  refine c6 ?_
  unfold F6
  have h1 := Int.tmod_lt_of_pos x hn
  have h2 : -n < x.tmod n := by
    have := Int.lt_tmod_of_pos x hn
    omega
  have h3 := Int.tmod_nonneg n (show (0 : Int) ≤ x.tmod n + n by omega)
  have h4 := Int.tmod_lt_of_pos (x.tmod n + n) hn
  simp [bRem_int _ _ _ (show n ≠ 0 by omega), wrap_id (show -9223372036854775808 ≤ x.tmod n + n ∧ x.tmod n + n ≤ 9223372036854775807 by omega)]
  exact hK _ h3 h4 rfl
end
end Go.Proofs.Gong
