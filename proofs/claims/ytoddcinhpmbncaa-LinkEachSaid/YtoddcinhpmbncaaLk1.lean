/- A part of the proofs: what stands below it, told in lemmas. No condition. -/
import Derived.Test.YtoddcinhpmbncaaLink
import Derived.Test.YtoddcinhpmbncaaSz2
namespace Go.Proofs.Gong
open Go Go.Sx Go.Proofs
set_option maxRecDepth 100000
theorem Tstrs : SlT Try.prog 49 9 1 16 := .of (by kernel_rfl) (by kernel_rfl) (by kernel_rfl) (by omega) (by omega)
theorem ssStrs : isSS Try.prog 49 = true := by kernel_rfl

def inc (n : Int) : Int := IntKind.i64.wrap (n + 1)
structure LinkM where
  most : Int
  letters : List ByteArray
  passed : Int
  sent : Int
  came : Int
  lost : Int
  doubled : Int
def strs (l : List ByteArray) : List Value := l.map .string
def LinkM.cells (l : LinkM) (sv : Value) : Array Value := #[.int .i64 l.most, sv, .int .i64 l.passed, .int .i64 l.sent, .int .i64 l.came, .int .i64 l.lost, .int .i64 l.doubled]
def LinkH (v : Value) (l : LinkM) : HP := HEx fun p => HEx fun sv => HPr (v = ptr p ∧ (l.letters.length : Int) ≤ l.most ∧ l.most ≤ 65536) (HSt (Cl p (l.cells sv) 51) (SlH 1 9 sv l.letters.length (strs l.letters)))
theorem strs_append (l m : List ByteArray) : strs (l ++ m) = strs l ++ strs m := by simp [strs]
theorem strs_one (l : List ByteArray) : (strs l).all (·.oneCell') = true := by simp [strs, Value.oneCell']
section
variable {w0 w : World} {L : List HP} {v : Value} {l : LinkM} {s : ByteArray} {K : Value → World → Prop}
theorem link_iff : Sat w0 (LinkH v l :: L) w ↔ ∃ p sv, (v = ptr p ∧ (l.letters.length : Int) ≤ l.most ∧ l.most ≤ 65536) ∧ Sat w0 (Cl p (l.cells sv) 51 :: SlH 1 9 sv l.letters.length (strs l.letters) :: L) w := by
  simp only [LinkH, Sat.ex_iff, Sat.pr_iff, Sat.star_iff]
theorem link_mk {p : Nat} {sv : Value} (h : Sat w0 (Cl p (l.cells sv) 51 :: SlH 1 9 sv l.letters.length (strs l.letters) :: L) w) (h1 : (l.letters.length : Int) ≤ l.most) (h2 : l.most ≤ 65536) : Sat w0 (LinkH (ptr p) l :: L) w :=
  link_iff.2 ⟨p, sv, ⟨rfl, h1, h2⟩, h⟩

def LinkM.put (l : LinkM) (s : ByteArray) : Bool × LinkM := if (l.letters.length : Int) ≥ l.most then (false, l) else (true, { l with letters := l.letters ++ [s] })
theorem put_spec (h : Sat w0 (LinkH v l :: L) w) (hK : ∀ w', Sat w0 (LinkH v (l.put s).2 :: L) w' → K (.bool (l.put s).1) w') : callP G22 [v, .string s] w K := by
  refine c22 ?_
  unfold F22
  obtain ⟨p, sv, ⟨hv, hf, hm⟩, hs⟩ := link_iff.1 h; subst hv; have h := hs
  have hb := h.cl
  have hlen := h.f1.rd.len
  simp [ptr, cell_of hb, LinkM.cells, hlen]
  by_cases hfull : (l.letters.length : Int) ≥ l.most
  · simp [LinkM.put, hfull] at hK ⊢
    exact hK _ (link_mk h hf hm).drew
  · simp [LinkM.put, hfull] at hK ⊢
    refine eBuildSl_sat (c := #[.string s]) (len := 1) (es := 1) h.drew Tstrs.u (by kernel_rfl) rfl fun s1 w1 h1 => ?_
    refine eAppend_sat (m := 1) (ds := strs [s]) h1.f2 Tstrs ssStrs h1.rd (strs_one _) (by omega) fun s2 w2 h2 => ?_
    have h3 := h2.f2
    have := h2.rd.one
    rw [st_at h3.cl s2 (by simp [LinkM.cells])]
    simp only [bindW_some]
    refine hK _ (link_mk (l := { l with letters := l.letters ++ [s] }) (sv := s2) ?_ (by simp; omega) hm)
    have h4 := h3.setc ((l.cells sv).setIfInBounds 1 s2)
    simp only [List.length_append, List.length_cons, List.length_nil, Nat.zero_add, strs_append]
    exact h4.f2.drop
def LinkM.send (l : LinkM) (s : ByteArray) : Int × LinkM := if (l.letters.length : Int) ≥ l.most then (200, l) else (0, { l with letters := l.letters ++ [s], sent := inc l.sent })
theorem send_spec (h : Sat w0 (LinkH v l :: L) w)
    (hK : ∀ w', Sat w0 (LinkH v (l.send s).2 :: L) w' → K (.int .i64 (l.send s).1) w') : callP G11 [v, .string s] w K := by
  refine c11 ?_
  unfold F11
  refine put_spec h fun w1 h1 => ?_
  by_cases hfull : (l.letters.length : Int) ≥ l.most
  · simp [LinkM.put, LinkM.send, hfull] at *
    exact hK _ h1
  · simp [LinkM.put, LinkM.send, hfull] at *
    obtain ⟨p, sv, ⟨hv, hf, hm⟩, hs⟩ := link_iff.1 h1; subst hv; have h := hs
    have hb := h.cl
    simp [ptr, cell_of hb, LinkM.cells, st_at hb]
    exact hK _ (link_mk (h.setc _) hf hm)
def LinkM.at (l : LinkM) (i : Int) : Bool := decide (0 ≤ i) && decide (i < l.letters.length)
theorem at_spec {i : Int} (h : Sat w0 (LinkH v l :: L) w) (hK : K (.bool (l.at i)) w) : callP G23 [v, .int .i64 i] w K := by
  refine c23 ?_
  obtain ⟨p, sv, ⟨hv, hf, hm⟩, hs⟩ := link_iff.1 h; subst hv; have h := hs
  have hlen := h.f1.rd.len
  have hb := h.cl
  unfold F23
  by_cases hi : 0 ≤ i
  · simp [ptr, cell_of hb, LinkM.cells, hlen, hi, LinkM.at] at *
    exact hK
  · simp [ptr, hi, LinkM.at] at *
    exact hK
def LinkM.cutM (l : LinkM) (i : Nat) : LinkM := { l with letters := l.letters.take i ++ l.letters.drop (i + 1) }
theorem cut_spec {i : Nat} (h : Sat w0 (LinkH v l :: L) w) (hi : i < l.letters.length)
    (hK : ∀ w', Sat w0 (LinkH v (l.cutM i) :: L) w' → K (.string l.letters[i]) w') : callP G24 [v, .int .i64 i] w K := by
  refine c24 ?_
  obtain ⟨p, sv, ⟨hv, hf, hm⟩, hs⟩ := link_iff.1 h; subst hv; have h := hs
  have hb := h.cl
  obtain ⟨fp, hO, k⟩ := h.f1.own
  have hlen := hO.rd.len
  unfold F24
  obtain ⟨a, ha1, ha2⟩ := hO.rd.at1 hi (j := .i64)
  obtain ⟨s1, hs1, hO1⟩ := hO.sub (lo := 0) (hi := i) (L := none) (H := some (.int .i64 i)) (M := some (.int .i64 i)) .none (.some _ _) (.some _ _ _ (Nat.le_refl _) (by omega)) (by omega) (by omega)
  obtain ⟨s2, hs2, hO2⟩ := hO.sub (lo := i + 1) (hi := l.letters.length) (L := some (.int .i64 (i + 1 : Nat))) (H := none) (M := none) (.some _ _) .none (.none _) (by omega) (by omega)
  have hw : IntKind.i64.wrap ((i : Int) + 1) = ((i + 1 : Nat) : Int) := by rw [wrap_id (by omega)]; rfl
  have hc : (strs l.letters)[i]? = some (.string l.letters[i]) := by simp [strs, hi]
  rw [Int.natCast_add] at hs2 hw
  simp only [Int.natCast_one] at hs2 hw
  simp [ptr, cell_of hb, LinkM.cells, ha1, ha2, hc, hs1, hw, hs2]
  have h1 := (k _ _ _ _ _ _ _ hO1 (.refl _ _)).drew
  refine eAppend_sat (m := l.letters.length - (i + 1)) (ds := strs (l.letters.drop (i + 1))) (cs := strs (l.letters.take i)) (n := i) (by
      simpa [strs, List.map_take] using h1) Tstrs ssStrs (by
      have := hO2.rd.heap (w' := w.drew) rfl
      simpa [strs, List.map_drop, List.take_of_length_le] using this) (strs_one _) (by omega) fun s3 w2 h2 => ?_
  have h3 := h2.f1
  have := h2.rd.one
  rw [st_at h3.cl s3 (by simp [LinkM.cells])]
  simp only [bindW_some]
  refine hK _ (link_mk (l := l.cutM i) (sv := s3) ?_ (by simp [LinkM.cutM]; omega) hm)
  have e : (l.cutM i).letters.length = i + (l.letters.length - (i + 1)) := by simp [LinkM.cutM]; omega
  rw [e]
  have := h3.setc ((l.cells sv).setIfInBounds 1 s3)
  rw [← strs_append] at this
  exact this

def LinkM.take (l : LinkM) (i : Int) : (ByteArray × Int) × LinkM := if l.at i then ((l.letters.getD i.toNat ⟨#[]⟩, 0), { l with came := inc l.came, letters := l.letters.take i.toNat ++ l.letters.drop (i.toNat + 1) }) else ((⟨#[]⟩, 5), l)
theorem at_lt {i : Int} (h : l.at i = true) : ∃ k : Nat, i = k ∧ k < l.letters.length := by
  simp [LinkM.at] at h
  exact ⟨i.toNat, by omega, by omega⟩
theorem take_spec {i : Int} (h : Sat w0 (LinkH v l :: L) w)
    (hK : ∀ w', Sat w0 (LinkH v (l.take i).2 :: L) w' → K (.tuple #[.string (l.take i).1.1, .int .i64 (l.take i).1.2]) w') : callP G12 [v, .int .i64 i] w K := by
  refine c12 ?_
  unfold F12
  refine at_spec h ?_
  by_cases ha : l.at i = true
  · obtain ⟨k, rfl, hk⟩ := at_lt ha
    obtain ⟨p, sv, ⟨hv, hf, hm⟩, hs⟩ := link_iff.1 h; subst hv; have h := hs
    have hb := h.cl
    simp [LinkM.take, ha] at hK ⊢
    simp [ptr, cell_of hb, LinkM.cells, st_at hb]
    refine cut_spec (l := { l with came := inc l.came }) (link_mk (h.setc _) hf hm) hk fun w2 h2 => ?_
    simp
    have := hK _ h2
    simpa [hk] using this
  · simp [LinkM.take, ha] at hK ⊢
    exact hK _ h
def LinkM.lose (l : LinkM) (i : Int) : Int × LinkM := if l.at i then (0, { l with lost := inc l.lost, letters := l.letters.take i.toNat ++ l.letters.drop (i.toNat + 1) }) else (5, l)
theorem lose_spec {i : Int} (h : Sat w0 (LinkH v l :: L) w)
    (hK : ∀ w', Sat w0 (LinkH v (l.lose i).2 :: L) w' → K (.int .i64 (l.lose i).1) w') : callP G13 [v, .int .i64 i] w K := by
  refine c13 ?_
  unfold F13
  refine at_spec h ?_
  by_cases ha : l.at i = true
  · obtain ⟨k, rfl, hk⟩ := at_lt ha
    simp [LinkM.lose, ha] at hK ⊢
    refine cut_spec h hk fun w2 h2 => ?_
    obtain ⟨p, sv, ⟨hv, hf, hm⟩, hs⟩ := link_iff.1 h2; subst hv; have h := hs
    have hb := h.cl
    simp [ptr, cell_of hb, LinkM.cells, st_at hb]
    exact hK _ (link_mk (h.setc _) hf hm)
  · simp [LinkM.lose, ha] at hK ⊢
    exact hK _ h
def LinkM.double (l : LinkM) (i : Int) : Int × LinkM := if l.at i then (if (l.letters.length : Int) ≥ l.most then (200, l) else (0, { l with doubled := inc l.doubled, letters := l.letters ++ [l.letters.getD i.toNat ⟨#[]⟩] })) else (5, l)
theorem double_spec {i : Int} (h : Sat w0 (LinkH v l :: L) w)
    (hK : ∀ w', Sat w0 (LinkH v (l.double i).2 :: L) w' → K (.int .i64 (l.double i).1) w') : callP G14 [v, .int .i64 i] w K := by
  refine c14 ?_
  unfold F14
  refine at_spec h ?_
  by_cases ha : l.at i = true
  · obtain ⟨k, rfl, hk⟩ := at_lt ha
    have hG := h
    obtain ⟨p, sv, ⟨hv, hf, hm⟩, hs⟩ := link_iff.1 h; subst hv; have h := hs
    have hb := h.cl
    obtain ⟨a, ha1, ha2⟩ := h.f1.rd.at1 hk (j := .i64)
    have hc : (strs l.letters)[k]? = some (.string l.letters[k]) := by simp [strs, hk]
    simp only [LinkM.double, ha] at hK ⊢
    simp [ptr, cell_of hb, LinkM.cells, ha1, ha2, hc]
    refine put_spec hG fun w1 h1 => ?_
    by_cases hfull : (l.letters.length : Int) ≥ l.most
    · simp [LinkM.put, hfull] at *
      exact hK _ h1
    · simp [LinkM.put, hfull, hk] at *
      obtain ⟨p', sv, ⟨he, hf, hm⟩, h⟩ := link_iff.1 h1
      obtain rfl : p = p' := by simpa [ptr] using he
      have hb := h.cl
      simp [cell_of hb, LinkM.cells, st_at hb]
      exact hK _ (link_mk (h.setc _) hf hm)
  · simp [LinkM.double, ha] at hK ⊢
    exact hK _ h
def LinkM.pass (l : LinkM) (k : Int) : (Bool × Int) × LinkM :=
  if k < 1 then ((false, 1), l) else
  if inc l.passed < k then ((false, 0), { l with sent := inc l.sent, passed := inc l.passed, lost := inc l.lost })
  else ((true, 0), { l with sent := inc l.sent, passed := 0, came := inc l.came })
theorem pass_spec {k : Int} (h : Sat w0 (LinkH v l :: L) w)
    (hK : ∀ w', Sat w0 (LinkH v (l.pass k).2 :: L) w' → K (.tuple #[.bool (l.pass k).1.1, .int .i64 (l.pass k).1.2]) w') : callP G9 [v, .string s, .int .i64 k] w K := by
  refine c9 ?_
  unfold F9
  by_cases hk : k < 1
  · simp [LinkM.pass, hk] at hK ⊢
    exact hK _ h
  · obtain ⟨p, sv, ⟨hv, hf, hm⟩, hs⟩ := link_iff.1 h; subst hv; have h := hs
    have hb := h.cl
    simp [ptr, cell_of hb, LinkM.cells, st_at hb, hk, cell_set hb, st_set hb]
    by_cases hp : inc l.passed < k
    · simp [LinkM.pass, hk, hp] at hK
      simp only [inc] at hp
      simp [hp]
      exact hK _ (link_mk (h.setc _) hf hm)
    · simp [LinkM.pass, hk, hp] at hK
      simp only [inc] at hp
      simp [hp]
      exact hK _ (link_mk (h.setc _) hf hm)
def LinkM.tallyV (l : LinkM) : Array Value := #[.int .i64 l.sent, .int .i64 l.came, .int .i64 l.lost, .int .i64 l.doubled]
theorem tally_spec (h : Sat w0 (LinkH v l :: L) w) (hK : ∀ w', Sat w0 (LinkH v l :: L) w' → K (.agg l.tallyV) w') : callP G10 [v] w K := by
  refine c10 ?_
  unfold F10
  obtain ⟨p, sv, ⟨hv, hf, hm⟩, hs⟩ := link_iff.1 h; subst hv; have h := hs
  refine eAlloc_sat (z := .agg #[.int .i64 0, .int .i64 0, .int .i64 0, .int .i64 0]) h (by kernel_rfl) fun q w1 h1 => ?_
  have hb := h1.f1.cl
  have hq := h1.cl
  have hl : ldN 4 (.pointer (some ⟨p, 3, none⟩)) w1 = some (.agg l.tallyV) := by
    rw [ldN_of hb (by simp [LinkM.cells])]; rfl
  have e1 := st_cells hq (o := 0) (n := 4) (x := .agg l.tallyV) rfl rfl (by simp [Value.cells])
  have h2 := h1.setc (wr (Value.agg #[.int .i64 0, .int .i64 0, .int .i64 0, .int .i64 0]).cells 0 (Value.agg l.tallyV).cells.toList)
  have e2 := ldN_of h2.cl (o := 0) (n := 4) (by simp [wr, Value.cells, LinkM.tallyV])
  simp [ptr, hl] at e1 e2 ⊢
  rw [e1]
  simp [e2]
  exact hK _ (link_mk h2.drop hf hm)
theorem all_spec (h : Sat w0 (LinkH v l :: L) w) (hK : ∀ r w', Sat w0 (SlH 1 9 r l.letters.length (strs l.letters) :: LinkH v l :: L) w' → K r w') : callP G21 [v] w K := by
  refine c21 ?_
  unfold F21
  obtain ⟨p, sv, ⟨hv, hf, hm⟩, hs⟩ := link_iff.1 h; subst hv; have h := hs
  have hb := h.cl
  simp [ptr, cell_of hb, LinkM.cells, h.f1.rd.len]
  refine eMakeSl_sat h Tstrs (Nat.le_refl _) (by omega) fun r cs w1 h1 => ?_
  have hb1 := h1.f1.cl
  simp [cell_of hb1, LinkM.cells]
  refine eCopy_sat h1 Tstrs h1.f2.rd (strs_one _) fun w2 h2 => ?_
  exact hK _ _ (Sat.f1 (link_mk h2.b2 hf hm))
theorem len_spec (h : Sat w0 (LinkH v l :: L) w) (hK : K (.int .i64 l.letters.length) w) : callP G16 [v] w K := by
  refine c16 ?_
  unfold F16
  obtain ⟨p, sv, ⟨hv, hf, hm⟩, hs⟩ := link_iff.1 h; subst hv; have h := hs
  have hb := h.cl
  simp [ptr, cell_of hb, LinkM.cells, h.f1.rd.len]
  exact hK
def LinkM.clear (l : LinkM) : LinkM := { l with letters := [], lost := IntKind.i64.wrap (l.lost + l.letters.length) }
theorem clear_spec (h : Sat w0 (LinkH v l :: L) w) (hK : ∀ w', Sat w0 (LinkH v l.clear :: L) w' → K (.tuple #[]) w') : callP G15 [v] w K := by
  refine c15 ?_
  unfold F15
  obtain ⟨p, sv, ⟨hv, hf, hm⟩, hs⟩ := link_iff.1 h; subst hv; have h := hs.drew
  have hb := h.cl
  simp at hb
  simp [ptr, cell_of hb, LinkM.cells, h.f1.rd.len, st_at h.cl, st_set h.cl]
  exact hK _ (link_mk (l := l.clear) (((h.f1.drop).nilsl.f1).setc _) (by simp [LinkM.clear]; omega) hm)
theorem fork_spec (h : Sat w0 (LinkH v l :: L) w) (hK : ∀ r w', Sat w0 (LinkH r l :: LinkH v l :: L) w' → K r w') : callP G31 [v] w K := by
  refine c31 ?_
  unfold F31
  obtain ⟨p, sv, ⟨hv, hf, hm⟩, hs⟩ := link_iff.1 h; subst hv; have h := hs
  have hb := h.cl
  have hl : ldN 7 (.pointer (some ⟨p, 0, none⟩)) w = some (.agg (l.cells sv)) := by
    rw [ldN_of hb (by simp [LinkM.cells])]; rfl
  simp [ptr, hl]
  refine eAlloc_sat h z51 fun q w1 h1 => ?_
  have := h1.f2.rd.one
  have e1 := st_cells h1.cl (o := 0) (n := 7) (x := .agg (l.cells sv)) rfl (by simp [LinkM.cells, this.o]) (by simp)
  simp [ptr, e1]
  refine all_spec (link_mk (h1.setc _).b2 hf hm) fun r w2 h2 => ?_
  have h3 := h2.f2
  have := h2.rd.one
  simp [st_at h3.cl r (o := 1) (by simp [LinkM.cells, wr])]
  refine hK _ _ (link_mk (sv := r) ?_ hf hm)
  exact h3.setc _
theorem new_spec {n : Int} (h : Sat w0 L w) (hK0 : (n < 1 ∨ 65536 < n) → K (.tuple #[.pointer none, .int .i64 1]) w)
    (hK : ∀ v w', 1 ≤ n → n ≤ 65536 → Sat w0 (LinkH v ⟨n, [], 0, 0, 0, 0, 0⟩ :: L) w' → K (.tuple #[v, .int .i64 0]) w') : callP G7 [.int .i64 n] w K := by
  refine c7 ?_
  unfold F7
  by_cases h1 : n < 1
  · simp [h1]; exact hK0 (.inl h1)
  by_cases h2 : 65536 < n
  · simp [h1, h2]; exact hK0 (.inr h2)
  have e : fBuild Try.prog 51 [(0, .int .i64 n)] = some (.agg (LinkM.cells ⟨n, [], 0, 0, 0, 0, 0⟩ (.slice none 0 0))) := by kernel_rfl
  simp [h1, h2, e]
  refine eBox_sat h fun p w1 hw => ?_
  exact hK _ _ (by omega) (by omega) (link_mk (l := ⟨n, [], 0, 0, 0, 0, 0⟩) hw.nilsl.f1 (by simp; omega) (by simp; omega))
end
end Go.Proofs.Gong
