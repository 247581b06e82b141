/- A part of the proofs: what stands below it, told in lemmas. No condition. -/
import Derived.Test.YtpbfmiphjcmjjaaHp2
import Derived.Test.YtpbfmiphjcmjjaaHeap
set_option linter.all false
namespace Go.Proofs.Gong
open Go Go.Sx Go.Proofs
set_option maxRecDepth 100000
@[reducible] def cIt (x : It) : List Value := [.int .i64 x.1, .int .i64 x.2]
theorem CIt : Cod cIt 2 := ⟨fun _ => rfl, fun _ => rfl, by omega⟩
def ekI (n : Int) : Value := .int .i64 n
def evI (n : Int) : Value := .int .i64 n
theorem Kint : KeyT Try.prog 3 ekI := .int (by kernel_rfl)
def HeapI (v : Value) (n : Int) (l : List It) (m : Pl) : HP := HEx fun p => HEx fun sv => HEx fun mv => HPr (v = ptr p) (HS [Cl p #[.int .i64 n, sv, mv] 126, LsH cIt 2 55 sv l, MapH ekI evI mv m])
section
variable {w0 w : World} {L : List HP} {K : Value → World → Prop} {v : Value} {n : Int} {l : List It} {m : Pl}
theorem heapI_iff : Sat w0 (HeapI v n l m :: L) w ↔ ∃ p sv mv, v = ptr p ∧ Sat w0 (Cl p #[.int .i64 n, sv, mv] 126 :: LsH cIt 2 55 sv l :: MapH ekI evI mv m :: L) w := by
  simp only [HeapI, Sat.ex_iff, Sat.pr_iff, Sat.hs_iff, List.cons_append, List.nil_append]
theorem heapI_mk {p : Nat} {sv mv : Value} (h : Sat w0 (Cl p #[.int .i64 n, sv, mv] 126 :: LsH cIt 2 55 sv l :: MapH ekI evI mv m :: L) w) : Sat w0 (HeapI (ptr p) n l m :: L) w := heapI_iff.2 ⟨p, sv, mv, rfl, h⟩
theorem put_spec {i : Nat} {x : It} (h : Sat w0 (HeapI v n l m :: L) w) (hi : i < l.length) (hK : ∀ w', Sat w0 (HeapI v n (l.set i x) (aSet x.1 i m) :: L) w' → K (.tuple #[]) w') :
    callP G76 [v, .int .i64 i, .agg (cIt x).toArray] w K := by
  refine c76 ?_
  unfold F76
  obtain ⟨p, sv, mv, hv, hs⟩ := heapI_iff.1 h; subst hv
  refine eBox_sat hs fun q w1 h1 => ?_
  have hp := h1.f1.cl
  have hx := h1.drew.cl
  simp [ptr, cell_of hp]
  rw [ldN_of hx (by simp [cIt])]
  have h2 := h1.drew.f2
  have h3 := h1.f2
  simp [ls_ix h2 hi]
  refine ls_st CIt h2 hi x (by simp [cIt, Value.cells]) fun w2 g2 => ?_
  have g3 := g2.f2
  have g1 := g2.f1
  simp [cell_of g3.cl]
  have hq := g1.cl
  simp [cell_of hq, cIt]
  refine eMapSet_sat g2.drew.f3 Kint um124 x.1 (i : Int) fun w3 g4 => ?_
  refine hK _ (heapI_mk (p := p) (sv := sv) (mv := mv) ?_)
  exact g4.pick [3, 1, 0] [2] 4 (by decide) (by simp)
theorem nan_spec {a : Int} (hK : K (.bool false) w) : callP G139 [.int .i64 a] w K := by
  refine c139 ?_
  unfold F139
  simpa using hK
theorem cmp_spec {a b : Int} (hK : K (.int .i64 (if a < b then -1 else if b < a then 1 else 0)) w) : callP G117 [.int .i64 a, .int .i64 b] w K := by
  refine c117 ?_
  unfold F117
  refine nan_spec (nan_spec ?_)
  simp
  by_cases h1 : a < b
  · simp [h1] at hK ⊢; exact hK
  · by_cases h2 : b < a
    · simp [h1, h2] at hK ⊢; exact hK
    · simp [h1, h2] at hK ⊢; exact hK
theorem or_loop {s : Value} {cs : List Int} (hr : Rd w 1 s cs.length (cs.flatMap cI)) (hlen : cs.length < 1000) (hK : K (.int .i64 ((cs.find? (fun c => decide (c ≠ 0))).getD 0)) w) :
    ∀ (d i : Nat), cs.length - i < d → i ≤ cs.length → (∀ c ∈ cs.take i, c = 0) → F116_2L d (.int .i64 0) s (.int .i64 cs.length) (.int .i64 i) w K := by
  intro d
  induction d with
  | zero => intro i hd; omega
  | succ d ih =>
    intro i hd hi h0
    rw [F116_2L]
    unfold F116_2b
    by_cases hlt : i < cs.length
    · have e1 := rd_ld1 (g := fun c => .int .i64 c) hr hlt
      simp [hlt, ix_el hr hlt, e1]
      by_cases hc : cs[i] = 0
      · simp [hc, wrap_id (show -9223372036854775808 ≤ (i : Int) + 1 ∧ (i : Int) + 1 ≤ 9223372036854775807 by omega)]
        refine ih (i + 1) (by omega) (by omega) fun c hc' => ?_
        rw [List.take_succ_eq_append_getElem hlt] at hc'
        rcases List.mem_append.1 hc' with h | h
        · exact h0 c h
        · simp at h; rw [h, hc]
      · simp [hc]
        have : cs.find? (fun c => decide (c ≠ 0)) = some cs[i] := by
          rw [List.find?_eq_some_iff_getElem]
          refine ⟨by simpa using hc, i, hlt, rfl, fun j hj => ?_⟩
          have := h0 cs[j] (by rw [List.mem_take_iff_getElem]; exact ⟨j, by omega, rfl⟩)
          simp [this]
        rw [this] at hK; exact hK
    · have : ¬ ((i : Int) < cs.length) := by omega
      simp [this, F116_3, F116_3b]
      have : cs.find? (fun c => decide (c ≠ 0)) = none := by
        rw [List.find?_eq_none]
        intro c hc
        rw [List.take_of_length_le (by omega)] at h0
        simp [h0 c hc]
      rw [this] at hK; exact hK
theorem or_spec {s : Value} {cs : List Int} (hr : Rd w 1 s cs.length (cs.flatMap cI)) (hlen : cs.length < 1000) (hK : K (.int .i64 ((cs.find? (fun c => decide (c ≠ 0))).getD 0)) w) : callP G116 [s] w K := by
  refine c116 ?_
  unfold F116 F116_1 F116_1b
  simp [hr.len]
  exact or_loop hr hlen hK fuel 0 (by unfold fuel; omega) (by omega) (by simp)
def ordV (x y : It) : Int := if itLt x y then -1 else if itLt y x then 1 else 0
theorem ord_find (x y : It) : (([if x.2 < y.2 then (-1 : Int) else if y.2 < x.2 then 1 else 0, if x.1 < y.1 then (-1 : Int) else if y.1 < x.1 then 1 else 0] : List Int).find? (fun c => decide (c ≠ 0))).getD 0 = ordV x y := by
  unfold ordV itLt
  by_cases a1 : x.2 < y.2
  · simp [a1]
  · by_cases a2 : y.2 < x.2
    · have : ¬ x.2 = y.2 := by omega
      simp [a1, a2, this]
    · have a3 : x.2 = y.2 := by omega
      by_cases b1 : x.1 < y.1
      · simp [a3, b1]
      · by_cases b2 : y.1 < x.1
        · simp [a3, b1, b2]
        · simp [a3, b1, b2]
theorem order_spec {x y : It} (h : Sat w0 L w) (hK : ∀ w', Sat w0 L w' → K (.int .i64 (ordV x y)) w') : callP G81 [.agg (cIt x).toArray, .agg (cIt y).toArray] w K := by
  refine c81 ?_
  unfold F81
  refine eBox_sat h fun p w1 h1 => ?_
  refine eBox_sat h1 fun q w2 h2 => ?_
  have hp := h2.f1.cl
  have hq := h2.cl
  simp only [cIt, cells_agg] at hp hq
  simp [ptr, cell_of hp, cell_of hq]
  refine cmp_spec ?_
  refine ⟨by simp [cell_of hp, cell_of hq], ?_⟩
  refine cmp_spec ?_
  have e := ord_find x y
  generalize (if x.2 < y.2 then (-1 : Int) else if y.2 < x.2 then 1 else 0) = a at *
  generalize (if x.1 < y.1 then (-1 : Int) else if y.1 < x.1 then 1 else 0) = b at *
  refine ls_lit (f := cI) (es := 1) (m := [a, b]) (c := #[.int .i64 a, .int .i64 b]) CI h2.drew u22 (by kernel_rfl) rfl fun s w3 h3 => ?_
  refine or_spec (ls_rd h3) (by simp) ?_
  rw [e]
  exact hK _ h3.drop.drop.drop
theorem ordV_neg (x y : It) : ordV x y < 0 ↔ itLt x y = true := by unfold ordV; split <;> (try split) <;> simp_all
theorem ordV_pos (x y : It) : ordV x y ≤ 0 ↔ itLt y x = false := by
  unfold ordV
  split
  · rename_i h; have := itSWO.asym _ _ h; simp [this]
  · split <;> simp_all
end
end Go.Proofs.Gong
