/- A part of the proofs: what stands below it, told in lemmas. No condition. -/
import Derived.Test.YtpbfmiphjcmjjaaBd4
set_option linter.all false
namespace Go.Proofs.Gong
open Go Go.Sx Go.Proofs
set_option maxRecDepth 100000
def againP (r : Row) (e : Evt) (now : Int) : Row × Int :=
  if r.e.level = e.level then (⟨r.id, ⟨r.e.node, r.e.cls, r.e.key, r.e.level, e.text⟩, min (r.tally + 1) 1099511627776, r.first, max r.last now, r.acked, r.who⟩, 0) else
  if r.e.level < e.level then (⟨r.id, ⟨r.e.node, r.e.cls, r.e.key, e.level, e.text⟩, min (r.tally + 1) 1099511627776, r.first, max r.last now, false, []⟩, 2) else
  (⟨r.id, ⟨r.e.node, r.e.cls, r.e.key, e.level, e.text⟩, min (r.tally + 1) 1099511627776, r.first, max r.last now, r.acked, r.who⟩, 2)
section
variable {w0 w : World} {L : List HP} {K : Value → World → Prop} {r : Row}
theorem stR {p i : Nat} {c : Array Value} {y : Value} [OneV y] {k : World → Prop} (h : Sat w0 (Cl p c 33 :: L) w) (hi : i < c.size) {c' : Array Value} (hc : c.setIfInBounds i y = c') (hk : ∀ w', Sat w0 (Cl p c' 33 :: L) w' → k w') : bindW (st 1 (.pointer (some ⟨p, i, none⟩)) y w) k := by
  refine bindW_st h hi fun w9 h9 => ?_
  rw [hc] at h9
  exact hk _ h9
theorem cellN {p : Nat} {c : Array Value} {ty : TypeId} (h : Sat w0 L w) (hm : Cl p c ty ∈ L) : w.heap[p]? = some (.cells c ty (0, 0)) := by
  obtain ⟨A, B, rfl⟩ := List.append_of_mem hm
  exact (h.perm List.perm_middle).cl
theorem wr_all {c : Array Value} {l : List Value} (h : c.size = l.length) : wr c 0 l = l.toArray := by
  apply Array.toList_inj.1
  rw [wr_toList _ _ _ (by omega)]
  simp [h]
theorem cRow_len (x : Row) : (cRow x).length = 11 := rfl
theorem stRow {p : Nat} {x y : Row} {k : World → Prop} (h : Sat w0 (Cl p (cRow x).toArray 33 :: L) w) (hk : ∀ w', Sat w0 (Cl p (cRow y).toArray 33 :: L) w' → k w') : bindW (st 11 (.pointer (some ⟨p, 0, none⟩)) (rowV y) w) k := by
  have hc : (rowV y).cells = (cRow y).toArray := rfl
  refine bindW_stN h (by rw [hc]; rfl) (by rw [hc]; rfl) (by rw [List.size_toArray, cRow_len]; omega) fun w9 h9 => ?_
  rw [hc, wr_all (by simp [cRow_len])] at h9
  exact hk _ h9
def zeroR : Row := ⟨0, ⟨[], [], [], 0, []⟩, 0, 0, 0, false, []⟩
theorem zR : fZero Try.prog 33 = some (rowV zeroR) := z33
theorem ezR : fBuild Try.prog 33 [] = some (rowV zeroR) := by kernel_rfl
theorem ldR {p : Nat} {x : Row} {ty : TypeId} (h : Sat w0 L w) (hm : Cl p (cRow x).toArray ty ∈ L) : ldN 11 (.pointer (some ⟨p, 0, none⟩)) w = some (rowV x) := by
  rw [ldN_of (cellN h hm) (by rw [List.size_toArray, cRow_len]; omega)]; rfl
theorem again2_spec {p q o : Nat} {e : Evt} {x : Row} (h : Sat w0 (Cl p (cRow x).toArray 33 :: Cl o (cRow zeroR).toArray 33 :: Cl q (cEv e).toArray 31 :: L) w)
    (hK : ∀ w', Sat w0 L w' → K (.tuple #[rowV ⟨x.id, ⟨x.e.node, x.e.cls, x.e.key, e.level, x.e.text⟩, x.tally, x.first, x.last, x.acked, x.who⟩, .int .i64 2]) w') :
    F65_2 (.pointer (some ⟨p, 0, none⟩)) (.pointer (some ⟨q, 0, none⟩)) (.pointer (some ⟨o, 0, none⟩)) w K := by
  unfold F65_2 F65_2b
  have q3 : w.cell? ⟨q, 3, none⟩ = some (.int .i64 e.level) := by rw [cell_of h.f2.cl]; rfl
  simp only [pFieldAddr_ptr, bindP_some, Nat.zero_add, ld1_ptr, q3]
  refine stR (c' := (cRow ⟨x.id, ⟨x.e.node, x.e.cls, x.e.key, e.level, x.e.text⟩, x.tally, x.first, x.last, x.acked, x.who⟩).toArray) h (by rw [List.size_toArray, cRow_len]; omega) rfl fun w7 h7 => ?_
  rw [ldR h7 (x := ⟨x.id, ⟨x.e.node, x.e.cls, x.e.key, e.level, x.e.text⟩, x.tally, x.first, x.last, x.acked, x.who⟩) (p := p) (ty := 33) (by simp)]
  simp only [bindP_some]
  refine stRow (x := zeroR) h7.f1 fun w8 h8 => ?_
  rw [ldR h8 (x := ⟨x.id, ⟨x.e.node, x.e.cls, x.e.key, e.level, x.e.text⟩, x.tally, x.first, x.last, x.acked, x.who⟩) (p := o) (ty := 33) (by simp)]
  simp only [bindP_some]
  exact hK _ h8.drop.drop.drop
theorem again_spec {r : Row} {e : Evt} {now : Int} (hb : 0 ≤ r.tally ∧ r.tally ≤ 4611686018427387904) (h : Sat w0 L w) (hK : ∀ w', Sat w0 L w' → K (.tuple #[rowV (againP r e now).1, .int .i64 (againP r e now).2]) w') :
    callP G65 [rowV r, evV e, .int .i64 now] w K := by
  refine c65 ?_
  unfold F65 F65_1 F65_1b
  refine eBox_sat h fun p w1 h1 => ?_
  refine eBox_sat h1 fun q w2 h2 => ?_
  refine eAlloc_sat h2 zR fun o w3 h3 => ?_
  have e0 : (rowV r).cells = (cRow r).toArray := rfl
  have e1 : (evV e).cells = (cEv e).toArray := rfl
  have e2 : (rowV zeroR).cells = (cRow zeroR).toArray := rfl
  rw [e0, e1, e2] at h3
  have h4 := h3.f2
  have c6 : w3.cell? ⟨p, 6, none⟩ = some (.int .i64 r.tally) := by rw [cell_of h4.cl]; rfl
  have ea : bAdd (.int .i64 r.tally) (.int .i64 1) = some (.int .i64 (r.tally + 1)) := by rw [bAdd_int, wrap_id (by omega)]
  have em : pMin (.int .i64 (r.tally + 1)) (.int .i64 1099511627776) = some (.int .i64 (min (r.tally + 1) 1099511627776)) := by
    simp only [pMin]; congr 2; rw [Int.min_def]; split <;> split <;> omega
  simp only [ptr, pFieldAddr_ptr, bindP_some, Nat.zero_add, ld1_ptr, c6, ea, em]
  have ex : ∀ b : Int, pMax (.int .i64 r.last) (.int .i64 b) = some (.int .i64 (max r.last b)) := by
    intro b
    simp only [pMax]; congr 2; rw [Int.max_def]; split <;> split <;> omega
  have inst : ∀ n : Int, OneV (.int .i64 n) := fun _ => inferInstance
  refine stR (c' := (cRow ⟨r.id, r.e, min (r.tally + 1) 1099511627776, r.first, r.last, r.acked, r.who⟩).toArray) h4 (by rw [List.size_toArray, cRow_len]; omega) rfl fun w5 h5 => ?_
  have c8 : w5.cell? ⟨p, 8, none⟩ = some (.int .i64 r.last) := by rw [cell_of h5.cl]; rfl
  simp only [c8, bindP_some, ex]
  refine stR (c' := (cRow ⟨r.id, r.e, min (r.tally + 1) 1099511627776, r.first, max r.last now, r.acked, r.who⟩).toArray) h5 (by rw [List.size_toArray, cRow_len]; omega) rfl fun w6 h6 => ?_
  have q4 : w6.cell? ⟨q, 4, none⟩ = some (.string (bs e.text)) := by rw [cell_of h6.f2.cl]; rfl
  simp only [q4, bindP_some]
  refine stR (c' := (cRow ⟨r.id, ⟨r.e.node, r.e.cls, r.e.key, r.e.level, e.text⟩, min (r.tally + 1) 1099511627776, r.first, max r.last now, r.acked, r.who⟩).toArray) h6 (by rw [List.size_toArray, cRow_len]; omega) rfl fun w7 h7 => ?_
  have c4 : w7.cell? ⟨p, 4, none⟩ = some (.int .i64 r.e.level) := by rw [cell_of h7.cl]; rfl
  have q3 : w7.cell? ⟨q, 3, none⟩ = some (.int .i64 e.level) := by rw [cell_of h7.f2.cl]; rfl
  simp only [c4, q3, bindP_some, bEq_int]
  unfold againP at hK
  by_cases g1 : r.e.level = e.level
  · rw [if_pos g1] at hK
    have d : decide (r.e.level = e.level) = true := by simp [g1]
    simp only [d, ifB_true, ldR h7 (x := ⟨r.id, ⟨r.e.node, r.e.cls, r.e.key, r.e.level, e.text⟩, min (r.tally + 1) 1099511627776, r.first, max r.last now, r.acked, r.who⟩) (p := p) (ty := 33) (by simp), bindP_some]
    refine stRow (x := zeroR) h7.f1 fun w8 h8 => ?_
    rw [ldR h8 (x := ⟨r.id, ⟨r.e.node, r.e.cls, r.e.key, r.e.level, e.text⟩, min (r.tally + 1) 1099511627776, r.first, max r.last now, r.acked, r.who⟩) (p := o) (ty := 33) (by simp)]
    simp only [bindP_some]
    exact hK _ h8.drop.drop.drop
  · rw [if_neg g1] at hK
    have d : decide (r.e.level = e.level) = false := by simp [g1]
    simp only [d, ifB_false, q3, c4, bindP_some, bGt_int]
    by_cases g2 : r.e.level < e.level
    · rw [if_pos g2] at hK
      have d2 : decide (e.level > r.e.level) = true := by simp [g2]
      simp only [d2, ifB_true]
      refine stR (c' := (cRow ⟨r.id, ⟨r.e.node, r.e.cls, r.e.key, r.e.level, e.text⟩, min (r.tally + 1) 1099511627776, r.first, max r.last now, false, r.who⟩).toArray) h7 (by rw [List.size_toArray, cRow_len]; omega) rfl fun w8 h8 => ?_
      rw [nil_b]
      refine stR (c' := (cRow ⟨r.id, ⟨r.e.node, r.e.cls, r.e.key, r.e.level, e.text⟩, min (r.tally + 1) 1099511627776, r.first, max r.last now, false, []⟩).toArray) h8 (by rw [List.size_toArray, cRow_len]; omega) rfl fun w9 h9 => ?_
      exact again2_spec h9 hK
    · rw [if_neg g2] at hK
      have d2 : decide (e.level > r.e.level) = false := by simp; omega
      simp only [d2, ifB_false]
      exact again2_spec h7 hK
end
end Go.Proofs.Gong
