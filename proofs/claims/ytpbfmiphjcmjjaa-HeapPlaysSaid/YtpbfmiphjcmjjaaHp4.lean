/- A part of the proofs: what stands below it, told in lemmas. No condition. -/
import Derived.Test.YtpbfmiphjcmjjaaHp3
set_option linter.all false
namespace Go.Proofs.Gong
open Go Go.Sx Go.Proofs
set_option maxRecDepth 100000
section
variable {w0 w : World} {L : List HP} {K : Value → World → Prop} {v : Value} {n : Int} {l : List It} {m : Pl}
theorem half_nat {i : Nat} (h : 0 < i) (hb : i < 2 ^ 62) : IntKind.i64.wrap ((i : Int) - 1) = ((i - 1 : Nat) : Int) ∧ IntKind.i64.wrap (((i - 1 : Nat) : Int).tdiv 2) = (((i - 1) / 2 : Nat) : Int) := by
  constructor
  · rw [wrap_id (by omega)]; omega
  · have : ((i - 1 : Nat) : Int).tdiv 2 = (((i - 1) / 2 : Nat) : Int) := rfl
    rw [this, wrap_id (by omega)]
theorem ldx {q : Nat} {x : It} {ty : TypeId} (h : w.heap[q]? = some (.cells (cIt x).toArray ty (0, 0))) : ldN 2 (.pointer (some ⟨q, 0, none⟩)) w = some (.agg (cIt x).toArray) := by
  rw [ldN_of h (by simp [cIt])]; simp [cIt]
theorem up_loop {p q : Nat} {x : It} : ∀ (i : Nat) (d : Nat) (w : World) (l : List It) (m : Pl), i < d → i < l.length → l.length < 2 ^ 62 → Sat w0 (HeapI (ptr p) n l m :: Cl q (cIt x).toArray 55 :: L) w →
    (∀ w', Sat w0 (HeapI (ptr p) n (upL x l m i).1 (upL x l m i).2 :: L) w' → K (.tuple #[]) w') → F77_2L d (ptr p) (.int .i64 i) (ptr q) w K := by
  intro i
  induction i using Nat.strongRecOn with
  | ind i ih =>
    intro d w l m hd hi hlen h hK
    obtain ⟨d, rfl⟩ : ∃ d', d = d' + 1 := ⟨d - 1, by omega⟩
    rw [F77_2L]
    unfold F77_2b
    rw [upL] at hK
    have stop : ∀ (w : World), Sat w0 (HeapI (ptr p) n l m :: Cl q (cIt x).toArray 55 :: L) w → (∀ w', Sat w0 (HeapI (ptr p) n (l.set i x) (aSet x.1 i m) :: L) w' → K (.tuple #[]) w') → F77_3 (ptr p) (.int .i64 i) (ptr q) w K := by
      intro w h hK
      unfold F77_3 F77_3b
      have hq := h.f1.cl
      simp only [ptr]
      rw [ldx hq]
      simp only [bindP_some]
      exact put_spec h hi fun w' h' => hK w' h'.f1.drop
    by_cases h0 : 0 < i
    · simp only [h0, dif_pos] at hK
      obtain ⟨e1, e2⟩ := half_nat h0 (by omega)
      have e2' : IntKind.i64.wrap (((i - 1 : Nat) : Int) / 2) = (((i - 1) / 2 : Nat) : Int) := e2
      have hal : (i - 1) / 2 < l.length := by omega
      have hy : l[(i - 1) / 2]? = some l[(i - 1) / 2] := List.getElem?_eq_getElem hal
      rw [hy] at hK
      simp only at hK
      have hlt' : (i - 1) / 2 < i := by omega
      generalize (i - 1) / 2 = a at *
      obtain ⟨p', sv, mv, he, hs⟩ := heapI_iff.1 h
      obtain rfl : p = p' := by simpa [ptr] using he
      have hp := hs.drew.cl
      have hq := h.drew.f1.cl
      have hl := hs.drew.f1
      simp [h0, ptr, e1, bQuo_int, e2', cell_of hs.cl, ls_ix hl hal, ls_ld CIt hl hal]
      rw [ldx hq]
      simp only [bindP_some]
      refine order_spec h.drew fun w1 h1 => ?_
      by_cases hlt : itLt x l[a] = true
      · rw [if_pos hlt] at hK
        have : ¬ (ordV l[a] x ≤ 0) := fun e => by rw [ordV_pos] at e; rw [hlt] at e; cases e
        simp [this]
        obtain ⟨p', sv, mv, he, hs⟩ := heapI_iff.1 h1
        obtain rfl : p = p' := by simpa [ptr] using he
        have hl := hs.f1
        simp [cell_of hs.cl, ls_ix hl hal, ls_ld CIt hl hal]
        refine put_spec h1 hi fun w2 h2 => ?_
        exact ih a hlt' d w2 _ _ (by omega) (by simpa using hal) (by simpa using hlen) h2 hK
      · rw [if_neg hlt] at hK
        have : ordV l[a] x ≤ 0 := by rw [ordV_pos]; simpa using hlt
        simp [this]
        exact stop _ h1 hK
    · simp only [h0, dif_neg, not_false_eq_true] at hK
      have : i = 0 := by omega
      subst this
      simp
      exact stop _ h hK
theorem up_spec {p i : Nat} {x : It} (h : Sat w0 (HeapI (ptr p) n l m :: L) w) (hx : l[i]? = some x) (hlen : l.length < 2 ^ 62) (hK : ∀ w', Sat w0 (HeapI (ptr p) n (upL x l m i).1 (upL x l m i).2 :: L) w' → K (.tuple #[]) w') :
    callP G77 [ptr p, .int .i64 i] w K := by
  refine c77 ?_
  unfold F77 F77_1 F77_1b
  obtain ⟨hi, hx'⟩ := List.getElem?_eq_some_iff.1 hx
  obtain ⟨p', sv, mv, he, hs⟩ := heapI_iff.1 h
  obtain rfl : p = p' := by simpa [ptr] using he
  have hl := hs.f1
  simp [ptr, cell_of hs.cl, ls_ix hl hi, ls_ld CIt hl hi, hx']
  refine eAlloc_sat h z55 fun q w1 h1 => ?_
  refine bindW_stN h1 (by simp [cIt]) (by simp [cIt]) (by simp) fun w2 h2 => ?_
  have e : wr (Value.agg #[(.int .i64 0), (.int .i64 0)]).cells 0 (Value.agg (cIt x).toArray).cells.toList = (cIt x).toArray := by simp [wr, cIt]
  rw [e] at h2
  exact up_loop i fuel w2 l m (by unfold fuel; omega) hi hlen h2.f1 hK
theorem kid_nat {i : Nat} (hb : i < 2 ^ 61) : IntKind.i64.wrap (2 * (i : Int)) = ((2 * i : Nat) : Int) ∧ IntKind.i64.wrap (((2 * i : Nat) : Int) + 1) = ((2 * i + 1 : Nat) : Int) ∧ IntKind.i64.wrap (((2 * i + 1 : Nat) : Int) + 1) = ((2 * i + 2 : Nat) : Int) := by
  refine ⟨?_, ?_, ?_⟩ <;> rw [wrap_id (by omega)] <;> omega
theorem down_loop {p q : Nat} {x : It} : ∀ (d i : Nat) (w : World) (l : List It) (m : Pl), l.length - i < d → i < l.length → l.length < 2 ^ 60 → Sat w0 (HeapI (ptr p) n l m :: Cl q (cIt x).toArray 55 :: L) w →
    (∀ w', Sat w0 (HeapI (ptr p) n (downL x l m i).1 (downL x l m i).2 :: L) w' → K (.tuple #[]) w') → F78_2L d (ptr p) (.int .i64 i) (ptr q) w K := by
  intro d
  induction d with
  | zero => intro i w l m hd; omega
  | succ d ih =>
    intro i w l m hd hi hlen h hK
    rw [F78_2L]
    unfold F78_4 F78_5 F78_5b
    rw [downL] at hK
    have stop : ∀ (w : World), Sat w0 (HeapI (ptr p) n l m :: Cl q (cIt x).toArray 55 :: L) w → (∀ w', Sat w0 (HeapI (ptr p) n (l.set i x) (aSet x.1 i m) :: L) w' → K (.tuple #[]) w') → F78_3 (ptr p) (.int .i64 i) (ptr q) w K := by
      intro w h hK
      unfold F78_3 F78_3b
      have hq := h.f1.cl
      simp only [ptr]
      rw [ldx hq]
      simp only [bindP_some]
      exact put_spec h hi fun w' h' => hK w' h'.f1.drop
    obtain ⟨e1, e2, e3⟩ := kid_nat (i := i) (by omega)
    obtain ⟨p', sv, mv, he, hs⟩ := heapI_iff.1 h
    obtain rfl : p = p' := by simpa [ptr] using he
    have hl := hs.f1
    by_cases hk : 2 * i + 1 < l.length
    · simp only [hk, dif_pos] at hK
      have hy : l[2 * i + 1]? = some l[2 * i + 1] := List.getElem?_eq_getElem hk
      have nk : ¬ ((l.length : Int) ≤ ((2 * i + 1 : Nat) : Int)) := by omega
      -- what stands behind the choice of the kid
      have go : ∀ (c : Nat) (w : World), kidOf l i = c → c < l.length → Sat w0 (HeapI (ptr p) n l m :: Cl q (cIt x).toArray 55 :: L) w →
          F78_6 (ptr p) (.int .i64 i) (ptr q) (.int .i64 c) w K (fun a0 a1 a4 w => F78_2L d a0 a1 a4 w K) := by
        intro c w hc hcl h
        have hgt := kidOf_gt l i
        rw [hc] at hK hgt
        have hyc : l[c]? = some l[c] := List.getElem?_eq_getElem hcl
        rw [hyc] at hK
        simp only at hK
        unfold F78_6 F78_6b
        obtain ⟨p', sv, mv, he, hs⟩ := heapI_iff.1 h
        obtain rfl : p = p' := by simpa [ptr] using he
        have hq := h.drew.f1.cl
        have hl := hs.drew.f1
        simp only [ptr]
        rw [ldx hq]
        simp [cell_of hs.cl, ls_ix hl hcl, ls_ld CIt hl hcl]
        refine order_spec h.drew fun w1 h1 => ?_
        by_cases hlt : itLt l[c] x = true
        · rw [if_pos hlt] at hK
          have : ¬ (ordV x l[c] ≤ 0) := fun e => by rw [ordV_pos] at e; rw [hlt] at e; cases e
          simp [this]
          obtain ⟨p', sv, mv, he, hs⟩ := heapI_iff.1 h1
          obtain rfl : p = p' := by simpa [ptr] using he
          have hl := hs.f1
          simp [cell_of hs.cl, ls_ix hl hcl, ls_ld CIt hl hcl]
          refine put_spec h1 hi fun w2 h2 => ?_
          exact ih c w2 _ _ (by simp; omega) (by simpa using hcl) (by simpa using hlen) h2 hK
        · rw [if_neg hlt] at hK
          have : ordV x l[c] ≤ 0 := by rw [ordV_pos]; simpa using hlt
          simp [this]
          exact stop _ h1 hK
      by_cases hk2 : 2 * i + 2 < l.length
      · have hz : l[2 * i + 2]? = some l[2 * i + 2] := List.getElem?_eq_getElem hk2
        have nk2 : ((2 * i + 2 : Nat) : Int) < (l.length : Int) := by omega
        have hld := hs.drew.f1
        have ix1 := ls_ix hld hk
        have ix2 := ls_ix hld hk2
        have ld1' := ls_ld CIt hld hk
        have ld2' := ls_ld CIt hld hk2
        simp only [ptr, pNil_ptr, bindP_some, pFieldAddr_ptr, ld1_ptr, bMul_int, bAdd_int, e1, e2, e3, Nat.zero_add, cell_drew, cell_of hs.cl, ls_len hl, bGe_int, bLt_int, stepM_true, stepG_true, stepE_true, gd_true, ge_iff_le, nk, nk2, decide_true, decide_false, ifB_false, ifB_true, ix1, ix2, ld1', ld2',
          List.getElem?_toArray, List.getElem?_cons_succ, List.getElem?_cons_zero]
        refine order_spec h.drew fun w1 h1 => ?_
        have hkid : kidOf l i = if itLt l[2 * i + 2] l[2 * i + 1] then 2 * i + 2 else 2 * i + 1 := by unfold kidOf; rw [hy, hz]
        by_cases hlt : itLt l[2 * i + 2] l[2 * i + 1] = true
        · have : ordV l[2 * i + 2] l[2 * i + 1] < 0 := (ordV_neg _ _).2 hlt
          simp only [bLt_int, this, decide_true, bindP_some, pPick_true, ifB_true, stepG_true, e3, bAdd_int]
          exact go (2 * i + 2) w1 (by rw [hkid, if_pos hlt]) hk2 h1
        · have : ¬ (ordV l[2 * i + 2] l[2 * i + 1] < 0) := fun e => hlt ((ordV_neg _ _).1 e)
          simp only [bLt_int, this, decide_false, bindP_some, pPick_true, ifB_false, stepG_true, e3, bAdd_int]
          exact go (2 * i + 1) w1 (by rw [hkid, if_neg hlt]) hk h1
      · have nk2 : ¬ (((2 * i + 2 : Nat) : Int) < (l.length : Int)) := by omega
        have hkid : kidOf l i = 2 * i + 1 := by unfold kidOf; rw [hy, List.getElem?_eq_none (l := l) (i := 2 * i + 2) (by omega)]
        simp only [ptr, pNil_ptr, bindP_some, pFieldAddr_ptr, ld1_ptr, bMul_int, bAdd_int, e1, e2, e3, Nat.zero_add, cell_drew, cell_of hs.cl, ls_len hl, bGe_int, bLt_int, stepM_false, stepG_false, stepE_false, gd_true, ge_iff_le, nk, nk2, decide_false, ifB_false, pPick_false,
          List.getElem?_toArray, List.getElem?_cons_succ, List.getElem?_cons_zero]
        exact go (2 * i + 1) _ hkid hk h.drew
    · simp only [hk, dif_neg, not_false_eq_true] at hK
      have nk : (l.length : Int) ≤ ((2 * i + 1 : Nat) : Int) := by omega
      simp only [ptr, pNil_ptr, bindP_some, pFieldAddr_ptr, ld1_ptr, bMul_int, bAdd_int, e1, e2, Nat.zero_add, cell_of hs.cl, ls_len hl, bGe_int, ge_iff_le, nk, decide_true, ifB_true,
        List.getElem?_toArray, List.getElem?_cons_succ, List.getElem?_cons_zero]
      exact stop _ h hK
theorem down_spec {p i : Nat} {x : It} (h : Sat w0 (HeapI (ptr p) n l m :: L) w) (hx : l[i]? = some x) (hlen : l.length < 2 ^ 60) (hK : ∀ w', Sat w0 (HeapI (ptr p) n (downL x l m i).1 (downL x l m i).2 :: L) w' → K (.tuple #[]) w') :
    callP G78 [ptr p, .int .i64 i] w K := by
  refine c78 ?_
  unfold F78 F78_1 F78_1b
  obtain ⟨hi, hx'⟩ := List.getElem?_eq_some_iff.1 hx
  obtain ⟨p', sv, mv, he, hs⟩ := heapI_iff.1 h
  obtain rfl : p = p' := by simpa [ptr] using he
  have hl := hs.f1
  simp [ptr, cell_of hs.cl, ls_ix hl hi, ls_ld CIt hl hi, hx']
  refine eAlloc_sat h z55 fun q w1 h1 => ?_
  refine bindW_stN h1 (by simp [cIt]) (by simp [cIt]) (by simp) fun w2 h2 => ?_
  have e : wr (Value.agg #[(.int .i64 0), (.int .i64 0)]).cells 0 (Value.agg (cIt x).toArray).cells.toList = (cIt x).toArray := by simp [wr, cIt]
  rw [e] at h2
  exact down_loop fuel i w2 l m (by unfold fuel; omega) hi hlen h2.f1 hK
end
end Go.Proofs.Gong
