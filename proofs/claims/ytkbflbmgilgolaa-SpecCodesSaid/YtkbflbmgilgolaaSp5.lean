/- A part of the proofs: what stands below it, told in lemmas. No condition. -/
import Derived.Test.YtkbflbmgilgolaaSp4
import Derived.Test.YtkbflbmgilgolaaSz10
namespace Go.Proofs.Gong
open Go Go.Sx Go.Proofs
set_option maxRecDepth 100000
theorem eqB (a b : Inp) : ((a.kind == b.kind) && ((a.time == b.time) && ((sEq (bs a.src) (bs b.src)) && ((sEq (bs a.byt) (bs b.byt)) && ((a.seq == b.seq) && true))))) = decide (a = b) := by
  rw [Bool.eq_iff_iff]
  cases a; cases b
  simp [sEq_eq]
theorem eqI (x y : Operand) (a b : Inp) : bEq Try.prog 55 x y (inV a) (inV b) = some (.bool (decide (a = b))) := by
  unfold inV cIn
  rw [eq55, eqB]
theorem neI (x y : Operand) (a b : Inp) : bNe Try.prog 55 x y (inV a) (inV b) = some (.bool (!decide (a = b))) := by
  unfold inV cIn
  rw [ne55, eqB]
theorem fit_inp {cs : List Value} (h : FitL [.int .i64, .int .i64, .str, .str, .int .i64] cs) : ∃ x : Inp, cs = cIn x ∧ x.src.length ≤ maxLen ∧ x.byt.length ≤ maxLen := by
  obtain ⟨a, cs, rfl, _, h⟩ := fitL_int h
  obtain ⟨b, cs, rfl, _, h⟩ := fitL_int h
  obtain ⟨c, cs, rfl, hc, h⟩ := fitL_str h
  obtain ⟨d, cs, rfl, hd, h⟩ := fitL_str h
  obtain ⟨e, cs, rfl, _, h⟩ := fitL_int h
  obtain rfl := fitL_nil h
  exact ⟨⟨a, b, c, d, e⟩, rfl, hc, hd⟩
section
variable {w0 w : World} {L : List HP} {K : Value → World → Prop} {x : Inp}
theorem boxI {P : Program} {p : Nat} {y : Inp} {k : Value → World → Prop} (h : Sat w0 L w) (hk : ∀ q w', Sat w0 (Cl q (cIn y).toArray 55 :: L) w' → k (.pointer (some ⟨q, 0, none⟩)) w') : eBox 55 (inV y) w k := eBox_sat h fun q w1 h1 => hk q w1 h1
theorem putI {y : Inp} {k : Value → World → Prop} (h : Sat w0 L w) (hk : ∀ q w', Sat w0 (Cl q (cIn y).toArray 55 :: L) w' → k (.pointer (some ⟨q, 0, none⟩)) w') : eAlloc Try.prog 55 w fun v w1 => bindW (st 5 v (inV y) w1) fun w2 => k v w2 := by
  refine eAlloc_sat h zI fun q w1 h1 => ?_
  exact stI (x := zeroI) h1 fun w2 h2 => hk q w2 h2
theorem works_spec (h : Sat w0 L w) (hK : ∀ w', Sat w0 L w' → K (.bool true) w') : callP G34 [] w K := by
  refine c34 ?_
  unfold F34
  have eb : fBuild Try.prog 55 [(0, (.int .i64 3)), (1, (.int .i64 5))] = some (inV tickI) := by kernel_rfl
  rw [eb]
  simp only [bindP_some]
  refine encode_spec h fun w1 h1 => ?_
  have ee : encI tickI = ([3, 5, 0, 0, 0], 0) := by unfold encI; rw [if_pos ok_tick, enc_tick]
  rw [ee]
  simp only [pTuple, List.getElem?_toArray, List.getElem?_cons_zero, List.getElem?_cons_succ, bindP_some]
  refine decode_spec (by decide) h1 fun w2 h2 => ?_
  rw [dec_tick]
  simp only [pTuple, List.getElem?_toArray, List.getElem?_cons_zero, List.getElem?_cons_succ, bindP_some]
  refine putI h2 fun q w3 h3 => ?_
  have em : (⟨#[3, 5, 0, 0, 0]⟩ : ByteArray) = bs [3, 5, 0, 0, 0] := rfl
  rw [em, ldI h3 (x := tickI) (p := q) (ty := 55) (by simp)]
  simp only [bEq_str, bs_beq, decide_true, bindP_some, gd_true, stepM_true, stepG_true, bEq_int, pPick_true, eb, eqI]
  exact hK _ h3.drop
theorem back2_spec {s : List UInt8} (hs : s.length ≤ 4611686018427387904) (h : Sat w0 L w) (hK : ∀ w', Sat w0 L w' → K (.bool true) w') : F7_2 (.string (bs s)) w K := by
  unfold F7_2 F7_2b
  refine decode_spec hs h fun w1 h1 => ?_
  simp only [pTuple, List.getElem?_toArray, List.getElem?_cons_zero, List.getElem?_cons_succ, bindP_some]
  refine putI h1 fun q w2 h2 => ?_
  rw [ldI h2 (x := (decI s).1) (p := q) (ty := 55) (by simp)]
  by_cases h0 : (decI s).2 = 0
  · have hd : decI s = ((decI s).1, 0) := by rw [← h0]
    obtain ⟨g1, g2⟩ := enc_dec hd
    simp only [h0, bNe_int, decide_true, Bool.not_true, bindP_some, ifB_false]
    refine encode_spec h2 fun w3 h3 => ?_
    have ee : encI (decI s).1 = (s, 0) := by unfold encI; rw [if_pos g1, g2]
    rw [ee]
    simp only [pTuple, List.getElem?_toArray, List.getElem?_cons_zero, List.getElem?_cons_succ, bindP_some, bEq_int, decide_true, gd_true, stepM_true, stepG_true, bEq_str, bs_beq, pPick_true]
    exact hK _ h3.drop
  · have hd : decI s = ((decI s).1, (decI s).2) := rfl
    obtain ⟨g1, g2⟩ := dec_zero hd h0
    rw [g1, g2]
    have e1 : (!decide ((1 : Int) = 0)) = true := by decide
    simp only [bNe_int, e1, bindP_some, ifB_true, bEq_int, decide_true, gd_true, stepG_true, ez, eqI, pPick_true]
    exact hK _ h2.drop
theorem lawSpecBack {W : World} {cs : List Value} (hf : FitL [.int .i64, .int .i64, .str, .str, .int .i64] cs) (s : ByteArray) (hs : s.size ≤ maxLen) :
    callP G7 [.agg cs.toArray, .string s] W fun v w' => v = .bool true ∧ Sat W [] w' := by
  obtain ⟨x, rfl, hx1, hx2⟩ := fit_inp hf
  obtain ⟨l, rfl, hl⟩ := str_bs (s := s)
  refine c7 ?_
  unfold F7 F7_1 F7_1b
  refine eBox_sat (Sat.start W) fun p w1 h1 => ?_
  have h1 : Sat W [Cl p (cIn x).toArray 55] w1 := h1
  refine works_spec h1 fun w2 h2 => ?_
  have c3 : w2.cell? ⟨p, 3, none⟩ = some (.string (bs x.byt)) := by rw [cell_of h2.cl]; rfl
  simp only [ptr, uNot_bool, Bool.not_true, bindP_some, ifB_false, pFieldAddr_ptr, Nat.zero_add, ld1_ptr, c3, lenS_mk, bs_size]
  by_cases h3 : 3000 < x.byt.length
  · have q : bGt (.int .i64 (x.byt.length : Int)) (.int .i64 3000) = some (.bool true) := by simp; omega
    simp only [q, bindP_some, gd_false, Bool.not_true, stepM_false, stepG_false, pPick_true, ifB_true]
    exact ⟨trivial, h2.drop⟩
  · have q : bGt (.int .i64 (x.byt.length : Int)) (.int .i64 3000) = some (.bool false) := by simp; omega
    simp only [q, bindP_some, gd_false, Bool.not_false, stepM_true, stepG_true, lenS_mk, bs_size, pPick_false]
    by_cases h4 : 3000 < l.length
    · have q : bGt (.int .i64 (l.length : Int)) (.int .i64 3000) = some (.bool true) := by simp; omega
      simp only [q, bindP_some, ifB_true]
      exact ⟨trivial, h2.drop⟩
    · have q : bGt (.int .i64 (l.length : Int)) (.int .i64 3000) = some (.bool false) := by simp; omega
      simp only [q, bindP_some, ifB_false, ldI h2 (x := x) (p := p) (ty := 55) (by simp)]
      refine encode_spec h2 fun w3 h3 => ?_
      simp only [pTuple, List.getElem?_toArray, List.getElem?_cons_zero, List.getElem?_cons_succ, bindP_some, bEq_int]
      by_cases ho : okI x = true
      · have ee : encI x = (encL x, 0) := by unfold encI; rw [if_pos ho]
        obtain ⟨o1, o2, o3, o4, o5, o6, o7, o8, _⟩ := okI_facts ho
        have hlen : (encL x).length ≤ 4611686018427387904 := by
          have g1 := grp_len (n := x.time.toNat) (by omega)
          have g2 := grp_len (n := x.seq.toNat) (by omega)
          have g3 := txtL_len (s := x.src) (by omega)
          have g4 := txtL_len (s := x.byt) (by omega)
          have g5 := padL_len 1 x.kind.toNat
          simp only [encL, List.length_append]; omega
        simp only [ee, decide_true, ifB_true]
        refine decode_spec hlen h3 fun w4 h4 => ?_
        rw [dec_enc ho]
        simp only [pTuple, List.getElem?_toArray, List.getElem?_cons_zero, List.getElem?_cons_succ, bindP_some]
        refine putI h4 fun q w5 h5 => ?_
        simp only [bNe_int, decide_true, Bool.not_true, bindP_some, gd_false, Bool.not_false, stepG_true, ldI h5 (x := x) (p := q) (ty := 55) (by simp), ldI h5 (x := x) (p := p) (ty := 55) (by simp), neI, pPick_false, ifB_false]
        exact back2_spec (by omega) h5 fun w6 h6 => ⟨rfl, h6.drop.drop⟩
      · have ee : encI x = ([], 1) := by unfold encI; rw [if_neg ho]
        have e1 : decide ((1 : Int) = 0) = false := by decide
        simp only [ee, e1, ifB_false]
        exact back2_spec (by omega) h3 fun w6 h6 => ⟨rfl, h6.drop⟩
theorem lawSpecCodes {W : World} {cs : List Value} (hf : FitL [.int .i64, .int .i64, .str, .str, .int .i64] cs) (s : ByteArray) (hs : s.size ≤ maxLen) :
    callP G6 [.agg cs.toArray, .string s] W fun v w' => v = .bool true ∧ Sat W [] w' := by
  obtain ⟨x, rfl, hx1, hx2⟩ := fit_inp hf
  obtain ⟨l, rfl, hl⟩ := str_bs (s := s)
  refine c6 ?_
  unfold F6
  refine eBox_sat (Sat.start W) fun p w1 h1 => ?_
  have h1 : Sat W [Cl p (cIn x).toArray 55] w1 := h1
  have c3 : w1.cell? ⟨p, 3, none⟩ = some (.string (bs x.byt)) := by rw [cell_of h1.cl]; rfl
  have c2 : w1.cell? ⟨p, 2, none⟩ = some (.string (bs x.src)) := by rw [cell_of h1.cl]; rfl
  have go : ∀ k : Prop, (k ↔ (x.src.length ≤ 1000 ∧ l.length ≤ 5000)) → True := fun _ _ => trivial
  simp only [ptr, bindP_some, pFieldAddr_ptr, Nat.zero_add, ld1_ptr, c3, c2, lenS_mk, bs_size, bGt_int, bLe_int, gt_iff_lt]
  have out : callP G34 [] w1 fun v27 w26 => v27 = Value.bool true ∧ Sat W [] w26 := works_spec h1 fun w2 h2 => ⟨rfl, h2.drop⟩
  by_cases a1 : ((3000 : Int) < (x.byt.length : Int)) <;> by_cases a2 : ((x.byt.length : Int) ≤ 65535) <;> by_cases a3 : ((131072 : Int) < (x.byt.length : Int)) <;> by_cases a4 : ((5000 : Int) < (l.length : Int)) <;> by_cases a5 : ((1000 : Int) < (x.src.length : Int)) <;>
    simp only [a1, a2, a3, a4, a5, decide_true, decide_false, gd_true, gd_false, Bool.not_true, Bool.not_false, stepM_true, stepM_false, stepG_true, stepG_false, bindP_some, pPick_true, pPick_false, ifB_true, ifB_false, lenS_mk, bs_size, bGt_int, bLe_int, gt_iff_lt, ld1_ptr, c2, c3]
  all_goals first | exact out | skip
  all_goals
    simp only [ldI h1 (x := x) (p := p) (ty := 55) (by simp), bindP_some]
    refine encode_spec h1 fun w2 h2 => ?_
    simp only [pTuple, List.getElem?_toArray, List.getElem?_cons_zero, List.getElem?_cons_succ, ldI h2 (x := x) (p := p) (ty := 55) (by simp), bindP_some]
    refine fencode_spec h2 fun w3 h3 => ?_
    simp only [pTuple, List.getElem?_toArray, List.getElem?_cons_zero, List.getElem?_cons_succ, bindP_some]
    refine decode_spec (by omega) h3 fun w4 h4 => ?_
    simp only [pTuple, List.getElem?_toArray, List.getElem?_cons_zero, List.getElem?_cons_succ, bindP_some]
    refine putI h4 fun q w5 h5 => ?_
    refine fdecode_spec (by omega) h5 fun w6 h6 => ?_
    simp only [pTuple, List.getElem?_toArray, List.getElem?_cons_zero, List.getElem?_cons_succ, bindP_some]
    refine putI h6 fun q2 w7 h7 => ?_
    have h8 := h7.drew
    simp only [ldI h8 (x := x) (p := p) (ty := 55) (by simp), bindP_some]
    refine check_spec h8 fun w9 h9 => ?_
    refine ⟨by rw [fok_true]; exact ldI h9 (x := x) (p := p) (ty := 55) (by simp), ?_⟩
    refine fcheck_spec h9 fun w10 h10 => ?_
    simp only [bEq_int, bEq_str, bs_beq, decide_true, bindP_some, gd_true, stepM_true, stepG_true, pPick_true, eqI, ldI h10 (x := (decI l).1) (p := q) (ty := 55) (by simp), ldI h10 (x := (decI l).1) (p := q2) (ty := 55) (by simp), stepE_true]
    refine works_spec h10 fun w11 h11 => ?_
    simp only [bindP_some, pPick_true]
    exact ⟨trivial, h11.drop.drop.drop⟩
end
end Go.Proofs.Gong
