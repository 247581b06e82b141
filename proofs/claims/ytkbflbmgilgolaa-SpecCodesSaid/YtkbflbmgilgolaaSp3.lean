/- A part of the proofs: what stands below it, told in lemmas. No condition. -/
import Derived.Test.YtkbflbmgilgolaaSp2
namespace Go.Proofs.Gong
open Go Go.Sx Go.Proofs
set_option maxRecDepth 100000
def zC : Array Value := #[.int .i64 0, .int .i64 0, .string ⟨#[]⟩, .string ⟨#[]⟩, .int .i64 0]
section
variable {w0 w : World} {L : List HP} {K : Value → World → Prop} {x : Inp} {v : Value} {r : Rdr} {S : List UInt8}
theorem rwide1_spec (h : Sat w0 (RdrH v r :: L) w) (hr : r.wf) (hK : ∀ w', Sat w0 (RdrH v (rWide 1 r).2 :: L) w' → K (.int .i64 (rWide 1 r).1) w') : callP G130 [v, .int .i64 1] w K := rwide_spec (n := 1) h (by omega) hr hK
theorem fwide1_spec (h : Sat w0 (RfrH v S r :: L) w) (hK : ∀ w', Sat w0 (RfrH v S (rWide 1 r).2 :: L) w' → K (.int .i64 (rWide 1 r).1) w') : callP G134 [v, .int .i64 1] w K := fwide_spec (n := 1) h (by omega) hK
theorem ldI {p : Nat} {ty : TypeId} (h : Sat w0 L w) (hm : Cl p (cIn x).toArray ty ∈ L) : ldN 5 (.pointer (some ⟨p, 0, none⟩)) w = some (inV x) := by
  rw [ldN_of (cellM h hm) (by simp [cIn])]; rfl
theorem zI : fZero Try.prog 55 = some (inV zeroI) := z55
theorem ez : fBuild Try.prog 55 [] = some (inV zeroI) := by kernel_rfl
theorem stI {p : Nat} {y : Inp} {k : World → Prop} (h : Sat w0 (Cl p (cIn x).toArray 55 :: L) w) (hk : ∀ w', Sat w0 (Cl p (cIn y).toArray 55 :: L) w' → k w') : bindW (st 5 (.pointer (some ⟨p, 0, none⟩)) (inV y) w) k := by
  refine bindW_stN h (by simp [inV, cIn]) (by simp [inV, cIn]) (by simp [cIn]) fun w9 h9 => ?_
  have ew : wr (cIn x).toArray 0 (inV y).cells.toList = (cIn y).toArray := by rfl
  rw [ew] at h9
  exact hk _ h9
theorem decode_spec {s : List UInt8} (hs : s.length ≤ 4611686018427387904) (h : Sat w0 L w) (hK : ∀ w', Sat w0 L w' → K (.tuple #[inV (decI s).1, .int .i64 (decI s).2]) w') : callP G37 [.string (bs s)] w K := by
  refine c37 ?_
  unfold F37
  refine eAlloc_sat h zI fun q w1 h1 => ?_
  refine read_spec h1 fun v w2 h2 => ?_
  have r0 : Rdr.wf (0, s) := hs
  refine rwide1_spec h2 r0 fun w3 h3 => ?_
  refine rgroups_spec h3 fun w4 h4 => ?_
  have r1 : Rdr.wf (dR1 s).2 := by
    have e : dR1 s = rWide ((1 : Nat) : Int) (0, s) := rfl
    rw [e, rWide_of (by omega)]
    split
    · exact hs
    · exact rBytes_wf _ r0
  have r2 : Rdr.wf (dR2 s).2 := rGrp_wf _ r1
  refine rtext_spec h4 r2 fun w5 h5 => ?_
  have r3 : Rdr.wf (dR3 s).2 := by
    unfold dR3 rText
    simp only
    split
    · exact r2
    · exact rBytes_wf _ (rGrp_wf _ r2)
  refine rtext_spec h5 r3 fun w6 h6 => ?_
  refine rgroups_spec h6 fun w7 h7 => ?_
  have eb : fBuild Try.prog 55 [(0, .int .i64 (dR1 s).1), (1, .int .i64 (dR2 s).1), (2, .string (bs (dR3 s).1)), (3, .string (bs (dR4 s).1)), (4, .int .i64 (dR5 s).1)] = some (inV (dX s)) := by kernel_rfl
  show bindP (fBuild Try.prog 55 [(0, .int .i64 (dR1 s).1), (1, .int .i64 (dR2 s).1), (2, .string (bs (dR3 s).1)), (3, .string (bs (dR4 s).1)), (4, .int .i64 (dR5 s).1)]) _
  rw [eb]
  simp only [bindP_some]
  refine eAlloc_sat h7 zI fun q2 w8 h8 => ?_
  refine stI (x := zeroI) h8 fun w9 h9 => ?_
  have h10 : Sat w0 (RdrH v (dR5 s).2 :: Cl q2 (cIn (dX s)).toArray 55 :: Cl q (cIn zeroI).toArray 55 :: L) w9 := h9.f1
  refine done_spec h10 ?_
  have fin : ∀ (y : Inp) (c : Int) (w' : World) (M : List HP), decI s = (y, c) → Sat w0 (Cl q (cIn zeroI).toArray 55 :: (M ++ L)) w' →
      bindW (st 5 (.pointer (some ⟨q, 0, none⟩)) (inV y) w') fun w3 => bindP (ldN 5 (.pointer (some ⟨q, 0, none⟩)) w3) fun v35 => K (.tuple #[v35, .int .i64 c]) w3 := by
    intro y c w' M he hs'
    refine stI hs' fun w3 h3 => ?_
    rw [ldI h3 (x := y) (p := q) (ty := 55) (by simp)]
    simp only [bindP_some]
    rw [he] at hK
    exact hK _ h3.drop.drops
  simp only [ptr, ldI h10 (x := dX s) (p := q2) (ty := 55) (by simp)]
  unfold decI at fin
  by_cases hd : rDone (dR5 s).2 = 0
  · simp only [hd, bNe_int, decide_true, Bool.not_true, bindP_some, gd_false, Bool.not_false, stepG_true, stepE_true]
    refine check_spec h10 fun w13 h13 => ?_
    by_cases ho : okI (dX s) = true
    · have ec : chkI (dX s) = 0 := by unfold chkI; rw [if_pos ho]
      simp only [ec, bNe_int, decide_true, Bool.not_true, bindP_some, pPick_false, ifB_false, ldI h13 (x := dX s) (p := q2) (ty := 55) (by simp)]
      exact fin (dX s) 0 w13 [_, _] (by rw [if_pos ⟨hd, ho⟩]) h13.f2
    · have ec : chkI (dX s) = 1 := by unfold chkI; rw [if_neg ho]
      have e1 : (!decide ((1 : Int) = 0)) = true := by decide
      simp only [ec, bNe_int, e1, bindP_some, pPick_false, ifB_true, ez]
      exact fin zeroI 1 w13 [_, _] (by rw [if_neg (by rintro ⟨_, h⟩; exact ho h)]) h13.f2
  · have e1 : (!decide (rDone (dR5 s).2 = 0)) = true := by simp [hd]
    simp only [e1, bNe_int, bindP_some, gd_false, Bool.not_true, stepG_false, stepE_false, pPick_true, ifB_true, ez]
    exact fin zeroI 1 w9 [_, _] (by rw [if_neg (by rintro ⟨h, _⟩; exact hd h)]) h10.f2
theorem stC {p i : Nat} {c : Array Value} {y : Value} [OneV y] {k : World → Prop} (h : Sat w0 (Cl p c 55 :: L) w) (hi : i < c.size) {c' : Array Value} (hc : c.setIfInBounds i y = c') (hk : ∀ w', Sat w0 (Cl p c' 55 :: L) w' → k w') : bindW (st 1 (.pointer (some ⟨p, i, none⟩)) y w) k := by
  refine bindW_st h hi fun w9 h9 => ?_
  rw [hc] at h9
  exact hk _ h9
theorem fdecode_spec {s : List UInt8} (hs : s.length ≤ 4611686018427387904) (h : Sat w0 L w) (hK : ∀ w', Sat w0 L w' → K (.tuple #[inV (decI s).1, .int .i64 (decI s).2]) w') : callP G38 [.string (bs s)] w K := by
  refine c38 ?_
  unfold F38
  refine eAlloc_sat h zI fun q w1 h1 => ?_
  have er : fBuild Try.prog 190 [(0, .string (bs s))] = some (.agg #[.string (bs s), .int .i64 0, .int .i64 0]) := by kernel_rfl
  rw [er]
  simp only [bindP_some]
  refine eBox_sat h1 fun p w2 h2 => ?_
  have h2' : Sat w0 (RfrH (ptr p) s (0, s) :: Cl q (cIn zeroI).toArray 55 :: L) w2 := rfr_mk (a := 0) h2 (by omega) rfl hs rfl
  generalize ptr p = v at h2'
  refine fwide1_spec h2' fun w3 h3 => ?_
  have eb : fBuild Try.prog 55 [(0, .int .i64 (dR1 s).1)] = some (inV ⟨(dR1 s).1, 0, [], [], 0⟩) := by kernel_rfl
  show bindP (fBuild Try.prog 55 [(0, .int .i64 (dR1 s).1)]) _
  rw [eb]
  simp only [bindP_some]
  refine eAlloc_sat h3 zI fun q2 w4 h4 => ?_
  refine stI (x := zeroI) h4 fun w5 h5 => ?_
  refine fgroups_spec h5.f1 fun w6 h6 => ?_
  simp only [ptr, pFieldAddr_ptr, bindP_some, Nat.zero_add]
  have h6' : Sat w0 (Cl q2 (cIn ⟨(dR1 s).1, 0, [], [], 0⟩).toArray 55 :: RfrH v s (dR2 s).2 :: Cl q (cIn zeroI).toArray 55 :: L) w6 := h6.f1
  refine stC h6' (by simp [cIn]) (y := .int .i64 (dR2 s).1) (c' := (cIn ⟨(dR1 s).1, (dR2 s).1, [], [], 0⟩).toArray) rfl fun w7 h7 => ?_
  refine ftext_spec h7.f1 fun w8 h8 => ?_
  have h8' : Sat w0 (Cl q2 (cIn ⟨(dR1 s).1, (dR2 s).1, [], [], 0⟩).toArray 55 :: RfrH v s (dR3 s).2 :: Cl q (cIn zeroI).toArray 55 :: L) w8 := h8.f1
  refine stC h8' (by simp [cIn]) (y := .string (bs (dR3 s).1)) (c' := (cIn ⟨(dR1 s).1, (dR2 s).1, (dR3 s).1, [], 0⟩).toArray) rfl fun w9 h9 => ?_
  refine ftext_spec h9.f1 fun w10 h10 => ?_
  have h10' : Sat w0 (Cl q2 (cIn ⟨(dR1 s).1, (dR2 s).1, (dR3 s).1, [], 0⟩).toArray 55 :: RfrH v s (dR4 s).2 :: Cl q (cIn zeroI).toArray 55 :: L) w10 := h10.f1
  refine stC h10' (by simp [cIn]) (y := .string (bs (dR4 s).1)) (c' := (cIn ⟨(dR1 s).1, (dR2 s).1, (dR3 s).1, (dR4 s).1, 0⟩).toArray) rfl fun w11 h11 => ?_
  refine fgroups_spec h11.f1 fun w12 h12 => ?_
  have h12' : Sat w0 (Cl q2 (cIn ⟨(dR1 s).1, (dR2 s).1, (dR3 s).1, (dR4 s).1, 0⟩).toArray 55 :: RfrH v s (dR5 s).2 :: Cl q (cIn zeroI).toArray 55 :: L) w12 := h12.f1
  refine stC h12' (by simp [cIn]) (y := .int .i64 (dR5 s).1) (c' := (cIn (dX s)).toArray) rfl fun w13 h13 => ?_
  refine fdone_spec h13.f1 fun w14 h14 => ?_
  have fin : ∀ (y : Inp) (c : Int) (w' : World) (M : List HP), decI s = (y, c) → Sat w0 (Cl q (cIn zeroI).toArray 55 :: (M ++ L)) w' →
      bindW (st 5 (.pointer (some ⟨q, 0, none⟩)) (inV y) w') fun w3 => bindP (ldN 5 (.pointer (some ⟨q, 0, none⟩)) w3) fun v35 => K (.tuple #[v35, .int .i64 c]) w3 := by
    intro y c w' M he hs'
    refine stI hs' fun w3 h3 => ?_
    rw [ldI h3 (x := y) (p := q) (ty := 55) (by simp)]
    simp only [bindP_some]
    rw [he] at hK
    exact hK _ h3.drop.drops
  simp only [ldI h14 (x := dX s) (p := q2) (ty := 55) (by simp)]
  unfold decI at fin
  by_cases hd : rDone (dR5 s).2 = 0
  · simp only [hd, bNe_int, decide_true, Bool.not_true, bindP_some, gd_false, Bool.not_false, stepG_true, stepE_true]
    refine fcheck_spec h14 fun w15 h15 => ?_
    by_cases ho : okI (dX s) = true
    · have ec : chkI (dX s) = 0 := by unfold chkI; rw [if_pos ho]
      simp only [ec, bNe_int, decide_true, Bool.not_true, bindP_some, pPick_false, ifB_false, ldI h15 (x := dX s) (p := q2) (ty := 55) (by simp)]
      exact fin (dX s) 0 w15 [_, _] (by rw [if_pos ⟨hd, ho⟩]) h15.f2
    · have ec : chkI (dX s) = 1 := by unfold chkI; rw [if_neg ho]
      have e1 : (!decide ((1 : Int) = 0)) = true := by decide
      simp only [ec, bNe_int, e1, bindP_some, pPick_false, ifB_true, ez]
      exact fin zeroI 1 w15 [_, _] (by rw [if_neg (by rintro ⟨_, h⟩; exact ho h)]) h15.f2
  · have e1 : (!decide (rDone (dR5 s).2 = 0)) = true := by simp [hd]
    simp only [e1, bNe_int, bindP_some, gd_false, Bool.not_true, stepG_false, stepE_false, pPick_true, ifB_true, ez]
    exact fin zeroI 1 w14 [_, _] (by rw [if_neg (by rintro ⟨h, _⟩; exact hd h)]) h14.f2
end
end Go.Proofs.Gong
