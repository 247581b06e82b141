/- A part of the proofs: what stands below it, told in lemmas. No condition. -/
import Derived.Test.YtkbflbmgilgolaaSp1
namespace Go.Proofs.Gong
open Go Go.Sx Go.Proofs
set_option maxRecDepth 100000
def encL (x : Inp) : List UInt8 := padL 1 x.kind.toNat ++ grp x.time.toNat ++ txtL x.src ++ txtL x.byt ++ grp x.seq.toNat
def encI (x : Inp) : List UInt8 × Int := if okI x = true then (encL x, 0) else ([], 1)
def zeroI : Inp := ⟨0, 0, [], [], 0⟩
def dR1 (s : List UInt8) := rWide 1 (0, s)
def dR2 (s : List UInt8) := rGrp 2305843009213693952 (dR1 s).2
def dR3 (s : List UInt8) := rText 64 (dR2 s).2
def dR4 (s : List UInt8) := rText 65535 (dR3 s).2
def dR5 (s : List UInt8) := rGrp 1152921504606846976 (dR4 s).2
def dX (s : List UInt8) : Inp := ⟨(dR1 s).1, (dR2 s).1, (dR3 s).1, (dR4 s).1, (dR5 s).1⟩
def decI (s : List UInt8) : Inp × Int := if rDone (dR5 s).2 = 0 ∧ okI (dX s) = true then (dX s, 0) else (zeroI, 1)
theorem okI_facts {x : Inp} (h : okI x = true) : 0 ≤ x.time ∧ x.time ≤ 2305843009213693952 ∧ x.src.length ≤ 64 ∧ x.byt.length ≤ 65535 ∧ 0 ≤ x.seq ∧ x.seq ≤ 1152921504606846976 ∧ 1 ≤ x.kind ∧ x.kind ≤ 5 ∧ rightI x = true := by
  unfold okI at h
  simp only [Bool.and_eq_true, decide_eq_true_eq] at h
  obtain ⟨⟨⟨⟨⟨⟨h1, h2⟩, h3⟩, h4⟩, h5⟩, h6⟩, h7⟩ := h
  refine ⟨h1, h2, h3, h4, h5, h6, ?_, ?_, h7⟩
  all_goals
    unfold rightI at h7
    split at h7
    · omega
    · split at h7
      · omega
      · split at h7
        · omega
        · cases h7
theorem txtL_len {s : List UInt8} (h : s.length ≤ 65535) : (txtL s).length ≤ s.length + 9 := by
  have := grp_len (n := s.length) (by omega)
  simp [txtL]; omega
section
variable {w0 w : World} {L : List HP} {K : Value → World → Prop} {x : Inp}
theorem byte1k {b : UInt8} {k : Value → World → Prop} (h : Sat w0 L w) (hK : ∀ sv w', Sat w0 (SlH 1 5 sv 1 (cellsB [b]) :: L) w' → cBytes sv w' = some (.string (bs [b])) → k sv w') : eBuildSl Try.prog 29 1 [(0, .int .u8 b.toNat)] w k := by
  have hb : fBuildSl Try.prog 5 1 [(0, .int .u8 b.toNat)] = some (cellsB [b]).toArray := by kernel_rfl
  refine eBuildSl_sat (es := 1) h u29 hb (by simp) fun s w' h' => hK s w' h' ?_
  have := h'.rd
  exact cBytes_rd this (by omega)
theorem cbM {b : UInt8} {ty : TypeId} {sv : Value} (h : Sat w0 (SlH 1 ty sv 1 (cellsB [b]) :: L) w) : cBytes sv w = some (.string (bs [b])) := cBytes_rd h.rd (by omega)
theorem encode_spec (h : Sat w0 L w) (hK : ∀ w', Sat w0 L w' → K (.tuple #[.string (bs (encI x).1), .int .i64 (encI x).2]) w') : callP G35 [inV x] w K := by
  refine c35 ?_
  unfold F35
  refine eBox_sat h fun p w1 h1 => ?_
  have e0 : (inV x).cells = (cIn x).toArray := rfl
  rw [e0] at h1
  have cN : ldN 5 (ptr p) w1 = some (inV x) := by rw [ptr, ldN_of h1.cl (by simp [cIn])]; rfl
  simp only [ptr] at cN
  simp only [ptr, cN, bindP_some]
  refine check_spec h1 fun w2 h2 => ?_
  unfold encI at hK
  by_cases ho : okI x = true
  · rw [if_pos ho] at hK
    obtain ⟨o1, o2, o3, o4, o5, o6, o7, o8, _⟩ := okI_facts ho
    have ec : chkI x = 0 := by unfold chkI; rw [if_pos ho]
    have cs : ∀ {w' : World}, Sat w0 (Cl p (cIn x).toArray 55 :: L) w' → ∀ i, w'.cell? ⟨p, i, none⟩ = (cIn x)[i]? := fun h i => by rw [cell_of h.cl, List.getElem?_toArray]
    have k0 : (cIn x)[0]? = some (.int .i64 x.kind.toNat) := by rw [Int.toNat_of_nonneg (by omega)]; rfl
    have k1 : (cIn x)[1]? = some (.int .i64 x.time) := rfl
    have k2 : (cIn x)[2]? = some (.string (bs x.src)) := rfl
    have k3 : (cIn x)[3]? = some (.string (bs x.byt)) := rfl
    have k4 : (cIn x)[4]? = some (.int .i64 x.seq) := rfl
    simp only [ec, bNe_int, decide_true, Bool.not_true, bindP_some, ifB_false, pFieldAddr_ptr, Nat.zero_add, ld1_ptr, cs h2, k0]
    refine wide_spec (k := 1) h2 (by omega) (by omega) (by omega) fun w3 h3 => ?_
    simp only [pTuple, List.getElem?_toArray, List.getElem?_cons_zero, List.getElem?_cons_succ, bindP_some, cs h3]
    rw [k1]
    simp only [bindP_some]
    refine groups_spec h3 (by omega) (fun h => by omega) fun _ w4 h4 => ?_
    simp only [pTuple, List.getElem?_toArray, List.getElem?_cons_zero, List.getElem?_cons_succ, bindP_some, cs h4]
    rw [k4]
    simp only [bindP_some]
    refine groups_spec h4 (by omega) (fun h => by omega) fun _ w5 h5 => ?_
    have h6 := h5.drew
    have g1 := grp_len (n := x.time.toNat) (by omega)
    have g2 := grp_len (n := x.seq.toNat) (by omega)
    have g3 := txtL_len (s := x.src) (by omega)
    have g4 := txtL_len (s := x.byt) (by omega)
    have g5 := padL_len 1 x.kind.toNat
    simp only [pTuple, List.getElem?_toArray, List.getElem?_cons_zero, List.getElem?_cons_succ, bindP_some, cs h6]
    rw [k2, k3, add_txt (by omega)]
    simp only [bindP_some]
    refine text_spec h6 (by omega) fun w7 h7 => ?_
    rw [fok_true]
    refine ⟨by rw [cs h7, k3], ?_⟩
    rw [add_txt (by simp only [List.length_append]; omega)]
    simp only [bindP_some]
    refine text_spec h7 (by omega) fun w8 h8 => ?_
    rw [add_txt (by simp only [List.length_append]; omega)]
    simp only [bindP_some]
    rw [add_txt (by simp only [List.length_append]; omega)]
    simp only [bindP_some]
    exact hK _ h8.drop
  · rw [if_neg ho] at hK
    have ec : chkI x = 1 := by unfold chkI; rw [if_neg ho]
    simp only [ec, nil_bs]
    simp
    exact hK _ h2.drop
theorem put_spec (h : Sat w0 L w) (ho : okI x = true) (hK : ∀ w', Sat w0 L w' → K (.string (bs (encL x))) w') : callP G128 [inV x] w K := by
  refine c128 ?_
  unfold F128
  refine eBox_sat h fun p w1 h1 => ?_
  have e0 : (inV x).cells = (cIn x).toArray := rfl
  rw [e0] at h1
  obtain ⟨o1, o2, o3, o4, o5, o6, o7, o8, _⟩ := okI_facts ho
  have cs : ∀ {M : List HP} {w' : World}, Sat w0 M w' → Cl p (cIn x).toArray 55 ∈ M → ∀ i, w'.cell? ⟨p, i, none⟩ = (cIn x)[i]? := fun h hm i => by rw [cell_of (cellM h hm), List.getElem?_toArray]
  have k0 : (cIn x)[0]? = some (.int .i64 x.kind.toNat) := by rw [Int.toNat_of_nonneg (by omega)]; rfl
  have k1 : (cIn x)[1]? = some (.int .i64 x.time.toNat) := by rw [Int.toNat_of_nonneg (by omega)]; rfl
  have k2 : (cIn x)[2]? = some (.string (bs x.src)) := rfl
  have k3 : (cIn x)[3]? = some (.string (bs x.byt)) := rfl
  have k4 : (cIn x)[4]? = some (.int .i64 x.seq.toNat) := by rw [Int.toNat_of_nonneg (by omega)]; rfl
  have h2 := h1.drew
  have g1 := grp_len (n := x.time.toNat) (by omega)
  have g2 := grp_len (n := x.seq.toNat) (by omega)
  have g3 := txtL_len (s := x.src) (by omega)
  have g4 := txtL_len (s := x.byt) (by omega)
  have e : encL x = [UInt8.ofNat x.kind.toNat] ++ grp x.time.toNat ++ txtL x.src ++ txtL x.byt ++ grp x.seq.toNat := by
    have e : padL 1 x.kind.toNat = [UInt8.ofNat x.kind.toNat] := by
      simp only [padL, List.nil_append]
      congr 2; omega
    unfold encL
    rw [e]
  rw [e] at hK
  have fin0 : ∀ {w' : World}, Sat w0 (Cl p (cIn x).toArray 55 :: L) w' → K (.string (bs ([UInt8.ofNat x.kind.toNat] ++ grp x.time.toNat ++ txtL x.src ++ txtL x.byt ++ grp x.seq.toNat))) w' := fun hs => hK _ hs.drop
  have fin1 : ∀ {A : HP} {w' : World}, Sat w0 (A :: Cl p (cIn x).toArray 55 :: L) w' → K (.string (bs ([UInt8.ofNat x.kind.toNat] ++ grp x.time.toNat ++ txtL x.src ++ txtL x.byt ++ grp x.seq.toNat))) w' := fun hs => hK _ hs.drop.drop
  simp only [ptr, pFieldAddr_ptr, bindP_some, Nat.zero_add, ld1_ptr, cs h2 (by simp), k0, k1, k2, k3, k4, to8]
  repeat' (first
    | (refine And.intro ?_ ?_)
    | (refine byte1k (by assumption) fun sv w' hs hb => ?_; (try simp only [hb, bindP_some]))
    | (refine grouped_spec (by assumption) (by omega) fun w' hs => ?_)
    | (refine rftext_spec (by assumption) (by omega) fun w' hs => ?_)
    | (refine Eq.mpr (fok_true _ _) ?_; first | rfl | (rw [cs (by assumption) (by simp)]; first | exact k0 | exact k1 | exact k2 | exact k3 | exact k4) | exact to8 _ | exact cbM (by assumption))
    | (rw [add_txt (by simp only [List.length_append, List.length_singleton]; omega)]; simp only [bindP_some])
    | exact fin0 (by assumption)
    | exact fin1 (by assumption))
theorem fencode_spec (h : Sat w0 L w) (hK : ∀ w', Sat w0 L w' → K (.tuple #[.string (bs (encI x).1), .int .i64 (encI x).2]) w') : callP G36 [inV x] w K := by
  refine c36 ?_
  unfold F36
  refine eBox_sat h fun p w1 h1 => ?_
  have e0 : (inV x).cells = (cIn x).toArray := rfl
  rw [e0] at h1
  have cN : ∀ {w' : World}, Sat w0 (Cl p (cIn x).toArray 55 :: L) w' → ldN 5 (.pointer (some ⟨p, 0, none⟩)) w' = some (inV x) := by
    intro w' h; rw [ldN_of h.cl (by simp [cIn])]; rfl
  simp only [ptr, cN h1, bindP_some]
  refine fcheck_spec h1 fun w2 h2 => ?_
  unfold encI at hK
  by_cases ho : okI x = true
  · rw [if_pos ho] at hK
    have ec : chkI x = 0 := by unfold chkI; rw [if_pos ho]
    simp only [ec, bNe_int, decide_true, Bool.not_true, bindP_some, ifB_false, cN h2]
    exact put_spec h2 ho fun w3 h3 => hK _ h3.drop
  · rw [if_neg ho] at hK
    have ec : chkI x = 1 := by unfold chkI; rw [if_neg ho]
    simp only [ec, nil_bs]
    simp
    exact hK _ h2.drop
end
end Go.Proofs.Gong
