/- A part of the proofs: what stands below it, told in lemmas. No condition. -/
import Derived.Test.YtkbflbmgilgolaaSp3
namespace Go.Proofs.Gong
open Go Go.Sx Go.Proofs
theorem rWide_enc {k : Nat} (hk : k < 256) (t : List UInt8) : rWide 1 (0, padL 1 k ++ t) = (k, (0, t)) := by
  have e : ((padL 1 k ++ t).take 1) = padL 1 k := by rw [List.take_append_of_le_length (by simp [padL_len])]; exact List.take_of_length_le (by simp [padL_len])
  have e2 : ((padL 1 k ++ t).drop 1) = t := by rw [List.drop_append_of_le_length (by simp [padL_len]), List.drop_of_length_le (by simp [padL_len])]; rfl
  have e3 : numL (padL 1 k) = k := numL_pad 1 k (by simpa using hk)
  unfold rWide
  rw [if_neg (by simp), if_neg (by omega), if_neg (by simp [padL_len]; omega)]
  simp only [show (1 : Int).toNat = 1 from rfl, e, e2, e3]
  rw [if_neg (by omega)]
theorem rGrp_enc {most : Int} {n : Nat} (h : n < 9223372036854775808) (hm : (n : Int) ≤ most) (t : List UInt8) : rGrp most (0, grp n ++ t) = (n, (0, t)) := by
  unfold rGrp
  rw [if_neg (by simp)]
  simp only [rdG_grp h hm t, if_true]
theorem rText_enc {most : Int} {s : List UInt8} (h : s.length < 9223372036854775808) (hm : (s.length : Int) ≤ most) (t : List UInt8) : rText most (0, txtL s ++ t) = (s, (0, t)) := by
  unfold rText txtL
  rw [List.append_assoc, rGrp_enc h hm]
  simp only
  unfold rBytes
  rw [if_neg (by simp), if_neg (by omega), if_neg (by simp; omega)]
  simp
theorem rGrp_back {most : Int} {r : Rdr} (h : (rGrp most r).2.1 = 0) : r.1 = 0 ∧ r.2 = grp (rGrp most r).1 ++ (rGrp most r).2.2 ∧ ((rGrp most r).1 : Int) ≤ most := by
  unfold rGrp at *
  by_cases h0 : r.1 ≠ 0
  · rw [if_pos h0] at h; exact absurd h h0
  · rw [if_neg h0] at *
    by_cases h1 : (rdG most 9 true 0 r.2).1 = 0
    · rw [if_pos h1]
      have e : rdG most 9 true 0 r.2 = (0, (rdG most 9 true 0 r.2).2.1, (rdG most 9 true 0 r.2).2.2) := by rw [← h1]
      have := rdG_grp_back e
      exact ⟨by omega, this.1, this.2⟩
    · rw [if_neg h1] at h; exact absurd h h1
theorem rBytes_back {n : Nat} {r : Rdr} (h : (rBytes n r).2.1 = 0) : r.1 = 0 ∧ r.2 = (rBytes n r).1 ++ (rBytes n r).2.2 ∧ (rBytes n r).1.length = n := by
  unfold rBytes at *
  by_cases h0 : r.1 ≠ 0
  · rw [if_pos h0] at h; exact absurd h h0
  · rw [if_neg h0] at *
    rw [if_neg (by omega)] at *
    by_cases h1 : (r.2.length : Int) < n
    · rw [if_pos h1] at h; simp at h
    · rw [if_neg h1]
      refine ⟨by omega, by simp, by simp; omega⟩
theorem rText_back {most : Int} {r : Rdr} (h : (rText most r).2.1 = 0) : r.1 = 0 ∧ r.2 = txtL (rText most r).1 ++ (rText most r).2.2 := by
  unfold rText at *
  simp only at *
  by_cases h0 : (rBytes (rGrp most r).1 (rGrp most r).2).2.1 ≠ 0
  · rw [if_pos h0] at h; exact absurd h h0
  · rw [if_neg h0] at *
    obtain ⟨g1, g2, g3⟩ := rBytes_back (n := (rGrp most r).1) h
    obtain ⟨k1, k2, _⟩ := rGrp_back g1
    refine ⟨k1, ?_⟩
    rw [k2, g2]
    unfold txtL
    rw [g3, List.append_assoc, ← g2]
theorem rWide_back {r : Rdr} (h : (rWide 1 r).2.1 = 0) : r.1 = 0 ∧ r.2 = padL 1 (rWide 1 r).1 ++ (rWide 1 r).2.2 := by
  unfold rWide at *
  by_cases h0 : r.1 ≠ 0
  · rw [if_pos h0] at h; exact absurd h h0
  · rw [if_neg h0, if_neg (by omega)] at *
    by_cases h1 : (r.2.length : Int) < 1
    · rw [if_pos h1] at h; simp at h
    · rw [if_neg h1] at *
      have e : Int.toNat 1 = 1 := rfl
      simp only [e] at h ⊢
      by_cases h2 : 9223372036854775808 ≤ numL (r.2.take 1)
      · rw [if_pos h2] at h; simp at h
      · rw [if_neg h2]
        refine ⟨by omega, ?_⟩
        simp only
        rw [padL_num 1 _ (by simp; omega), List.take_append_drop]
theorem rDone_back {r : Rdr} (h : rDone r = 0) : r.1 = 0 ∧ r.2 = [] := by
  unfold rDone at h
  split at h
  · cases h
  · rename_i h1
    refine ⟨h, ?_⟩
    by_cases h2 : r.2 = []
    · exact h2
    · exact absurd ⟨h, h2⟩ h1
theorem dec_enc {x : Inp} (h : okI x = true) : decI (encL x) = (x, 0) := by
  obtain ⟨o1, o2, o3, o4, o5, o6, o7, o8, _⟩ := okI_facts h
  have d1 : dR1 (encL x) = (x.kind.toNat, (0, grp x.time.toNat ++ (txtL x.src ++ (txtL x.byt ++ grp x.seq.toNat)))) := by
    unfold dR1 encL
    simp only [List.append_assoc]
    exact rWide_enc (by omega) _
  have d2 : dR2 (encL x) = (x.time.toNat, (0, txtL x.src ++ (txtL x.byt ++ grp x.seq.toNat))) := by
    unfold dR2; rw [d1]; exact rGrp_enc (by omega) (by omega) _
  have d3 : dR3 (encL x) = (x.src, (0, txtL x.byt ++ grp x.seq.toNat)) := by
    unfold dR3; rw [d2]; exact rText_enc (by omega) (by omega) _
  have d4 : dR4 (encL x) = (x.byt, (0, grp x.seq.toNat)) := by
    unfold dR4; rw [d3]; exact rText_enc (by omega) (by omega) _
  have d5 : dR5 (encL x) = (x.seq.toNat, (0, [])) := by
    unfold dR5; rw [d4]
    have := rGrp_enc (most := 1152921504606846976) (n := x.seq.toNat) (by omega) (by omega) []
    rw [List.append_nil] at this
    exact this
  have dx : dX (encL x) = x := by
    unfold dX
    rw [d1, d2, d3, d4, d5]
    cases x
    simp only [Inp.mk.injEq, true_and] at *
    omega
  unfold decI
  rw [dx, d5, if_pos ⟨by simp [rDone], h⟩]
theorem enc_dec {s : List UInt8} {x : Inp} (h : decI s = (x, 0)) : okI x = true ∧ encL x = s := by
  unfold decI at h
  split at h
  · rename_i h1
    simp only [Prod.mk.injEq, and_true] at h
    subst h
    refine ⟨h1.2, ?_⟩
    obtain ⟨a1, a2⟩ := rDone_back h1.1
    obtain ⟨b1, b2, _⟩ := rGrp_back (most := 1152921504606846976) (r := (dR4 s).2) a1
    obtain ⟨c1, c2⟩ := rText_back (most := 65535) (r := (dR3 s).2) b1
    obtain ⟨e1, e2⟩ := rText_back (most := 64) (r := (dR2 s).2) c1
    obtain ⟨f1, f2, _⟩ := rGrp_back (most := 2305843009213693952) (r := (dR1 s).2) e1
    obtain ⟨g1, g2⟩ := rWide_back (r := (0, s)) f1
    have a2' : (rGrp 1152921504606846976 (dR4 s).2).2.2 = [] := a2
    have x5 : (dR4 s).2.2 = grp (dR5 s).1 := by rw [b2, a2']; simp [dR5]
    have x4 : (dR3 s).2.2 = txtL (dR4 s).1 ++ (dR4 s).2.2 := c2
    have x3 : (dR2 s).2.2 = txtL (dR3 s).1 ++ (dR3 s).2.2 := e2
    have x2 : (dR1 s).2.2 = grp (dR2 s).1 ++ (dR2 s).2.2 := f2
    have x1 : s = padL 1 (dR1 s).1 ++ (dR1 s).2.2 := g2
    unfold encL dX
    simp only [Int.toNat_natCast]
    conv => rhs; rw [x1, x2, x3, x4, x5]
    simp only [List.append_assoc]
  · simp at h
theorem dec_zero {s : List UInt8} {x : Inp} {c : Int} (h : decI s = (x, c)) (hc : c ≠ 0) : x = zeroI ∧ c = 1 := by
  unfold decI at h
  split at h
  · simp only [Prod.mk.injEq] at h; exact absurd h.2.symm hc
  · simp only [Prod.mk.injEq] at h; exact ⟨h.1.symm, h.2.symm⟩
def tickI : Inp := ⟨3, 5, [], [], 0⟩
theorem ok_tick : okI tickI = true := by decide
theorem enc_tick : encL tickI = [3, 5, 0, 0, 0] := by
  simp [encL, tickI, grp, hiG_0, txtL, padL]
theorem dec_tick : decI [3, 5, 0, 0, 0] = (tickI, 0) := by rw [← enc_tick]; exact dec_enc ok_tick
end Go.Proofs.Gong
