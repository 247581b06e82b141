/- A part of the proofs: what stands below it, told in lemmas. No condition. -/
import Derived.Test.YtpbfmiphjcmjjaaBd2
set_option linter.all false
namespace Go.Proofs.Gong
open Go Go.Sx Go.Proofs
set_option maxRecDepth 100000
abbrev Sg := List UInt8 × List UInt8 × List UInt8
@[reducible] def cSg (s : Sg) : List Value := [.string (bs s.1), .string (bs s.2.1), .string (bs s.2.2)]
abbrev ekS (s : Sg) : Value := .agg (cSg s).toArray
abbrev kI (n : Int) : Value := .int .i64 n
def sgOf (e : Evt) : Sg := (e.node, e.cls, e.key)
theorem eqvS (a b c d e f : ByteArray) : eqv Try.prog Op.maxDepth 114 (.agg #[.string a, .string b, .string c]) (.agg #[.string d, .string e, .string f]) = andO (some (sEq a d)) (andO (some (sEq b e)) (andO (some (sEq c f)) (some true))) := by kernel_rfl
theorem KS : KeyT Try.prog 114 ekS where
  u := by kernel_rfl
  ck := fun k => by kernel_rfl
  eq := fun a b => by
    unfold ekS cSg
    rw [eqvS]
    simp only [andO_some, Option.some.injEq]
    rw [Bool.eq_iff_iff]
    obtain ⟨a1, a2, a3⟩ := a
    obtain ⟨b1, b2, b3⟩ := b
    simp [sEq_eq]
  sb := fun a => by
    unfold ekS cSg
    simp [Instr.sameBits]
def BoardI (v : Value) (n next : Int) (R : List (Int × Row)) (I : List (Sg × Int)) : HP :=
  HEx fun p => HEx fun mr => HEx fun mi => HPr (v = ptr p) (HSt (Cl p #[.int .i64 n, .int .i64 next, mr, mi] 110) (HSt (MapH kI rowV mr R) (MapH ekS kI mi I)))
section
variable {w0 w : World} {L : List HP} {K : Value → World → Prop} {v : Value} {n next : Int} {R : List (Int × Row)} {I : List (Sg × Int)}
theorem board_iff : Sat w0 (BoardI v n next R I :: L) w ↔ ∃ p mr mi, v = ptr p ∧ Sat w0 (Cl p #[.int .i64 n, .int .i64 next, mr, mi] 110 :: MapH kI rowV mr R :: MapH ekS kI mi I :: L) w := by
  simp only [BoardI, Sat.ex_iff, Sat.pr_iff, Sat.star_iff]
  constructor
  · rintro ⟨p, mr, mi, h1, h2⟩
    exact ⟨p, mr, mi, h1, h2.conv fun _ h => h.tail fun _ h => SepL.star.1 h⟩
  · rintro ⟨p, mr, mi, h1, h2⟩
    exact ⟨p, mr, mi, h1, h2.conv fun _ h => h.tail fun _ h => SepL.star.2 h⟩
theorem of_spec {e : Evt} (h : Sat w0 L w) (hK : ∀ w', Sat w0 L w' → K (ekS (sgOf e)) w') : callP G63 [evV e] w K := by
  refine c63 ?_
  unfold F63
  refine eBox_sat h fun p w1 h1 => ?_
  have e0 : (evV e).cells = (cEv e).toArray := rfl
  rw [e0] at h1
  refine eAlloc_sat h1 z114 fun q w2 h2 => ?_
  have c0 : w2.cell? ⟨p, 0, none⟩ = some (.string (bs e.node)) := by rw [cell_of h2.f1.cl]; rfl
  have c1 : w2.cell? ⟨p, 1, none⟩ = some (.string (bs e.cls)) := by rw [cell_of h2.f1.cl]; rfl
  have c2 : w2.cell? ⟨p, 2, none⟩ = some (.string (bs e.key)) := by rw [cell_of h2.f1.cl]; rfl
  simp only [ptr, pFieldAddr_ptr, bindP_some, Nat.zero_add, ld1_ptr, c0, c1, c2]
  have eb : fBuild Try.prog 114 [(0, .string (bs e.node)), (1, .string (bs e.cls)), (2, .string (bs e.key))] = some (ekS (sgOf e)) := by kernel_rfl
  rw [eb]
  simp only [bindP_some]
  refine bindW_stN h2 (by simp [ekS, cSg]) (by simp [ekS, cSg]) (by simp) fun w3 h3 => ?_
  have ew : wr (Value.agg #[(.string ⟨#[]⟩), (.string ⟨#[]⟩), (.string ⟨#[]⟩)]).cells 0 (ekS (sgOf e)).cells.toList = (cSg (sgOf e)).toArray := by rfl
  rw [ew] at h3
  have cN : ldN 3 (.pointer (some ⟨q, 0, none⟩)) w3 = some (ekS (sgOf e)) := by rw [ldN_of h3.cl (by simp [cSg])]; rfl
  rw [cN]
  simp only [bindP_some]
  exact hK _ h3.drop.drop
theorem bnew_spec {n : Int} (h : Sat w0 L w) (h1 : 1 ≤ n) (h2 : n ≤ 65536) (hK : ∀ p w', Sat w0 (BoardI (ptr p) n 1 [] [] :: L) w' → K (.tuple #[ptr p, .int .i64 0]) w') : callP G13 [.int .i64 n] w K := by
  refine c13 ?_
  unfold F13
  have e1 : decide (n < 1) = false := by simp; omega
  have e2 : decide (n > 65536) = false := by simp; omega
  simp only [bLt_int, bGt_int, e1, e2, bindP_some, gd_false, Bool.not_false, stepM_true, stepG_true, pPick_false, ifB_false]
  refine eMakeMap_sat kI rowV h fun mr w1 g1 => ?_
  refine eMakeMap_sat ekS kI g1 fun mi w2 g2 => ?_
  obtain ⟨r1, es1, c1, ⟨rfl, _⟩, _⟩ := map_iff.1 g1
  obtain ⟨r2, es2, c2, ⟨rfl, _⟩, _⟩ := map_iff.1 g2
  have eb : fBuild Try.prog 110 [(0, .int .i64 n), (1, .int .i64 1), (2, .map (some r1)), (3, .map (some r2))] = some (.agg #[.int .i64 n, .int .i64 1, .map (some r1), .map (some r2)]) := by kernel_rfl
  rw [eb]
  simp only [bindP_some]
  refine eBox_sat g2 fun p w3 g3 => hK p w3 (board_iff.2 ⟨p, .map (some r1), .map (some r2), rfl, ?_⟩)
  exact g3.conv fun _ h => h.tail fun _ h => h.swap
theorem blen_spec (h : Sat w0 (BoardI v n next R I :: L) w) (hK : K (.int .i64 R.length) w) : callP G17 [v] w K := by
  refine c17 ?_
  unfold F17
  obtain ⟨p, mr, mi, rfl, hs⟩ := board_iff.1 h
  have c2 : w.cell? ⟨p, 2, none⟩ = some mr := by rw [cell_of hs.cl]; rfl
  simp only [ptr, pNil_ptr, pFieldAddr_ptr, bindP_some, Nat.zero_add, ld1_ptr, c2, lenM_map hs.f1]
  exact hK
end
end Go.Proofs.Gong
