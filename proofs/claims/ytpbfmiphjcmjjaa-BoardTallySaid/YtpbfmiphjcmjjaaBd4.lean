/- A part of the proofs: what stands below it, told in lemmas. No condition. -/
import Derived.Test.YtpbfmiphjcmjjaaBd3
set_option linter.all false
namespace Go.Proofs.Gong
open Go Go.Sx Go.Proofs
set_option maxRecDepth 100000
theorem KIr : KeyT Try.prog 3 kI := KeyT.int (by kernel_rfl)
section
variable {w0 w : World} {L : List HP} {K : Value → World → Prop} {v : Value} {n next : Int} {R : List (Int × Row)} {I : List (Sg × Int)}
theorem put_bspec {r : Row} (h : Sat w0 (BoardI v n next R I :: L) w) (hK : ∀ w', Sat w0 (BoardI v n next (aSet r.id r R) (aSet (sgOf r.e) r.id I) :: L) w' → K (.tuple #[]) w') : callP G66 [v, rowV r] w K := by
  refine c66 ?_
  unfold F66
  refine eBox_sat h fun q w1 h1 => ?_
  have e0 : (rowV r).cells = (cRow r).toArray := rfl
  rw [e0] at h1
  obtain ⟨p, mr, mi, rfl, hs⟩ := board_iff.1 h1.f1
  have hd := hs.drew
  have c2 : w1.drew.cell? ⟨p, 2, none⟩ = some mr := by rw [cell_of hd.cl]; rfl
  have hq := hd.f3
  have cq : w1.drew.cell? ⟨q, 0, none⟩ = some (kI r.id) := by rw [cell_of hq.cl]; rfl
  have cN : ldN 11 (.pointer (some ⟨q, 0, none⟩)) w1.drew = some (rowV r) := by rw [ldN_of hq.cl (by simp [cRow])]; rfl
  simp only [ptr, pNil_ptr, pFieldAddr_ptr, bindP_some, Nat.zero_add, ld1_ptr, c2, cq, cN]
  refine eMapSet_sat hd.f1 KIr um107 r.id r fun w2 h2 => ?_
  have h2 := h2.drew
  have hb := h2.f1
  have c3 : w2.drew.cell? ⟨p, 3, none⟩ = some mi := by rw [cell_of hb.cl]; rfl
  have hq := h2.f3
  have cq : w2.drew.cell? ⟨q, 0, none⟩ = some (kI r.id) := by rw [cell_of hq.cl]; rfl
  have cN : ldN 5 (.pointer (some ⟨q, 1, none⟩)) w2.drew = some (evV r.e) := by rw [ldN_of hq.cl (by simp [cRow])]; rfl
  simp only [pNil_ptr, pFieldAddr_ptr, bindP_some, Nat.zero_add, ld1_ptr, c3, cq, cN]
  refine of_spec h2 fun w3 h3 => ?_
  have hb := h3.f1
  have c3' : w3.cell? ⟨p, 3, none⟩ = some mi := by rw [cell_of hb.cl]; rfl
  have cq' : w3.cell? ⟨q, 0, none⟩ = some (kI r.id) := by rw [cell_of h3.f3.cl]; rfl
  refine ⟨⟨by rw [fok_true]; exact c3', by rw [fok_true]; exact cq'⟩, ?_⟩
  refine eMapSet_sat h3.f2 KS um108 (sgOf r.e) r.id fun w4 h4 => ?_
  refine hK _ (board_iff.2 ⟨p, mr, mi, rfl, ?_⟩)
  exact (h4.f3.drop.f2).conv fun _ h => h.tail fun _ h => h.swap
theorem take_bspec {r : Row} (h : Sat w0 (BoardI v n next R I :: L) w) (hK : ∀ w', Sat w0 (BoardI v n next (aDel r.id R) (aDel (sgOf r.e) I) :: L) w' → K (.tuple #[]) w') : callP G64 [v, rowV r] w K := by
  refine c64 ?_
  unfold F64
  refine eBox_sat h fun q w1 h1 => ?_
  have e0 : (rowV r).cells = (cRow r).toArray := rfl
  rw [e0] at h1
  obtain ⟨p, mr, mi, rfl, hs⟩ := board_iff.1 h1.f1
  have hd := hs.drew
  have c2 : w1.drew.cell? ⟨p, 2, none⟩ = some mr := by rw [cell_of hd.cl]; rfl
  have hq := hd.f3
  have cq : w1.drew.cell? ⟨q, 0, none⟩ = some (kI r.id) := by rw [cell_of hq.cl]; rfl
  simp only [ptr, pNil_ptr, pFieldAddr_ptr, bindP_some, Nat.zero_add, ld1_ptr, c2, cq]
  refine eDelete_sat hd.f1 KIr um107 r.id fun w2 h2 => ?_
  have h2 := h2.drew
  have hb := h2.f1
  have c3 : w2.drew.cell? ⟨p, 3, none⟩ = some mi := by rw [cell_of hb.cl]; rfl
  have hq := h2.f3
  have cN : ldN 5 (.pointer (some ⟨q, 1, none⟩)) w2.drew = some (evV r.e) := by rw [ldN_of hq.cl (by simp [cRow])]; rfl
  simp only [pNil_ptr, pFieldAddr_ptr, bindP_some, Nat.zero_add, ld1_ptr, c3, cN]
  refine of_spec h2 fun w3 h3 => ?_
  have hb := h3.f1
  have c3' : w3.cell? ⟨p, 3, none⟩ = some mi := by rw [cell_of hb.cl]; rfl
  refine ⟨by rw [fok_true]; exact c3', ?_⟩
  refine eDelete_sat h3.f2 KS um108 (sgOf r.e) fun w4 h4 => ?_
  refine hK _ (board_iff.2 ⟨p, mr, mi, rfl, ?_⟩)
  exact (h4.f3.drop.f2).conv fun _ h => h.tail fun _ h => h.swap
end
end Go.Proofs.Gong
